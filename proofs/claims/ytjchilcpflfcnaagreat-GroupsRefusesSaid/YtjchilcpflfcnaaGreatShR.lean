/-  -/
import Derived.Test.YtjchilcpflfcnaaGreatShG
/- A set of groups that nobody made; what is refused. -/
namespace Go.Proofs.YtjchilcpflfcnaaGreat
open Go.RowKit
set_option linter.unusedVariables false

/-- A set that nobody made. -/
def GBare (w : World) (p : Option Addr) : Prop := p = none ∨ ∃ a, p = some ⟨a, 0, none⟩ ∧ w.cell? ⟨a, 1, none⟩ = some (.slice none 0 0)
theorem GBare.keep {w w' : World} {p : Option Addr} (h : GBare w p) (hf : Fr [] w w') : GBare w' p := by
  rcases h with h | ⟨a, h1, h2⟩
  · exact .inl h
  · exact .inr ⟨a, h1, hf.cellS h2⟩
theorem gmade_no (w : World) (p : Option Addr) (h : GBare w p) : Calls Tryz.prog 16 #[.pointer p] w fun e w' => e = .returned (.bool false) ∧ w = w' := by
  rcases h with rfl | ⟨a, rfl, h2⟩
  · go_enter Tryz.func16, Tryz.ntmps16
    go_wp2_with fail
    go_ret
    exact ⟨rfl, rfl⟩
  · go_enter Tryz.func16, Tryz.ntmps16
    go_wp2_with fail
    go_ret
    exact ⟨rfl, rfl⟩
theorem gopen_no (w : World) (p : Option Addr) (h : GBare w p) : Calls Tryz.prog 6 #[.pointer p] w fun e w' => e = .returned (.tuple #[.int .i64 0, .int .i64 9]) ∧ w = w' := by
  have KM := Lib.hid (gmade_no w p h)
  clear h
  go_enter Tryz.func6, Tryz.ntmps6
  go_wp2_with fail
  refine KM.out.mono ?_
  rintro e w1 ⟨rfl, rfl⟩
  go_wp2_with fail
  go_ret2
  exact ⟨rfl, rfl⟩
theorem ggrow_no (w : World) (p : Option Addr) (h : GBare w p) (n : Int) : Calls Tryz.prog 10 #[.pointer p, .int .i64 n] w fun e w' => e = .returned (.tuple #[.int .i64 0, .int .i64 9]) ∧ w = w' := by
  have KM := Lib.hid (gmade_no w p h)
  clear h
  go_enter Tryz.func10, Tryz.ntmps10
  go_wp2_with fail
  refine KM.out.mono ?_
  rintro e w1 ⟨rfl, rfl⟩
  go_wp2_with fail
  go_ret2
  exact ⟨rfl, rfl⟩
theorem gput_no (w : World) (p : Option Addr) (h : GBare w p) (g : Int) (A : Option Addr) (n c : Nat) : Calls Tryz.prog 7 #[.pointer p, .int .i64 g, .slice A n c] w fun e w' => e = .returned (.int .i64 9) ∧ w = w' := by
  have KM := Lib.hid (gmade_no w p h)
  clear h
  go_enter Tryz.func7, Tryz.ntmps7
  go_wp2_with fail
  refine KM.out.mono ?_
  rintro e w1 ⟨rfl, rfl⟩
  go_wp2_with fail
  go_ret
  exact ⟨rfl, rfl⟩
theorem gdrop_no (w : World) (p : Option Addr) (h : GBare w p) (g : Int) : Calls Tryz.prog 11 #[.pointer p, .int .i64 g] w fun e w' => e = .returned (.int .i64 9) ∧ w = w' := by
  have KM := Lib.hid (gmade_no w p h)
  clear h
  go_enter Tryz.func11, Tryz.ntmps11
  go_wp2_with fail
  refine KM.out.mono ?_
  rintro e w1 ⟨rfl, rfl⟩
  go_wp2_with fail
  go_ret
  exact ⟨rfl, rfl⟩
theorem gsolve_no (w : World) (p : Option Addr) (h : GBare w p) (b : Int) (A : Option Addr) (n c : Nat) (B : Option Addr) (m d : Nat) : Calls Tryz.prog 9 #[.pointer p, .int .i64 b, .slice A n c, .slice B m d] w fun e w' => e = .returned (.int .i64 0) ∧ w = w' := by
  have KM := Lib.hid (gmade_no w p h)
  clear h
  go_enter Tryz.func9, Tryz.ntmps9
  go_wp2_with fail
  refine KM.out.mono ?_
  rintro e w1 ⟨rfl, rfl⟩
  go_wp2_with fail
  go_ret
  exact ⟨rfl, rfl⟩
theorem gvalue_no (w : World) (p : Option Addr) (h : GBare w p) (v : Int) : Calls Tryz.prog 12 #[.pointer p, .int .i64 v] w fun e w' => e = .returned (.bool false) ∧ w = w' := by
  have KM := Lib.hid (gmade_no w p h)
  clear h
  go_enter Tryz.func12, Tryz.ntmps12
  go_wp2_with fail
  refine KM.out.mono ?_
  rintro e w1 ⟨rfl, rfl⟩
  go_wp2_with fail
  go_ret
  exact ⟨rfl, rfl⟩
theorem gcore_no (w : World) (p : Option Addr) (h : GBare w p) : Calls Tryz.prog 13 #[.pointer p] w fun e w' => e = .returned (.slice none 0 0) ∧ w = w' := by
  have KM := Lib.hid (gmade_no w p h)
  clear h
  go_enter Tryz.func13, Tryz.ntmps13
  go_wp2_with fail
  refine KM.out.mono ?_
  rintro e w1 ⟨rfl, rfl⟩
  go_wp2_with fail
  go_ret
  exact ⟨rfl, rfl⟩
theorem gused_no (w : World) (p : Option Addr) (h : GBare w p) : Calls Tryz.prog 14 #[.pointer p] w fun e w' => e = .returned (.int .i64 0) ∧ w = w' := by
  have KM := Lib.hid (gmade_no w p h)
  clear h
  go_enter Tryz.func14, Tryz.ntmps14
  go_wp2_with fail
  refine KM.out.mono ?_
  rintro e w1 ⟨rfl, rfl⟩
  go_wp2_with fail
  go_ret
  exact ⟨rfl, rfl⟩

theorem gput_lack {X : List Nat} {w0 w : World} {L : SvL} {S : Sv} {a : Nat} {A : Option Addr} {c : Nat} {sw : List Int} (h : GsAt X w0 w L S a A c sw) (g : Int) (hg : R64 g) (hl : glack sw g = true) (B : Option Addr) (n d : Nat) :
    Calls Tryz.prog 7 #[.pointer (some ⟨a, 0, none⟩), .int .i64 g, .slice B n d] w fun e w' => e = .returned (.int .i64 71) ∧ w = w' := by
  have KM := Lib.hid (gmade_calls w a _ A c sw.length h.ob h.ln.1)
  have KL := glacks_calls w a _ A c sw h.ob h.row g hg
  rw [hl] at KL
  have KL := Lib.hid KL
  clear h hl
  go_enter Tryz.func7, Tryz.ntmps7
  go_wp2_with fail
  refine KM.out.mono ?_
  rintro e w1 ⟨rfl, rfl⟩
  go_wp2_with fail
  refine KL.out.mono ?_
  rintro e w1 ⟨rfl, rfl⟩
  go_wp2_with fail
  go_ret
  exact ⟨rfl, rfl⟩
theorem gsolve_lack {X : List Nat} {w0 w : World} {L : SvL} {S : Sv} {a : Nat} {A : Option Addr} {c : Nat} {sw : List Int} (h : GsAt X w0 w L S a A c sw)
    (B : Option Addr) (cb : Nat) (gs : List Int) (hgs : Rd w B gs) (hgra : Ra gs) (hgl : gs.length ≤ 3) (hgk : gs.any (glack sw) = true) (Al : Option Addr) (m cl : Nat) (budget : Int) :
    Calls Tryz.prog 9 #[.pointer (some ⟨a, 0, none⟩), .int .i64 budget, .slice B gs.length cb, .slice Al m cl] w fun e w' => e = .returned (.int .i64 0) ∧ Fr [] w w' := by
  have KM := Lib.hid (gmade_calls w a _ A c sw.length h.ob h.ln.1)
  have KA := contains_intsM w B cb gs 18 (.pointer (some ⟨a, 0, none⟩)) (glack sw) enters_glacks hgs hgra (by omega) (fun W hW x _ hx => (glacks_calls W a _ A c sw (h.ob.keep hW) (h.keep hW).row x hx).mono fun e w' ⟨h1, h2⟩ => ⟨h1, Fr.same h2⟩)
  rw [hgk] at KA
  have KA := Lib.hid KA
  clear h hgs hgra hgk
  go_enter Tryz.func9, Tryz.ntmps9
  go_wp2_with fail
  refine KM.out.mono ?_
  rintro e w1 ⟨rfl, rfl⟩
  go_wp2_with fail
  refine KA.out.mono ?_
  rintro e w1 ⟨rfl, hf1⟩
  have HF1 := Lib.hid hf1
  clear hf1
  go_wp2_with fail
  go_ret
  exact ⟨rfl, HF1.out⟩
theorem gdrop_zero {X : List Nat} {w0 w : World} {L : SvL} {S : Sv} {a : Nat} {A : Option Addr} {c : Nat} {sw : List Int} (h : GsAt X w0 w L S a A c sw) :
    Calls Tryz.prog 11 #[.pointer (some ⟨a, 0, none⟩), .int .i64 0] w fun e w' => e = .returned (.int .i64 71) ∧ w = w' := by
  have KM := Lib.hid (gmade_calls w a _ A c sw.length h.ob h.ln.1)
  clear h
  go_enter Tryz.func11, Tryz.ntmps11
  go_wp2_with fail
  refine KM.out.mono ?_
  rintro e w1 ⟨rfl, rfl⟩
  go_wp2_with fail
  go_ret
  exact ⟨rfl, rfl⟩
theorem ggrow_calls {X : List Nat} {w0 w : World} {L : SvL} {S : Sv} {a : Nat} {A : Option Addr} {c : Nat} {sw : List Int} (h : GsAt X w0 w L S a A c sw) (ok : S.Ok 0) (n : Int) :
    Calls Tryz.prog 10 #[.pointer (some ⟨a, 0, none⟩), .int .i64 n] w (GaP (.tuple #[.int .i64 (S.growP n).2.1, .int .i64 (S.growP n).2.2]) (S.growP n).1 X w0 L.a a A c sw) := by
  have KM := Lib.hid (gmade_calls w a _ A c sw.length h.ob h.ln.1)
  have KG := Lib.hid (h.ox.grow ok n)
  have c0 := h.ob.cell 0
  simp at c0
  have HH := Lib.hid h
  clear h ok
  go_enter Tryz.func10, Tryz.ntmps10
  go_wp2_with fail
  refine KM.out.mono ?_
  rintro e w1 ⟨rfl, rfl⟩
  go_wp2_with fail
  refine KG.out.mono ?_
  clear KG KM
  rintro e w1 ⟨rfl, L1, a1, x1, s1⟩
  have H1 := Lib.hid (HH.out.next x1 s1 a1)
  have HA1 := Lib.hid a1
  clear x1 s1 a1
  go_wp2_with fail
  go_ret2
  exact ⟨rfl, L1, HA1.out, H1.out⟩

theorem addF_snd2 (S : Sv) (l : List Int) : (S.addF l).2 = chkF S.vars l := by
  unfold Sv.addF
  split
  · rename_i h; exact h.symm
  · rfl
theorem chk_snoc {V : Nat} {l : List Int} {x : Int} (hx : offB V x = false) : chkF V (l ++ [x]) = 0 ↔ (chkF V l = 0 ∧ l.length < 1024) := by
  unfold chkF
  rw [List.length_append, List.length_singleton, List.any_append]
  simp only [List.any_cons, List.any_nil, hx, Bool.or_false]
  by_cases h1 : 1024 < l.length
  · rw [if_pos (by omega), if_pos h1]; omega
  · rw [if_neg h1]
    by_cases h2 : 1024 < l.length + 1
    · rw [if_pos h2]; omega
    · rw [if_neg h2]
      split <;> omega
theorem sw_two {V : Nat} (hV : V ≤ 6) : offB ((V + 1 : Nat) : Int) (-((V + 1 : Nat) : Int)) = false ∧ gown [0, ((V + 1 : Nat) : Int)] ((V + 1 : Nat) : Int) = true ∧ gown [0, ((V + 1 : Nat) : Int)] (-((V + 1 : Nat) : Int)) = true := by
  have : V = 0 ∨ V = 1 ∨ V = 2 ∨ V = 3 ∨ V = 4 ∨ V = 5 ∨ V = 6 := by omega
  rcases this with rfl | rfl | rfl | rfl | rfl | rfl | rfl <;> decide +kernel
/-- When a group's clause is taken. -/
theorem gputF_ok {V g : Nat} {S : Sv} {l : List Int} (hv : S.vars = V + 1) (hV : V ≤ 6) (hg : g ≤ 1) : (gputF [0, ((V + 1 : Nat) : Int)] S g l).2 = 0 ↔ (chkF ((V + 1 : Nat) : Int) l = 0 ∧ (g = 0 ∨ l.length < 1024)) := by
  unfold gputF
  by_cases h0 : g = 0
  · rw [if_pos h0, addF_snd2, hv]
    simp [h0]
  · obtain rfl : g = 1 := by omega
    rw [if_neg h0]
    by_cases h1 : l.length = 1024
    · rw [if_pos h1]
      simp
      omega
    · rw [if_neg h1, addF_snd2, hv]
      have e : ([0, ((V + 1 : Nat) : Int)] : List Int)[1]! = ((V + 1 : Nat) : Int) := rfl
      rw [e, chk_snoc (sw_two hV).1]
      simp
end Go.Proofs.YtjchilcpflfcnaaGreat
/- The function of GroupsRefuses walked. -/
namespace Go.Proofs.YtjchilcpflfcnaaGreat
open Go.RowKit
set_option linter.unusedVariables false

theorem mod7 (x : Int) : 0 ≤ (wrap64 (x.tmod 7 + 7)).tmod 7 ∧ (wrap64 (x.tmod 7 + 7)).tmod 7 ≤ 6 := by
  have h1 : x.tmod 7 < 7 := Int.tmod_lt_of_pos x (by omega)
  have h2 : -7 < x.tmod 7 := by
    have : (-x).tmod 7 < 7 := Int.tmod_lt_of_pos (-x) (by omega)
    rw [Int.neg_tmod] at this
    omega
  have h3 : wrap64 (x.tmod 7 + 7) = x.tmod 7 + 7 := by unfold wrap64; omega
  rw [h3]
  have h4 : (x.tmod 7 + 7).tmod 7 < 7 := Int.tmod_lt_of_pos _ (by omega)
  have h5 : 0 ≤ (x.tmod 7 + 7).tmod 7 := Int.tmod_nonneg _ (by omega)
  omega
theorem mod5 (x : Int) : 0 ≤ (wrap64 (x.tmod 5 + 5)).tmod 5 ∧ (wrap64 (x.tmod 5 + 5)).tmod 5 ≤ 4 := by
  have h1 : x.tmod 5 < 5 := Int.tmod_lt_of_pos x (by omega)
  have h2 : -5 < x.tmod 5 := by
    have : (-x).tmod 5 < 5 := Int.tmod_lt_of_pos (-x) (by omega)
    rw [Int.neg_tmod] at this
    omega
  have h3 : wrap64 (x.tmod 5 + 5) = x.tmod 5 + 5 := by unfold wrap64; omega
  rw [h3]
  have h4 : (x.tmod 5 + 5).tmod 5 < 5 := Int.tmod_lt_of_pos _ (by omega)
  have h5 : 0 ≤ (x.tmod 5 + 5).tmod 5 := Int.tmod_nonneg _ (by omega)
  omega
theorem gbare_cells (w6 w7 : World) (hw7 : (w6.alloc (.cells #[.pointer none, .slice none 0 0] 36)).alloc (.cells #[.pointer none, .pointer (some ⟨w6.heap.size, 0, none⟩)] 24) = w7) :
    Fr [] w6 w7 ∧ ∀ k : Nat, k < 2 → ∃ p, w7.cell? ⟨w6.heap.size + 1, k, none⟩ = some (.pointer p) ∧ GBare w7 p := by
  have f1 := box_fr' w6 (.cells #[.pointer none, .slice none 0 0] 36)
  have f2 := box_fr' (w6.alloc (.cells #[.pointer none, .slice none 0 0] 36)) (.cells #[.pointer none, .pointer (some ⟨w6.heap.size, 0, none⟩)] 24)
  have c1 := (At.new w6 36 #[.pointer none, .slice none 0 0]).cell 1
  have c2 := f2.cellS c1
  have a2 := At.new (w6.alloc (.cells #[.pointer none, .slice none 0 0] 36)) 24 #[.pointer none, .pointer (some ⟨w6.heap.size, 0, none⟩)]
  rw [hw7] at f2 c2 a2
  rw [show (w6.alloc (.cells #[.pointer none, .slice none 0 0] 36)).heap.size = w6.heap.size + 1 by simp] at a2
  refine ⟨f1.then_ f2, fun k hk => ?_⟩
  have : k = 0 ∨ k = 1 := by omega
  rcases this with rfl | rfl
  · exact ⟨none, by rw [a2.cell]; rfl, .inl rfl⟩
  · exact ⟨some ⟨w6.heap.size, 0, none⟩, by rw [a2.cell]; rfl, .inr ⟨w6.heap.size, rfl, c2⟩⟩
/-- A set of one group. -/
def One (w0 : World) (V a : Nat) (w : World) : Prop := ∃ X L A c S, GsAt X w0 w L S a A c [0, ((V + 1 : Nat) : Int)] ∧ S.Ok 0 ∧ S.vars = V + 1 ∧ S.list.length ≤ 1 ∧ S.used = 0
theorem One.keep {w0 w w' : World} {V a : Nat} (h : One w0 V a w) (hf : Fr [] w w') : One w0 V a w' := by
  obtain ⟨X, L, A, c, S, h1, h2⟩ := h
  exact ⟨X, L, A, c, S, h1.keep hf, h2⟩
theorem One.fr {w0 w : World} {V a : Nat} (h : One w0 V a w) : Fr [] w0 w := by
  obtain ⟨X, L, A, c, S, h1, h2⟩ := h
  exact h1.fr
/-- What Put answers. -/
def putE (V : Nat) (g : Int) (l : List Int) (e2 : Int) : Prop := if g = 0 ∨ g = 1 then (e2 = 0 ↔ (chkF ((V + 1 : Nat) : Int) l = 0 ∧ (g = 0 ∨ l.length < 1024))) else e2 = 71
theorem addF_used (S0 : Sv) (l : List Int) : (S0.addF l).1.used = S0.used ∧ (S0.addF l).1.list.length ≤ S0.list.length + 1 := by
  unfold Sv.addF
  split
  · split
    · exact ⟨rfl, Nat.le_succ _⟩
    · unfold Sv.addTo
      split
      · exact ⟨rfl, Nat.le_succ _⟩
      · split
        · exact ⟨rfl, Nat.le_succ _⟩
        · exact ⟨(Sv.attach_same _ _ false).2.2.2.2.1, Nat.le_of_eq (Sv.attach_same _ _ false).2.2.1⟩
  · exact ⟨rfl, Nat.le_succ _⟩
theorem gput_any {X : List Nat} {w0 w : World} {L : SvL} {S : Sv} {V a : Nat} {A : Option Addr} {c : Nat} (h : GsAt X w0 w L S a A c [0, ((V + 1 : Nat) : Int)]) (ok : S.Ok 0) (hv : S.vars = V + 1) (hl0 : S.list.length = 0) (hu : S.used = 0) (hV : V ≤ 6) (g : Int) (hg : R64 g)
    (B : Option Addr) (cl : Nat) (l : List Int) (hrd : Rd w0 B l) (hra : Ra l) (hn : B = none → l.length = 0 ∧ cl = 0) (hl : l.length < 17592186044416) :
    Calls Tryz.prog 7 #[.pointer (some ⟨a, 0, none⟩), .int .i64 g, .slice B l.length cl] w fun e w' => ∃ e2 : Int, e = .returned (.int .i64 e2) ∧ Hid (putE V g l e2) ∧ Hid (One w0 V a w') := by
  by_cases h0 : g = 0 ∨ g = 1
  · obtain ⟨k, rfl⟩ : ∃ k : Nat, g = k := ⟨g.toNat, by omega⟩
    have hk : k ≤ 1 := by omega
    refine (gput_calls h ok k (by simp; omega) (fun hk0 => ?_) B cl l (h.ox.own.far_old hrd) hra hn hl (by omega) (by omega)).mono ?_
    · obtain rfl : k = 1 := by omega
      show ((V + 1 : Nat) : Int) ≠ 0
      omega
    · rintro e w' ⟨rfl, L', h1, h2⟩
      refine ⟨_, rfl, ?_, ?_⟩
      · show putE _ _ _ _
        unfold putE
        rw [if_pos h0, gputF_ok hv hV hk]
        constructor
        · rintro ⟨h3, h4⟩
          exact ⟨h3, h4.imp (fun h => by omega) id⟩
        · rintro ⟨h3, h4⟩
          exact ⟨h3, h4.imp (fun h => by omega) id⟩
      · have hz : (gputF [0, ((V + 1 : Nat) : Int)] S k l).1.Ok 0 ∧ (gputF [0, ((V + 1 : Nat) : Int)] S k l).1.vars = S.vars ∧ (gputF [0, ((V + 1 : Nat) : Int)] S k l).1.list.length ≤ S.list.length + 1 ∧ (gputF [0, ((V + 1 : Nat) : Int)] S k l).1.used = S.used := by
          have hadd : ∀ ys : List Int, Ra ys → (S.addF ys).1.Ok 0 ∧ (S.addF ys).1.vars = S.vars ∧ (S.addF ys).1.list.length ≤ S.list.length + 1 ∧ (S.addF ys).1.used = S.used := fun ys hy => by
            obtain ⟨h3, h4⟩ := ok.addF hy (by omega)
            exact ⟨h3, h4, (addF_used S ys).2, (addF_used S ys).1⟩
          unfold gputF
          split
          · exact hadd l hra
          · split
            · exact ⟨ok, rfl, Nat.le_succ _, rfl⟩
            · refine hadd _ (hra.snoc ?_)
              have hk1 : k = 1 := by omega
              subst hk1
              have e : ([0, ((V + 1 : Nat) : Int)] : List Int)[1]! = ((V + 1 : Nat) : Int) := rfl
              rw [e]
              exact ⟨by omega, by omega⟩
        exact ⟨_, _, _, _, _, h2, hz.1, by rw [hz.2.1, hv], by rw [hl0] at hz; omega, by rw [hz.2.2.2, hu]⟩
  · have hk : glack [0, ((V + 1 : Nat) : Int)] g = true := by
      unfold glack
      by_cases h1 : g < 0
      · rw [decide_eq_true h1]; rfl
      · rw [decide_eq_true (show ((([0, ((V + 1 : Nat) : Int)] : List Int).length : Nat) : Int) ≤ g by simp; omega)]
        simp
    refine (gput_lack h g hg hk B l.length cl).mono ?_
    rintro e w' ⟨rfl, rfl⟩
    refine ⟨71, rfl, ?_, ⟨_, _, _, _, _, h, ok, hv, by omega, hu⟩⟩
    show putE _ _ _ _
    unfold putE
    rw [if_neg h0]
theorem one_owned {w0 w : World} {V a : Nat} (h : One w0 V a w) (hV : V ≤ 6) (Al : Option Addr) (x : Int) (hx : x = ((V + 1 : Nat) : Int) ∨ x = -((V + 1 : Nat) : Int)) (hr : Ints w Al 1 [x]) (budget : Int) :
    Calls Tryz.prog 9 #[.pointer (some ⟨a, 0, none⟩), .int .i64 budget, .slice none 0 0, .slice Al 1 1] w fun e w' => e = .returned (.int .i64 0) ∧ Fr [] w w' := by
  obtain ⟨X, L, A, c, S, h1, -⟩ := h
  have hx2 : [x].any (gown [0, ((V + 1 : Nat) : Int)]) = true := by
    simp only [List.any_cons, List.any_nil, Bool.or_false]
    rcases hx with rfl | rfl
    · exact (sw_two hV).2.1
    · exact (sw_two hV).2.2
  exact gsolve_owned h1 none 0 [] (fun h0 => absurd h0 (Nat.not_lt_zero _)) (fun j hj => absurd hj (Nat.not_lt_zero _)) (by simp) (fun g hg => by cases hg) Al 1 [x] hr.rd (ra1 ⟨by omega, by omega⟩) (by simp) hx2 budget
theorem one_lack {w0 w : World} {V a : Nat} (h : One w0 V a w) (Al : Option Addr) (g : Int) (hg : R64 g) (hk : ¬ (g = 0 ∨ g = 1)) (hr : Ints w Al 1 [g]) (budget : Int) :
    Calls Tryz.prog 9 #[.pointer (some ⟨a, 0, none⟩), .int .i64 budget, .slice Al 1 1, .slice none 0 0] w fun e w' => e = .returned (.int .i64 0) ∧ Fr [] w w' := by
  obtain ⟨X, L, A, c, S, h1, -⟩ := h
  refine gsolve_lack h1 Al 1 [g] hr.rd (ra1 hg) (by simp) ?_ none 0 0 budget
  simp only [List.any_cons, List.any_nil, Bool.or_false]
  unfold glack
  by_cases h2 : g < 0
  · rw [decide_eq_true h2]; rfl
  · rw [decide_eq_true (show ((([0, ((V + 1 : Nat) : Int)] : List Int).length : Nat) : Int) ≤ g by simp; omega)]
    simp
theorem one_grow {w0 w : World} {V a : Nat} (h : One w0 V a w) (hV : V ≤ 6) (n : Nat) (hn : n ≤ 4) :
    Calls Tryz.prog 10 #[.pointer (some ⟨a, 0, none⟩), .int .i64 (n : Int)] w fun e w' => e = .returned (.tuple #[.int .i64 ((V : Int) + 1), .int .i64 0]) ∧ ∃ X L A c S, GsAt X w0 w' L S a A c [0, ((V + 1 : Nat) : Int)] := by
  obtain ⟨X, L, A, c, S, h1, ok, hv, -⟩ := h
  have hg : S.growP (n : Int) = (S.fresh0.grow (n : Int).toNat, (S.vars : Int), 0) := by
    unfold Sv.growP
    rw [if_neg (by omega)]
  refine (ggrow_calls h1 ok (n : Int)).mono ?_
  rw [hg, hv]
  rintro e w' ⟨rfl, L', -, h2⟩
  rw [show ((V + 1 : Nat) : Int) = (V : Int) + 1 by omega]
  exact ⟨rfl, _, _, _, _, _, h2⟩

set_option maxRecDepth 100000 in
set_option maxHeartbeats 16000000 in
theorem grefuses_calls (w : World) (vars : Int) (hv : R64 vars) (g : Int) (hg : R64 g) (B : Option Addr) (cl : Nat) (l : List Int) (h : Rd w B l) (hr : Ra l) (hnn : B = none → l.length = 0 ∧ cl = 0) (hll : l.length < 17592186044416) (n0 : Int) :
    Calls Tryz.prog 3 #[.int .i64 vars, .int .i64 g, .slice B l.length cl, .int .i64 n0] w fun e w' => e = .returned (.bool true) ∧ Fr [] w w' := by
  have KAL := Lib.hid (galive_calls w)
  have HR := Lib.hid h
  have HRA := Lib.hid hr
  have HN := Lib.hid hnn
  obtain ⟨V, hV⟩ : ∃ V : Nat, (wrap64 (vars.tmod 7 + 7)).tmod 7 = V := ⟨((wrap64 (vars.tmod 7 + 7)).tmod 7).toNat, by have := (mod7 vars).1; omega⟩
  have hV6 : V ≤ 6 := by have := (mod7 vars).2; omega
  have HV := Lib.hid hV
  obtain ⟨n, hn⟩ : ∃ n : Nat, (wrap64 (n0.tmod 5 + 5)).tmod 5 = n := ⟨((wrap64 (n0.tmod 5 + 5)).tmod 5).toNat, by have := (mod5 n0).1; omega⟩
  have hn4 : n ≤ 4 := by have := (mod5 n0).2; omega
  have HNV := Lib.hid hn
  clear h hr hnn hV hn
  go_enter Tryz.func3, Tryz.ntmps3
  go_wp2_with fail
  refine KAL.out.mono ?_
  clear KAL
  rintro e w1 ⟨rfl, hf1⟩
  have HF1 := Lib.hid hf1
  clear hf1
  have KN := Lib.hid (gnew_calls w1 (V : Int) (by omega) (by omega))
  go_upto_region 4 with fail
  rw [HV.out]
  go_wp2_with fail
  refine KN.out.mono ?_
  clear KN
  rintro e w2 ⟨L2, a, b, rfl, h2⟩
  have okn := Sv.Ok.new (V : Int)
  have hvn : (Sv.new (V : Int)).vars = V := by rw [okn.2]; omega
  have KO := gopen_calls h2 okn.1 (by rw [hvn]; omega) (by decide)
  rw [hvn, show ([0] : List Int) ++ [((V : Nat) : Int) + 1] = [0, ((V + 1 : Nat) : Int)] by simp] at KO
  have KO : Hid (Calls Tryz.prog 6 #[.pointer (some ⟨a, 0, none⟩)] w2 fun e w' => e = .returned (.tuple #[.int .i64 1, .int .i64 0]) ∧ ∃ (L' : SvL) (A' : Option Addr) (c' : Nat) (X' : List Nat), (∀ k ∈ [a, b], k ∈ X') ∧ GsAt X' w1 w' L' ((Sv.new (V : Int)).fresh0.grow 1) a A' c' [0, ((V + 1 : Nat) : Int)]) := KO
  have HOK : Hid (((Sv.new (V : Int)).fresh0.grow 1).Ok 0) := okn.1.fresh0.grow 1 (by show (Sv.new (V : Int)).vars + 1 ≤ _; omega)
  have HVS : Hid (((Sv.new (V : Int)).fresh0.grow 1).vars = V + 1) := (by show (Sv.new (V : Int)).vars + 1 = V + 1; rw [hvn] : ((Sv.new (V : Int)).fresh0.grow 1).vars = V + 1)
  clear h2 okn hvn
  go_wp2_with fail
  refine KO.out.mono ?_
  clear KO
  rintro e w3 ⟨rfl, L3, A3, c3, X3, -, h3⟩
  have KP := Lib.hid (gput_any h3 HOK.out HVS.out rfl rfl hV6 g hg B cl l (HR.out.keep HF1.out) HRA.out HN.out hll)
  clear h3
  obtain ⟨ck, hck⟩ : ∃ ck, chkF ((V + 1 : Nat) : Int) l = ck := ⟨_, rfl⟩
  have HCK := Lib.hid hck
  have hwv : IntKind.i64.wrap ((V : Int) + 1) = ((V + 1 : Nat) : Int) := by rw [show (V : Int) + 1 = ((V + 1 : Nat) : Int) by omega]; exact IntWalk.i64_in _ (by omega)
  have HWV := Lib.hid hwv
  clear hck hwv
  by_cases hg0 : g = 0
  · have g0 : (g == (0 : Int)) = true := by simp [hg0]
    have HG0 := Lib.hid hg0
    clear hg0
    go_wp2_with fail
    refine KP.out.mono ?_
    clear KP
    rintro e w4 ⟨e2, rfl, HPE, HO⟩
    have HE := HPE.out
    unfold putE at HE
    rw [if_pos (.inl HG0.out), HCK.out] at HE
    have HE2 := Lib.hid HE
    clear HE HPE
    have KCK := Lib.hid (rcheck_calls w4 ((V + 1 : Nat) : Int) B cl l (HR.out.keep (HF1.out.then_ HO.out.fr)) HRA.out)
    rw [HCK.out, show ((V + 1 : Nat) : Int) = (V : Int) + 1 by omega] at KCK
    by_cases hc0 : ck = 0
    · have d1 : (ck == (0 : Int)) = true := by simp [hc0]
      have d2 : (e2 == (0 : Int)) = true := by
        have := HE2.out.2 ⟨hc0, .inl HG0.out⟩
        simp [this]
      clear hc0 HE2 HG0
      go_upto_region 8 with fail
      go_wp2_with fail
      refine KCK.out.mono ?_
      clear KCK
      rintro e w5 ⟨rfl, rfl⟩
      go_upto_region 10 with fail
      obtain ⟨w6, hw6⟩ : ∃ W, w4.alloc (.cells #[.int .i64 ((V : Int) + 1)] 3) = W := ⟨_, rfl⟩
      have HA6 : Hid (Fr [] w4 w6) := hw6 ▸ box_fr' _ _
      have HI6 : Hid (Ints w6 (some ⟨w4.heap.size, 0, none⟩) 1 [(V : Int) + 1]) := hw6 ▸ row_new w4 [(V : Int) + 1] (by simp [maxLen])
      have KS1 := Lib.hid (one_owned (HO.out.keep HA6.out) hV6 _ _ (.inl (by omega)) HI6.out 9)
      go_wp2_with fail
      clear hw6
      refine KS1.out.mono ?_
      clear KS1
      rintro e w7 ⟨rfl, hf7⟩
      have HF7 := Lib.hid (HA6.out.then_ hf7)
      clear hf7
      obtain ⟨w8, hw8⟩ : ∃ W, w7.alloc (.cells #[.int .i64 (-(V : Int) - 1)] 3) = W := ⟨_, rfl⟩
      have HA8 : Hid (Fr [] w7 w8) := hw8 ▸ box_fr' _ _
      have HI8 : Hid (Ints w8 (some ⟨w7.heap.size, 0, none⟩) 1 [-(V : Int) - 1]) := hw8 ▸ row_new w7 [-(V : Int) - 1] (by simp [maxLen])
      have KS2 := Lib.hid (one_owned ((HO.out.keep HF7.out).keep HA8.out) hV6 _ _ (.inr (by omega)) HI8.out 9)
      go_wp2_with fail
      clear hw8
      refine KS2.out.mono ?_
      clear KS2
      rintro e w9 ⟨rfl, hf9⟩
      have HF9 := Lib.hid (HF7.out.then_ (HA8.out.then_ hf9))
      clear hf9
      have HFL := HF9
      go_upto_region 13 with fail
      rw [HNV.out]
      have KG := Lib.hid (one_grow (HO.out.keep HFL.out) hV6 n hn4)
      go_wp2_with fail
      refine KG.out.mono ?_
      clear KG
      rintro e w12 ⟨rfl, X6, L6, A6, c6, S6, h6⟩
      have KD := Lib.hid (gdrop_zero h6)
      have HF12 := Lib.hid (HF1.out.then_ h6.fr)
      clear h6
      go_wp2_with fail
      refine KD.out.mono ?_
      clear KD
      rintro e w13 ⟨rfl, rfl⟩
      go_upto_region 17 with fail
      go_upto_region 18 with fail
      obtain ⟨w14, hw14⟩ : ∃ w14, (w12.alloc (.cells #[.pointer none, .slice none 0 0] 36)).alloc (.cells #[.pointer none, .pointer (some ⟨w12.heap.size, 0, none⟩)] 24) = w14 := ⟨_, rfl⟩
      have HB7 := Lib.hid (gbare_cells w12 w14 hw14)
      rw [hw14]
      clear hw14
      go_wp2_with fail
      go_loopg [16] 2 (fun gk x16 wr => ∃ k : Nat, k + gk = 2 ∧ x16 = .int .i64 k ∧ Hid (Fr [] w14 wr))
      case atStart => exact ⟨0, by omega, rfl, Fr.refl _ _⟩
      case round =>
        obtain ⟨k, hk, rfl, HFK⟩ := hrel
        have HK := Lib.hid hk
        have hk2 : k ≤ 2 := by omega
        clear hk
        by_cases hlt : k < 2
        · obtain ⟨p, hcp, hbp⟩ := HB7.out.2 k hlt
          have HP := Lib.hid (hbp.keep HFK.out)
          have cp := HFK.out.cellS hcp
          have hlt' : (k : Int) < 2 := by omega
          have ep := Ext.cell cp
          have KO1 := Lib.hid (gopen_no wr p HP.out)
          have KG1 := Lib.hid (ggrow_no wr p HP.out 1)
          have K1 := Lib.hid (fun u : Ext wr => gput_no u.v p (HP.out.keep u.fr) g B l.length cl)
          have K2 := Lib.hid (fun u : Ext wr => gsolve_no u.v p (HP.out.keep u.fr) 9 none 0 0 none 0 0)
          have K3 := Lib.hid (fun u : Ext wr => gvalue_no u.v p (HP.out.keep u.fr) 1)
          have K4 := Lib.hid (fun u : Ext wr => gcore_no u.v p (HP.out.keep u.fr))
          have K5 := Lib.hid (fun u : Ext wr => gused_no u.v p (HP.out.keep u.fr))
          have K6 := Lib.hid (fun u : Ext wr => gdrop_no u.v p (HP.out.keep u.fr) 1)
          clear hcp hbp
          go_wp2_with fail
          refine KO1.out.mono ?_
          clear KO1
          rintro e w8 ⟨rfl, rfl⟩
          go_wp2_with fail
          refine KG1.out.mono ?_
          clear KG1
          rintro e w8 ⟨rfl, rfl⟩
          go_wp2_with fail
          refine wp_region_ext (by kernel_rfl) (by kernel_rfl) ?_
          repeat (go_big_quiet_step (first | exact call_same (K1.out _) | exact call_same (K2.out _) | exact call_same (K3.out _) | exact call_same (K4.out _) | exact call_same (K5.out _) | exact call_same (K6.out _)))
          refine wpQuiet_nil ?_
          rintro w15 ⟨u2, hu2⟩
          have HF_w15 : Hid (Fr [] wr w15) := hu2 ▸ u2.fr
          clear hu2 u2
          clear ep cp K1 K2 K3 K4 K5 K6
          go_wp2_with fail
          go_roundg (gk - 1)
          case measure => have := HK.out; omega
          case rel => exact ⟨k + 1, by have := HK.out; omega, by go_num, HFK.out.then_ HF_w15.out⟩
        · obtain rfl : k = 2 := by omega
          have HFE := Lib.hid (HF12.out.then_ (HB7.out.1.then_ HFK.out))
          clear HK
          go_wp2_with fail
          go_ret
          exact ⟨rfl, HFE.out⟩
    · have d1 : (ck == (0 : Int)) = false := by simp [hc0]
      have d2 : (e2 == (0 : Int)) = false := by
        rw [beq_eq_false_iff_ne]
        exact fun h => hc0 (HE2.out.1 h).1
      clear hc0 HE2 HG0
      go_upto_region 8 with fail
      go_wp2_with fail
      refine KCK.out.mono ?_
      clear KCK
      rintro e w5 ⟨rfl, rfl⟩
      go_upto_region 10 with fail
      obtain ⟨w6, hw6⟩ : ∃ W, w4.alloc (.cells #[.int .i64 ((V : Int) + 1)] 3) = W := ⟨_, rfl⟩
      have HA6 : Hid (Fr [] w4 w6) := hw6 ▸ box_fr' _ _
      have HI6 : Hid (Ints w6 (some ⟨w4.heap.size, 0, none⟩) 1 [(V : Int) + 1]) := hw6 ▸ row_new w4 [(V : Int) + 1] (by simp [maxLen])
      have KS1 := Lib.hid (one_owned (HO.out.keep HA6.out) hV6 _ _ (.inl (by omega)) HI6.out 9)
      go_wp2_with fail
      clear hw6
      refine KS1.out.mono ?_
      clear KS1
      rintro e w7 ⟨rfl, hf7⟩
      have HF7 := Lib.hid (HA6.out.then_ hf7)
      clear hf7
      obtain ⟨w8, hw8⟩ : ∃ W, w7.alloc (.cells #[.int .i64 (-(V : Int) - 1)] 3) = W := ⟨_, rfl⟩
      have HA8 : Hid (Fr [] w7 w8) := hw8 ▸ box_fr' _ _
      have HI8 : Hid (Ints w8 (some ⟨w7.heap.size, 0, none⟩) 1 [-(V : Int) - 1]) := hw8 ▸ row_new w7 [-(V : Int) - 1] (by simp [maxLen])
      have KS2 := Lib.hid (one_owned ((HO.out.keep HF7.out).keep HA8.out) hV6 _ _ (.inr (by omega)) HI8.out 9)
      go_wp2_with fail
      clear hw8
      refine KS2.out.mono ?_
      clear KS2
      rintro e w9 ⟨rfl, hf9⟩
      have HF9 := Lib.hid (HF7.out.then_ (HA8.out.then_ hf9))
      clear hf9
      have HFL := HF9
      go_upto_region 13 with fail
      rw [HNV.out]
      have KG := Lib.hid (one_grow (HO.out.keep HFL.out) hV6 n hn4)
      go_wp2_with fail
      refine KG.out.mono ?_
      clear KG
      rintro e w12 ⟨rfl, X6, L6, A6, c6, S6, h6⟩
      have KD := Lib.hid (gdrop_zero h6)
      have HF12 := Lib.hid (HF1.out.then_ h6.fr)
      clear h6
      go_wp2_with fail
      refine KD.out.mono ?_
      clear KD
      rintro e w13 ⟨rfl, rfl⟩
      go_upto_region 17 with fail
      go_upto_region 18 with fail
      obtain ⟨w14, hw14⟩ : ∃ w14, (w12.alloc (.cells #[.pointer none, .slice none 0 0] 36)).alloc (.cells #[.pointer none, .pointer (some ⟨w12.heap.size, 0, none⟩)] 24) = w14 := ⟨_, rfl⟩
      have HB7 := Lib.hid (gbare_cells w12 w14 hw14)
      rw [hw14]
      clear hw14
      go_wp2_with fail
      go_loopg [16] 2 (fun gk x16 wr => ∃ k : Nat, k + gk = 2 ∧ x16 = .int .i64 k ∧ Hid (Fr [] w14 wr))
      case atStart => exact ⟨0, by omega, rfl, Fr.refl _ _⟩
      case round =>
        obtain ⟨k, hk, rfl, HFK⟩ := hrel
        have HK := Lib.hid hk
        have hk2 : k ≤ 2 := by omega
        clear hk
        by_cases hlt : k < 2
        · obtain ⟨p, hcp, hbp⟩ := HB7.out.2 k hlt
          have HP := Lib.hid (hbp.keep HFK.out)
          have cp := HFK.out.cellS hcp
          have hlt' : (k : Int) < 2 := by omega
          have ep := Ext.cell cp
          have KO1 := Lib.hid (gopen_no wr p HP.out)
          have KG1 := Lib.hid (ggrow_no wr p HP.out 1)
          have K1 := Lib.hid (fun u : Ext wr => gput_no u.v p (HP.out.keep u.fr) g B l.length cl)
          have K2 := Lib.hid (fun u : Ext wr => gsolve_no u.v p (HP.out.keep u.fr) 9 none 0 0 none 0 0)
          have K3 := Lib.hid (fun u : Ext wr => gvalue_no u.v p (HP.out.keep u.fr) 1)
          have K4 := Lib.hid (fun u : Ext wr => gcore_no u.v p (HP.out.keep u.fr))
          have K5 := Lib.hid (fun u : Ext wr => gused_no u.v p (HP.out.keep u.fr))
          have K6 := Lib.hid (fun u : Ext wr => gdrop_no u.v p (HP.out.keep u.fr) 1)
          clear hcp hbp
          go_wp2_with fail
          refine KO1.out.mono ?_
          clear KO1
          rintro e w8 ⟨rfl, rfl⟩
          go_wp2_with fail
          refine KG1.out.mono ?_
          clear KG1
          rintro e w8 ⟨rfl, rfl⟩
          go_wp2_with fail
          refine wp_region_ext (by kernel_rfl) (by kernel_rfl) ?_
          repeat (go_big_quiet_step (first | exact call_same (K1.out _) | exact call_same (K2.out _) | exact call_same (K3.out _) | exact call_same (K4.out _) | exact call_same (K5.out _) | exact call_same (K6.out _)))
          refine wpQuiet_nil ?_
          rintro w15 ⟨u2, hu2⟩
          have HF_w15 : Hid (Fr [] wr w15) := hu2 ▸ u2.fr
          clear hu2 u2
          clear ep cp K1 K2 K3 K4 K5 K6
          go_wp2_with fail
          go_roundg (gk - 1)
          case measure => have := HK.out; omega
          case rel => exact ⟨k + 1, by have := HK.out; omega, by go_num, HFK.out.then_ HF_w15.out⟩
        · obtain rfl : k = 2 := by omega
          have HFE := Lib.hid (HF12.out.then_ (HB7.out.1.then_ HFK.out))
          clear HK
          go_wp2_with fail
          go_ret
          exact ⟨rfl, HFE.out⟩
  · have g0 : (g == (0 : Int)) = false := by simp [hg0]
    by_cases hg1 : g = 1
    · have g1 : (g == (1 : Int)) = true := by simp [hg1]
      have HG0 := Lib.hid hg0
      have HG1 := Lib.hid hg1
      clear hg0 hg1
      go_wp2_with fail
      refine KP.out.mono ?_
      clear KP
      rintro e w4 ⟨e2, rfl, HPE, HO⟩
      have HE := HPE.out
      unfold putE at HE
      rw [if_pos (.inr HG1.out), HCK.out] at HE
      have HE2 := Lib.hid HE
      clear HE HPE
      have KCK := Lib.hid (rcheck_calls w4 ((V + 1 : Nat) : Int) B cl l (HR.out.keep (HF1.out.then_ HO.out.fr)) HRA.out)
      rw [HCK.out, show ((V + 1 : Nat) : Int) = (V : Int) + 1 by omega] at KCK
      by_cases hc0 : ck = 0
      · have d1 : (ck == (0 : Int)) = true := by simp [hc0]
        by_cases hl0 : l.length < 1024
        · have hl1 : (l.length : Int) < 1024 := by omega
          have d2 : (e2 == (0 : Int)) = true := by
            have := HE2.out.2 ⟨hc0, .inr hl0⟩
            simp [this]
          clear hc0 HE2 HG0
          go_upto_region 8 with fail
          go_wp2_with fail
          refine KCK.out.mono ?_
          clear KCK
          rintro e w5 ⟨rfl, rfl⟩
          go_upto_region 10 with fail
          obtain ⟨w6, hw6⟩ : ∃ W, w4.alloc (.cells #[.int .i64 ((V : Int) + 1)] 3) = W := ⟨_, rfl⟩
          have HA6 : Hid (Fr [] w4 w6) := hw6 ▸ box_fr' _ _
          have HI6 : Hid (Ints w6 (some ⟨w4.heap.size, 0, none⟩) 1 [(V : Int) + 1]) := hw6 ▸ row_new w4 [(V : Int) + 1] (by simp [maxLen])
          have KS1 := Lib.hid (one_owned (HO.out.keep HA6.out) hV6 _ _ (.inl (by omega)) HI6.out 9)
          go_wp2_with fail
          clear hw6
          refine KS1.out.mono ?_
          clear KS1
          rintro e w7 ⟨rfl, hf7⟩
          have HF7 := Lib.hid (HA6.out.then_ hf7)
          clear hf7
          obtain ⟨w8, hw8⟩ : ∃ W, w7.alloc (.cells #[.int .i64 (-(V : Int) - 1)] 3) = W := ⟨_, rfl⟩
          have HA8 : Hid (Fr [] w7 w8) := hw8 ▸ box_fr' _ _
          have HI8 : Hid (Ints w8 (some ⟨w7.heap.size, 0, none⟩) 1 [-(V : Int) - 1]) := hw8 ▸ row_new w7 [-(V : Int) - 1] (by simp [maxLen])
          have KS2 := Lib.hid (one_owned ((HO.out.keep HF7.out).keep HA8.out) hV6 _ _ (.inr (by omega)) HI8.out 9)
          go_wp2_with fail
          clear hw8
          refine KS2.out.mono ?_
          clear KS2
          rintro e w9 ⟨rfl, hf9⟩
          have HF9 := Lib.hid (HF7.out.then_ (HA8.out.then_ hf9))
          clear hf9
          have HFL := HF9
          go_upto_region 13 with fail
          rw [HNV.out]
          have KG := Lib.hid (one_grow (HO.out.keep HFL.out) hV6 n hn4)
          go_wp2_with fail
          refine KG.out.mono ?_
          clear KG
          rintro e w12 ⟨rfl, X6, L6, A6, c6, S6, h6⟩
          have KD := Lib.hid (gdrop_zero h6)
          have HF12 := Lib.hid (HF1.out.then_ h6.fr)
          clear h6
          go_wp2_with fail
          refine KD.out.mono ?_
          clear KD
          rintro e w13 ⟨rfl, rfl⟩
          go_upto_region 17 with fail
          go_upto_region 18 with fail
          obtain ⟨w14, hw14⟩ : ∃ w14, (w12.alloc (.cells #[.pointer none, .slice none 0 0] 36)).alloc (.cells #[.pointer none, .pointer (some ⟨w12.heap.size, 0, none⟩)] 24) = w14 := ⟨_, rfl⟩
          have HB7 := Lib.hid (gbare_cells w12 w14 hw14)
          rw [hw14]
          clear hw14
          go_wp2_with fail
          go_loopg [16] 2 (fun gk x16 wr => ∃ k : Nat, k + gk = 2 ∧ x16 = .int .i64 k ∧ Hid (Fr [] w14 wr))
          case atStart => exact ⟨0, by omega, rfl, Fr.refl _ _⟩
          case round =>
            obtain ⟨k, hk, rfl, HFK⟩ := hrel
            have HK := Lib.hid hk
            have hk2 : k ≤ 2 := by omega
            clear hk
            by_cases hlt : k < 2
            · obtain ⟨p, hcp, hbp⟩ := HB7.out.2 k hlt
              have HP := Lib.hid (hbp.keep HFK.out)
              have cp := HFK.out.cellS hcp
              have hlt' : (k : Int) < 2 := by omega
              have ep := Ext.cell cp
              have KO1 := Lib.hid (gopen_no wr p HP.out)
              have KG1 := Lib.hid (ggrow_no wr p HP.out 1)
              have K1 := Lib.hid (fun u : Ext wr => gput_no u.v p (HP.out.keep u.fr) g B l.length cl)
              have K2 := Lib.hid (fun u : Ext wr => gsolve_no u.v p (HP.out.keep u.fr) 9 none 0 0 none 0 0)
              have K3 := Lib.hid (fun u : Ext wr => gvalue_no u.v p (HP.out.keep u.fr) 1)
              have K4 := Lib.hid (fun u : Ext wr => gcore_no u.v p (HP.out.keep u.fr))
              have K5 := Lib.hid (fun u : Ext wr => gused_no u.v p (HP.out.keep u.fr))
              have K6 := Lib.hid (fun u : Ext wr => gdrop_no u.v p (HP.out.keep u.fr) 1)
              clear hcp hbp
              go_wp2_with fail
              refine KO1.out.mono ?_
              clear KO1
              rintro e w8 ⟨rfl, rfl⟩
              go_wp2_with fail
              refine KG1.out.mono ?_
              clear KG1
              rintro e w8 ⟨rfl, rfl⟩
              go_wp2_with fail
              refine wp_region_ext (by kernel_rfl) (by kernel_rfl) ?_
              repeat (go_big_quiet_step (first | exact call_same (K1.out _) | exact call_same (K2.out _) | exact call_same (K3.out _) | exact call_same (K4.out _) | exact call_same (K5.out _) | exact call_same (K6.out _)))
              refine wpQuiet_nil ?_
              rintro w15 ⟨u2, hu2⟩
              have HF_w15 : Hid (Fr [] wr w15) := hu2 ▸ u2.fr
              clear hu2 u2
              clear ep cp K1 K2 K3 K4 K5 K6
              go_wp2_with fail
              go_roundg (gk - 1)
              case measure => have := HK.out; omega
              case rel => exact ⟨k + 1, by have := HK.out; omega, by go_num, HFK.out.then_ HF_w15.out⟩
            · obtain rfl : k = 2 := by omega
              have HFE := Lib.hid (HF12.out.then_ (HB7.out.1.then_ HFK.out))
              clear HK
              go_wp2_with fail
              go_ret
              exact ⟨rfl, HFE.out⟩
        · have hl1 : ¬ (l.length : Int) < 1024 := by omega
          have d2 : (e2 == (0 : Int)) = false := by
            rw [beq_eq_false_iff_ne]
            exact fun h => by
              rcases (HE2.out.1 h).2 with h1 | h1
              · exact HG0.out h1
              · exact hl0 h1
          clear hc0 HE2 HG0
          go_upto_region 8 with fail
          go_wp2_with fail
          refine KCK.out.mono ?_
          clear KCK
          rintro e w5 ⟨rfl, rfl⟩
          go_upto_region 10 with fail
          obtain ⟨w6, hw6⟩ : ∃ W, w4.alloc (.cells #[.int .i64 ((V : Int) + 1)] 3) = W := ⟨_, rfl⟩
          have HA6 : Hid (Fr [] w4 w6) := hw6 ▸ box_fr' _ _
          have HI6 : Hid (Ints w6 (some ⟨w4.heap.size, 0, none⟩) 1 [(V : Int) + 1]) := hw6 ▸ row_new w4 [(V : Int) + 1] (by simp [maxLen])
          have KS1 := Lib.hid (one_owned (HO.out.keep HA6.out) hV6 _ _ (.inl (by omega)) HI6.out 9)
          go_wp2_with fail
          clear hw6
          refine KS1.out.mono ?_
          clear KS1
          rintro e w7 ⟨rfl, hf7⟩
          have HF7 := Lib.hid (HA6.out.then_ hf7)
          clear hf7
          obtain ⟨w8, hw8⟩ : ∃ W, w7.alloc (.cells #[.int .i64 (-(V : Int) - 1)] 3) = W := ⟨_, rfl⟩
          have HA8 : Hid (Fr [] w7 w8) := hw8 ▸ box_fr' _ _
          have HI8 : Hid (Ints w8 (some ⟨w7.heap.size, 0, none⟩) 1 [-(V : Int) - 1]) := hw8 ▸ row_new w7 [-(V : Int) - 1] (by simp [maxLen])
          have KS2 := Lib.hid (one_owned ((HO.out.keep HF7.out).keep HA8.out) hV6 _ _ (.inr (by omega)) HI8.out 9)
          go_wp2_with fail
          clear hw8
          refine KS2.out.mono ?_
          clear KS2
          rintro e w9 ⟨rfl, hf9⟩
          have HF9 := Lib.hid (HF7.out.then_ (HA8.out.then_ hf9))
          clear hf9
          have HFL := HF9
          go_upto_region 13 with fail
          rw [HNV.out]
          have KG := Lib.hid (one_grow (HO.out.keep HFL.out) hV6 n hn4)
          go_wp2_with fail
          refine KG.out.mono ?_
          clear KG
          rintro e w12 ⟨rfl, X6, L6, A6, c6, S6, h6⟩
          have KD := Lib.hid (gdrop_zero h6)
          have HF12 := Lib.hid (HF1.out.then_ h6.fr)
          clear h6
          go_wp2_with fail
          refine KD.out.mono ?_
          clear KD
          rintro e w13 ⟨rfl, rfl⟩
          go_upto_region 17 with fail
          go_upto_region 18 with fail
          obtain ⟨w14, hw14⟩ : ∃ w14, (w12.alloc (.cells #[.pointer none, .slice none 0 0] 36)).alloc (.cells #[.pointer none, .pointer (some ⟨w12.heap.size, 0, none⟩)] 24) = w14 := ⟨_, rfl⟩
          have HB7 := Lib.hid (gbare_cells w12 w14 hw14)
          rw [hw14]
          clear hw14
          go_wp2_with fail
          go_loopg [16] 2 (fun gk x16 wr => ∃ k : Nat, k + gk = 2 ∧ x16 = .int .i64 k ∧ Hid (Fr [] w14 wr))
          case atStart => exact ⟨0, by omega, rfl, Fr.refl _ _⟩
          case round =>
            obtain ⟨k, hk, rfl, HFK⟩ := hrel
            have HK := Lib.hid hk
            have hk2 : k ≤ 2 := by omega
            clear hk
            by_cases hlt : k < 2
            · obtain ⟨p, hcp, hbp⟩ := HB7.out.2 k hlt
              have HP := Lib.hid (hbp.keep HFK.out)
              have cp := HFK.out.cellS hcp
              have hlt' : (k : Int) < 2 := by omega
              have ep := Ext.cell cp
              have KO1 := Lib.hid (gopen_no wr p HP.out)
              have KG1 := Lib.hid (ggrow_no wr p HP.out 1)
              have K1 := Lib.hid (fun u : Ext wr => gput_no u.v p (HP.out.keep u.fr) g B l.length cl)
              have K2 := Lib.hid (fun u : Ext wr => gsolve_no u.v p (HP.out.keep u.fr) 9 none 0 0 none 0 0)
              have K3 := Lib.hid (fun u : Ext wr => gvalue_no u.v p (HP.out.keep u.fr) 1)
              have K4 := Lib.hid (fun u : Ext wr => gcore_no u.v p (HP.out.keep u.fr))
              have K5 := Lib.hid (fun u : Ext wr => gused_no u.v p (HP.out.keep u.fr))
              have K6 := Lib.hid (fun u : Ext wr => gdrop_no u.v p (HP.out.keep u.fr) 1)
              clear hcp hbp
              go_wp2_with fail
              refine KO1.out.mono ?_
              clear KO1
              rintro e w8 ⟨rfl, rfl⟩
              go_wp2_with fail
              refine KG1.out.mono ?_
              clear KG1
              rintro e w8 ⟨rfl, rfl⟩
              go_wp2_with fail
              refine wp_region_ext (by kernel_rfl) (by kernel_rfl) ?_
              repeat (go_big_quiet_step (first | exact call_same (K1.out _) | exact call_same (K2.out _) | exact call_same (K3.out _) | exact call_same (K4.out _) | exact call_same (K5.out _) | exact call_same (K6.out _)))
              refine wpQuiet_nil ?_
              rintro w15 ⟨u2, hu2⟩
              have HF_w15 : Hid (Fr [] wr w15) := hu2 ▸ u2.fr
              clear hu2 u2
              clear ep cp K1 K2 K3 K4 K5 K6
              go_wp2_with fail
              go_roundg (gk - 1)
              case measure => have := HK.out; omega
              case rel => exact ⟨k + 1, by have := HK.out; omega, by go_num, HFK.out.then_ HF_w15.out⟩
            · obtain rfl : k = 2 := by omega
              have HFE := Lib.hid (HF12.out.then_ (HB7.out.1.then_ HFK.out))
              clear HK
              go_wp2_with fail
              go_ret
              exact ⟨rfl, HFE.out⟩
      · have d1 : (ck == (0 : Int)) = false := by simp [hc0]
        have d2 : (e2 == (0 : Int)) = false := by
          rw [beq_eq_false_iff_ne]
          exact fun h => hc0 (HE2.out.1 h).1
        clear hc0 HE2 HG0
        go_upto_region 8 with fail
        go_wp2_with fail
        refine KCK.out.mono ?_
        clear KCK
        rintro e w5 ⟨rfl, rfl⟩
        go_upto_region 10 with fail
        obtain ⟨w6, hw6⟩ : ∃ W, w4.alloc (.cells #[.int .i64 ((V : Int) + 1)] 3) = W := ⟨_, rfl⟩
        have HA6 : Hid (Fr [] w4 w6) := hw6 ▸ box_fr' _ _
        have HI6 : Hid (Ints w6 (some ⟨w4.heap.size, 0, none⟩) 1 [(V : Int) + 1]) := hw6 ▸ row_new w4 [(V : Int) + 1] (by simp [maxLen])
        have KS1 := Lib.hid (one_owned (HO.out.keep HA6.out) hV6 _ _ (.inl (by omega)) HI6.out 9)
        go_wp2_with fail
        clear hw6
        refine KS1.out.mono ?_
        clear KS1
        rintro e w7 ⟨rfl, hf7⟩
        have HF7 := Lib.hid (HA6.out.then_ hf7)
        clear hf7
        obtain ⟨w8, hw8⟩ : ∃ W, w7.alloc (.cells #[.int .i64 (-(V : Int) - 1)] 3) = W := ⟨_, rfl⟩
        have HA8 : Hid (Fr [] w7 w8) := hw8 ▸ box_fr' _ _
        have HI8 : Hid (Ints w8 (some ⟨w7.heap.size, 0, none⟩) 1 [-(V : Int) - 1]) := hw8 ▸ row_new w7 [-(V : Int) - 1] (by simp [maxLen])
        have KS2 := Lib.hid (one_owned ((HO.out.keep HF7.out).keep HA8.out) hV6 _ _ (.inr (by omega)) HI8.out 9)
        go_wp2_with fail
        clear hw8
        refine KS2.out.mono ?_
        clear KS2
        rintro e w9 ⟨rfl, hf9⟩
        have HF9 := Lib.hid (HF7.out.then_ (HA8.out.then_ hf9))
        clear hf9
        have HFL := HF9
        go_upto_region 13 with fail
        rw [HNV.out]
        have KG := Lib.hid (one_grow (HO.out.keep HFL.out) hV6 n hn4)
        go_wp2_with fail
        refine KG.out.mono ?_
        clear KG
        rintro e w12 ⟨rfl, X6, L6, A6, c6, S6, h6⟩
        have KD := Lib.hid (gdrop_zero h6)
        have HF12 := Lib.hid (HF1.out.then_ h6.fr)
        clear h6
        go_wp2_with fail
        refine KD.out.mono ?_
        clear KD
        rintro e w13 ⟨rfl, rfl⟩
        go_upto_region 17 with fail
        go_upto_region 18 with fail
        obtain ⟨w14, hw14⟩ : ∃ w14, (w12.alloc (.cells #[.pointer none, .slice none 0 0] 36)).alloc (.cells #[.pointer none, .pointer (some ⟨w12.heap.size, 0, none⟩)] 24) = w14 := ⟨_, rfl⟩
        have HB7 := Lib.hid (gbare_cells w12 w14 hw14)
        rw [hw14]
        clear hw14
        go_wp2_with fail
        go_loopg [16] 2 (fun gk x16 wr => ∃ k : Nat, k + gk = 2 ∧ x16 = .int .i64 k ∧ Hid (Fr [] w14 wr))
        case atStart => exact ⟨0, by omega, rfl, Fr.refl _ _⟩
        case round =>
          obtain ⟨k, hk, rfl, HFK⟩ := hrel
          have HK := Lib.hid hk
          have hk2 : k ≤ 2 := by omega
          clear hk
          by_cases hlt : k < 2
          · obtain ⟨p, hcp, hbp⟩ := HB7.out.2 k hlt
            have HP := Lib.hid (hbp.keep HFK.out)
            have cp := HFK.out.cellS hcp
            have hlt' : (k : Int) < 2 := by omega
            have ep := Ext.cell cp
            have KO1 := Lib.hid (gopen_no wr p HP.out)
            have KG1 := Lib.hid (ggrow_no wr p HP.out 1)
            have K1 := Lib.hid (fun u : Ext wr => gput_no u.v p (HP.out.keep u.fr) g B l.length cl)
            have K2 := Lib.hid (fun u : Ext wr => gsolve_no u.v p (HP.out.keep u.fr) 9 none 0 0 none 0 0)
            have K3 := Lib.hid (fun u : Ext wr => gvalue_no u.v p (HP.out.keep u.fr) 1)
            have K4 := Lib.hid (fun u : Ext wr => gcore_no u.v p (HP.out.keep u.fr))
            have K5 := Lib.hid (fun u : Ext wr => gused_no u.v p (HP.out.keep u.fr))
            have K6 := Lib.hid (fun u : Ext wr => gdrop_no u.v p (HP.out.keep u.fr) 1)
            clear hcp hbp
            go_wp2_with fail
            refine KO1.out.mono ?_
            clear KO1
            rintro e w8 ⟨rfl, rfl⟩
            go_wp2_with fail
            refine KG1.out.mono ?_
            clear KG1
            rintro e w8 ⟨rfl, rfl⟩
            go_wp2_with fail
            refine wp_region_ext (by kernel_rfl) (by kernel_rfl) ?_
            repeat (go_big_quiet_step (first | exact call_same (K1.out _) | exact call_same (K2.out _) | exact call_same (K3.out _) | exact call_same (K4.out _) | exact call_same (K5.out _) | exact call_same (K6.out _)))
            refine wpQuiet_nil ?_
            rintro w15 ⟨u2, hu2⟩
            have HF_w15 : Hid (Fr [] wr w15) := hu2 ▸ u2.fr
            clear hu2 u2
            clear ep cp K1 K2 K3 K4 K5 K6
            go_wp2_with fail
            go_roundg (gk - 1)
            case measure => have := HK.out; omega
            case rel => exact ⟨k + 1, by have := HK.out; omega, by go_num, HFK.out.then_ HF_w15.out⟩
          · obtain rfl : k = 2 := by omega
            have HFE := Lib.hid (HF12.out.then_ (HB7.out.1.then_ HFK.out))
            clear HK
            go_wp2_with fail
            go_ret
            exact ⟨rfl, HFE.out⟩
    · have g1 : (g == (1 : Int)) = false := by simp [hg1]
      have HLK : Hid (¬ (g = 0 ∨ g = 1)) := (by omega : ¬ (g = 0 ∨ g = 1))
      clear hg0 hg1
      go_wp2_with fail
      refine KP.out.mono ?_
      clear KP
      rintro e w4 ⟨e2, rfl, HPE, HO⟩
      have HE := HPE.out
      unfold putE at HE
      rw [if_neg HLK.out] at HE
      subst HE
      go_upto_region 10 with fail
      obtain ⟨w6, hw6⟩ : ∃ W, w4.alloc (.cells #[.int .i64 ((V : Int) + 1)] 3) = W := ⟨_, rfl⟩
      have HA6 : Hid (Fr [] w4 w6) := hw6 ▸ box_fr' _ _
      have HI6 : Hid (Ints w6 (some ⟨w4.heap.size, 0, none⟩) 1 [(V : Int) + 1]) := hw6 ▸ row_new w4 [(V : Int) + 1] (by simp [maxLen])
      have KS1 := Lib.hid (one_owned (HO.out.keep HA6.out) hV6 _ _ (.inl (by omega)) HI6.out 9)
      go_wp2_with fail
      clear hw6
      refine KS1.out.mono ?_
      clear KS1
      rintro e w7 ⟨rfl, hf7⟩
      have HF7 := Lib.hid (HA6.out.then_ hf7)
      clear hf7
      obtain ⟨w8, hw8⟩ : ∃ W, w7.alloc (.cells #[.int .i64 (-(V : Int) - 1)] 3) = W := ⟨_, rfl⟩
      have HA8 : Hid (Fr [] w7 w8) := hw8 ▸ box_fr' _ _
      have HI8 : Hid (Ints w8 (some ⟨w7.heap.size, 0, none⟩) 1 [-(V : Int) - 1]) := hw8 ▸ row_new w7 [-(V : Int) - 1] (by simp [maxLen])
      have KS2 := Lib.hid (one_owned ((HO.out.keep HF7.out).keep HA8.out) hV6 _ _ (.inr (by omega)) HI8.out 9)
      go_wp2_with fail
      clear hw8
      refine KS2.out.mono ?_
      clear KS2
      rintro e w9 ⟨rfl, hf9⟩
      have HF9 := Lib.hid (HF7.out.then_ (HA8.out.then_ hf9))
      clear hf9
      obtain ⟨w10, hw10⟩ : ∃ W, w9.alloc (.cells #[.int .i64 (g)] 3) = W := ⟨_, rfl⟩
      have HA10 : Hid (Fr [] w9 w10) := hw10 ▸ box_fr' _ _
      have HI10 : Hid (Ints w10 (some ⟨w9.heap.size, 0, none⟩) 1 [g]) := hw10 ▸ row_new w9 [g] (by simp [maxLen])
      have KS3 := Lib.hid (one_lack ((HO.out.keep HF9.out).keep HA10.out) _ g hg HLK.out HI10.out 9)
      go_wp2_with fail
      clear hw10
      refine KS3.out.mono ?_
      clear KS3
      rintro e w11 ⟨rfl, hf11⟩
      have HFL := Lib.hid (HF9.out.then_ (HA10.out.then_ hf11))
      clear hf11
      go_upto_region 13 with fail
      rw [HNV.out]
      have KG := Lib.hid (one_grow (HO.out.keep HFL.out) hV6 n hn4)
      go_wp2_with fail
      refine KG.out.mono ?_
      clear KG
      rintro e w12 ⟨rfl, X6, L6, A6, c6, S6, h6⟩
      have KD := Lib.hid (gdrop_zero h6)
      have HF12 := Lib.hid (HF1.out.then_ h6.fr)
      clear h6
      go_wp2_with fail
      refine KD.out.mono ?_
      clear KD
      rintro e w13 ⟨rfl, rfl⟩
      go_upto_region 17 with fail
      go_upto_region 18 with fail
      obtain ⟨w14, hw14⟩ : ∃ w14, (w12.alloc (.cells #[.pointer none, .slice none 0 0] 36)).alloc (.cells #[.pointer none, .pointer (some ⟨w12.heap.size, 0, none⟩)] 24) = w14 := ⟨_, rfl⟩
      have HB7 := Lib.hid (gbare_cells w12 w14 hw14)
      rw [hw14]
      clear hw14
      go_wp2_with fail
      go_loopg [16] 2 (fun gk x16 wr => ∃ k : Nat, k + gk = 2 ∧ x16 = .int .i64 k ∧ Hid (Fr [] w14 wr))
      case atStart => exact ⟨0, by omega, rfl, Fr.refl _ _⟩
      case round =>
        obtain ⟨k, hk, rfl, HFK⟩ := hrel
        have HK := Lib.hid hk
        have hk2 : k ≤ 2 := by omega
        clear hk
        by_cases hlt : k < 2
        · obtain ⟨p, hcp, hbp⟩ := HB7.out.2 k hlt
          have HP := Lib.hid (hbp.keep HFK.out)
          have cp := HFK.out.cellS hcp
          have hlt' : (k : Int) < 2 := by omega
          have ep := Ext.cell cp
          have KO1 := Lib.hid (gopen_no wr p HP.out)
          have KG1 := Lib.hid (ggrow_no wr p HP.out 1)
          have K1 := Lib.hid (fun u : Ext wr => gput_no u.v p (HP.out.keep u.fr) g B l.length cl)
          have K2 := Lib.hid (fun u : Ext wr => gsolve_no u.v p (HP.out.keep u.fr) 9 none 0 0 none 0 0)
          have K3 := Lib.hid (fun u : Ext wr => gvalue_no u.v p (HP.out.keep u.fr) 1)
          have K4 := Lib.hid (fun u : Ext wr => gcore_no u.v p (HP.out.keep u.fr))
          have K5 := Lib.hid (fun u : Ext wr => gused_no u.v p (HP.out.keep u.fr))
          have K6 := Lib.hid (fun u : Ext wr => gdrop_no u.v p (HP.out.keep u.fr) 1)
          clear hcp hbp
          go_wp2_with fail
          refine KO1.out.mono ?_
          clear KO1
          rintro e w8 ⟨rfl, rfl⟩
          go_wp2_with fail
          refine KG1.out.mono ?_
          clear KG1
          rintro e w8 ⟨rfl, rfl⟩
          go_wp2_with fail
          refine wp_region_ext (by kernel_rfl) (by kernel_rfl) ?_
          repeat (go_big_quiet_step (first | exact call_same (K1.out _) | exact call_same (K2.out _) | exact call_same (K3.out _) | exact call_same (K4.out _) | exact call_same (K5.out _) | exact call_same (K6.out _)))
          refine wpQuiet_nil ?_
          rintro w15 ⟨u2, hu2⟩
          have HF_w15 : Hid (Fr [] wr w15) := hu2 ▸ u2.fr
          clear hu2 u2
          clear ep cp K1 K2 K3 K4 K5 K6
          go_wp2_with fail
          go_roundg (gk - 1)
          case measure => have := HK.out; omega
          case rel => exact ⟨k + 1, by have := HK.out; omega, by go_num, HFK.out.then_ HF_w15.out⟩
        · obtain rfl : k = 2 := by omega
          have HFE := Lib.hid (HF12.out.then_ (HB7.out.1.then_ HFK.out))
          clear HK
          go_wp2_with fail
          go_ret
          exact ⟨rfl, HFE.out⟩

end Go.Proofs.YtjchilcpflfcnaaGreat
