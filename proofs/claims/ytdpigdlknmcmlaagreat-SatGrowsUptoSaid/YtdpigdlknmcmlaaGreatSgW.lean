/-  -/
import Derived.Test.YtdpigdlknmcmlaaGreatSgM
import Derived.Test.YtdpigdlknmcmlaaGreatSgV
set_option linter.unusedVariables false
namespace Go.Proofs.YtdpigdlknmcmlaaGreat
open Go.RowKit
structure Ls where
 A : Option Addr
 c : Nat
 l : List Int
instance : Inhabited Ls := ⟨⟨none, 0, []⟩⟩
def Ls.val (h : Ls) : Value := .slice h.A h.l.length h.c
def OkL (w : World) (h : Ls) : Prop := Rd w h.A h.l ∧ Ra h.l ∧ h.l.length ≤ 17592186044416 ∧ (h.A = none → h.l.length = 0 ∧ h.c = 0)
theorem OkL.keep {w w' : World} {h : Ls} (k : OkL w h) (hf : Fr [] w w') : OkL w' h := ⟨k.1.keep hf, k.2⟩
def RdL (w : World) (A : Option Addr) (hs : List Ls) : Prop := (0 < hs.length → ∃ b o, A = some ⟨b, o, none⟩ ∧ ∀ j : Nat, j < hs.length → w.cell? ⟨b, o + j, none⟩ = some (hs[j]!).val) ∧ ∀ j : Nat, j < hs.length → OkL w hs[j]!
theorem RdL.keep {w w' : World} {A : Option Addr} {hs : List Ls} (k : RdL w A hs) (hf : Fr [] w w') : RdL w' A hs := by
 refine ⟨fun h0 => ?_, fun j hj => (k.2 j hj).keep hf⟩
 obtain ⟨b, o, hA, hx⟩ := k.1 h0
 exact ⟨b, o, hA, fun j hj => hf.cellS (hx j hj)⟩
theorem RdL.one {w : World} {A : Option Addr} {hs : List Ls} (k : RdL w A hs) {j : Nat} (hj : j < hs.length) : ∃ b o B d l, A = some ⟨b, o, none⟩ ∧ Hid (hs[j]! = ⟨B, d, l⟩) ∧ w.cell? ⟨b, o + j, none⟩ = some (.slice B l.length d) ∧ OkL w ⟨B, d, l⟩ := by
 obtain ⟨b, o, hA, hx⟩ := k.1 (by omega)
 exact ⟨b, o, _, _, _, hA, rfl, hx j hj, k.2 j hj⟩
theorem lists_drop {hs : List Ls} {k : Nat} (h : k < hs.length) : (hs.map (·.l)).drop k = (hs[k]!).l :: (hs.map (·.l)).drop (k + 1) := by
 rw [List.drop_eq_getElem_cons (by simpa using h), List.getElem_map]
 simp only [List.getElem!_eq_getElem?_getD, List.getElem?_eq_getElem h, Option.getD_some]
theorem addF_snd2 (S : Sv) (l : List Int) : (S.addF l).2 = chkF S.vars l := by
 unfold Sv.addF
 split
 ·rename_i h; exact h.symm
 ·rfl
theorem Own.old {w w1 w2 : World} {L : SvL} {S : Sv} (h : Own w1 w2 L S) (hf : Fr [] w w1) : Own w w2 L S :=
 ⟨h.sv, fun k hk => h.nw k (Nat.lt_of_lt_of_le hk hf.size), hf.then_ h.fr⟩
def LayP (q : Sv × Bool) (w0 : World) (e : Ending) (w' : World) : Prop := ∃ L : SvL, e = .returned (.tuple #[.pointer (some ⟨L.a, 0, none⟩), .bool q.2]) ∧ Own w0 w' L q.1
set_option maxRecDepth 100000 in
set_option maxHeartbeats 8000000 in
theorem laid_calls (w : World) (vars : Int) (hv : R64 vars) (A : Option Addr) (c : Nat) (hs : List Ls) (h : RdL w A hs) (hl : hs.length ≤ 1099511620000) :
  Calls Tryz.prog 9 #[.agg #[.int .i64 vars, .slice A hs.length c]] w (LayP (Sv.layN (hs.map (·.l)) (Sv.new vars)) w) := by
 obtain ⟨RES, hRES⟩ : ∃ RES, Sv.layN (hs.map (·.l)) (Sv.new vars) = RES := ⟨_, rfl⟩
 rw [hRES]
 have HRES := Lib.hid hRES
 obtain ⟨w1, hw1⟩ : ∃ w1, w.alloc (.cells #[.int .i64 vars, .slice A hs.length c] 24) = w1 := ⟨_, rfl⟩
 have HW1 := Lib.hid hw1
 have HF1 : Hid (Fr [] w w1) := hw1 ▸ box_fr' _ _
 have HS : Hid (At w1 w.heap.size 24 #[.int .i64 vars, .slice A hs.length c]) := hw1 ▸ At.new _ _ _
 have HH := Lib.hid (h.keep HF1.out)
 have c0 := HS.out.cell 0
 have c1 := HS.out.cell 1
 simp at c0 c1
 have C1 := Lib.hid c1
 have KN := Lib.hid (own_new w1 vars hv.1 hv.2)
 have KI := Sv.Inv.new vars
 have HLA0 : Hid (Sv.Laid (Sv.new vars) (Sv.new vars) 0) := ⟨KI.1, KI.2.1, rfl, rfl, rfl, rfl, Nat.le_refl _, rfl⟩
 have HN0 := Lib.hid KI.2.2
 clear h hRES KI
 go_enter Tryz.func9, Tryz.ntmps9
 go_upto_region 1 with fail
 clear hw1
 go_wp2_with fail
 refine KN.out.mono ?_
 clear KN c0 c1
 rintro e w2 ⟨L2, rfl, h2⟩
 obtain ⟨a, ha⟩ : ∃ a, L2.a = a := ⟨_, rfl⟩
 rw [ha]
 have H2 := Lib.hid h2
 have HA2 := Lib.hid ha
 clear h2 ha
 go_upto_region 3 with fail
 go_wp2_with fail
 go_loopg [5] hs.length (fun g x5 wr => ∃ (k : Nat) (L : SvL) (S : Sv), k + g = hs.length ∧ x5 = .int .i64 k ∧ Hid (L.a = a) ∧ Hid (Own w1 wr L S) ∧ Hid (Sv.Laid (Sv.new vars) S k) ∧ Hid (Sv.layN ((hs.map (·.l)).drop k) S = RES))
 case atStart => exact ⟨0, L2, _, by omega, rfl, HA2, H2, HLA0, HRES⟩
 case round =>
  clear HA2 H2 HLA0 HRES
  obtain ⟨k, L, S, hk, rfl, HLA, HOW, HLD, HRES⟩ := hrel
  have HK := Lib.hid hk
  have hkn : k ≤ hs.length := by omega
  have e1 := HOW.out.fr.cellS C1.out
  clear hk
  by_cases hlt : k < hs.length
  ·obtain ⟨b, o, B, d, l, hA, hx, cx, ok⟩ := HH.out.one hlt
   subst hA
   have e2 := HOW.out.fr.cellS cx
   have hld := HLD.out
   have hn0 := HN0.out
   have hsl : S.list.length < 1099511627776 := by have := hld.list; rw [hn0.2.2.1] at this; simp at this; omega
   have KA := HOW.out.add hld.inv.ok B d l (HOW.out.far_old ok.1) ok.2.1 (fun h => (ok.2.2.2 h).2) hsl (by rw [hld.used, hn0.2.2.2.1]; decide)
   rw [addF_snd2, HLA.out] at KA
   have hdr := lists_drop hlt
   rw [hx.out] at hdr
   have hres := HRES.out
   rw [hdr, Sv.layN] at hres
   have HST := Lib.hid (hld.step ok.2.1 (by rw [hn0.2.2.1]; simp; omega))
   obtain ⟨ck, hck⟩ : ∃ ck, chkF S.vars l = ck := ⟨_, rfl⟩
   have HSA0 : Hid (ck ≠ 0 → (S.addF l).1 = S) := fun h => by
    unfold Sv.addF
    rw [if_neg (by rw [hck]; exact h)]
   rw [hck] at KA hres
   have KA := Lib.hid KA
   have HRS := Lib.hid hres
   clear hld hn0 hsl hdr hres hck ok cx
   by_cases h0 : ck = 0
   ·have hd : (ck != (0 : Int)) = false := by simp [h0]
    have HR2 : Hid (Sv.layN ((hs.map (·.l)).drop (k + 1)) (S.addF l).1 = RES) := by
     have := HRS.out
     rw [if_pos h0] at this
     exact this
    clear HRS
    go_wp2_with fail
    refine KA.out.mono ?_
    clear KA
    rintro e w4 ⟨rfl, L4, hL4, h4⟩
    have HL4 := Lib.hid hL4
    have H4 := Lib.hid h4
    clear h4 hL4
    go_wp2_with fail
    clear e1 e2
    go_roundg (gk - 1)
    case measure => have := HK.out; omega
    case rel => exact ⟨k + 1, L4, _, by have := HK.out; omega, by go_num, HL4, H4, HST, HR2⟩
   ·have hd : (ck != (0 : Int)) = true := by simp [h0]
    have HR2 : Hid ((S, false) = RES) := by
     have := HRS.out
     rw [if_neg h0] at this
     exact this
    have HSA : Hid ((S.addF l).1 = S) := HSA0.out h0
    clear HRS
    go_wp2_with fail
    refine KA.out.mono ?_
    clear KA
    rintro e w4 ⟨rfl, L4, hL4, h4⟩
    have HL4 := Lib.hid hL4
    have H4 := Lib.hid h4
    clear h4 hL4
    go_wp2_with fail
    go_ret2
    have h4 := H4.out
    rw [HSA.out] at h4
    refine ⟨L4, ?_, ?_⟩
    ·rw [HL4.out, ← HR2.out]; rfl
    ·rw [← HR2.out]; exact h4.old HF1.out
  ·have hlen : (hs.map (·.l)).drop k = [] := List.drop_eq_nil_of_le (by simp; omega)
   have HR2 : Hid ((S, true) = RES) := by
    have := HRES.out
    rw [hlen, Sv.layN] at this
    exact this
   have hkl : k = hs.length := by omega
   subst hkl
   clear HK HRES hlen
   go_wp2_with fail
   go_ret2
   refine ⟨L, ?_, ?_⟩
   ·rw [HLA.out, ← HR2.out]; rfl
   ·rw [← HR2.out]; exact HOW.out.old HF1.out
end Go.Proofs.YtdpigdlknmcmlaaGreat
