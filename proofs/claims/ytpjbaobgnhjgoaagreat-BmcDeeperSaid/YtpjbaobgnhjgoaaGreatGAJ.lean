/- Parts of a proof. -/
import Derived.Test.YtpjbaobgnhjgoaaGreatGAI
set_option linter.unusedVariables false
set_option linter.unusedSimpArgs false
namespace Go.Proofs.YtpjbaobgnhjgoaaGreat
open Go.RowKit
def qy (a : Nat) (tL : dL) (hL : eW) (g4 g5 : Nat) : aH where
 a := a
 tL := tL
 hL := hL
 cA := none
 cC := 0
 wA := some ⟨g4, 0, none⟩
 wC := 2
 pA := some ⟨g5, 0, none⟩
 pC := 1
 mA := none
 mC := 0
 oA := none
 oC := 0
 cs := []
 ws := [⟨none, 0, []⟩, ⟨none, 0, []⟩]
 id := 0
 cv := fun k => if k = a then (0, 0, 0) else if k ∈ tL.fp then (0, 1, 0) else if k ∈ hL.fp then (0, 2, 0) else if k = g4 then (0, 4, 0) else if k = g5 then (0, 5, 0) else (1, 0, 0)
theorem aK.make {w : World} {tL : dL} {hL : eW} {g4 g5 : Nat} (ht : TrAt w tL (Tr.fresh.dZ 0)) (hh : b8 w hL (Hp.none_.dZ 1)) (hm : hL.A2.isSome = true) (hw : qa w (some ⟨g4, 0, none⟩) 2 [⟨none, 0, []⟩, ⟨none, 0, []⟩]) (hp : Bools w (some ⟨g5, 0, none⟩) 1 [false])
  (b : Nat) (hb : b ≤ w.heap.size) (hx : (∀ k, k ∈ tL.fp → b ≤ k) ∧ (∀ k, k ∈ hL.fp → b ≤ k) ∧ b ≤ g4 ∧ b ≤ g5 ∧ (∀ k, k ∈ tL.fp → k ∉ hL.fp) ∧ g4 ∉ tL.fp ∧ g5 ∉ tL.fp ∧ g4 ∉ hL.fp ∧ g5 ∉ hL.fp ∧ g4 ≠ g5) :
  ∃ L : aH, L.a = w.heap.size ∧ aK (w.alloc (.cells #[.pointer (some ⟨tL.a, 0, none⟩), .pointer (some ⟨hL.a, 0, none⟩), .int .i64 0, .slice none 0 0, .slice (some ⟨g4, 0, none⟩) 2 2, .slice (some ⟨g5, 0, none⟩) 1 1, .slice none 0 0, .slice none 0 0, .int .i64 0, .int .i64 0, .int .i64 1, .int .i64 0, .int .i64 400, .bool false, .bool false] 112)) L Sv.bare ∧ (∀ k, k < b → (L.cv k).1 ≠ L.id) ∧ Fr [] w (w.alloc (.cells #[.pointer (some ⟨tL.a, 0, none⟩), .pointer (some ⟨hL.a, 0, none⟩), .int .i64 0, .slice none 0 0, .slice (some ⟨g4, 0, none⟩) 2 2, .slice (some ⟨g5, 0, none⟩) 1 1, .slice none 0 0, .slice none 0 0, .int .i64 0, .int .i64 0, .int .i64 1, .int .i64 0, .int .i64 400, .bool false, .bool false] 112)) := by
 obtain ⟨n1, n2, n4, n5, d12, d14, d15, d24, d25, d45⟩ := hx
 have FY := ht.lt
 have oS := hh.lt
 have T5 : g4 < w.heap.size := di hw g4 (by simp [ah])
 have hl5 : g5 < w.heap.size := di hp g5 (by simp [ah])
 have hf : Fr [] w (w.alloc (.cells #[.pointer (some ⟨tL.a, 0, none⟩), .pointer (some ⟨hL.a, 0, none⟩), .int .i64 0, .slice none 0 0, .slice (some ⟨g4, 0, none⟩) 2 2, .slice (some ⟨g5, 0, none⟩) 1 1, .slice none 0 0, .slice none 0 0, .int .i64 0, .int .i64 0, .int .i64 1, .int .i64 0, .int .i64 400, .bool false, .bool false] 112)) := aP _ _
 refine ⟨qy w.heap.size tL hL g4 g5, rfl, ?_, ?_, hf⟩
 ·refine ⟨At.new w _ _, ht.fr hf (by simp), hh.fr hf (by simp), hm, rfl, rfl, World.ownsRow_nil _ 0 _ 3, ?_, ?_, World.ownsRow_nil _ 0 _ 1, Ints.nil _, fun n hn => absurd hn (aG _), fun c hc => ?_, ?_, ?_, ?_, ?_, ?_, ?_, ?_, ?_, fun n hn => absurd hn (aG _), fun c hc => ?_⟩
  ·exact dX hw hf (by simp)
  ·exact dX hp hf (by simp)
  ·have : c = 0 ∨ c = 1 := by simp [qy] at hc; omega
   rcases this with rfl | rfl <;> exact Ints.nil _
  ·simp [qy]
  ·intro k (hk : k ∈ tL.fp)
   have := FY k hk
   show (if k = w.heap.size then (0, 0, 0) else if k ∈ tL.fp then (0, 1, 0) else _) = ((0, 1, 0) : Nat × Nat × Nat)
   rw [if_neg (by omega), if_pos hk]
  ·intro k (hk : k ∈ hL.fp)
   have := oS k hk
   show (if k = w.heap.size then (0, 0, 0) else if k ∈ tL.fp then (0, 1, 0) else if k ∈ hL.fp then (0, 2, 0) else _) = ((0, 2, 0) : Nat × Nat × Nat)
   rw [if_neg (by omega), if_neg (fun h => d12 k h hk), if_pos hk]
  ·intro k hk
   simp [qy, ah] at hk
  ·intro k hk
   simp [qy, ah] at hk
   subst hk
   simp only [qy]
   rw [if_neg (by omega), if_neg d14, if_neg d24]; rfl
  ·intro k hk
   simp [qy, ah] at hk
   subst hk
   simp only [qy]
   rw [if_neg (by omega), if_neg d15, if_neg d25, if_neg (fun h => d45 h.symm)]; rfl
  ·intro k hk
   simp [qy, ah] at hk
  ·intro k hk
   simp [qy, ah] at hk
  ·have : c = 0 ∨ c = 1 := by simp [qy] at hc; omega
   rcases this with rfl | rfl <;> (intro k hk; simp [qy, ah] at hk)
 ·intro k hk
  simp only [qy]
  rw [if_neg (by omega), if_neg (fun h => by have := n1 k h; omega), if_neg (fun h => by have := n2 k h; omega), if_neg (by omega), if_neg (by omega)]
  simp
theorem Sv.Ok.bare : Sv.bare.Ok 0 := by
 have hT : TRep (Tr.fresh.dZ 0) 0 [] 0 := by
  have := TRep.fresh.grow 0 (by omega)
  exact this
 have hH : (Hp.none_.dZ 1) = Hp.none_.growBy 1 := rfl
 refine ⟨by decide, ⟨[], hT⟩, ?_, rfl, rfl, rfl, by decide, fun c k hk => ?_, by decide, fun j x hx => ?_, fun j => ?_, fun j => ?_, by decide, fun v => ?_⟩
 ·show HI (Hp.none_.dZ 1)
  rw [hH]
  exact HI.none_.grow 1
 ·have : k ∈ ([[], []] : List (List Nat))[c]! := hk
  rcases c with _ | _ | c
  ·simp at this
  ·simp at this
  ·exact absurd (show k ∈ ([] : List Nat) from this) cG
 ·have e : Sv.bare.rc j = ⟨[], false, 0⟩ := Sv.oh (bV j)
  rw [e] at hx
  simp at hx
 ·have e : Sv.bare.rc j = ⟨[], false, 0⟩ := Sv.oh (bV j)
  rw [e]
  simp
 ·have e : Sv.bare.rc j = ⟨[], false, 0⟩ := Sv.oh (bV j)
  rw [e]
  simp
 ·have := hT.eD v
  show 0 ≤ (Tr.fresh.dZ 0).eD v ∧ (Tr.fresh.dZ 0).eD v ≤ _
  rw [this]
  simp [look]
theorem tF (W : World) (z : Int) (h0 : 0 ≤ z) (h1 : z ≤ 1099511627776) :
  (Instr.makeSlice 28 (.int .i64 z) (.int .i64 z)).run Tryz.prog W = .ok (.slice (some ⟨W.heap.size, 0, none⟩) z.toNat z.toNat) (W.alloc (.cells (madeCells #[.slice none 0 0] z.toNat) 22)) := by
 obtain ⟨i0, hi, vK, ow, Co⟩ := info_parts Au
 obtain ⟨n, rfl⟩ := Int.eq_ofNat_of_zero_le h0
 have hr := run_make (P := Tryz.prog) W 28 22 i0 (.slice none 0 0) Tryz.underlying28 hi vK .i64 .i64 n n (by omega) (kf _) (by rw [Co]; omega) (by omega)
 simp only [Int.toNat_natCast] at hr ⊢
 rw [ow, Nat.mul_one] at hr
 exact hr
theorem OR (W : World) : qa (W.alloc (.cells (madeCells #[.slice none 0 0] 2) 22)) (some ⟨W.heap.size, 0, none⟩) 2 [⟨none, 0, []⟩, ⟨none, 0, []⟩] := by
 have := World.ownsRow_lit (base := 0) (e := 22) (size := 1) W (madeCells #[.slice none 0 0] 2) 2 (bV _) (by decide) (by rw [size_madeCells])
 rw [toList_madeCells_one] at this
 exact this
theorem OS (W : World) : Bools (W.alloc (.cells (madeCells #[.bool false] 1) 4)) (some ⟨W.heap.size, 0, none⟩) 1 [false] := ot W 1 (by decide)
theorem bf {w w' : World} {A : Option Addr} {c : Nat} {l : List Bool} (h : Bools w A c l) (hf : Fr [] w w') : Bools w' A c l := dX h hf (by simp)
theorem bz {w w' : World} {A : Option Addr} {c : Nat} {l : List Wl} (h : qa w A c l) (hf : Fr [] w w') : qa w' A c l := dX h hf (by simp)
def Y9 (S : Sv) (w : World) (e : Ending) (w' : World) : Prop := ∃ L : aH, e = .returned (.pointer (some ⟨L.a, 0, none⟩)) ∧ aK w' L S ∧ (∀ k, k < w.heap.size → (L.cv k).1 ≠ L.id) ∧ Fr [] w w'
theorem i7 (w : World) (o : Obj) : (w.alloc o).heap.size = w.heap.size + 1 := by simp
theorem i6 (w : World) : w.drew.heap.size = w.heap.size := rfl
theorem OP {w cur : World} (h : (fun w' : World => Fr [] w w') cur) : qa (cur.alloc (.cells (madeCells #[.slice none 0 0] 2) 22)) (some ⟨cur.heap.size, 0, none⟩) 2 [⟨none, 0, []⟩, ⟨none, 0, []⟩] ∧ Fr [] cur (cur.alloc (.cells (madeCells #[.slice none 0 0] 2) 22)) := ⟨OR cur, aP _ _⟩
theorem OQ {w cur : World} (h : (fun w' : World => Fr [] w w') cur) : Bools (cur.alloc (.cells (madeCells #[.bool false] 1) 4)) (some ⟨cur.heap.size, 0, none⟩) 1 [false] ∧ Fr [] cur (cur.alloc (.cells (madeCells #[.bool false] 1) 4)) := ⟨OS cur, aP _ _⟩
theorem eQ {w W : World} {L9 : aH} (h9 : aK W L9 Sv.bare) (lP : ∀ k, k < w.heap.size → (L9.cv k).1 ≠ L9.id) (hF : Fr [] w W) (n : Nat) (hn : n ≤ 262143) :
  Calls Tryz.prog 99 #[.pointer (some ⟨L9.a, 0, none⟩), .int .i64 (n : Int)] W fun e w8 => e = .returned (.tuple #[]) ∧ Y9 (Sv.bare.grow n) w (.returned (.pointer (some ⟨L9.a, 0, none⟩))) w8 := by
 refine (EB _ L9 Sv.bare h9 Sv.Ok.bare n (by show 0 + n ≤ _; omega)).mono ?_
 rintro e w8 ⟨rfl, L8, h8, Qb, kh⟩
 refine ⟨rfl, L8, by rw [Qb.1], h8, fun k hk e => lP k hk (Qb.2.2 k (aQ hk hF.size) (e.trans Qb.2.1)), hF.trans kh (fun k hk => ?_)⟩
 rw [aH.bI] at hk
 rcases bl k w.heap.size with hl | hl
 ·exact absurd hk.2 (lP k hl)
 ·exact .inr hl
set_option maxRecDepth 100000 in
set_option maxHeartbeats 16000000 in
theorem GY (w : World) (vars : Int) (NY : -9223372036854775808 ≤ vars) (hv1 : vars ≤ 9223372036854775807) : Calls Tryz.prog 69 #[.int .i64 vars] w (Y9 (Sv.new vars) w) := by
 have KT := aa (fun W => GK W 0)
 have KH := aa (fun W => LV W 1)
 have rr := fun W => tF W 2 (by omega) (by omega)
 have lX := fun W => j9 W 1 (by omega) (by omega)
 simp only [show (2 : Int).toNat = 2 from rfl] at rr
 simp only [show (1 : Int).toNat = 1 from rfl] at lX
 obtain ⟨n, hn⟩ : ∃ n : Nat, (min (max vars 0) 262143).toNat = n := ⟨_, rfl⟩
 have jZ : n ≤ 262143 := by omega
 have zm : Hid (Sv.new vars = Sv.bare.grow n) := by show _ = _; unfold Sv.new; rw [hn]
 have ke : Hid (min (max vars 0) 262143 = (n : Int)) := by show _ = _; omega
 clear hn
 go_enter Tryz.func69, Tryz.ntmps69
 go_upto_region 1 with fail
 refine wp_region_noPanic ?_
 refine bj (fun w' : World => Fr [] w w') 5 (by kernel_rfl) ((Fr.refl [] w).drew) (fun dd => ?_)
 have ap := dd.resolve_left (by decide)
 refine bp (rs := [0, 2, 3]) (by kernel_rfl) (by simp) ?_
 refine aU.cons (o := ?ahx) ?TH ?Ht ?_
 case TH => rfl
 case Ht =>
  intro K hK
  (go_simp; refine (KT.out _).mono ?_; rintro e w5 ⟨tL, rfl, ht, hn, hf⟩; (try have HT := aa (HT.out.fr hf (by simp))); (try have HP := aa (HP.out.fr hf (by simp))); (try have dT := aa (bz dT.out hf)); (try have dG := aa (bf dG.out hf)); have nF := hf.size; have dR := aa (ap.ag hf); have nX := aa (show ∀ k, k ∈ tL.fp → _ ∧ k < w5.heap.size from fun k hk => ⟨hn k hk, ht.lt k hk⟩); have HT := aa ht; clear ht hn; dsimp only)
  refine hK.out _ _ (.inr ?_) (fun RW => ?_)
  ·first | exact dR.out | exact ap.alloc _ | exact ap
  clear hK K
  try simp only [Act.put, q5, q6, q7]
  have ap := RW.resolve_left (by decide)
  refine bp (rs := [1, 2, 3]) (by kernel_rfl) (by simp) ?_
  refine aU.cons (o := ?ahw) ?TG ?Hs ?_
  case TG => rfl
  case Hs =>
   intro K hK
   (go_simp; refine (KH.out _).mono ?_; rintro e w5 ⟨hL, rfl, ht, hm, hn, hf⟩; (try have HT := aa (HT.out.fr hf (by simp))); (try have HP := aa (HP.out.fr hf (by simp))); (try have dT := aa (bz dT.out hf)); (try have dG := aa (bf dG.out hf)); have nF := hf.size; have dR := aa (ap.ag hf); have iY := aa (show ∀ k, k ∈ hL.fp → _ ∧ k < w5.heap.size from fun k hk => ⟨hn k hk, ht.lt k hk⟩); have HP := aa ht; have td := aa hm; clear ht hn hm; dsimp only)
   refine hK.out _ _ (.inr ?_) (fun IC => ?_)
   ·first | exact dR.out | exact ap.alloc _ | exact ap
   clear hK K
   try simp only [Act.put, q5, q6, q7]
   have ap := IC.resolve_left (by decide)
   refine bp (rs := [2, 3]) (by kernel_rfl) (by simp) ?_
   refine aU.cons (o := ?ahv) ?TF ?Hr ?_
   case TF => rfl
   case Hr =>
    intro K hK
    (obtain ⟨lO, hf⟩ := OP ap; (try have HT := aa (HT.out.fr hf (by simp))); (try have HP := aa (HP.out.fr hf (by simp))); (try have dT := aa (bz dT.out hf)); (try have dG := aa (bf dG.out hf)); have nF := hf.size; have dT := aa lO; have dR := aa (ap.ag hf); clear lO; go_simp)
    refine hK.out _ _ (.inr ?_) (fun uv => ?_)
    ·first | exact dR.out | exact ap.alloc _ | exact ap
    clear hK K
    try simp only [Act.put, q5, q6, q7]
    refine R2 3 (by kernel_rfl) (by rfl) uv fun K hK ap => ?_
    (obtain ⟨oG, hf⟩ := OQ ap; (try have HT := aa (HT.out.fr hf (by simp))); (try have HP := aa (HP.out.fr hf (by simp))); (try have dT := aa (bz dT.out hf)); (try have dG := aa (bf dG.out hf)); have nF := hf.size; have dG := aa oG; have dR := aa (ap.ag hf); clear oG; go_simp)
    refine hK.out _ _ (.inr ?_) (fun iR => ?_)
    ·first | exact dR.out | exact ap.alloc _ | exact ap
    clear hK K
    try simp only [Act.put, q5, q6, q7]
    apply TB 1 [(4, [])]; kernel_rfl; rfl; · (repeat (apply ef; rfl; rfl; (· intro w aY; go_simp <;> with_reducible rfl); try simp only [Act.put, q5, q6, q7])); exact ee
    exact iR; intro iR
    refine R2 5 (by kernel_rfl) (by rfl) iR fun K hK ap => ?_
    (go_simp)
    refine hK.out _ _ (.inl rfl) (fun zv => ?_)
    clear hK K
    try simp only [Act.put, q5, q6, q7]
    refine R1 (i := 6) (o := ?ahu) (by kernel_rfl) (by rfl) ?_
    intro K hK
    go_simp
    refine hK.out _ _ (.inl rfl) (fun Cy => ?_)
    clear hK K
    try simp only [Act.put, q5, q6, q7]
    refine az (by kernel_rfl) ?_ _
    refine NoPanic.normal ?_
    have mQ := dR.out.size
    obtain ⟨L9, jz, jA, lP, jB⟩ := aK.make HT.out HP.out td.out dT.out dG.out w.heap.size mQ (by refine ⟨?_, ?_, ?_, ?_, ?_, ?_, ?_, ?_, ?_, ?_⟩ <;> ((try intro a1); (try intro a2); (try intro a3); (try have b1 := nX.out _ a1); (try have b2 := nX.out _ a2); (try have b3 := iY.out _ a1); (try have b4 := iY.out _ a2); (try have b5 := iY.out _ a3); (try simp only [i7, i6] at *); omega))
    (try simp only [i7, i6] at jA jz jB)
    have KG := eQ (w := w) jA lP (dR.out.ag jB) n jZ
    rw [jz, ← zm.out] at KG
    have KG := aa KG
    clear jA jz lP mQ jB rr lX
    by_cases h0 : vars < 0
    ·obtain rfl : n = 0 := by have := ke.out; omega
     go_wp2_with fail
     refine KG.out.mono ?_
     rintro e w8 ⟨rfl, hN⟩
     have FF := aa hN
     clear hN KG
     go_wp2_with fail
     go_ret
     exact FF.out
    ·have F6 : (0 : Int) ≤ vars := by omega
     by_cases h1 : 262143 < vars
     ·obtain rfl : n = 262143 := by have := ke.out; omega
      go_wp2_with fail
      refine KG.out.mono ?_
      rintro e w8 ⟨rfl, hN⟩
      have FF := aa hN
      clear hN KG
      go_wp2_with fail
      go_ret
      exact FF.out
     ·obtain rfl : vars = (n : Int) := by have := ke.out; omega
      have vy : (n : Int) ≤ 262143 := by omega
      go_wp2_with fail
      refine KG.out.mono ?_
      rintro e w8 ⟨rfl, hN⟩
      have FF := aa hN
      clear hN KG
      go_wp2_with fail
      go_ret
      exact FF.out
   refine aU.cons (o := ?aht) ?TE ?VT aU.nil
   case TE => rfl
   intro K hK
   (obtain ⟨oG, hf⟩ := OQ ap; (try have HT := aa (HT.out.fr hf (by simp))); (try have HP := aa (HP.out.fr hf (by simp))); (try have dT := aa (bz dT.out hf)); (try have dG := aa (bf dG.out hf)); have nF := hf.size; have dG := aa oG; have dR := aa (ap.ag hf); clear oG; go_simp)
   refine hK.out _ _ (.inr ?_) (fun uv => ?_)
   ·first | exact dR.out | exact ap.alloc _ | exact ap
   clear hK K
   try simp only [Act.put, q5, q6, q7]
   refine R2 2 (by kernel_rfl) (by rfl) uv fun K hK ap => ?_
   (obtain ⟨lO, hf⟩ := OP ap; (try have HT := aa (HT.out.fr hf (by simp))); (try have HP := aa (HP.out.fr hf (by simp))); (try have dT := aa (bz dT.out hf)); (try have dG := aa (bf dG.out hf)); have nF := hf.size; have dT := aa lO; have dR := aa (ap.ag hf); clear lO; go_simp)
   refine hK.out _ _ (.inr ?_) (fun iR => ?_)
   ·first | exact dR.out | exact ap.alloc _ | exact ap
   clear hK K
   try simp only [Act.put, q5, q6, q7]
   apply TB 1 [(4, [])]; kernel_rfl; rfl; · (repeat (apply ef; rfl; rfl; (· intro w aY; go_simp <;> with_reducible rfl); try simp only [Act.put, q5, q6, q7])); exact ee
   exact iR; intro iR
   refine R2 5 (by kernel_rfl) (by rfl) iR fun K hK ap => ?_
   (go_simp)
   refine hK.out _ _ (.inl rfl) (fun zv => ?_)
   clear hK K
   try simp only [Act.put, q5, q6, q7]
   refine R1 (i := 6) (o := ?ac6) (by kernel_rfl) (by rfl) ?_
   intro K hK
   go_simp
   refine hK.out _ _ (.inl rfl) (fun Cy => ?_)
   clear hK K
   try simp only [Act.put, q5, q6, q7]
   refine az (by kernel_rfl) ?_ _
   refine NoPanic.normal ?_
   have mQ := dR.out.size
   obtain ⟨L9, jz, jA, lP, jB⟩ := aK.make HT.out HP.out td.out dT.out dG.out w.heap.size mQ (by refine ⟨?_, ?_, ?_, ?_, ?_, ?_, ?_, ?_, ?_, ?_⟩ <;> ((try intro a1); (try intro a2); (try intro a3); (try have b1 := nX.out _ a1); (try have b2 := nX.out _ a2); (try have b3 := iY.out _ a1); (try have b4 := iY.out _ a2); (try have b5 := iY.out _ a3); (try simp only [i7, i6] at *); omega))
   (try simp only [i7, i6] at jA jz jB)
   have KG := eQ (w := w) jA lP (dR.out.ag jB) n jZ
   rw [jz, ← zm.out] at KG
   have KG := aa KG
   clear jA jz lP mQ jB rr lX
   by_cases h0 : vars < 0
   ·obtain rfl : n = 0 := by have := ke.out; omega
    go_wp2_with fail
    refine KG.out.mono ?_
    rintro e w8 ⟨rfl, hN⟩
    have FF := aa hN
    clear hN KG
    go_wp2_with fail
    go_ret
    exact FF.out
   ·have F6 : (0 : Int) ≤ vars := by omega
    by_cases h1 : 262143 < vars
    ·obtain rfl : n = 262143 := by have := ke.out; omega
     go_wp2_with fail
     refine KG.out.mono ?_
     rintro e w8 ⟨rfl, hN⟩
     have FF := aa hN
     clear hN KG
     go_wp2_with fail
     go_ret
     exact FF.out
    ·obtain rfl : vars = (n : Int) := by have := ke.out; omega
     have vy : (n : Int) ≤ 262143 := by omega
     go_wp2_with fail
     refine KG.out.mono ?_
     rintro e w8 ⟨rfl, hN⟩
     have FF := aa hN
     clear hN KG
     go_wp2_with fail
     go_ret
     exact FF.out
  refine aU.cons (o := ?ac5) ?PQ ?DT ?_
  case PQ => rfl
  case DT =>
   intro K hK
   (obtain ⟨lO, hf⟩ := OP ap; (try have HT := aa (HT.out.fr hf (by simp))); (try have HP := aa (HP.out.fr hf (by simp))); (try have dT := aa (bz dT.out hf)); (try have dG := aa (bf dG.out hf)); have nF := hf.size; have dT := aa lO; have dR := aa (ap.ag hf); clear lO; go_simp)
   refine hK.out _ _ (.inr ?_) (fun IC => ?_)
   ·first | exact dR.out | exact ap.alloc _ | exact ap
   clear hK K
   try simp only [Act.put, q5, q6, q7]
   have ap := IC.resolve_left (by decide)
   refine bp (rs := [1, 3]) (by kernel_rfl) (by simp) ?_
   refine aU.cons (o := ?ac4) ?PO ?DR ?_
   case PO => rfl
   case DR =>
    intro K hK
    (go_simp; refine (KH.out _).mono ?_; rintro e w5 ⟨hL, rfl, ht, hm, hn, hf⟩; (try have HT := aa (HT.out.fr hf (by simp))); (try have HP := aa (HP.out.fr hf (by simp))); (try have dT := aa (bz dT.out hf)); (try have dG := aa (bf dG.out hf)); have nF := hf.size; have dR := aa (ap.ag hf); have iY := aa (show ∀ k, k ∈ hL.fp → _ ∧ k < w5.heap.size from fun k hk => ⟨hn k hk, ht.lt k hk⟩); have HP := aa ht; have td := aa hm; clear ht hn hm; dsimp only)
    refine hK.out _ _ (.inr ?_) (fun uv => ?_)
    ·first | exact dR.out | exact ap.alloc _ | exact ap
    clear hK K
    try simp only [Act.put, q5, q6, q7]
    refine R2 3 (by kernel_rfl) (by rfl) uv fun K hK ap => ?_
    (obtain ⟨oG, hf⟩ := OQ ap; (try have HT := aa (HT.out.fr hf (by simp))); (try have HP := aa (HP.out.fr hf (by simp))); (try have dT := aa (bz dT.out hf)); (try have dG := aa (bf dG.out hf)); have nF := hf.size; have dG := aa oG; have dR := aa (ap.ag hf); clear oG; go_simp)
    refine hK.out _ _ (.inr ?_) (fun iR => ?_)
    ·first | exact dR.out | exact ap.alloc _ | exact ap
    clear hK K
    try simp only [Act.put, q5, q6, q7]
    apply TB 1 [(4, [])]; kernel_rfl; rfl; · (repeat (apply ef; rfl; rfl; (· intro w aY; go_simp <;> with_reducible rfl); try simp only [Act.put, q5, q6, q7])); exact ee
    exact iR; intro iR
    refine R2 5 (by kernel_rfl) (by rfl) iR fun K hK ap => ?_
    (go_simp)
    refine hK.out _ _ (.inl rfl) (fun zv => ?_)
    clear hK K
    try simp only [Act.put, q5, q6, q7]
    refine R1 (i := 6) (o := ?ac3) (by kernel_rfl) (by rfl) ?_
    intro K hK
    go_simp
    refine hK.out _ _ (.inl rfl) (fun Cy => ?_)
    clear hK K
    try simp only [Act.put, q5, q6, q7]
    refine az (by kernel_rfl) ?_ _
    refine NoPanic.normal ?_
    have mQ := dR.out.size
    obtain ⟨L9, jz, jA, lP, jB⟩ := aK.make HT.out HP.out td.out dT.out dG.out w.heap.size mQ (by refine ⟨?_, ?_, ?_, ?_, ?_, ?_, ?_, ?_, ?_, ?_⟩ <;> ((try intro a1); (try intro a2); (try intro a3); (try have b1 := nX.out _ a1); (try have b2 := nX.out _ a2); (try have b3 := iY.out _ a1); (try have b4 := iY.out _ a2); (try have b5 := iY.out _ a3); (try simp only [i7, i6] at *); omega))
    (try simp only [i7, i6] at jA jz jB)
    have KG := eQ (w := w) jA lP (dR.out.ag jB) n jZ
    rw [jz, ← zm.out] at KG
    have KG := aa KG
    clear jA jz lP mQ jB rr lX
    by_cases h0 : vars < 0
    ·obtain rfl : n = 0 := by have := ke.out; omega
     go_wp2_with fail
     refine KG.out.mono ?_
     rintro e w8 ⟨rfl, hN⟩
     have FF := aa hN
     clear hN KG
     go_wp2_with fail
     go_ret
     exact FF.out
    ·have F6 : (0 : Int) ≤ vars := by omega
     by_cases h1 : 262143 < vars
     ·obtain rfl : n = 262143 := by have := ke.out; omega
      go_wp2_with fail
      refine KG.out.mono ?_
      rintro e w8 ⟨rfl, hN⟩
      have FF := aa hN
      clear hN KG
      go_wp2_with fail
      go_ret
      exact FF.out
     ·obtain rfl : vars = (n : Int) := by have := ke.out; omega
      have vy : (n : Int) ≤ 262143 := by omega
      go_wp2_with fail
      refine KG.out.mono ?_
      rintro e w8 ⟨rfl, hN⟩
      have FF := aa hN
      clear hN KG
      go_wp2_with fail
      go_ret
      exact FF.out
   refine aU.cons (o := ?ac2) ?PN ?Tv aU.nil
   case PN => rfl
   intro K hK
   (obtain ⟨oG, hf⟩ := OQ ap; (try have HT := aa (HT.out.fr hf (by simp))); (try have HP := aa (HP.out.fr hf (by simp))); (try have dT := aa (bz dT.out hf)); (try have dG := aa (bf dG.out hf)); have nF := hf.size; have dG := aa oG; have dR := aa (ap.ag hf); clear oG; go_simp)
   refine hK.out _ _ (.inr ?_) (fun uv => ?_)
   ·first | exact dR.out | exact ap.alloc _ | exact ap
   clear hK K
   try simp only [Act.put, q5, q6, q7]
   refine R2 1 (by kernel_rfl) (by rfl) uv fun K hK ap => ?_
   (go_simp; refine (KH.out _).mono ?_; rintro e w5 ⟨hL, rfl, ht, hm, hn, hf⟩; (try have HT := aa (HT.out.fr hf (by simp))); (try have HP := aa (HP.out.fr hf (by simp))); (try have dT := aa (bz dT.out hf)); (try have dG := aa (bf dG.out hf)); have nF := hf.size; have dR := aa (ap.ag hf); have iY := aa (show ∀ k, k ∈ hL.fp → _ ∧ k < w5.heap.size from fun k hk => ⟨hn k hk, ht.lt k hk⟩); have HP := aa ht; have td := aa hm; clear ht hn hm; dsimp only)
   refine hK.out _ _ (.inr ?_) (fun iR => ?_)
   ·first | exact dR.out | exact ap.alloc _ | exact ap
   clear hK K
   try simp only [Act.put, q5, q6, q7]
   apply TB 1 [(4, [])]; kernel_rfl; rfl; · (repeat (apply ef; rfl; rfl; (· intro w aY; go_simp <;> with_reducible rfl); try simp only [Act.put, q5, q6, q7])); exact ee
   exact iR; intro iR
   refine R2 5 (by kernel_rfl) (by rfl) iR fun K hK ap => ?_
   (go_simp)
   refine hK.out _ _ (.inl rfl) (fun zv => ?_)
   clear hK K
   try simp only [Act.put, q5, q6, q7]
   refine R1 (i := 6) (o := ?ac1) (by kernel_rfl) (by rfl) ?_
   intro K hK
   go_simp
   refine hK.out _ _ (.inl rfl) (fun Cy => ?_)
   clear hK K
   try simp only [Act.put, q5, q6, q7]
   refine az (by kernel_rfl) ?_ _
   refine NoPanic.normal ?_
   have mQ := dR.out.size
   obtain ⟨L9, jz, jA, lP, jB⟩ := aK.make HT.out HP.out td.out dT.out dG.out w.heap.size mQ (by refine ⟨?_, ?_, ?_, ?_, ?_, ?_, ?_, ?_, ?_, ?_⟩ <;> ((try intro a1); (try intro a2); (try intro a3); (try have b1 := nX.out _ a1); (try have b2 := nX.out _ a2); (try have b3 := iY.out _ a1); (try have b4 := iY.out _ a2); (try have b5 := iY.out _ a3); (try simp only [i7, i6] at *); omega))
   (try simp only [i7, i6] at jA jz jB)
   have KG := eQ (w := w) jA lP (dR.out.ag jB) n jZ
   rw [jz, ← zm.out] at KG
   have KG := aa KG
   clear jA jz lP mQ jB rr lX
   by_cases h0 : vars < 0
   ·obtain rfl : n = 0 := by have := ke.out; omega
    go_wp2_with fail
    refine KG.out.mono ?_
    rintro e w8 ⟨rfl, hN⟩
    have FF := aa hN
    clear hN KG
    go_wp2_with fail
    go_ret
    exact FF.out
   ·have F6 : (0 : Int) ≤ vars := by omega
    by_cases h1 : 262143 < vars
    ·obtain rfl : n = 262143 := by have := ke.out; omega
     go_wp2_with fail
     refine KG.out.mono ?_
     rintro e w8 ⟨rfl, hN⟩
     have FF := aa hN
     clear hN KG
     go_wp2_with fail
     go_ret
     exact FF.out
    ·obtain rfl : vars = (n : Int) := by have := ke.out; omega
     have vy : (n : Int) ≤ 262143 := by omega
     go_wp2_with fail
     refine KG.out.mono ?_
     rintro e w8 ⟨rfl, hN⟩
     have FF := aa hN
     clear hN KG
     go_wp2_with fail
     go_ret
     exact FF.out
  refine aU.cons (o := ?ac0) ?PM ?Tu aU.nil
  case PM => rfl
  intro K hK
  (obtain ⟨oG, hf⟩ := OQ ap; (try have HT := aa (HT.out.fr hf (by simp))); (try have HP := aa (HP.out.fr hf (by simp))); (try have dT := aa (bz dT.out hf)); (try have dG := aa (bf dG.out hf)); have nF := hf.size; have dG := aa oG; have dR := aa (ap.ag hf); clear oG; go_simp)
  refine hK.out _ _ (.inr ?_) (fun IC => ?_)
  ·first | exact dR.out | exact ap.alloc _ | exact ap
  clear hK K
  try simp only [Act.put, q5, q6, q7]
  have ap := IC.resolve_left (by decide)
  refine bp (rs := [1, 2]) (by kernel_rfl) (by simp) ?_
  refine aU.cons (o := ?acZ) ?PJ ?DQ ?_
  case PJ => rfl
  case DQ =>
   intro K hK
   (go_simp; refine (KH.out _).mono ?_; rintro e w5 ⟨hL, rfl, ht, hm, hn, hf⟩; (try have HT := aa (HT.out.fr hf (by simp))); (try have HP := aa (HP.out.fr hf (by simp))); (try have dT := aa (bz dT.out hf)); (try have dG := aa (bf dG.out hf)); have nF := hf.size; have dR := aa (ap.ag hf); have iY := aa (show ∀ k, k ∈ hL.fp → _ ∧ k < w5.heap.size from fun k hk => ⟨hn k hk, ht.lt k hk⟩); have HP := aa ht; have td := aa hm; clear ht hn hm; dsimp only)
   refine hK.out _ _ (.inr ?_) (fun uv => ?_)
   ·first | exact dR.out | exact ap.alloc _ | exact ap
   clear hK K
   try simp only [Act.put, q5, q6, q7]
   refine R2 2 (by kernel_rfl) (by rfl) uv fun K hK ap => ?_
   (obtain ⟨lO, hf⟩ := OP ap; (try have HT := aa (HT.out.fr hf (by simp))); (try have HP := aa (HP.out.fr hf (by simp))); (try have dT := aa (bz dT.out hf)); (try have dG := aa (bf dG.out hf)); have nF := hf.size; have dT := aa lO; have dR := aa (ap.ag hf); clear lO; go_simp)
   refine hK.out _ _ (.inr ?_) (fun iR => ?_)
   ·first | exact dR.out | exact ap.alloc _ | exact ap
   clear hK K
   try simp only [Act.put, q5, q6, q7]
   apply TB 1 [(4, [])]; kernel_rfl; rfl; · (repeat (apply ef; rfl; rfl; (· intro w aY; go_simp <;> with_reducible rfl); try simp only [Act.put, q5, q6, q7])); exact ee
   exact iR; intro iR
   refine R2 5 (by kernel_rfl) (by rfl) iR fun K hK ap => ?_
   (go_simp)
   refine hK.out _ _ (.inl rfl) (fun zv => ?_)
   clear hK K
   try simp only [Act.put, q5, q6, q7]
   refine R1 (i := 6) (o := ?acY) (by kernel_rfl) (by rfl) ?_
   intro K hK
   go_simp
   refine hK.out _ _ (.inl rfl) (fun Cy => ?_)
   clear hK K
   try simp only [Act.put, q5, q6, q7]
   refine az (by kernel_rfl) ?_ _
   refine NoPanic.normal ?_
   have mQ := dR.out.size
   obtain ⟨L9, jz, jA, lP, jB⟩ := aK.make HT.out HP.out td.out dT.out dG.out w.heap.size mQ (by refine ⟨?_, ?_, ?_, ?_, ?_, ?_, ?_, ?_, ?_, ?_⟩ <;> ((try intro a1); (try intro a2); (try intro a3); (try have b1 := nX.out _ a1); (try have b2 := nX.out _ a2); (try have b3 := iY.out _ a1); (try have b4 := iY.out _ a2); (try have b5 := iY.out _ a3); (try simp only [i7, i6] at *); omega))
   (try simp only [i7, i6] at jA jz jB)
   have KG := eQ (w := w) jA lP (dR.out.ag jB) n jZ
   rw [jz, ← zm.out] at KG
   have KG := aa KG
   clear jA jz lP mQ jB rr lX
   by_cases h0 : vars < 0
   ·obtain rfl : n = 0 := by have := ke.out; omega
    go_wp2_with fail
    refine KG.out.mono ?_
    rintro e w8 ⟨rfl, hN⟩
    have FF := aa hN
    clear hN KG
    go_wp2_with fail
    go_ret
    exact FF.out
   ·have F6 : (0 : Int) ≤ vars := by omega
    by_cases h1 : 262143 < vars
    ·obtain rfl : n = 262143 := by have := ke.out; omega
     go_wp2_with fail
     refine KG.out.mono ?_
     rintro e w8 ⟨rfl, hN⟩
     have FF := aa hN
     clear hN KG
     go_wp2_with fail
     go_ret
     exact FF.out
    ·obtain rfl : vars = (n : Int) := by have := ke.out; omega
     have vy : (n : Int) ≤ 262143 := by omega
     go_wp2_with fail
     refine KG.out.mono ?_
     rintro e w8 ⟨rfl, hN⟩
     have FF := aa hN
     clear hN KG
     go_wp2_with fail
     go_ret
     exact FF.out
  refine aU.cons (o := ?acX) ?PI ?Tt aU.nil
  case PI => rfl
  intro K hK
  (obtain ⟨lO, hf⟩ := OP ap; (try have HT := aa (HT.out.fr hf (by simp))); (try have HP := aa (HP.out.fr hf (by simp))); (try have dT := aa (bz dT.out hf)); (try have dG := aa (bf dG.out hf)); have nF := hf.size; have dT := aa lO; have dR := aa (ap.ag hf); clear lO; go_simp)
  refine hK.out _ _ (.inr ?_) (fun uv => ?_)
  ·first | exact dR.out | exact ap.alloc _ | exact ap
  clear hK K
  try simp only [Act.put, q5, q6, q7]
  refine R2 1 (by kernel_rfl) (by rfl) uv fun K hK ap => ?_
  (go_simp; refine (KH.out _).mono ?_; rintro e w5 ⟨hL, rfl, ht, hm, hn, hf⟩; (try have HT := aa (HT.out.fr hf (by simp))); (try have HP := aa (HP.out.fr hf (by simp))); (try have dT := aa (bz dT.out hf)); (try have dG := aa (bf dG.out hf)); have nF := hf.size; have dR := aa (ap.ag hf); have iY := aa (show ∀ k, k ∈ hL.fp → _ ∧ k < w5.heap.size from fun k hk => ⟨hn k hk, ht.lt k hk⟩); have HP := aa ht; have td := aa hm; clear ht hn hm; dsimp only)
  refine hK.out _ _ (.inr ?_) (fun iR => ?_)
  ·first | exact dR.out | exact ap.alloc _ | exact ap
  clear hK K
  try simp only [Act.put, q5, q6, q7]
  apply TB 1 [(4, [])]; kernel_rfl; rfl; · (repeat (apply ef; rfl; rfl; (· intro w aY; go_simp <;> with_reducible rfl); try simp only [Act.put, q5, q6, q7])); exact ee
  exact iR; intro iR
  refine R2 5 (by kernel_rfl) (by rfl) iR fun K hK ap => ?_
  (go_simp)
  refine hK.out _ _ (.inl rfl) (fun zv => ?_)
  clear hK K
  try simp only [Act.put, q5, q6, q7]
  refine R1 (i := 6) (o := ?acW) (by kernel_rfl) (by rfl) ?_
  intro K hK
  go_simp
  refine hK.out _ _ (.inl rfl) (fun Cy => ?_)
  clear hK K
  try simp only [Act.put, q5, q6, q7]
  refine az (by kernel_rfl) ?_ _
  refine NoPanic.normal ?_
  have mQ := dR.out.size
  obtain ⟨L9, jz, jA, lP, jB⟩ := aK.make HT.out HP.out td.out dT.out dG.out w.heap.size mQ (by refine ⟨?_, ?_, ?_, ?_, ?_, ?_, ?_, ?_, ?_, ?_⟩ <;> ((try intro a1); (try intro a2); (try intro a3); (try have b1 := nX.out _ a1); (try have b2 := nX.out _ a2); (try have b3 := iY.out _ a1); (try have b4 := iY.out _ a2); (try have b5 := iY.out _ a3); (try simp only [i7, i6] at *); omega))
  (try simp only [i7, i6] at jA jz jB)
  have KG := eQ (w := w) jA lP (dR.out.ag jB) n jZ
  rw [jz, ← zm.out] at KG
  have KG := aa KG
  clear jA jz lP mQ jB rr lX
  by_cases h0 : vars < 0
  ·obtain rfl : n = 0 := by have := ke.out; omega
   go_wp2_with fail
   refine KG.out.mono ?_
   rintro e w8 ⟨rfl, hN⟩
   have FF := aa hN
   clear hN KG
   go_wp2_with fail
   go_ret
   exact FF.out
  ·have F6 : (0 : Int) ≤ vars := by omega
   by_cases h1 : 262143 < vars
   ·obtain rfl : n = 262143 := by have := ke.out; omega
    go_wp2_with fail
    refine KG.out.mono ?_
    rintro e w8 ⟨rfl, hN⟩
    have FF := aa hN
    clear hN KG
    go_wp2_with fail
    go_ret
    exact FF.out
   ·obtain rfl : vars = (n : Int) := by have := ke.out; omega
    have vy : (n : Int) ≤ 262143 := by omega
    go_wp2_with fail
    refine KG.out.mono ?_
    rintro e w8 ⟨rfl, hN⟩
    have FF := aa hN
    clear hN KG
    go_wp2_with fail
    go_ret
    exact FF.out
 refine aU.cons (o := ?acV) ?PH ?DP ?_
 case PH => rfl
 case DP =>
  intro K hK
  (obtain ⟨lO, hf⟩ := OP ap; (try have HT := aa (HT.out.fr hf (by simp))); (try have HP := aa (HP.out.fr hf (by simp))); (try have dT := aa (bz dT.out hf)); (try have dG := aa (bf dG.out hf)); have nF := hf.size; have dT := aa lO; have dR := aa (ap.ag hf); clear lO; go_simp)
  refine hK.out _ _ (.inr ?_) (fun RW => ?_)
  ·first | exact dR.out | exact ap.alloc _ | exact ap
  clear hK K
  try simp only [Act.put, q5, q6, q7]
  have ap := RW.resolve_left (by decide)
  refine bp (rs := [0, 3]) (by kernel_rfl) (by simp) ?_
  refine aU.cons (o := ?acU) ?PG ?DO ?_
  case PG => rfl
  case DO =>
   intro K hK
   (go_simp; refine (KT.out _).mono ?_; rintro e w5 ⟨tL, rfl, ht, hn, hf⟩; (try have HT := aa (HT.out.fr hf (by simp))); (try have HP := aa (HP.out.fr hf (by simp))); (try have dT := aa (bz dT.out hf)); (try have dG := aa (bf dG.out hf)); have nF := hf.size; have dR := aa (ap.ag hf); have nX := aa (show ∀ k, k ∈ tL.fp → _ ∧ k < w5.heap.size from fun k hk => ⟨hn k hk, ht.lt k hk⟩); have HT := aa ht; clear ht hn; dsimp only)
   refine hK.out _ _ (.inr ?_) (fun IC => ?_)
   ·first | exact dR.out | exact ap.alloc _ | exact ap
   clear hK K
   try simp only [Act.put, q5, q6, q7]
   have ap := IC.resolve_left (by decide)
   refine bp (rs := [1, 3]) (by kernel_rfl) (by simp) ?_
   refine aU.cons (o := ?acT) ?PF ?DN ?_
   case PF => rfl
   case DN =>
    intro K hK
    (go_simp; refine (KH.out _).mono ?_; rintro e w5 ⟨hL, rfl, ht, hm, hn, hf⟩; (try have HT := aa (HT.out.fr hf (by simp))); (try have HP := aa (HP.out.fr hf (by simp))); (try have dT := aa (bz dT.out hf)); (try have dG := aa (bf dG.out hf)); have nF := hf.size; have dR := aa (ap.ag hf); have iY := aa (show ∀ k, k ∈ hL.fp → _ ∧ k < w5.heap.size from fun k hk => ⟨hn k hk, ht.lt k hk⟩); have HP := aa ht; have td := aa hm; clear ht hn hm; dsimp only)
    refine hK.out _ _ (.inr ?_) (fun uv => ?_)
    ·first | exact dR.out | exact ap.alloc _ | exact ap
    clear hK K
    try simp only [Act.put, q5, q6, q7]
    refine R2 3 (by kernel_rfl) (by rfl) uv fun K hK ap => ?_
    (obtain ⟨oG, hf⟩ := OQ ap; (try have HT := aa (HT.out.fr hf (by simp))); (try have HP := aa (HP.out.fr hf (by simp))); (try have dT := aa (bz dT.out hf)); (try have dG := aa (bf dG.out hf)); have nF := hf.size; have dG := aa oG; have dR := aa (ap.ag hf); clear oG; go_simp)
    refine hK.out _ _ (.inr ?_) (fun iR => ?_)
    ·first | exact dR.out | exact ap.alloc _ | exact ap
    clear hK K
    try simp only [Act.put, q5, q6, q7]
    apply TB 1 [(4, [])]; kernel_rfl; rfl; · (repeat (apply ef; rfl; rfl; (· intro w aY; go_simp <;> with_reducible rfl); try simp only [Act.put, q5, q6, q7])); exact ee
    exact iR; intro iR
    refine R2 5 (by kernel_rfl) (by rfl) iR fun K hK ap => ?_
    (go_simp)
    refine hK.out _ _ (.inl rfl) (fun zv => ?_)
    clear hK K
    try simp only [Act.put, q5, q6, q7]
    refine R1 (i := 6) (o := ?acS) (by kernel_rfl) (by rfl) ?_
    intro K hK
    go_simp
    refine hK.out _ _ (.inl rfl) (fun Cy => ?_)
    clear hK K
    try simp only [Act.put, q5, q6, q7]
    refine az (by kernel_rfl) ?_ _
    refine NoPanic.normal ?_
    have mQ := dR.out.size
    obtain ⟨L9, jz, jA, lP, jB⟩ := aK.make HT.out HP.out td.out dT.out dG.out w.heap.size mQ (by refine ⟨?_, ?_, ?_, ?_, ?_, ?_, ?_, ?_, ?_, ?_⟩ <;> ((try intro a1); (try intro a2); (try intro a3); (try have b1 := nX.out _ a1); (try have b2 := nX.out _ a2); (try have b3 := iY.out _ a1); (try have b4 := iY.out _ a2); (try have b5 := iY.out _ a3); (try simp only [i7, i6] at *); omega))
    (try simp only [i7, i6] at jA jz jB)
    have KG := eQ (w := w) jA lP (dR.out.ag jB) n jZ
    rw [jz, ← zm.out] at KG
    have KG := aa KG
    clear jA jz lP mQ jB rr lX
    by_cases h0 : vars < 0
    ·obtain rfl : n = 0 := by have := ke.out; omega
     go_wp2_with fail
     refine KG.out.mono ?_
     rintro e w8 ⟨rfl, hN⟩
     have FF := aa hN
     clear hN KG
     go_wp2_with fail
     go_ret
     exact FF.out
    ·have F6 : (0 : Int) ≤ vars := by omega
     by_cases h1 : 262143 < vars
     ·obtain rfl : n = 262143 := by have := ke.out; omega
      go_wp2_with fail
      refine KG.out.mono ?_
      rintro e w8 ⟨rfl, hN⟩
      have FF := aa hN
      clear hN KG
      go_wp2_with fail
      go_ret
      exact FF.out
     ·obtain rfl : vars = (n : Int) := by have := ke.out; omega
      have vy : (n : Int) ≤ 262143 := by omega
      go_wp2_with fail
      refine KG.out.mono ?_
      rintro e w8 ⟨rfl, hN⟩
      have FF := aa hN
      clear hN KG
      go_wp2_with fail
      go_ret
      exact FF.out
   refine aU.cons (o := ?acR) ?PE ?Ts aU.nil
   case PE => rfl
   intro K hK
   (obtain ⟨oG, hf⟩ := OQ ap; (try have HT := aa (HT.out.fr hf (by simp))); (try have HP := aa (HP.out.fr hf (by simp))); (try have dT := aa (bz dT.out hf)); (try have dG := aa (bf dG.out hf)); have nF := hf.size; have dG := aa oG; have dR := aa (ap.ag hf); clear oG; go_simp)
   refine hK.out _ _ (.inr ?_) (fun uv => ?_)
   ·first | exact dR.out | exact ap.alloc _ | exact ap
   clear hK K
   try simp only [Act.put, q5, q6, q7]
   refine R2 1 (by kernel_rfl) (by rfl) uv fun K hK ap => ?_
   (go_simp; refine (KH.out _).mono ?_; rintro e w5 ⟨hL, rfl, ht, hm, hn, hf⟩; (try have HT := aa (HT.out.fr hf (by simp))); (try have HP := aa (HP.out.fr hf (by simp))); (try have dT := aa (bz dT.out hf)); (try have dG := aa (bf dG.out hf)); have nF := hf.size; have dR := aa (ap.ag hf); have iY := aa (show ∀ k, k ∈ hL.fp → _ ∧ k < w5.heap.size from fun k hk => ⟨hn k hk, ht.lt k hk⟩); have HP := aa ht; have td := aa hm; clear ht hn hm; dsimp only)
   refine hK.out _ _ (.inr ?_) (fun iR => ?_)
   ·first | exact dR.out | exact ap.alloc _ | exact ap
   clear hK K
   try simp only [Act.put, q5, q6, q7]
   apply TB 1 [(4, [])]; kernel_rfl; rfl; · (repeat (apply ef; rfl; rfl; (· intro w aY; go_simp <;> with_reducible rfl); try simp only [Act.put, q5, q6, q7])); exact ee
   exact iR; intro iR
   refine R2 5 (by kernel_rfl) (by rfl) iR fun K hK ap => ?_
   (go_simp)
   refine hK.out _ _ (.inl rfl) (fun zv => ?_)
   clear hK K
   try simp only [Act.put, q5, q6, q7]
   refine R1 (i := 6) (o := ?acQ) (by kernel_rfl) (by rfl) ?_
   intro K hK
   go_simp
   refine hK.out _ _ (.inl rfl) (fun Cy => ?_)
   clear hK K
   try simp only [Act.put, q5, q6, q7]
   refine az (by kernel_rfl) ?_ _
   refine NoPanic.normal ?_
   have mQ := dR.out.size
   obtain ⟨L9, jz, jA, lP, jB⟩ := aK.make HT.out HP.out td.out dT.out dG.out w.heap.size mQ (by refine ⟨?_, ?_, ?_, ?_, ?_, ?_, ?_, ?_, ?_, ?_⟩ <;> ((try intro a1); (try intro a2); (try intro a3); (try have b1 := nX.out _ a1); (try have b2 := nX.out _ a2); (try have b3 := iY.out _ a1); (try have b4 := iY.out _ a2); (try have b5 := iY.out _ a3); (try simp only [i7, i6] at *); omega))
   (try simp only [i7, i6] at jA jz jB)
   have KG := eQ (w := w) jA lP (dR.out.ag jB) n jZ
   rw [jz, ← zm.out] at KG
   have KG := aa KG
   clear jA jz lP mQ jB rr lX
   by_cases h0 : vars < 0
   ·obtain rfl : n = 0 := by have := ke.out; omega
    go_wp2_with fail
    refine KG.out.mono ?_
    rintro e w8 ⟨rfl, hN⟩
    have FF := aa hN
    clear hN KG
    go_wp2_with fail
    go_ret
    exact FF.out
   ·have F6 : (0 : Int) ≤ vars := by omega
    by_cases h1 : 262143 < vars
    ·obtain rfl : n = 262143 := by have := ke.out; omega
     go_wp2_with fail
     refine KG.out.mono ?_
     rintro e w8 ⟨rfl, hN⟩
     have FF := aa hN
     clear hN KG
     go_wp2_with fail
     go_ret
     exact FF.out
    ·obtain rfl : vars = (n : Int) := by have := ke.out; omega
     have vy : (n : Int) ≤ 262143 := by omega
     go_wp2_with fail
     refine KG.out.mono ?_
     rintro e w8 ⟨rfl, hN⟩
     have FF := aa hN
     clear hN KG
     go_wp2_with fail
     go_ret
     exact FF.out
  refine aU.cons (o := ?acP) ?PD ?Tq aU.nil
  case PD => rfl
  intro K hK
  (obtain ⟨oG, hf⟩ := OQ ap; (try have HT := aa (HT.out.fr hf (by simp))); (try have HP := aa (HP.out.fr hf (by simp))); (try have dT := aa (bz dT.out hf)); (try have dG := aa (bf dG.out hf)); have nF := hf.size; have dG := aa oG; have dR := aa (ap.ag hf); clear oG; go_simp)
  refine hK.out _ _ (.inr ?_) (fun IC => ?_)
  ·first | exact dR.out | exact ap.alloc _ | exact ap
  clear hK K
  try simp only [Act.put, q5, q6, q7]
  refine R2 0 (by kernel_rfl) (by rfl) IC fun K hK ap => ?_
  (go_simp; refine (KT.out _).mono ?_; rintro e w5 ⟨tL, rfl, ht, hn, hf⟩; (try have HT := aa (HT.out.fr hf (by simp))); (try have HP := aa (HP.out.fr hf (by simp))); (try have dT := aa (bz dT.out hf)); (try have dG := aa (bf dG.out hf)); have nF := hf.size; have dR := aa (ap.ag hf); have nX := aa (show ∀ k, k ∈ tL.fp → _ ∧ k < w5.heap.size from fun k hk => ⟨hn k hk, ht.lt k hk⟩); have HT := aa ht; clear ht hn; dsimp only)
  refine hK.out _ _ (.inr ?_) (fun uv => ?_)
  ·first | exact dR.out | exact ap.alloc _ | exact ap
  clear hK K
  try simp only [Act.put, q5, q6, q7]
  refine R2 1 (by kernel_rfl) (by rfl) uv fun K hK ap => ?_
  (go_simp; refine (KH.out _).mono ?_; rintro e w5 ⟨hL, rfl, ht, hm, hn, hf⟩; (try have HT := aa (HT.out.fr hf (by simp))); (try have HP := aa (HP.out.fr hf (by simp))); (try have dT := aa (bz dT.out hf)); (try have dG := aa (bf dG.out hf)); have nF := hf.size; have dR := aa (ap.ag hf); have iY := aa (show ∀ k, k ∈ hL.fp → _ ∧ k < w5.heap.size from fun k hk => ⟨hn k hk, ht.lt k hk⟩); have HP := aa ht; have td := aa hm; clear ht hn hm; dsimp only)
  refine hK.out _ _ (.inr ?_) (fun iR => ?_)
  ·first | exact dR.out | exact ap.alloc _ | exact ap
  clear hK K
  try simp only [Act.put, q5, q6, q7]
  apply TB 1 [(4, [])]; kernel_rfl; rfl; · (repeat (apply ef; rfl; rfl; (· intro w aY; go_simp <;> with_reducible rfl); try simp only [Act.put, q5, q6, q7])); exact ee
  exact iR; intro iR
  refine R2 5 (by kernel_rfl) (by rfl) iR fun K hK ap => ?_
  (go_simp)
  refine hK.out _ _ (.inl rfl) (fun zv => ?_)
  clear hK K
  try simp only [Act.put, q5, q6, q7]
  refine R1 (i := 6) (o := ?acO) (by kernel_rfl) (by rfl) ?_
  intro K hK
  go_simp
  refine hK.out _ _ (.inl rfl) (fun Cy => ?_)
  clear hK K
  try simp only [Act.put, q5, q6, q7]
  refine az (by kernel_rfl) ?_ _
  refine NoPanic.normal ?_
  have mQ := dR.out.size
  obtain ⟨L9, jz, jA, lP, jB⟩ := aK.make HT.out HP.out td.out dT.out dG.out w.heap.size mQ (by refine ⟨?_, ?_, ?_, ?_, ?_, ?_, ?_, ?_, ?_, ?_⟩ <;> ((try intro a1); (try intro a2); (try intro a3); (try have b1 := nX.out _ a1); (try have b2 := nX.out _ a2); (try have b3 := iY.out _ a1); (try have b4 := iY.out _ a2); (try have b5 := iY.out _ a3); (try simp only [i7, i6] at *); omega))
  (try simp only [i7, i6] at jA jz jB)
  have KG := eQ (w := w) jA lP (dR.out.ag jB) n jZ
  rw [jz, ← zm.out] at KG
  have KG := aa KG
  clear jA jz lP mQ jB rr lX
  by_cases h0 : vars < 0
  ·obtain rfl : n = 0 := by have := ke.out; omega
   go_wp2_with fail
   refine KG.out.mono ?_
   rintro e w8 ⟨rfl, hN⟩
   have FF := aa hN
   clear hN KG
   go_wp2_with fail
   go_ret
   exact FF.out
  ·have F6 : (0 : Int) ≤ vars := by omega
   by_cases h1 : 262143 < vars
   ·obtain rfl : n = 262143 := by have := ke.out; omega
    go_wp2_with fail
    refine KG.out.mono ?_
    rintro e w8 ⟨rfl, hN⟩
    have FF := aa hN
    clear hN KG
    go_wp2_with fail
    go_ret
    exact FF.out
   ·obtain rfl : vars = (n : Int) := by have := ke.out; omega
    have vy : (n : Int) ≤ 262143 := by omega
    go_wp2_with fail
    refine KG.out.mono ?_
    rintro e w8 ⟨rfl, hN⟩
    have FF := aa hN
    clear hN KG
    go_wp2_with fail
    go_ret
    exact FF.out
 refine aU.cons (o := ?acN) ?PB ?Tp aU.nil
 case PB => rfl
 intro K hK
 (obtain ⟨oG, hf⟩ := OQ ap; (try have HT := aa (HT.out.fr hf (by simp))); (try have HP := aa (HP.out.fr hf (by simp))); (try have dT := aa (bz dT.out hf)); (try have dG := aa (bf dG.out hf)); have nF := hf.size; have dG := aa oG; have dR := aa (ap.ag hf); clear oG; go_simp)
 refine hK.out _ _ (.inr ?_) (fun RW => ?_)
 ·first | exact dR.out | exact ap.alloc _ | exact ap
 clear hK K
 try simp only [Act.put, q5, q6, q7]
 have ap := RW.resolve_left (by decide)
 refine bp (rs := [0, 2]) (by kernel_rfl) (by simp) ?_
 refine aU.cons (o := ?acM) ?PA ?DM ?_
 case PA => rfl
 case DM =>
  intro K hK
  (go_simp; refine (KT.out _).mono ?_; rintro e w5 ⟨tL, rfl, ht, hn, hf⟩; (try have HT := aa (HT.out.fr hf (by simp))); (try have HP := aa (HP.out.fr hf (by simp))); (try have dT := aa (bz dT.out hf)); (try have dG := aa (bf dG.out hf)); have nF := hf.size; have dR := aa (ap.ag hf); have nX := aa (show ∀ k, k ∈ tL.fp → _ ∧ k < w5.heap.size from fun k hk => ⟨hn k hk, ht.lt k hk⟩); have HT := aa ht; clear ht hn; dsimp only)
  refine hK.out _ _ (.inr ?_) (fun IC => ?_)
  ·first | exact dR.out | exact ap.alloc _ | exact ap
  clear hK K
  try simp only [Act.put, q5, q6, q7]
  have ap := IC.resolve_left (by decide)
  refine bp (rs := [1, 2]) (by kernel_rfl) (by simp) ?_
  refine aU.cons (o := ?acL) ?Pz ?DL ?_
  case Pz => rfl
  case DL =>
   intro K hK
   (go_simp; refine (KH.out _).mono ?_; rintro e w5 ⟨hL, rfl, ht, hm, hn, hf⟩; (try have HT := aa (HT.out.fr hf (by simp))); (try have HP := aa (HP.out.fr hf (by simp))); (try have dT := aa (bz dT.out hf)); (try have dG := aa (bf dG.out hf)); have nF := hf.size; have dR := aa (ap.ag hf); have iY := aa (show ∀ k, k ∈ hL.fp → _ ∧ k < w5.heap.size from fun k hk => ⟨hn k hk, ht.lt k hk⟩); have HP := aa ht; have td := aa hm; clear ht hn hm; dsimp only)
   refine hK.out _ _ (.inr ?_) (fun uv => ?_)
   ·first | exact dR.out | exact ap.alloc _ | exact ap
   clear hK K
   try simp only [Act.put, q5, q6, q7]
   refine R2 2 (by kernel_rfl) (by rfl) uv fun K hK ap => ?_
   (obtain ⟨lO, hf⟩ := OP ap; (try have HT := aa (HT.out.fr hf (by simp))); (try have HP := aa (HP.out.fr hf (by simp))); (try have dT := aa (bz dT.out hf)); (try have dG := aa (bf dG.out hf)); have nF := hf.size; have dT := aa lO; have dR := aa (ap.ag hf); clear lO; go_simp)
   refine hK.out _ _ (.inr ?_) (fun iR => ?_)
   ·first | exact dR.out | exact ap.alloc _ | exact ap
   clear hK K
   try simp only [Act.put, q5, q6, q7]
   apply TB 1 [(4, [])]; kernel_rfl; rfl; · (repeat (apply ef; rfl; rfl; (· intro w aY; go_simp <;> with_reducible rfl); try simp only [Act.put, q5, q6, q7])); exact ee
   exact iR; intro iR
   refine R2 5 (by kernel_rfl) (by rfl) iR fun K hK ap => ?_
   (go_simp)
   refine hK.out _ _ (.inl rfl) (fun zv => ?_)
   clear hK K
   try simp only [Act.put, q5, q6, q7]
   refine R1 (i := 6) (o := ?acK) (by kernel_rfl) (by rfl) ?_
   intro K hK
   go_simp
   refine hK.out _ _ (.inl rfl) (fun Cy => ?_)
   clear hK K
   try simp only [Act.put, q5, q6, q7]
   refine az (by kernel_rfl) ?_ _
   refine NoPanic.normal ?_
   have mQ := dR.out.size
   obtain ⟨L9, jz, jA, lP, jB⟩ := aK.make HT.out HP.out td.out dT.out dG.out w.heap.size mQ (by refine ⟨?_, ?_, ?_, ?_, ?_, ?_, ?_, ?_, ?_, ?_⟩ <;> ((try intro a1); (try intro a2); (try intro a3); (try have b1 := nX.out _ a1); (try have b2 := nX.out _ a2); (try have b3 := iY.out _ a1); (try have b4 := iY.out _ a2); (try have b5 := iY.out _ a3); (try simp only [i7, i6] at *); omega))
   (try simp only [i7, i6] at jA jz jB)
   have KG := eQ (w := w) jA lP (dR.out.ag jB) n jZ
   rw [jz, ← zm.out] at KG
   have KG := aa KG
   clear jA jz lP mQ jB rr lX
   by_cases h0 : vars < 0
   ·obtain rfl : n = 0 := by have := ke.out; omega
    go_wp2_with fail
    refine KG.out.mono ?_
    rintro e w8 ⟨rfl, hN⟩
    have FF := aa hN
    clear hN KG
    go_wp2_with fail
    go_ret
    exact FF.out
   ·have F6 : (0 : Int) ≤ vars := by omega
    by_cases h1 : 262143 < vars
    ·obtain rfl : n = 262143 := by have := ke.out; omega
     go_wp2_with fail
     refine KG.out.mono ?_
     rintro e w8 ⟨rfl, hN⟩
     have FF := aa hN
     clear hN KG
     go_wp2_with fail
     go_ret
     exact FF.out
    ·obtain rfl : vars = (n : Int) := by have := ke.out; omega
     have vy : (n : Int) ≤ 262143 := by omega
     go_wp2_with fail
     refine KG.out.mono ?_
     rintro e w8 ⟨rfl, hN⟩
     have FF := aa hN
     clear hN KG
     go_wp2_with fail
     go_ret
     exact FF.out
  refine aU.cons (o := ?acJ) ?Py ?To aU.nil
  case Py => rfl
  intro K hK
  (obtain ⟨lO, hf⟩ := OP ap; (try have HT := aa (HT.out.fr hf (by simp))); (try have HP := aa (HP.out.fr hf (by simp))); (try have dT := aa (bz dT.out hf)); (try have dG := aa (bf dG.out hf)); have nF := hf.size; have dT := aa lO; have dR := aa (ap.ag hf); clear lO; go_simp)
  refine hK.out _ _ (.inr ?_) (fun uv => ?_)
  ·first | exact dR.out | exact ap.alloc _ | exact ap
  clear hK K
  try simp only [Act.put, q5, q6, q7]
  refine R2 1 (by kernel_rfl) (by rfl) uv fun K hK ap => ?_
  (go_simp; refine (KH.out _).mono ?_; rintro e w5 ⟨hL, rfl, ht, hm, hn, hf⟩; (try have HT := aa (HT.out.fr hf (by simp))); (try have HP := aa (HP.out.fr hf (by simp))); (try have dT := aa (bz dT.out hf)); (try have dG := aa (bf dG.out hf)); have nF := hf.size; have dR := aa (ap.ag hf); have iY := aa (show ∀ k, k ∈ hL.fp → _ ∧ k < w5.heap.size from fun k hk => ⟨hn k hk, ht.lt k hk⟩); have HP := aa ht; have td := aa hm; clear ht hn hm; dsimp only)
  refine hK.out _ _ (.inr ?_) (fun iR => ?_)
  ·first | exact dR.out | exact ap.alloc _ | exact ap
  clear hK K
  try simp only [Act.put, q5, q6, q7]
  apply TB 1 [(4, [])]; kernel_rfl; rfl; · (repeat (apply ef; rfl; rfl; (· intro w aY; go_simp <;> with_reducible rfl); try simp only [Act.put, q5, q6, q7])); exact ee
  exact iR; intro iR
  refine R2 5 (by kernel_rfl) (by rfl) iR fun K hK ap => ?_
  (go_simp)
  refine hK.out _ _ (.inl rfl) (fun zv => ?_)
  clear hK K
  try simp only [Act.put, q5, q6, q7]
  refine R1 (i := 6) (o := ?acI) (by kernel_rfl) (by rfl) ?_
  intro K hK
  go_simp
  refine hK.out _ _ (.inl rfl) (fun Cy => ?_)
  clear hK K
  try simp only [Act.put, q5, q6, q7]
  refine az (by kernel_rfl) ?_ _
  refine NoPanic.normal ?_
  have mQ := dR.out.size
  obtain ⟨L9, jz, jA, lP, jB⟩ := aK.make HT.out HP.out td.out dT.out dG.out w.heap.size mQ (by refine ⟨?_, ?_, ?_, ?_, ?_, ?_, ?_, ?_, ?_, ?_⟩ <;> ((try intro a1); (try intro a2); (try intro a3); (try have b1 := nX.out _ a1); (try have b2 := nX.out _ a2); (try have b3 := iY.out _ a1); (try have b4 := iY.out _ a2); (try have b5 := iY.out _ a3); (try simp only [i7, i6] at *); omega))
  (try simp only [i7, i6] at jA jz jB)
  have KG := eQ (w := w) jA lP (dR.out.ag jB) n jZ
  rw [jz, ← zm.out] at KG
  have KG := aa KG
  clear jA jz lP mQ jB rr lX
  by_cases h0 : vars < 0
  ·obtain rfl : n = 0 := by have := ke.out; omega
   go_wp2_with fail
   refine KG.out.mono ?_
   rintro e w8 ⟨rfl, hN⟩
   have FF := aa hN
   clear hN KG
   go_wp2_with fail
   go_ret
   exact FF.out
  ·have F6 : (0 : Int) ≤ vars := by omega
   by_cases h1 : 262143 < vars
   ·obtain rfl : n = 262143 := by have := ke.out; omega
    go_wp2_with fail
    refine KG.out.mono ?_
    rintro e w8 ⟨rfl, hN⟩
    have FF := aa hN
    clear hN KG
    go_wp2_with fail
    go_ret
    exact FF.out
   ·obtain rfl : vars = (n : Int) := by have := ke.out; omega
    have vy : (n : Int) ≤ 262143 := by omega
    go_wp2_with fail
    refine KG.out.mono ?_
    rintro e w8 ⟨rfl, hN⟩
    have FF := aa hN
    clear hN KG
    go_wp2_with fail
    go_ret
    exact FF.out
 refine aU.cons (o := ?acH) ?Px ?Tn aU.nil
 case Px => rfl
 intro K hK
 (obtain ⟨lO, hf⟩ := OP ap; (try have HT := aa (HT.out.fr hf (by simp))); (try have HP := aa (HP.out.fr hf (by simp))); (try have dT := aa (bz dT.out hf)); (try have dG := aa (bf dG.out hf)); have nF := hf.size; have dT := aa lO; have dR := aa (ap.ag hf); clear lO; go_simp)
 refine hK.out _ _ (.inr ?_) (fun IC => ?_)
 ·first | exact dR.out | exact ap.alloc _ | exact ap
 clear hK K
 try simp only [Act.put, q5, q6, q7]
 refine R2 0 (by kernel_rfl) (by rfl) IC fun K hK ap => ?_
 (go_simp; refine (KT.out _).mono ?_; rintro e w5 ⟨tL, rfl, ht, hn, hf⟩; (try have HT := aa (HT.out.fr hf (by simp))); (try have HP := aa (HP.out.fr hf (by simp))); (try have dT := aa (bz dT.out hf)); (try have dG := aa (bf dG.out hf)); have nF := hf.size; have dR := aa (ap.ag hf); have nX := aa (show ∀ k, k ∈ tL.fp → _ ∧ k < w5.heap.size from fun k hk => ⟨hn k hk, ht.lt k hk⟩); have HT := aa ht; clear ht hn; dsimp only)
 refine hK.out _ _ (.inr ?_) (fun uv => ?_)
 ·first | exact dR.out | exact ap.alloc _ | exact ap
 clear hK K
 try simp only [Act.put, q5, q6, q7]
 refine R2 1 (by kernel_rfl) (by rfl) uv fun K hK ap => ?_
 (go_simp; refine (KH.out _).mono ?_; rintro e w5 ⟨hL, rfl, ht, hm, hn, hf⟩; (try have HT := aa (HT.out.fr hf (by simp))); (try have HP := aa (HP.out.fr hf (by simp))); (try have dT := aa (bz dT.out hf)); (try have dG := aa (bf dG.out hf)); have nF := hf.size; have dR := aa (ap.ag hf); have iY := aa (show ∀ k, k ∈ hL.fp → _ ∧ k < w5.heap.size from fun k hk => ⟨hn k hk, ht.lt k hk⟩); have HP := aa ht; have td := aa hm; clear ht hn hm; dsimp only)
 refine hK.out _ _ (.inr ?_) (fun iR => ?_)
 ·first | exact dR.out | exact ap.alloc _ | exact ap
 clear hK K
 try simp only [Act.put, q5, q6, q7]
 apply TB 1 [(4, [])]; kernel_rfl; rfl; · (repeat (apply ef; rfl; rfl; (· intro w aY; go_simp <;> with_reducible rfl); try simp only [Act.put, q5, q6, q7])); exact ee
 exact iR; intro iR
 refine R2 5 (by kernel_rfl) (by rfl) iR fun K hK ap => ?_
 (go_simp)
 refine hK.out _ _ (.inl rfl) (fun zv => ?_)
 clear hK K
 try simp only [Act.put, q5, q6, q7]
 refine R1 (i := 6) (o := ?acG) (by kernel_rfl) (by rfl) ?_
 intro K hK
 go_simp
 refine hK.out _ _ (.inl rfl) (fun Cy => ?_)
 clear hK K
 try simp only [Act.put, q5, q6, q7]
 refine az (by kernel_rfl) ?_ _
 refine NoPanic.normal ?_
 have mQ := dR.out.size
 obtain ⟨L9, jz, jA, lP, jB⟩ := aK.make HT.out HP.out td.out dT.out dG.out w.heap.size mQ (by refine ⟨?_, ?_, ?_, ?_, ?_, ?_, ?_, ?_, ?_, ?_⟩ <;> ((try intro a1); (try intro a2); (try intro a3); (try have b1 := nX.out _ a1); (try have b2 := nX.out _ a2); (try have b3 := iY.out _ a1); (try have b4 := iY.out _ a2); (try have b5 := iY.out _ a3); (try simp only [i7, i6] at *); omega))
 (try simp only [i7, i6] at jA jz jB)
 have KG := eQ (w := w) jA lP (dR.out.ag jB) n jZ
 rw [jz, ← zm.out] at KG
 have KG := aa KG
 clear jA jz lP mQ jB rr lX
 by_cases h0 : vars < 0
 ·obtain rfl : n = 0 := by have := ke.out; omega
  go_wp2_with fail
  refine KG.out.mono ?_
  rintro e w8 ⟨rfl, hN⟩
  have FF := aa hN
  clear hN KG
  go_wp2_with fail
  go_ret
  exact FF.out
 ·have F6 : (0 : Int) ≤ vars := by omega
  by_cases h1 : 262143 < vars
  ·obtain rfl : n = 262143 := by have := ke.out; omega
   go_wp2_with fail
   refine KG.out.mono ?_
   rintro e w8 ⟨rfl, hN⟩
   have FF := aa hN
   clear hN KG
   go_wp2_with fail
   go_ret
   exact FF.out
  ·obtain rfl : vars = (n : Int) := by have := ke.out; omega
   have vy : (n : Int) ≤ 262143 := by omega
   go_wp2_with fail
   refine KG.out.mono ?_
   rintro e w8 ⟨rfl, hN⟩
   have FF := aa hN
   clear hN KG
   go_wp2_with fail
   go_ret
   exact FF.out
theorem TRep.canon {T : Tr} {vars : Nat} {R : List St} {d : Nat} (h : TRep T vars R d) : R = T.lits.map fun x => (⟨x, T.cK (tv x), T.eD (tv x)⟩ : St) := by
 rw [h.lits, List.map_map]
 have : ∀ e ∈ R, ((fun x => (⟨x, T.cK (tv x), T.eD (tv x)⟩ : St)) ∘ fun e : St => e.x) e = e := fun e he => by
  simp only [Function.comp_apply]
  rw [h.cK, h.eD, fR h.nd he]
 exact (List.map_id R).symm.trans (List.map_congr_left fun e he => (this e he).symm)
namespace Sv
def R (S : Sv) : List St := S.T.lits.map fun x => (⟨x, S.T.cK (tv x), S.T.eD (tv x)⟩ : St)
theorem Ok.rep {S : Sv} {m : Nat} (ok : S.Ok m) : TRep S.T S.vars S.R S.T.levels.length := by
 obtain ⟨R, hR⟩ := ok.tr
 have := hR.canon
 unfold Sv.R
 rw [← this]
 exact hR
theorem iD (S : Sv) : S.R.length = S.T.lits.length := by simp [R]
theorem UN {S : Sv} {R : List St} {d : Nat} (h : TRep S.T S.vars R d) : S.R = R := h.canon.symm
theorem nv {S S' : Sv} (h : S'.T = S.T) : S'.R = S.R := by unfold R; rw [h]
theorem mW {S : Sv} {m : Nat} (ok : S.Ok m) (x : Int) : 0 < S.val x ↔ ∃ e ∈ S.R, e.x = x := by
 have h := ok.rep
 unfold val
 rw [h.km]
 cases hk : look S.R (tv x) with
 | none =>
  simp only [Int.lt_irrefl, false_iff]
  rintro ⟨e, he, rfl⟩
  exact nc hk e he rfl
 | some e =>
  obtain ⟨h1, h2⟩ := gv hk
  simp only
  constructor
  ·intro h3
   split at h3
   ·rename_i h4; exact ⟨e, h1, h4⟩
   ·omega
  ·rintro ⟨e', eG, rfl⟩
   rw [fR h.nd eG] at hk
   cases hk
   rw [if_pos rfl]
   omega
theorem wH {S : Sv} {m : Nat} (ok : S.Ok m) (x : Int) : S.val x = 0 ∨ S.val x = 1 ∨ S.val x = -1 := by
 have h := ok.rep
 unfold val
 rw [h.km]
 cases look S.R (tv x) with
 | none => exact .inl rfl
 | some e =>
  simp only
  split
  ·exact .inr (.inl rfl)
  ·exact .inr (.inr rfl)
theorem Ot {x y : Int} (h : tv x = tv y) (h1 : 1 ≤ tv x) : x = y ∨ x = -y := by
 unfold tv at h h1
 split at h1
 ·omega
 ·rename_i e1
  rw [if_neg e1] at h
  split at h
  ·split at h
   ·omega
   ·split at h <;> omega
  ·split at h
   ·omega
   ·split at h <;> omega
theorem xL (x : Int) (h : 1 ≤ tv x) (h2 : tv x ≤ 4611686018427387904) : tv (-x) = tv x := by
 have h3 : x = tv x ∨ x = -tv x := by
  unfold tv at *
  split at h
  ·omega
  ·rename_i e1
   rw [if_neg e1]
   split at h
   ·rename_i e2; rw [if_pos e2]; omega
   ·rename_i e2; rw [if_neg e2]; omega
 generalize tv x = t at *
 rcases h3 with rfl | rfl
 ·rw [qm (by omega) (by omega)]; omega
 ·rw [Int.neg_neg, mn (by omega)]
theorem kN {S : Sv} {m : Nat} (ok : S.Ok m) {e : St} (he : e ∈ S.R) : 1 ≤ tv e.x ∧ tv e.x ≤ S.vars ∧ 0 ≤ e.l ∧ e.l ≤ S.T.levels.length := by
 have := ok.rep.bound e he
 exact ⟨this.2.2.1, this.2.2.2, this.1, this.2.1⟩
theorem val_neg {S : Sv} {m : Nat} (ok : S.Ok m) {x : Int} : S.val x < 0 ↔ ∃ e ∈ S.R, e.x = -x := by
 have h := ok.rep
 have nT := ok.vl
 have Jy : ∀ e ∈ S.R, e.x = -x → tv e.x = tv x := fun e he hx => by
  have hb := h.bound e he
  have := xL e.x hb.2.2.1 (by omega)
  rw [← this, hx, Int.neg_neg]
 unfold val
 rw [h.km]
 cases hk : look S.R (tv x) with
 | none =>
  simp only [Int.lt_irrefl, false_iff]
  rintro ⟨e, he, hx⟩
  exact nc hk e he (Jy e he hx)
 | some e =>
  obtain ⟨h1, h2⟩ := gv hk
  have hb := h.bound e h1
  simp only
  constructor
  ·intro h3
   split at h3
   ·omega
   ·rename_i h4
    rcases Ot h2 hb.2.2.1 with h5 | h5
    ·exact absurd h5 h4
    ·exact ⟨e, h1, h5⟩
  ·rintro ⟨e', eG, hx⟩
   have h7 := Jy e' eG hx
   have h8 := fR h.nd eG
   rw [h7, hk] at h8
   cases h8
   rw [if_neg (by
    intro h9
    rw [hx] at h9
    have h10 : x = 0 := by omega
    have h11 := hb.2.2.1
    rw [hx, h10, mn (by omega)] at h11
    omega)]
   omega
theorem lx {S : Sv} {m : Nat} (ok : S.Ok m) {e : St} (he : e ∈ S.R) : S.T.cK (tv e.x) = e.l ∧ S.T.eD (tv e.x) = e.r := by
 have h := ok.rep
 rw [h.cK, h.eD, fR h.nd he]
 exact ⟨rfl, rfl⟩
theorem MY {S : Sv} {m : Nat} (ok : S.Ok m) {x r : Int} (hb : S.T.i8 x = true) : (S.put x r).R = S.R ++ [⟨x, S.T.levels.length, r⟩] := by
 have h := ok.rep.put x r hb
 have e : (S.put x r).T = S.T.mH x r := by unfold put; simp only; rw [if_pos hb]
 have : TRep (S.put x r).T (S.put x r).vars (S.R ++ [⟨x, S.T.levels.length, r⟩]) S.T.levels.length := by
  rw [e]; exact h
 exact UN this
theorem pr {S : Sv} {m : Nat} (ok : S.Ok m) {x : Int} (h1 : 1 ≤ tv x) (h2 : tv x ≤ S.vars) (hv : S.val x = 0) : S.T.i8 x = true := by
 have h := ok.rep
 rw [h.i8]
 simp only [aD, decide_eq_true_eq, Option.isNone_iff_eq_none]
 refine ⟨⟨h1, h2⟩, ?_⟩
 unfold val at hv
 rw [h.km] at hv
 cases hk : look S.R (tv x) with
 | none => rfl
 | some e =>
  rw [hk] at hv
  simp only at hv
  split at hv <;> omega
theorem MZ {S : Sv} {m : Nat} (ok : S.Ok m) : S.deep.R = S.R := by
 have h := ok.rep.deep
 exact UN (S := S.deep) h
theorem UO {S : Sv} {m : Nat} (ok : S.Ok m) (level : Nat) (hl : level < S.T.levels.length) : (S.back level).R = S.R.filter (fun e : St => decide (e.l ≤ (level : Int))) := by
 have h := ok.rep.back level hl
 have hq := ic (level : Int) S.T.lits.reverse S m ok
 have e : (S.back level).T = S.T.cD level ∧ (S.back level).vars = S.vars := by
  unfold back
  rw [if_neg (by omega)]
  exact ⟨by simp only; rw [hq.2.1], hq.2.2.2.1⟩
 refine UN (d := level) ?_
 rw [e.1, e.2]
 exact h
end Sv
def B5 (a : Nat → Bool) (x : Int) : Prop := (a x.natAbs = true ↔ 0 < x)
theorem B5.neg {a : Nat → Bool} {x : Int} (h : x ≠ 0) : B5 a (-x) ↔ ¬ B5 a x := by
 unfold B5
 have h2 : (0 < -x) ↔ ¬ 0 < x := by omega
 rw [Int.natAbs_neg, h2]
 cases a x.natAbs <;> by_cases hp : 0 < x <;> simp [hp]
def Y7 (a : Nat → Bool) (l : List Int) : Prop := ∃ y ∈ l, B5 a y
namespace Sv
def Y8 (S : Sv) : Prop := ∀ A e B, S.R = A ++ e :: B → e.r ≠ 0 → ∃ n : Nat, e.r = (n : Int) + 1 ∧ ∃ ls, (S.rc n).lits = e.x :: ls ∧ ∀ y ∈ ls, ∃ e' ∈ A, e'.x = -y
def Dec (S : Sv) : Prop := ∀ A e B, S.R = A ++ e :: B → e.r = 0 → e.l = 0 ∨ ∀ e' ∈ A, e'.l < e.l
def Hd (S : Sv) : Prop := ∀ e ∈ S.R.drop S.head, e.l = S.T.levels.length
def Sz (S : Sv) (n : Nat) : Prop := (∀ y ∈ (S.rc n).lits, ∃ e ∈ S.R, e.x = -y) ∧ ∃ y ∈ (S.rc n).lits, ∃ e ∈ S.R, e.x = -y ∧ e.l = S.T.levels.length
def Good (S : Sv) (a : Nat → Bool) : Prop := (∀ n : Nat, (S.rc n).lits ≠ [] → Y7 a (S.rc n).lits) ∧ ∀ e ∈ S.R, e.l = 0 → B5 a e.x
def lQ (d : Int) (seen : List Int) (Q : List St) : Nat := Q.countP fun e => decide (e.l = d) && decide (tv e.x ∈ seen)
theorem BJ {d : Int} {seen : List Int} {Q : List St} {v : Int} (h : ∀ e ∈ Q, tv e.x = v → e.l ≠ d) : lQ d (v :: seen) Q = lQ d seen Q := by
 unfold lQ
 apply List.countP_congr
 intro e he
 by_cases hv : tv e.x = v
 ·simp [h e he hv]
 ·simp [hv]
theorem Ge {d : Int} {seen : List Int} {v : Int} : ∀ {Q : List St}, (Q.map fun e : St => tv e.x).Nodup → v ∉ seen → (∃ e ∈ Q, tv e.x = v ∧ e.l = d) → lQ d (v :: seen) Q = lQ d seen Q + 1
 | [], _, _, h => by obtain ⟨e, he, _⟩ := h; cases he
 | e :: Q, hn, hv, h => by
  rw [dW, gW] at hn
  by_cases he : tv e.x = v
  ·have hl : e.l = d := by
    obtain ⟨e', eG, h1, h2⟩ := h
    rcases ay.1 eG with rfl | eG
    ·exact h2
    ·exact absurd (by rw [he, ← h1]; exact List.mem_map_of_mem (f := fun e : St => tv e.x) eG) hn.1
   have h0 : lQ d (v :: seen) Q = lQ d seen Q := BJ (fun e' eG h1 => absurd (by rw [he, ← h1]; exact List.mem_map_of_mem (f := fun e : St => tv e.x) eG) hn.1)
   unfold lQ at *
   rw [List.countP_cons, List.countP_cons, h0]
   simp [hl, he, hv]
  ·have ih := Ge (d := d) hn.2 hv (by
    obtain ⟨e', eG, h1, h2⟩ := h
    rcases ay.1 eG with rfl | eG
    ·exact absurd h1 he
    ·exact ⟨e', eG, h1, h2⟩)
   unfold lQ at *
   rw [List.countP_cons, List.countP_cons, ih]
   simp only [ay, he, false_or]
   omega
theorem Gd {d : Int} {seen : List Int} {Q : List St} (h : 0 < lQ d seen Q) : ∃ e ∈ Q, e.l = d ∧ tv e.x ∈ seen := by
 unfold lQ at h
 rw [List.countP_pos_iff] at h
 obtain ⟨e, he, h1⟩ := h
 simp only [aD, decide_eq_true_eq] at h1
 exact ⟨e, he, h1⟩
structure LI (S : Sv) (d : Int) (G : Gr) (Q D : List St) : Prop where
 split : S.R = Q.reverse ++ D
 T : G.S.T = S.T
 lits : ∀ m, (G.S.rc m).lits = (S.rc m).lits
 fg : G.fg = (lQ d G.seen Q : Nat)
 jI : ∀ y ∈ G.a8.tail, tv y ∈ G.seen ∧ ∃ e ∈ S.R, e.x = -y ∧ 1 ≤ e.l ∧ e.l < d
 low : ∀ e ∈ S.R, tv e.x ∈ G.seen → e.l < d → -e.x ∈ G.a8.tail
 nd : (G.a8.tail.map tv).Nodup
 l0 : 0 < G.a8.length
 pos : ∀ e ∈ S.R, tv e.x ∈ G.seen → 1 ≤ e.l
theorem mU {S : Sv} {m : Nat} (ok : S.Ok m) {e e' : St} (h : e ∈ S.R) (h' : e' ∈ S.R) (ht : tv e.x = tv e'.x) : e = e' := by
 have h1 := fR ok.rep.nd h
 have h2 := fR ok.rep.nd h'
 rw [ht, h2] at h1
 cases h1
 rfl
theorem kb {S : Sv} {m : Nat} (ok : S.Ok m) {e : St} (h : e ∈ S.R) {y : Int} (hy : e.x = -y) : tv y = tv e.x ∧ y = -e.x := by
 have hb := kN ok h
 have hv := ok.vl
 have : y = -e.x := by omega
 exact ⟨by rw [this]; exact xL _ hb.1 (by omega), this⟩
theorem LI.meet {S : Sv} {m : Nat} (ok : S.Ok m) {G : Gr} {Q D : List St} (h : LI S S.T.levels.length G Q D) {y : Int} {e : St} (he : e ∈ Q) (hy : e.x = -y) :
  LI S S.T.levels.length (meet G y) Q D ∧ (∀ v ∈ G.seen, v ∈ (meet G y).seen) ∧ (e.l ≤ 0 ∨ tv y ∈ (meet G y).seen) ∧ (∀ z ∈ G.a8.tail, z ∈ (meet G y).a8.tail) := by
 have hR : e ∈ S.R := by rw [h.split]; exact aW _ (fH.2 he)
 obtain ⟨ht, VP⟩ := kb ok hR hy
 have hl := (lx ok hR).1
 have hrg := kN ok hR
 by_cases h1 : tv y ∈ G.seen ∨ G.S.T.cK (tv y) ≤ 0
 ·rw [ig h1]
  refine ⟨h, fun v hv => hv, ?_, fun z hz => hz⟩
  rcases h1 with h1 | h1
  ·exact .inr h1
  ·left
   rw [h.T, ht, hl] at h1
   exact h1
 ·have LA : tv y ∉ G.seen := fun e => h1 (.inl e)
  have hp : 1 ≤ e.l := by
   have : ¬ G.S.T.cK (tv y) ≤ 0 := fun e => h1 (.inr e)
   rw [h.T, ht, hl] at this
   omega
  have pH : ∀ e' ∈ S.R, tv e'.x ∈ tv y :: G.seen → 1 ≤ e'.l := fun e' eG hs => by
   rcases ay.1 hs with hs | hs
   ·rw [ht] at hs
    rw [mU ok eG hR hs]
    exact hp
   ·exact h.pos e' eG hs
  have adU : (Q.map fun e : St => tv e.x).Nodup := by
   have h5 := ok.rep.nd
   rw [h.split, bP, List.nodup_append, List.map_reverse] at h5
   have h6 := h5.1
   unfold List.Nodup at h6 ⊢
   rw [List.pairwise_reverse] at h6
   exact h6.imp (fun h e => h e.symm)
  by_cases h2 : G.S.T.cK (tv y) = G.S.T.levels.length
  ·rw [fF h1 h2]
   have Is : e.l = S.T.levels.length := by rw [h.T, ht, hl] at h2; exact h2
   refine ⟨⟨h.split, h.T, h.lits, ?_, fun z hz => ⟨bR _ (h.jI z hz).1, (h.jI z hz).2⟩, fun e' eG hs bM => ?_, h.nd, h.l0, pH⟩, fun v hv => bR _ hv, .inr bY, fun z hz => hz⟩
   ·show G.fg + 1 = _
    rw [Ge adU LA ⟨e, he, ht.symm, Is⟩, h.fg]
    rfl
   ·rcases ay.1 hs with hs | hs
    ·rw [ht] at hs
     rw [mU ok eG hR hs] at bM
     omega
    ·exact h.low e' eG hs bM
  ·rw [gN h1 h2]
   have Is : e.l ≠ S.T.levels.length := by rw [h.T, ht, hl] at h2; exact h2
   have Dw : (G.a8 ++ [y]).tail = G.a8.tail ++ [y] := zV h.l0
   refine ⟨⟨h.split, h.T, h.lits, ?_, fun z hz => ?_, fun e' eG hs bM => ?_, ?_, by simp, pH⟩, fun v hv => bR _ hv, .inr bY, fun z hz => ?_⟩
   ·show G.fg = _
    rw [BJ, h.fg]
    intro e' eG hs
    rw [ht] at hs
    rw [mU ok (by rw [h.split]; exact aW _ (fH.2 eG)) hR hs]
    exact Is
   ·have hz : z ∈ (G.a8 ++ [y]).tail := hz
    rw [Dw] at hz
    rcases aj.1 hz with hz | hz
    ·exact ⟨bR _ (h.jI z hz).1, (h.jI z hz).2⟩
    ·rw [an.1 hz]
     exact ⟨bY, e, hR, hy, hp, by omega⟩
   ·show -e'.x ∈ (G.a8 ++ [y]).tail
    rw [Dw]
    rcases ay.1 hs with hs | hs
    ·rw [ht] at hs
     rw [mU ok eG hR hs, ← VP]
     simp
    ·exact aW _ (h.low e' eG hs bM)
   ·show ((G.a8 ++ [y]).tail.map tv).Nodup
    rw [Dw, bP, List.nodup_append]
    refine ⟨h.nd, by simp, fun a ha b hb => ?_⟩
    rw [bE] at ha
    obtain ⟨z, hz, rfl⟩ := ha
    simp only [dW, fX, an] at hb
    rw [hb]
    intro e9
    exact LA (by rw [← e9]; exact (h.jI z hz).1)
   ·show z ∈ (G.a8 ++ [y]).tail
    rw [Dw]
    exact aW _ hz
theorem LI.meets {S : Sv} {m : Nat} (ok : S.Ok m) {Q D : List St} (skip : Int) : ∀ (ls : List Int) (G : Gr), LI S S.T.levels.length G Q D → (∀ y ∈ ls, y ≠ skip → ∃ e ∈ Q, e.x = -y) →
  LI S S.T.levels.length (meets skip ls G) Q D ∧ (∀ v ∈ G.seen, v ∈ (meets skip ls G).seen) ∧ (∀ y ∈ ls, y ≠ skip → ∀ e ∈ Q, e.x = -y → e.l ≤ 0 ∨ tv y ∈ (meets skip ls G).seen) ∧ (∀ z ∈ G.a8.tail, z ∈ (meets skip ls G).a8.tail)
 | [], G, h, _ => ⟨h, fun v hv => hv, (fun y hy => by cases hy), fun z hz => hz⟩
 | y :: r, G, h, hl => by
  rw [Sv.meets]
  by_cases hs : y ≠ skip
  ·rw [if_pos hs]
   obtain ⟨e, he, hy⟩ := hl y bY hs
   obtain ⟨h1, h2, h3, h4⟩ := h.meet ok he hy
   obtain ⟨k1, k2, k3, k4⟩ := LI.meets ok skip r _ h1 (fun z hz => hl z (bR _ hz))
   refine ⟨k1, fun v hv => k2 v (h2 v hv), fun z hz zp e' eG hz' => ?_, fun z hz => k4 z (h4 z hz)⟩
   rcases ay.1 hz with rfl | hz
   ·have : e' = e := by
     have h5 := kb ok (by rw [h.split]; exact aW _ (fH.2 he)) hy
     have h6 := kb ok (by rw [h.split]; exact aW _ (fH.2 eG)) hz'
     exact mU ok (by rw [h.split]; exact aW _ (fH.2 eG)) (by rw [h.split]; exact aW _ (fH.2 he)) (h6.1.symm.trans h5.1)
    rw [this]
    exact h3.imp id (fun h5 => k2 _ h5)
   ·exact k3 z hz zp e' eG hz'
  ·rw [if_neg hs]
   obtain ⟨k1, k2, k3, k4⟩ := LI.meets ok skip r _ h (fun z hz => hl z (bR _ hz))
   refine ⟨k1, k2, fun z hz zp => ?_, k4⟩
   rcases ay.1 hz with rfl | hz
   ·exact absurd zp hs
   ·exact k3 z hz zp
def Sm (d : Int) (G : Gr) (Q : List St) (a : Nat → Bool) : Prop := (∃ y ∈ G.a8.tail, B5 a y) ∨ ∃ e ∈ Q, e.l = d ∧ tv e.x ∈ G.seen ∧ ¬ B5 a e.x
structure ahc (S : Sv) (GE : Gr) (xe : Int) : Prop where
 T : GE.S.T = S.T
 lits : ∀ m, (GE.S.rc m).lits = (S.rc m).lits
 jI : ∀ y ∈ GE.a8.tail, ∃ e ∈ S.R, e.x = -y ∧ 1 ≤ e.l ∧ e.l < S.T.levels.length
 nd : (GE.a8.tail.map tv).Nodup
 l0 : 0 < GE.a8.length
 top : ∃ e ∈ S.R, e.x = xe ∧ e.l = S.T.levels.length
 sem : ∀ a, S.Good a → (∃ y ∈ GE.a8.tail, B5 a y) ∨ ¬ B5 a xe
theorem qY {S : Sv} {m : Nat} (ok : S.Ok m) (hr : S.Y8) (hd : S.Dec) : ∀ (f : Nat) (G : Gr) (n : Nat) (skip : Int) (Q D : List St), Q.length < f → LI S S.T.levels.length G Q D →
  (∀ y ∈ (S.rc n).lits, y ≠ skip → ∃ e ∈ Q, e.x = -y) → (0 < lQ S.T.levels.length G.seen Q ∨ (0 < S.T.levels.length ∧ ∃ y ∈ (S.rc n).lits, y ≠ skip ∧ ∃ e ∈ Q, e.x = -y ∧ e.l = S.T.levels.length)) →
  (∀ a, S.Good a → Sm S.T.levels.length G Q a ∨ ∃ y ∈ (S.rc n).lits, y ≠ skip ∧ B5 a y) →
  ∃ GE xe, eZ f G n skip (Q.map (·.x)) = some (GE, xe) ∧ ahc S GE xe
 | 0, _, _, _, _, _, h, _, _, _, _ => absurd h (aG _)
 | f + 1, G, n, skip, Q, D, hf, h, hc, hp, hs => by
  rw [kB]
  have e1 : dF G (n : Int) skip = meets skip (S.rc n).lits { G with S := G.S.fV n } := by
   unfold dF
   rw [if_pos (by omega), Int.toNat_natCast, h.lits]
  have h0 : LI S S.T.levels.length { G with S := G.S.fV n } Q D := ⟨h.split, h.T, fun k => (po G.S n k).1.trans (h.lits k), h.fg, h.jI, h.low, h.nd, h.l0, h.pos⟩
  obtain ⟨g1, g2, g3, g4⟩ := h0.meets ok skip (S.rc n).lits _ hc
  rw [e1]
  generalize meets skip (S.rc n).lits { G with S := G.S.fV n } = G1 at g1 g2 g3 g4
  have FW : ∀ (A : List St), lQ S.T.levels.length G.seen A ≤ lQ S.T.levels.length G1.seen A := fun A => by
   unfold lQ
   apply List.countP_mono_left
   intro e _ h5
   simp only [aD, decide_eq_true_eq] at h5 ⊢
   exact ⟨h5.1, g2 _ h5.2⟩
  have pH : 0 < lQ S.T.levels.length G1.seen Q := by
   rcases hp with hp | ⟨hd0, y, hy, Jt, e, he, rm, Is⟩
   ·have := FW Q; omega
   ·unfold lQ
    rw [List.countP_pos_iff]
    refine ⟨e, he, ?_⟩
    simp only [aD, decide_eq_true_eq]
    refine ⟨Is, ?_⟩
    have h5 := g3 y hy Jt e he rm
    rw [(kb ok (by rw [h.split]; exact aW _ (fH.2 he)) rm).1] at h5
    rcases h5 with h5 | h5
    ·omega
    ·exact h5
  have Hv : ∀ a, S.Good a → Sm S.T.levels.length G1 Q a := fun a ha => by
   rcases hs a ha with h5 | ⟨y, hy, Jt, Lb⟩
   ·rcases h5 with ⟨y, hy, Lb⟩ | ⟨e, he, Is, V4, het⟩
    ·exact .inl ⟨y, g4 y hy, Lb⟩
    ·exact .inr ⟨e, he, Is, g2 _ V4, het⟩
   ·obtain ⟨e, he, rm⟩ := hc y hy Jt
    have hR : e ∈ S.R := by rw [h.split]; exact aW _ (fH.2 he)
    obtain ⟨ht, VP⟩ := kb ok hR rm
    have hrg := kN ok hR
    have dN : e.x ≠ 0 := tu hrg.1
    have hef : ¬ B5 a e.x := by
     have := (B5.neg (a := a) dN).1 (by rw [← VP]; exact Lb)
     exact this
    rcases g3 y hy Jt e he rm with h5 | h5
    ·exact absurd (ha.2 e hR (by omega)) hef
    ·rw [ht] at h5
     by_cases Is : e.l < S.T.levels.length
     ·left
      have := g1.low e hR h5 Is
      rw [← VP] at this
      exact ⟨y, this, Lb⟩
     ·exact .inr ⟨e, he, by omega, h5, hef⟩
  -- SH last one WD ma seen
  obtain ⟨em, RS, Yu, Yt⟩ := Gd pH
  have hex : ∃ P e0 Q', Q = P ++ e0 :: Q' ∧ (∀ e ∈ P, tv e.x ∉ G1.seen) ∧ tv e0.x ∈ G1.seen := by
   clear FW pH Hv hs hp hc h0 g1 g3 g4 e1 hf h Yu
   induction Q with
   | nil => cases RS
   | cons e Q ih =>
    by_cases he : tv e.x ∈ G1.seen
    ·exact ⟨[], e, Q, rfl, (fun _ h => by cases h), he⟩
    ·rcases ay.1 RS with rfl | RS
     ·exact absurd Yt he
     ·obtain ⟨P, e0, Q', h1, h2, h3⟩ := ih RS
      exact ⟨e :: P, e0, Q', by rw [h1]; rfl, fun e' eG => by
       rcases ay.1 eG with rfl | eG
       ·exact he
       ·exact h2 e' eG, h3⟩
  obtain ⟨P, e0, Q', hQ, hP, sR⟩ := hex
  have hdw : (Q.map (·.x)).dropWhile (fun x => decide (tv x ∉ G1.seen)) = e0.x :: Q'.map (·.x) := by
   rw [hQ, bP, dW]
   clear hQ
   induction P with
   | nil => rw [fX, List.nil_append, List.dropWhile_cons, if_neg (by simpa using sR)]
   | cons e P ih =>
    rw [dW, List.cons_append, List.dropWhile_cons, if_pos (by simpa using hP e bY)]
    exact ih (fun e' eG => hP e' (bR _ eG))
  have YL : S.R = Q'.reverse ++ e0 :: (P.reverse ++ D) := by
   rw [h.split, hQ]
   simp
  have Qc : e0 ∈ S.R := by rw [YL]; simp
  have Rz := ok.rep.sorted
  rw [YL] at Rz
  have ad3 : ∀ e ∈ Q', e.l ≤ e0.l := fun e he => (List.pairwise_append.1 Rz).2.2 e (fH.2 he) e0 bY
  have Yz : e0.l = S.T.levels.length := by
   have h5 := (kN ok Qc).2.2.2
   rw [hQ] at RS
   rcases aj.1 RS with h6 | h6
   ·exact absurd Yt (hP em h6)
   ·rcases ay.1 h6 with rfl | h6
    ·exact Yu
    ·have := ad3 em h6
     omega
  have aep : lQ S.T.levels.length G1.seen Q = lQ S.T.levels.length G1.seen Q' + 1 := by
   have hP0 : lQ S.T.levels.length G1.seen P = 0 := by
    unfold lQ
    rw [List.countP_eq_zero]
    intro e he
    simp [hP e he]
   rw [hQ]
   unfold lQ at *
   rw [List.countP_append, hP0, List.countP_cons]
   simp [Yz, sR]
  have TI : G1.fg - 1 = (lQ S.T.levels.length G1.seen Q' : Nat) := by rw [g1.fg, aep]; omega
  have RA : ∀ a, S.Good a → (∃ y ∈ G1.a8.tail, B5 a y) ∨ (¬ B5 a e0.x) ∨ ∃ e ∈ Q', e.l = S.T.levels.length ∧ tv e.x ∈ G1.seen ∧ ¬ B5 a e.x := fun a ha => by
   rcases Hv a ha with h5 | ⟨e, he, Is, V4, het⟩
   ·exact .inl h5
   ·rw [hQ] at he
    rcases aj.1 he with h6 | h6
    ·exact absurd V4 (hP e h6)
    ·rcases ay.1 h6 with rfl | h6
     ·exact .inr (.inl het)
     ·exact .inr (.inr ⟨e, h6, Is, V4, het⟩)
  by_cases hz : lQ S.T.levels.length G1.seen Q' = 0
  ·refine ⟨{ G1 with fg := G1.fg - 1 }, e0.x, ?_, ⟨g1.T, g1.lits, fun y hy => (g1.jI y hy).2, g1.nd, g1.l0, ⟨e0, Qc, rfl, Yz⟩, fun a ha => ?_⟩⟩
   ·unfold dA
    rw [hdw]
    simp only
    rw [if_pos (by rw [TI, hz]; rfl)]
   ·rcases RA a ha with h5 | h5 | ⟨e, he, Is, V4, _⟩
    ·exact .inl h5
    ·exact .inr h5
    ·exfalso
     unfold lQ at hz
     rw [List.countP_eq_zero] at hz
     exact hz e he (by simp [Is, V4])
  ·obtain ⟨eb, heb, ama, _⟩ := Gd (Nat.pos_of_ne_zero hz)
   have gU : e0.r ≠ 0 := fun h5 => by
    rcases hd _ _ _ YL h5 with h6 | h6
    ·have := g1.pos e0 Qc sR
     omega
    ·have := h6 eb (fH.2 heb)
     omega
   obtain ⟨n', hn', ls, oR, X3⟩ := hr _ _ _ YL gU
   have adK := (lx ok Qc).2
   have TY : ∀ y ∈ (S.rc n').lits, y ≠ e0.x → ∃ e ∈ Q', e.x = -y := fun y hy dN => by
    rw [oR] at hy
    rcases ay.1 hy with rfl | hy
    ·exact absurd rfl dN
    ·obtain ⟨e', eG, h5⟩ := X3 y hy
     exact ⟨e', fH.1 eG, h5⟩
   have g5 : LI S S.T.levels.length { G1 with fg := G1.fg - 1 } Q' (e0 :: (P.reverse ++ D)) := ⟨YL, g1.T, g1.lits, TI, g1.jI, g1.low, g1.nd, g1.l0, g1.pos⟩
   obtain ⟨GE, xe, k1, k2⟩ := qY ok hr hd f { G1 with fg := G1.fg - 1 } n' e0.x Q' (e0 :: (P.reverse ++ D)) (by rw [hQ] at hf; simp at hf; omega) g5 TY (.inl (Nat.pos_of_ne_zero hz)) (fun a ha => by
    rcases RA a ha with h5 | h5 | h5
    ·exact .inl (.inl h5)
    ·right
     obtain ⟨y, hy, Lb⟩ := ha.1 n' (by rw [oR]; simp)
     exact ⟨y, hy, fun e9 => h5 (e9 ▸ Lb), Lb⟩
    ·exact .inl (.inr h5))
   refine ⟨GE, xe, ?_, k2⟩
   unfold dA
   rw [hdw]
   simp only
   rw [if_neg (by rw [TI]; omega), g1.T, adK, hn', show (n' : Int) + 1 - 1 = (n' : Int) from by omega]
   exact k1
end Sv
theorem pK {l : List Int} {i : Nat} (h : i < l.length) : l[i]! = l[i] := by simp only [ae, af h, aq]
theorem fD {l : List Int} {i j : Nat} (hi : i < l.length) (hj : j < l.length) : (cj l i j).Perm l := by
 unfold cj
 rw [pK hi, pK hj]
 exact List.set_set_perm hi hj
theorem my {T : Tr} : ∀ (f k : Nat) (l : List Int) (cO : Int), l.length ≤ f + k → 1 ≤ k → (0 < cO → T.cK (tv l[1]!) = cO) → (∀ j, 1 ≤ j → j < k → j < l.length → T.cK (tv l[j]!) ≤ cO) →
  (Sv.second T f k l cO).1.Perm l ∧ (Sv.second T f k l cO).1[0]! = l[0]! ∧ (0 < (Sv.second T f k l cO).2 → T.cK (tv (Sv.second T f k l cO).1[1]!) = (Sv.second T f k l cO).2) ∧ (∀ j, 1 ≤ j → j < l.length → T.cK (tv (Sv.second T f k l cO).1[j]!) ≤ (Sv.second T f k l cO).2)
 | 0, k, l, cO, hf, hk, h1, h2 => ⟨cN _, rfl, h1, fun j hj hl => h2 j hj (by omega) hl⟩
 | f + 1, k, l, cO, hf, hk, h1, h2 => by
  rw [Sv.second]
  by_cases nH : k < l.length
  ·rw [if_pos nH]
   by_cases hv : cO < T.cK (tv l[k]!)
   ·rw [if_pos hv]
    have hg := fun j (hj : j < l.length) => ko (l := l) (i := 1) (j := k) (k := j) (by omega) nH hj
    have ih := my (T := T) f (k + 1) (cj l 1 k) (T.cK (tv l[k]!)) (by rw [eO]; omega) (by omega) (fun _ => by
     rw [hg 1 (by omega)]
     split
     ·rename_i e; rw [← e]
     ·rw [if_pos rfl]) (fun j hj P1 V0 => by
     rw [eO] at V0
     rw [hg j V0]
     split
     ·by_cases e1 : 1 = k
      ·rw [e1]; exact kf _
      ·have := h2 1 (by omega) (by omega) (by omega); omega
     ·split
      ·exact kf _
      ·have := h2 j hj (by omega) V0; omega)
    rw [eO] at ih
    refine ⟨ih.1.trans (fD (by omega) nH), ?_, ih.2.2.1, ih.2.2.2⟩
    rw [ih.2.1, hg 0 (by omega), if_neg (by omega), if_neg (by omega)]
   ·rw [if_neg hv]
    exact my f (k + 1) l cO (by omega) (by omega) h1 (fun j hj P1 V0 => by
     by_cases e : j = k
     ·rw [e]; omega
     ·exact h2 j hj (by omega) V0)
  ·rw [if_neg nH]
   exact ⟨cN _, rfl, h1, fun j hj hl => h2 j hj (by omega) hl⟩
namespace Sv
def li (S : Sv) : Tr × Nat × List (List Nat) × List Bool × List Bool × List Int × Nat × Nat × Nat × Int × Nat × Bool × Bool × List (List Int × Bool) :=
 (S.T, S.vars, S.watch, S.phase, S.model, S.core, S.head, S.used, S.bump, S.many, S.bU, S.bad, S.has, S.list.map fun c => (c.lits, c.jI))
theorem CU (S : Sv) (n : Nat) : (S.fV n).li = S.li := by
 unfold li fV
 simp only [List.map_set]
 congr 14
 by_cases h : n < S.list.length
 ·have : (S.list.map fun c => (c.lits, c.jI))[n]? = some ((S.rc n).lits, (S.rc n).jI) := by
   rw [bh, af h]
   simp only [dc, rc, ae, af h, aq]
  exact js this
 ·rw [List.set_eq_of_length_le (by simp; omega)]
theorem GO (G : Gr) (l : Int) : (meet G l).S.li = G.S.li := by
 by_cases h : tv l ∈ G.seen ∨ G.S.T.cK (tv l) ≤ 0
 ·rw [ig h]
 ·by_cases h2 : G.S.T.cK (tv l) = G.S.T.levels.length
  ·rw [fF h h2]; rfl
  ·rw [gN h h2]; rfl
theorem oe (skip : Int) : ∀ (ls : List Int) (G : Gr), (meets skip ls G).S.li = G.S.li
 | [], G => rfl
 | l :: r, G => by
  rw [meets]
  split
  ·rw [oe skip r, GO]
  ·exact oe skip r G
theorem qS : ∀ (f : Nat) (G : Gr) (n skip : Int) (rest : List Int) (GE : Gr) (xe : Int), eZ f G n skip rest = some (GE, xe) → GE.S.li = G.S.li
 | 0, G, n, skip, rest, GE, xe, h => by rw [jX] at h; cases h
 | f + 1, G, n, skip, rest, GE, xe, h => by
  rw [kB] at h
  have hk : (dF G n skip).S.li = G.S.li := by
   unfold dF
   split
   ·rw [oe]; exact CU G.S n.toNat
   ·rfl
  generalize dF G n skip = G1 at h hk
  unfold dA at h
  cases hq : rest.dropWhile (fun x => decide (tv x ∉ G1.seen)) with
  | nil => rw [hq] at h; cases h
  | cons x r =>
   rw [hq] at h
   simp only at h
   split at h
   ·simp only [Option.some.injEq, Prod.mk.injEq] at h
    obtain ⟨rfl, rfl⟩ := h
    exact hk
   ·exact (qS f _ _ _ _ GE xe h).trans hk
theorem xX {S S' : Sv} (h : S'.li = S.li) (n : Nat) : (S'.rc n).lits = (S.rc n).lits ∧ (S'.rc n).jI = (S.rc n).jI := by
 have hl : S'.list.map (fun c => (c.lits, c.jI)) = S.list.map fun c => (c.lits, c.jI) := by
  have := congrArg (fun x => x.2.2.2.2.2.2.2.2.2.2.2.2.2) h
  exact this
 have e : ∀ S : Sv, ((S.rc n).lits, (S.rc n).jI) = ((S.list.map fun c => (c.lits, c.jI))[n]?).getD ([], false) := fun S => by
  rw [bh]
  unfold rc
  rw [ae]
  cases h : S.list[n]? with
  | none => rfl
  | some c => rfl
 have h1 := e S
 rw [← hl, ← e S'] at h1
 exact ⟨(congrArg Prod.fst h1).symm, (congrArg Prod.snd h1).symm⟩
structure Lrd (S : Sv) (l : List Int) (cO : Int) : Prop where
 l0 : 0 < l.length
 top : ∃ e ∈ S.R, l[0]! = -e.x ∧ e.l = S.T.levels.length
 tail : ∀ k, 1 ≤ k → k < l.length → ∃ e ∈ S.R, e.x = -l[k]! ∧ 1 ≤ e.l ∧ e.l ≤ cO
 lt : 0 ≤ cO ∧ cO < S.T.levels.length
 one : l.length = 1 → cO = 0
 two : 2 ≤ l.length → ∃ e ∈ S.R, e.x = -l[1]! ∧ e.l = cO
 nd : (l.map tv).Nodup
 sem : ∀ a, S.Good a → Y7 a l
theorem yt {S : Sv} {m : Nat} (ok : S.Ok m) (hr : S.Y8) (hd : S.Dec) {n : Nat} (hc : S.Sz n) (YC : 0 < S.T.levels.length) (hn : ((S.rc n).lits) ≠ []) :
  ∃ S1 l cO, S.gO n = some (S1, l, cO) ∧ S1.li = S.li ∧ S.Lrd l cO := by
 have adJ : S.T.lits.reverse = S.R.reverse.map (·.x) := by
  rw [ok.rep.lits, List.map_reverse]
 obtain ⟨Ev, yc, O0, ec, hec, aei, aej⟩ := hc
 have Xl : ∀ y ∈ (S.rc n).lits, y ≠ 0 := fun y hy => (ok.lr n y hy).1
 obtain ⟨GE, xe, h1, h2⟩ := qY ok hr hd (S.T.lits.length + 1) ⟨S, [], 0, [0]⟩ n 0 S.R.reverse [] (by rw [List.length_reverse, iD]; omega)
  ⟨by simp, rfl, fun _ => rfl, by simp [lQ], fun y hy => by simp at hy, fun e _ he => by simp at he, by simp, by simp, fun e _ he => by simp at he⟩
  (fun y hy _ => by
   obtain ⟨e, he, h5⟩ := Ev y hy
   exact ⟨e, fH.2 he, h5⟩)
  (.inr ⟨YC, yc, O0, Xl yc O0, ec, fH.2 hec, aei, aej⟩)
  (fun a ha => .inr (by
   obtain ⟨y, hy, Lb⟩ := ha.1 n hn
   exact ⟨y, hy, Xl y hy, Lb⟩))
 rw [← adJ] at h1
 have hk := qS _ _ _ _ _ GE xe h1
 obtain ⟨et, het, Ee, P9⟩ := h2.top
 have hrt := kN ok het
 have nT := ok.vl
 cases hg : GE.a8 with
 | nil => have := h2.l0; rw [hg] at this; simp at this
 | cons z0 tl =>
  have LF := h2.jI
  have Cs := h2.nd
  have Hv := h2.sem
  rw [hg] at LF Cs Hv
  simp only [List.tail_cons] at LF Cs Hv
  have adB : GE.a8.set 0 (-xe) = -xe :: tl := by rw [hg]; rfl
  have LG : ∀ y ∈ tl, 1 ≤ S.T.cK (tv y) ∧ S.T.cK (tv y) < S.T.levels.length := fun y hy => by
   obtain ⟨e, he, h5, h6, h7⟩ := LF y hy
   rw [(kb ok he h5).1, (lx ok he).1]
   exact ⟨h6, h7⟩
  have VU := my (T := GE.S.T) (-xe :: tl).length 1 (-xe :: tl) 0 (by omega) (ao 1) (fun h => by omega) (fun j hj P1 _ => by omega)
  obtain ⟨lr, AU⟩ : ∃ lr, Sv.second GE.S.T (-xe :: tl).length 1 (-xe :: tl) 0 = lr := ⟨_, rfl⟩
  rw [AU, h2.T] at VU
  obtain ⟨hp, Ln, hp1, XO⟩ := VU
  have oD := jt (T := GE.S.T) (D := S.T.levels.length) (fun v => by rw [h2.T]; exact (Dn ok v).2) (-xe :: tl).length 1 (-xe :: tl) 0
  rw [AU] at oD
  have hlen := hp.length_eq
  have oU : ∀ k, 1 ≤ k → k < lr.1.length → lr.1[k]! ∈ tl := fun k hk nH => by
   have adT : ((-xe :: tl).map tv).Nodup := by
    rw [dW, gW]
    refine ⟨fun hm => ?_, Cs⟩
    rw [bE] at hm
    obtain ⟨y, hy, h5⟩ := hm
    have h6 := LG y hy
    rw [h5, ← Ee, xL et.x hrt.1 (by omega), (lx ok het).1, P9] at h6
    omega
   have adS : (lr.1.map tv).Nodup := (hp.map tv).nodup_iff.2 adT
   have hm : lr.1[k]! ∈ -xe :: tl := hp.mem_iff.1 (bw nH)
   rcases ay.1 hm with h5 | h5
   ·exfalso
    have h6 : lr.1[0]! = -xe := Ln
    have h7 : (lr.1.map tv)[0]'(by simp; omega) = (lr.1.map tv)[k]'(by simpa using nH) := by
     rw [List.getElem_map, List.getElem_map, ← pK nH, ← pK (by omega : 0 < lr.1.length), h5, h6]
    exact (List.pairwise_iff_getElem.1 adS) 0 k _ _ (by omega) h7
   ·exact h5
  refine ⟨GE.S, lr.1, lr.2, ?_, hk, ?_⟩
  ·unfold gO
   rw [h1]
   simp only
   rw [adB, AU]
  ·refine ⟨by rw [hlen]; simp, ⟨et, het, by rw [Ln, Ee]; rfl, P9⟩, fun k hk nH => ?_, ⟨oD.1, ?_⟩, fun h5 => ?_, fun h5 => ?_, ?_, fun a ha => ?_⟩
   ·obtain ⟨e, he, h5, h6, h7⟩ := LF _ (oU k hk nH)
    refine ⟨e, he, h5, h6, ?_⟩
    have h8 := XO k hk (by omega)
    rw [(kb ok he h5).1, (lx ok he).1] at h8
    exact h8
   ·by_cases h0 : lr.2 = 0
    ·omega
    ·have h6 := hp1 (by omega)
     by_cases h7 : 1 < lr.1.length
     ·have h8 := LG _ (oU 1 (ao 1) h7)
      omega
     ·exfalso
      -- with one literal alone SH level is 0
      have h9 : tl = [] := by
       have : lr.1.length = tl.length + 1 := by rw [hlen]; rfl
       exact a6 (by omega)
      rw [h9] at AU
      have : Sv.second GE.S.T [-xe].length 1 [-xe] 0 = ([-xe], 0) := mw (by simp)
      rw [this] at AU
      exact h0 (by rw [← AU])
   ·have h9 : tl = [] := by
     have : lr.1.length = tl.length + 1 := by rw [hlen]; rfl
     exact a6 (by omega)
    rw [h9] at AU
    have : Sv.second GE.S.T [-xe].length 1 [-xe] 0 = ([-xe], 0) := mw (by simp)
    rw [this] at AU
    rw [← AU]
   ·obtain ⟨e, he, h6, h7, h8⟩ := LF _ (oU 1 (ao 1) (by omega))
    refine ⟨e, he, h6, ?_⟩
    have h9 := XO 1 (ao 1) (by omega)
    rw [(kb ok he h6).1, (lx ok he).1] at h9
    have h10 := hp1 (by omega)
    rw [(kb ok he h6).1, (lx ok he).1] at h10
    exact h10
   ·rw [(hp.map tv).nodup_iff, dW, gW]
    refine ⟨fun hm => ?_, Cs⟩
    rw [bE] at hm
    obtain ⟨y, hy, h5⟩ := hm
    have h6 := LG y hy
    rw [h5, ← Ee, xL et.x hrt.1 (by omega), (lx ok het).1, P9] at h6
    omega
   ·rcases Hv a ha with ⟨y, hy, Lb⟩ | h5
    ·exact ⟨y, hp.mem_iff.2 (bR _ hy), Lb⟩
    ·refine ⟨-xe, hp.mem_iff.2 bY, ?_⟩
     rw [← Ee] at h5 ⊢
     exact (B5.neg (tu hrt.1)).2 h5
end Sv
end Go.Proofs.YtpjbaobgnhjgoaaGreat
