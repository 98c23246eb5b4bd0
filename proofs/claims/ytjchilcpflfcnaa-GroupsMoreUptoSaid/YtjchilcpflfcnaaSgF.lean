/-  -/
import Derived.Test.YtjchilcpflfcnaaSgA
import Derived.Test.YtjchilcpflfcnaaSgE
set_option linter.unusedVariables false
set_option linter.unusedSimpArgs false
namespace Go.Proofs.Ytjchilcpflfcnaa
open Go.RowKit
theorem box_fr' (w : World) (o : Obj) : Fr [] w (w.alloc o) := (Fr.refl [] w).alloc o
theorem Ints.keep' {w w' : World} {A : Option Addr} {c : Nat} {xs : List Int} (h : Ints w A c xs) (hf : Fr [] w w') : Ints w' A c xs := h.fr hf (fun k hk hm => by cases hm)
def foundI : Option Nat → Int
 | some n => n
 | none => -1
theorem SvAt.sethead {w : World} {L : SvL} {S : Sv} (h : SvAt w L S) (x : Nat) : SvAt (w.setCell ⟨L.a, 8, none⟩ (.int .i64 x)) L { S with head := x } ∧ Fr (L.own w) w (w.setCell ⟨L.a, 8, none⟩ (.int .i64 x)) := by
 have hf : Fr [L.a] w (w.setCell ⟨L.a, 8, none⟩ (.int .i64 x)) := (Fr.refl _ w).setCell (.inl (by simp)) _
 obtain ⟨h1, _, h3⟩ := h.top (L' := L) (S' := { S with head := x }) hf (by have := h.obj.set_ 8 (.int .i64 x); simpa [scs] using this) ⟨rfl, rfl, rfl, rfl, rfl, rfl, rfl, rfl, rfl, rfl, rfl, rfl, rfl, rfl, rfl, rfl, rfl⟩ ⟨rfl, rfl, rfl, rfl, rfl, rfl, rfl⟩
 exact ⟨h1, h3⟩
theorem row_get {keep l0 : List Nat} {i : Nat} (h : keep.length ≤ i) (hi : i < l0.length) : (keep ++ l0.drop keep.length)[i]! = l0[i]! := by
 simp only [List.getElem!_eq_getElem?_getD]
 rw [List.getElem?_append_right h, List.getElem?_drop, Nat.add_sub_cancel' h]
theorem row_len {keep l0 : List Nat} (h : keep.length ≤ l0.length) : (keep ++ l0.drop keep.length).length = l0.length := by simp; omega
theorem row_put {keep l0 : List Nat} (n : Nat) (h : keep.length < l0.length) : (casts (keep ++ l0.drop keep.length)).take keep.length ++ [(n : Int)] ++ (casts (keep ++ l0.drop keep.length)).drop (keep.length + 1) = casts ((keep ++ [n]) ++ l0.drop (keep ++ [n]).length) := by
 simp only [casts, List.map_append, List.map_drop, List.length_append, List.length_singleton, List.map_cons, List.map_nil]
 congr 1
 ·congr 1
  rw [List.take_append_of_le_length (by simp)]
  exact List.take_of_length_le (by simp)
 ·rw [List.drop_append, List.drop_of_length_le (by simp), List.nil_append, List.drop_drop, List.length_map]
  congr 1
  omega
theorem row_cut {keep l0 : List Nat} : (casts (keep ++ l0.drop keep.length)).take keep.length = casts keep := by
 simp only [casts, List.map_append]
 rw [List.take_append_of_le_length (by simp)]
 exact List.take_of_length_le (by simp)
theorem visit_ff (S : Sv) (n : Nat) (off : Int) : (S.visitF n off).2.1 = false → (S.visitF n off).2.2 = true := by
 unfold Sv.visitF Sv.visitT
 split
 ·simp
 ·simp only
  split
  ·simp
  ·split
   ·simp
   ·split <;> simp
theorem followF_stop {S : Sv} {f : Nat} (h : ¬ S.head < S.T.lits.length) : Sv.followF f S = (S, none) := by
 cases f with
 | zero => rfl
 | succ f => simp only [Sv.followF]; rw [if_neg h]
set_option maxRecDepth 100000 in
set_option maxHeartbeats 8000000 in
theorem follow_calls (w : World) (L : SvL) (S : Sv) (h : SvAt w L S) (ok : S.Ok 0) :
  Calls Try.prog 47 #[.pointer (some ⟨L.a, 0, none⟩)] w (SvP (.int .i64 (foundI S.follow.2)) S.follow.1 L w) := by
 obtain ⟨RES, hRES⟩ : ∃ RES, S.follow = RES := ⟨_, rfl⟩
 have HRES : Hid (Sv.followF (S.vars + 1) S = RES) := hRES
 rw [hRES]
 have FIN : Hid (∀ (S' : Sv) (r : Option Nat), RES = (S', r) → ∀ W L', SvAt W L' S' → L.ext L' w → Fr (L.own w) w W → SvP (.int .i64 (foundI RES.2)) RES.1 L w (.returned (.int .i64 (foundI r))) W) := fun S' r e W L' g1 g2 g3 => by
  subst e
  exact ⟨rfl, L', g1, g2, g3⟩
 have HH := Lib.hid h
 have HOK := Lib.hid ok
 have HSN : Hid (w.heap.size = w.heap.size) := rfl
 clear hRES h ok
 go_enter Try.func47, Try.ntmps47
 go_wp2_with fail
 go_loopg [2] (S.vars + 1) (fun g x2 wr => ∃ (S1 : Sv) (L1 : SvL), Hid (Sv.followF g S1 = RES) ∧ S1.vars + 1 ≤ g + S1.head ∧ Hid (S1.Ok 0) ∧ Hid (SvAt wr L1 S1) ∧ Hid (L.ext L1 w) ∧ Hid (Fr (L.own w) w wr))
 case atStart => exact ⟨S, L, HRES.out, by omega, HOK.out, HH.out, SvL.ext_refl _ _, Fr.refl _ _⟩
 case round =>
  obtain ⟨S1, L1, HR1, hfu, HO1, H1, HE1, HF1⟩ := hrel
  have HFU := Lib.hid hfu
  have hvl := HO1.out.vl
  have hhd := HO1.out.hd
  have hlv : S1.T.lits.length ≤ S1.vars := by
   obtain ⟨R, hR⟩ := HO1.out.tr
   have := hR.len_le
   rw [hR.lits, List.length_map]
   exact this
  have hea : L1.a = L.a := HE1.out.1
  obtain ⟨c0, -, -, -, c4, -, -, -, c8, -⟩ := H1.out.cells
  rw [hea] at c0 c4 c8
  have HC0 := Lib.hid c0
  have HC4 := Lib.hid c4
  have HC8 := Lib.hid c8
  have HEA := Lib.hid hea
  have e0 := Ext.cell c0
  have e8 := Ext.cell c8
  have KL := Lib.hid (fun u : Ext wr => trail_len u.v L1.tL S1.T (H1.out.tr.fr u.fr (by simp)))
  clear hea hfu c4
  by_cases hlt : S1.head < S1.T.lits.length
  ·obtain ⟨f, hf1⟩ : ∃ f, gk = f + 1 := ⟨gk - 1, by have := HFU.out; omega⟩
   have hd : decide ((S1.head : Int) < (S1.T.lits.length : Int)) = true := decide_eq_true (by omega)
   go_wp2_with fail
   refine wp_region_ext (by kernel_rfl) (by kernel_rfl) ?_
   repeat (go_big_quiet_step (exact call_same (KL.out _)))
   refine wpQuiet_nil ?_
   rintro w2 ⟨u2, hu2⟩
   have HF_w2 : Hid (Fr [] wr w2) := hu2 ▸ u2.fr
   clear hu2 u2
   clear e0 e8 c0 c8 KL hd
   obtain ⟨x, hx⟩ : ∃ x, S1.T.lits[S1.head]! = x := ⟨_, rfl⟩
   have hat : S1.T.atB (S1.head : Int) = x := by
    unfold Tr.atB
    rw [if_pos (by omega), Int.toNat_natCast]
    exact hx
   have hxr : -(S1.vars : Int) ≤ x ∧ x ≤ S1.vars ∧ x ≠ 0 := by
    obtain ⟨R, hR⟩ := HO1.out.tr
    have hm : x ∈ S1.T.lits := by rw [← hx]; exact get_mem hlt
    rw [hR.lits, List.mem_map] at hm
    obtain ⟨e, he, rfl⟩ := hm
    have hb := hR.bound e he
    unfold tv at hb
    split at hb
    ·omega
    ·split at hb <;> omega
   have HX := Lib.hid hx
   have KA := Lib.hid (fun u : Ext w2 => trail_at u.v L1.tL S1.T (H1.out.tr.fr (HF_w2.out.then_ u.fr) (by simp)) (S1.head : Int))
   rw [hat] at KA
   have c0 := HF_w2.out.cellS HC0.out
   have c8 := HF_w2.out.cellS HC8.out
   have e0 := Ext.cell c0
   have e8 := Ext.cell c8
   have hw1 : IntKind.i64.wrap (-x) = -x := IntWalk.i64_in _ (by omega)
   clear hat hx
   go_wp2_with fail
   refine wp_region_ext (by kernel_rfl) (by kernel_rfl) ?_
   repeat (go_big_quiet_step (exact call_same (KA.out _)))
   refine wpQuiet_nil ?_
   rintro w3 ⟨u2, hu2⟩
   have HF_w3 : Hid (Fr [] w2 w3) := hu2 ▸ u2.fr
   clear hu2 u2
   obtain ⟨off, hoff⟩ : ∃ off, -x = off := ⟨_, rfl⟩
   have hor : -(S1.vars : Int) ≤ off ∧ off ≤ S1.vars := by omega
   have HOFF := Lib.hid hoff
   rw [hoff]
   clear e0 e8 c0 c8 KA hw1 hoff hxr
   obtain ⟨cy, hcy⟩ : ∃ cy, lcode off = cy := ⟨_, rfl⟩
   have KC := Lib.hid (fun W => code_calls W off (by omega) (by omega))
   simp only [hcy] at KC
   have hcl : cy < L1.ws.length := by
    rw [H1.out.lenw, HO1.out.wl, ← hcy]
    exact code_lt hor.1 hor.2
   have HCY := Lib.hid hcy
   have HF3 := Lib.hid (HF_w2.out.then_ HF_w3.out)
   clear HF_w2 HF_w3 hcy
   obtain ⟨gw, hgw, sw, fw⟩ := H1.out.whd hcl
   have hw0 := H1.out.wat_eq hcl
   have HTK := Lib.hid (fun W hW => (H1.out.keep (w' := W) hW).take hcl)
   obtain ⟨⟨A0, c0, l0⟩, hx0⟩ : ∃ x, L1.ws[cy]! = x := ⟨_, rfl⟩
   rw [hx0] at sw hw0 HTK
   simp only at sw hw0 HTK
   have HW0 := Lib.hid hw0
   have HSW := Lib.hid sw
   have HFW := Lib.hid fw
   have c4 := HF3.out.cellS HC4.out
   rw [hgw] at c4
   have s4 := HF3.out.cellS sw
   have e4 := Ext.cell c4
   have es := Ext.cell s4
   have HCL := Lib.hid hcl
   have HGW := Lib.hid hgw
   clear hx0 hw0 sw fw hgw
   go_wp2_with fail
   refine wp_region_ext (by kernel_rfl) (by kernel_rfl) ?_
   repeat (go_big_quiet_step (exact call_same (KC.out _)))
   refine wpQuiet_nil ?_
   rintro w4 ⟨u2, hu2⟩
   have HF_w4 : Hid (Fr [] w3 w4) := hu2 ▸ u2.fr
   clear hu2 u2
   clear c4 s4 e4 es
   have HF4 := Lib.hid (HF3.out.then_ HF_w4.out)
   have hc4 := HC4.out
   rw [HGW.out] at hc4
   have HC44 := Lib.hid (HF4.out.cellS hc4)
   clear HF3 HF_w4 hc4
   go_upto_region 5 with fail
   refine wp_region_noPanic ?_
   refine wp_region_C (fun w' : World => Fr [] w4 w') 7 (by kernel_rfl) ((Fr.refl [] w4).drew) (fun hT0 => ?_)
   refine T0 (i := 0) (oi := ?or5u1) (v := ?vr5u1) (by rfl) (by kernel_rfl) (by rfl) ?yr5u1 hT0 ?_
   case yr5u1 => (intro w; go_simp <;> with_reducible rfl)
   try simp only [Act.put, q5, q6, q7]
   refine T0 (i := 1) (oi := ?or5u2) (v := ?vr5u2) (by rfl) (by kernel_rfl) (by rfl) ?yr5u2 (hT0.more 0) ?_
   case yr5u2 => (intro w; go_simp <;> with_reducible rfl)
   try simp only [Act.put, q5, q6, q7]
   refine T0 (i := 2) (oi := ?or5u3) (v := ?vr5u3) (by rfl) (by kernel_rfl) (by rfl) ?yr5u3 ((hT0.more 0).more 1) ?_
   case yr5u3 => (intro w; go_simp <;> with_reducible rfl)
   try simp only [Act.put, q5, q6, q7]
   refine T1 (i := 3) (oi := ?or5u4) (v := ?vr5u4) [3, 7] (by rfl) (by kernel_rfl) (by rfl) ?yr5u4 ((((hT0.more 0).more 1).more 2).resolve_left (by decide)) ?_
   case yr5u4 => (intro w hSw; (have s4 := hSw.cellS HC44.out); go_simp <;> with_reducible rfl)
   try simp only [Act.put, q5, q6, q7]
   refine T0 (i := 4) (oi := ?or5u5) (v := ?vr5u5) (by rfl) (by kernel_rfl) (by rfl) ?yr5u5 ((((hT0.more 0).more 1).more 2).more 3) ?_
   case yr5u5 => (intro w; go_simp <;> with_reducible rfl)
   try simp only [Act.put, q5, q6, q7]
   have hSx := (((((hT0.more 0).more 1).more 2).more 3).more 4).resolve_left (by decide)
   refine wpAnyC_ready (rs := [5]) (by kernel_rfl) (by simp) ?_
   refine ReadyC.cons (o := ?or5u6) ?hor5u6 ?hstepr5u6 ?_
   case hor5u6 => rfl
   case hstepr5u6 =>
    intro K hK
    (go_simp; refine (KC.out _).mono ?_; rintro e w5 ⟨rfl, rfl⟩; dsimp only)
    refine hK.out _ _ (.inr ?_) (fun hHeld => ?_)
    ·exact hSx
    have hT6 := hHeld
    clear hHeld
    clear hK K
    try simp only [Act.put, q5, q6, q7]
    refine T0 (i := 6) (oi := ?or5u7) (v := ?vr5u7) (by rfl) (by kernel_rfl) (by rfl) ?yr5u7 hT6 ?_
    case yr5u7 => (intro w; go_simp <;> with_reducible rfl)
    try simp only [Act.put, q5, q6, q7]
    have hSx := (hT6.more 6).resolve_left (by decide)
    refine wpAnyC_ready (rs := [7]) (by kernel_rfl) (by simp) ?_
    refine ReadyC.cons (o := ?or5u8) ?hor5u8 ?hstepr5u8 ?_
    case hor5u8 => rfl
    case hstepr5u8 =>
     intro K hK
     (have sb := (HF4.out.then_ hSx).cellS HSW.out; have fb : World.frozen? _ _ = _ := (World.frozen?_of_block ((HF4.out.then_ hSx).block gw (lt_of_cell HSW.out) (by simp))).trans HFW.out; go_simp)
     refine hK.out _ _ (.inl rfl) (fun hHeld => ?_)
     have hT8 := hHeld
     clear hHeld
     clear hK K
     try simp only [Act.put, q5, q6, q7]
     refine wpAnyC_done (by kernel_rfl) ?_ _
     refine NoPanic.normal ?_
     have ht := HTK.out w4 HF4.out
     obtain ⟨gw2, hg2, _, _, L5, h5', he5, hf5', hi5', hn5⟩ := ht
     obtain rfl : gw = gw2 := by rw [HGW.out] at hg2; simpa using hg2
     obtain ⟨W5, hW5⟩ : ∃ W, (w4.setCell ⟨gw, cy, none⟩ (.slice none 0 0)).drew = W := ⟨_, rfl⟩
     have h5 : SvAt W5 L5 (S1.wset cy []) := hW5 ▸ h5'.keep (Fr.refl [] _).drew
     have hf5 : Fr (L1.own w4) w4 W5 := hW5 ▸ hf5'.drew
     have hi5 : Ints W5 A0 c0 (casts l0) := hW5 ▸ hi5'.drew
     rw [hW5]
     clear h5' hf5' hi5'
     have hz1 : wr.heap.size ≤ w4.heap.size := HF4.out.size
     have hE5 : L.ext L5 w := SvL.ext_trans HE1.out (⟨he5.1, he5.2.1, fun k hk e => he5.2.2 k (Nat.lt_of_lt_of_le hk hz1) e⟩ : L1.ext L5 wr) HF1.out.size
     have hF5 : Fr (L.own w) w W5 := SvL.own_then HE1.out HF1.out ((HF4.out.mono (fun k hk => by cases hk)).trans hf5 (fun k hk => by
      rw [SvL.mem_own] at hk
      rcases Nat.lt_or_ge k wr.heap.size with hl | hl
      ·exact .inl (SvL.mem_own.2 ⟨hl, hk.2⟩)
      ·exact .inr hl))
     have hn0 : ∀ k, k ∈ blks A0 → (L5.lab k).1 ≠ L5.id := fun k hk => (hn5 k hk).1
     have hg0 : ∀ k, k ∈ blks A0 → k ∈ L.own w ∨ w.heap.size ≤ k := fun k hk => by
      have e1 := (hn5 k hk).2
      rw [SvL.mem_own] at e1
      rcases Nat.lt_or_ge k w.heap.size with hl | hl
      ·exact .inl (SvL.mem_own.2 ⟨hl, HE1.out.2.2 k hl (e1.2.trans HE1.out.2.1)⟩)
      ·exact .inr hl
     have HG0 := Lib.hid hg0
     have HVR : Hid (Sv.followF f { (Sv.visitsF off l0 [] (S1.wset cy [])).1 with head := S1.head + 1 } = RES ∧ (Sv.visitsF off l0 [] (S1.wset cy [])).2 = none ∨ ∃ n, (Sv.visitsF off l0 [] (S1.wset cy [])).2 = some n ∧ RES = ((Sv.visitsF off l0 [] (S1.wset cy [])).1, some n)) := by
      have h1 := HR1.out
      rw [hf1] at h1
      simp only [Sv.followF] at h1
      rw [if_pos hlt, HX.out, HOFF.out, HCY.out, HW0.out] at h1
      have hvh : (Sv.visitsF off l0 [] (S1.wset cy [])).1.head = S1.head := by
       have o2 : (S1.wset cy []).Ok (0 + l0.length) := HO1.out.wset (by rw [← H1.out.lenw]; exact HCL.out) (fun n hn => by cases hn) (by rw [HW0.out]; simp)
       exact (o2.visits off l0 [] _ (fun n hn => HO1.out.wb cy n (by have := HW0.out; unfold Sv.wat at this; rw [this]; exact hn)) (fun n hn => by cases hn) (by show lcode off < (S1.watch.set _ _).length; rw [List.length_set, ← H1.out.lenw, HCY.out]; exact HCL.out)).2.2.1
      cases hv : (Sv.visitsF off l0 [] (S1.wset cy [])).2 with
      | none =>
       rw [hv] at h1
       simp only [hvh] at h1
       exact .inl ⟨h1, rfl⟩
      | some n =>
       rw [hv] at h1
       exact .inr ⟨n, rfl, h1.symm⟩
     have o2 : (S1.wset cy []).Ok l0.length := HO1.out.wset (by rw [← H1.out.lenw]; exact HCL.out) (fun n hn => by cases hn) (by rw [HW0.out]; simp)
     have hl0n : ∀ n ∈ l0, n < S1.list.length := fun n hn => HO1.out.wb cy n (by have := HW0.out; unfold Sv.wat at this; rw [this]; exact hn)
     have HL0N := Lib.hid hl0n
     have H1L := Lib.hid (H1.out.lenw.trans HO1.out.wl)
     have hvis := (o2.less (m' := ([] : List Nat).length + l0.length) (by simp)).visits off l0 [] _ hl0n (fun n hn => by cases hn) (by show lcode off < (S1.watch.set _ _).length; rw [List.length_set, ← H1.out.lenw, HCY.out]; exact HCL.out)
     have HVIS := Lib.hid hvis
     obtain ⟨VR, hVR⟩ : ∃ VR, Sv.visitsF off l0 [] (S1.wset cy []) = VR := ⟨_, rfl⟩
     rw [hVR] at HVR HVIS
     have HV0 := Lib.hid hVR
     have hll := HO1.out.ll
     have H5 := Lib.hid h5
     have HE5 := Lib.hid hE5
     have HF5 := Lib.hid hF5
     have HI5 := Lib.hid hi5
     have HN5 := Lib.hid hn0
     have HO5 := Lib.hid o2
     have HWL5 : Hid ((S1.wset cy []).watch.length = 2 * S1.vars + 2) := (by show (S1.watch.set _ _).length = _; rw [List.length_set]; exact HO1.out.wl : (S1.wset cy []).watch.length = 2 * S1.vars + 2)
     have hla0 : l0.length ≤ 2199023255552 := by have := HO1.out.room cy; have h2 := HW0.out; unfold Sv.wat at h2; rw [h2] at this; exact this
     have hca0 : l0.length ≤ c0 := by
      have h2 := hi5.form
      have e := casts_len l0
      rcases h2 with ⟨_, _, h3⟩ | ⟨_, _, _, h3, _⟩
      ·rw [h3] at e
       simp at e
       omega
      ·omega
     clear h5 he5 hf5 hi5 hn5 hE5 hF5 hn0 hg0 o2 hl0n hvis hVR hW5 hz1 HTK hSx hg2 HSW HFW HGW HC44 HF4 H1 HC0 HC4 HC8
     try clear hT8
     try clear hT7
     try clear hT6
     have hform := HI5.out.form
     rcases hform with ⟨rfl, rfl, hl0⟩ | ⟨g0, rfl, hg0l, -, -⟩
     ·have hl00 : l0 = [] := by
       have := casts_len l0
       rw [hl0] at this
       exact List.eq_nil_of_length_eq_zero this.symm
      subst hl00
      clear hl0
      go_wp2_with fail
      go_loopg [5, 56] ([] : List Nat).length (fun g2 x5 x56 wi => ∃ (i : Nat) (keep : List Nat) (S2 : Sv) (L2 : SvL), i + g2 = ([] : List Nat).length ∧ keep.length ≤ i ∧ x5 = .slice none keep.length 0 ∧ x56 = .int .i64 i ∧ Hid (Sv.visitsF off (([] : List Nat).drop i) keep S2 = VR) ∧ Hid (S2.Ok (keep.length + (([] : List Nat).length - i))) ∧ Hid (∀ n ∈ keep, n < S1.list.length) ∧ Hid (S2.list.length = S1.list.length ∧ S2.vars = S1.vars ∧ S2.watch.length = 2 * S1.vars + 2) ∧ Hid (SvAt wi L2 S2) ∧ Hid (L.ext L2 w) ∧ Hid (Fr (L.own w) w wi) ∧ Hid (Ints wi none 0 (casts (keep ++ ([] : List Nat).drop keep.length))) ∧ Hid (∀ k, k ∈ blks none → (L2.lab k).1 ≠ L2.id))
      case atStart => exact ⟨0, [], S1.wset cy [], L5, by omega, Nat.le_refl _, rfl, rfl, HV0.out, HO5.out.less (by simp), (fun n hn => by cases hn), ⟨rfl, rfl, HWL5.out⟩, H5.out, HE5.out, HF5.out, HI5.out, HN5.out⟩
      case round =>
       obtain ⟨i, keep, S2, L2, hi, hki, rfl, rfl, HVS, HO2, HKN, HSM, H2, HE2, HF2, HI2, HN2⟩ := hrel
       have HI := Lib.hid hi
       have hil : i ≤ ([] : List Nat).length := by omega
       clear hi
       by_cases hlt2 : i < ([] : List Nat).length
       ·simp at hlt2
       ·obtain rfl : i = ([] : List Nat).length := by omega
        clear HI
        have hcl2 : cy < L2.ws.length := by rw [H2.out.lenw, HSM.out.2.2]; have := HCL.out; rw [H1L.out] at this; exact this
        obtain ⟨gw, hgw, sw, fw⟩ := H2.out.whd hcl2
        obtain ⟨-, -, -, -, c4, -⟩ := H2.out.cells
        rw [hgw, HE2.out.1] at c4
        have HN3' : Hid (L.a ∉ blks none) := fun hm => HN2.out _ hm (H2.out.has_own (.inl (by rw [HE2.out.1])))
        have HN4' : Hid (gw ∉ blks none) := fun hm => HN2.out _ hm (H2.out.has_own (.inr (.inr (.inr (.inr (.inl (by rw [hgw]; simp [blks])))))))
        have HC4' := Lib.hid c4
        have HSW' := Lib.hid sw
        have HFW' := Lib.hid fw
        have HGW' := Lib.hid hgw
        have hvs := HVS.out
        rw [List.drop_length] at hvs
        simp only [Sv.visitsF] at hvs
        rw [HCY.out] at hvs
        have hw9 := H2.out.wat_eq hcl2
        have hr9 := H2.out.ewh cy hcl2
        have hl9 := HO2.out.room cy
        have hno9 : ∀ k, k ∈ blks (L2.ws[cy]!).A → k ∉ blks none := fun k hk hm => HN2.out k hm (H2.out.has_own (.inr (.inr (.inr (.inr (.inr (.inr (.inr (.inr (.inr ⟨cy, hcl2, hk⟩))))))))))
        unfold Sv.wat at hw9 hvs
        rw [hw9] at hl9 hvs
        obtain ⟨⟨A9, c9, l9⟩, hx9⟩ : ∃ x, L2.ws[cy]! = x := ⟨_, rfl⟩
        rw [hx9] at sw hr9 hl9 hvs hno9
        rw [hx9] at HSW'
        simp only at sw hr9 hl9 hvs HSW' hno9
        have HR9 := Lib.hid hr9
        have HV9 := Lib.hid hvs
        have hkeep : Ints wr none 0 (casts keep) := by
         have := HI2.out.take_ keep.length
         rw [row_cut] at this
         exact this
        have HKP := Lib.hid hkeep
        have hcl3 : cy < L2.ws.length := hcl2
        have HCL3 := Lib.hid hcl3
        have HRN : Hid (Sv.followF f { VR.1 with head := S1.head + 1 } = RES) := by
         rcases HVR.out with h1 | ⟨n, h1, _⟩
         ·exact h1.1
         ·rw [← HV9.out] at h1
          simp at h1
        have hkl9 : keep.length ≤ 2199023255552 := by omega
        clear hx9 hw9 hr9 hvs hkeep sw fw hgw c4 hcl2
        go_upto_region 17 with fail
        refine wp_region_noPanic ?_
        refine wp_region_C (fun w' : World => Fr (blks none) wr w') 17 (by kernel_rfl) ((Fr.refl _ wr).drew) (fun hT0 => ?_)
        refine T0 (i := 0) (oi := ?oyr17u1) (v := ?vyr17u1) (by rfl) (by kernel_rfl) (by rfl) ?yyr17u1 hT0 ?_
        case yyr17u1 => (intro w; go_simp <;> with_reducible rfl)
        try simp only [Act.put, q5, q6, q7]
        refine T0 (i := 1) (oi := ?oyr17u2) (v := ?vyr17u2) (by rfl) (by kernel_rfl) (by rfl) ?yyr17u2 (hT0.more 0) ?_
        case yyr17u2 => (intro w; go_simp <;> with_reducible rfl)
        try simp only [Act.put, q5, q6, q7]
        refine T0 (i := 2) (oi := ?oyr17u3) (v := ?vyr17u3) (by rfl) (by kernel_rfl) (by rfl) ?yyr17u3 ((hT0.more 0).more 1) ?_
        case yyr17u3 => (intro w; go_simp <;> with_reducible rfl)
        try simp only [Act.put, q5, q6, q7]
        refine T1 (i := 3) (oi := ?oyr17u4) (v := ?vyr17u4) [3, 17] (by rfl) (by kernel_rfl) (by rfl) ?yyr17u4 ((((hT0.more 0).more 1).more 2).resolve_left (by decide)) ?_
        case yyr17u4 => (intro w hSw; (have s4 := hSw.cellN HN3'.out HC4'.out; have s5 := hSw.cellN HN4'.out HSW'.out); go_simp <;> with_reducible rfl)
        try simp only [Act.put, q5, q6, q7]
        refine T0 (i := 4) (oi := ?oyr17u5) (v := ?vyr17u5) (by rfl) (by kernel_rfl) (by rfl) ?yyr17u5 ((((hT0.more 0).more 1).more 2).more 3) ?_
        case yyr17u5 => (intro w; go_simp <;> with_reducible rfl)
        try simp only [Act.put, q5, q6, q7]
        refine T0 (i := 6) (oi := ?oyr17u6) (v := ?vyr17u6) (by rfl) (by kernel_rfl) (by rfl) ?yyr17u6 (((((hT0.more 0).more 1).more 2).more 3).more 4) ?_
        case yyr17u6 => (intro w; go_simp <;> with_reducible rfl)
        try simp only [Act.put, q5, q6, q7]
        refine T0 (i := 7) (oi := ?oyr17u7) (v := ?vyr17u7) (by rfl) (by kernel_rfl) (by rfl) ?yyr17u7 ((((((hT0.more 0).more 1).more 2).more 3).more 4).more 6) ?_
        case yyr17u7 => (intro w; go_simp <;> with_reducible rfl)
        try simp only [Act.put, q5, q6, q7]
        refine T0 (i := 8) (oi := ?oyr17u8) (v := ?vyr17u8) (by rfl) (by kernel_rfl) (by rfl) ?yyr17u8 (((((((hT0.more 0).more 1).more 2).more 3).more 4).more 6).more 7) ?_
        case yyr17u8 => (intro w; go_simp <;> with_reducible rfl)
        try simp only [Act.put, q5, q6, q7]
        refine T0 (i := 9) (oi := ?oyr17u9) (v := ?vyr17u9) (by rfl) (by kernel_rfl) (by rfl) ?yyr17u9 ((((((((hT0.more 0).more 1).more 2).more 3).more 4).more 6).more 7).more 8) ?_
        case yyr17u9 => (intro w; go_simp <;> with_reducible rfl)
        try simp only [Act.put, q5, q6, q7]
        refine T1 (i := 10) (oi := ?oyr17u10) (v := ?vyr17u10) [10, 17] (by rfl) (by kernel_rfl) (by rfl) ?yyr17u10 ((((((((((hT0.more 0).more 1).more 2).more 3).more 4).more 6).more 7).more 8).more 9).resolve_left (by decide)) ?_
        case yyr17u10 => (intro w hSw; (have s4 := hSw.cellN HN3'.out HC4'.out; have s5 := hSw.cellN HN4'.out HSW'.out); go_simp <;> with_reducible rfl)
        try simp only [Act.put, q5, q6, q7]
        refine T0 (i := 11) (oi := ?oyr17u11) (v := ?vyr17u11) (by rfl) (by kernel_rfl) (by rfl) ?yyr17u11 ((((((((((hT0.more 0).more 1).more 2).more 3).more 4).more 6).more 7).more 8).more 9).more 10) ?_
        case yyr17u11 => (intro w; go_simp <;> with_reducible rfl)
        try simp only [Act.put, q5, q6, q7]
        have hSx := (((((((((((hT0.more 0).more 1).more 2).more 3).more 4).more 6).more 7).more 8).more 9).more 10).more 11).resolve_left (by decide)
        refine wpAnyC_ready (rs := [5]) (by kernel_rfl) (by simp) ?_
        refine ReadyC.cons (o := ?oyr17u12) ?hoyr17u12 ?hstepyr17u12 ?_
        case hoyr17u12 => rfl
        case hstepyr17u12 =>
         intro K hK
         (go_simp; refine (KC.out _).mono ?_; rintro e w5 ⟨rfl, rfl⟩; dsimp only)
         refine hK.out _ _ (.inr ?_) (fun hHeld => ?_)
         ·first | exact hSx.then_ hf7 | exact hSx
         have hT12 := hHeld
         clear hHeld
         clear hK K
         try simp only [Act.put, q5, q6, q7]
         have hSx := hT12.resolve_left (by decide)
         refine wpAnyC_ready (rs := [12]) (by kernel_rfl) (by simp) ?_
         refine ReadyC.cons (o := ?oyr17u13) ?hoyr17u13 ?hstepyr17u13 ?_
         case hoyr17u13 => rfl
         case hstepyr17u13 =>
          intro K hK
          (go_simp; refine (KC.out _).mono ?_; rintro e w5 ⟨rfl, rfl⟩; dsimp only)
          refine hK.out _ _ (.inr ?_) (fun hHeld => ?_)
          ·first | exact hSx.then_ hf7 | exact hSx
          have hT13 := hHeld
          clear hHeld
          clear hK K
          try simp only [Act.put, q5, q6, q7]
          refine T0 (i := 13) (oi := ?oyr17u14) (v := ?vyr17u14) (by rfl) (by kernel_rfl) (by rfl) ?yyr17u14 hT13 ?_
          case yyr17u14 => (intro w; go_simp <;> with_reducible rfl)
          try simp only [Act.put, q5, q6, q7]
          refine T1 (i := 14) (oi := ?oyr17u15) (v := ?vyr17u15) [14, 17] (by rfl) (by kernel_rfl) (by rfl) ?yyr17u15 ((hT13.more 13).resolve_left (by decide)) ?_
          case yyr17u15 => (intro w hSw; (have s4 := hSw.cellN HN3'.out HC4'.out; have s5 := hSw.cellN HN4'.out HSW'.out); go_simp <;> with_reducible rfl)
          try simp only [Act.put, q5, q6, q7]
          have hSx := ((hT13.more 13).more 14).resolve_left (by decide)
          refine wpAnyC_ready (rs := [15]) (by kernel_rfl) (by simp) ?_
          refine ReadyC.cons (o := ?oyr17u16) ?hoyr17u16 ?hstepyr17u16 ?_
          case hoyr17u16 => rfl
          case hstepyr17u16 =>
           intro K hK
           (refine step_append_ints rfl _ _ rfl none 0 (casts keep) _ rfl (casts_len keep).symm ?hownyr17u16 A9 _ c9 (casts l9) (casts_len l9) rfl ?hrryr17u16 (by rw [casts_len, casts_len]; omega) ?_; (case hownyr17u16 => first | exact HKP.out.drew | exact HKP.out); (case hrryr17u16 => first | exact HR9.out.drew | exact HR9.out); intro A' cap w7 hi7 hf7 hb7 hs7)
           refine hK.out _ _ (.inr ?_) (fun hHeld => ?_)
           ·first | exact hSx.then_ hf7 | exact hSx
           have hT16 := hHeld
           clear hHeld
           clear hK K
           try simp only [Act.put, q5, q6, q7]
           refine T0 (i := 16) (oi := ?oyr17u17) (v := ?vyr17u17) (by rfl) (by kernel_rfl) (by rfl) ?yyr17u17 hT16 ?_
           case yyr17u17 => (intro w; go_simp <;> with_reducible rfl)
           try simp only [Act.put, q5, q6, q7]
           have hSx := (hT16.more 16).resolve_left (by decide)
           refine wpAnyC_ready (rs := [17]) (by kernel_rfl) (by simp) ?_
           refine ReadyC.cons (o := ?oyr17u18) ?hoyr17u18 ?hstepyr17u18 ?_
           case hoyr17u18 => rfl
           case hstepyr17u18 =>
            intro K hK
            (have sb := hSx.cellN HN4'.out HSW'.out; have fb : World.frozen? _ _ = _ := (World.frozen?_of_block (hSx.block gw (lt_of_cell HSW'.out) HN4'.out)).trans HFW'.out; go_simp)
            refine hK.out _ _ (.inl rfl) (fun hHeld => ?_)
            have hT18 := hHeld
            clear hHeld
            clear hK K
            try simp only [Act.put, q5, q6, q7]
            refine wpAnyC_done (by kernel_rfl) ?_ _
            refine NoPanic.normal ?_
            have hi8 : Ints w7 A' cap (casts (keep ++ l9)) := by
             have := hi7
             unfold casts at this ⊢
             rw [List.map_append]
             exact this
            obtain ⟨gw2, hg2, _, L8, h8, ha8, hid8, hx8, hf8⟩ := H2.out.give (c := cy) HCL3.out (A0 := none) HN2.out hi8 hSx (fun k hk => (hb7 k hk).imp id (fun e => by rw [e]; exact Nat.le_refl _))
            obtain rfl : gw = gw2 := by rw [HGW'.out] at hg2; simpa using hg2
            simp only [List.length_append] at h8 hf8
            obtain ⟨W8, hW8⟩ : ∃ W, w7.setCell ⟨gw, cy, none⟩ (.slice A' (keep.length + l9.length) cap) = W := ⟨_, rfl⟩
            rw [hW8] at h8 hf8 ⊢
            have hE8 : L.ext L8 w := by
             refine ⟨ha8.trans HE2.out.1, hid8.trans HE2.out.2.1, fun k hk e => ?_⟩
             rcases hx8 k (Nat.lt_of_lt_of_le hk HF2.out.size) (e.trans HE2.out.2.1.symm) with h1 | h1
             ·exact HE2.out.2.2 k hk (h1.trans HE2.out.2.1)
             ·rcases HG0.out k h1 with h2 | h2
              ·exact (SvL.mem_own.1 h2).2
              ·omega
            have hF8 : Fr (L.own w) w W8 := HF2.out.trans hf8 (fun k hk => by
             rcases List.mem_append.1 hk with h1 | h1
             ·exact HG0.out k h1
             ·rw [SvL.mem_own] at h1
              rcases Nat.lt_or_ge k w.heap.size with hl | hl
              ·exact .inl (SvL.mem_own.2 ⟨hl, HE2.out.2.2 k hl (h1.2.trans HE2.out.2.1)⟩)
              ·exact .inr hl)
            have hS8 : S2.wset cy (keep ++ l9) = VR.1 := by rw [← HV9.out]
            rw [hS8] at h8
            have hhv := HVIS.out.2.2.1
            have hh9 : VR.1.head = S1.head := hhv
            have hvv : VR.1.vars = S1.vars := HVIS.out.2.1
            have hlt8 : S1.T.lits.length ≤ VR.1.T.lits.length := by
             have := Sv.visits_lits off [] [] (S1.wset cy [])
             rw [HV0.out] at this
             exact this
            have c8 := h8.cells.2.2.2.2.2.2.2.2.1
            have f8 := h8.obj.frozen 8
            rw [hh9] at c8
            rw [ha8.trans HE2.out.1] at c8 f8
            obtain ⟨h9, hf9⟩ := h8.sethead (S1.head + 1)
            rw [ha8.trans HE2.out.1] at h9 hf9
            have H9 := Lib.hid h9
            have HF9 := Lib.hid (SvL.own_then hE8 hF8 hf9)
            have HE9 := Lib.hid hE8
            have HO9 : Hid (({ VR.1 with head := S1.head + 1 } : Sv).Ok 0) := (by
             have o := HVIS.out.1
             exact ⟨o.vl, o.tr, o.hi, o.hl, o.ph, o.wl, o.ll, o.wb, o.wt, o.lr, o.ln, o.lb, by show S1.head + 1 ≤ VR.1.T.lits.length; omega, o.rs⟩ : ({ VR.1 with head := S1.head + 1 } : Sv).Ok 0)
            have HVV8 := Lib.hid hvv
            have hhb : S1.head ≤ 262143 := by omega
            clear hW8 h8 hf8 hE8 hF8 hS8 hhv hh9 hvv hlt8 h9 hf9 hi7 hf7 hb7 hs7 hi8 hx8 ha8 hid8 hSx
            go_wp2_with fail
            go_roundg f
            case measure => omega
            case rel => exact ⟨{ VR.1 with head := S1.head + 1 }, L8, HRN.out, (by show VR.1.vars + 1 ≤ f + (S1.head + 1); have := HFU.out; have := HVV8.out; omega), HO9.out, H9.out, HE9.out, HF9.out⟩
           exact ReadyC.nil
          exact ReadyC.nil
         exact ReadyC.nil
        exact ReadyC.nil
     ·go_wp2_with fail
      go_loopg [5, 56] l0.length (fun g2 x5 x56 wi => ∃ (i : Nat) (keep : List Nat) (S2 : Sv) (L2 : SvL), i + g2 = l0.length ∧ keep.length ≤ i ∧ x5 = .slice (some ⟨g0, 0, none⟩) keep.length c0 ∧ x56 = .int .i64 i ∧ Hid (Sv.visitsF off (l0.drop i) keep S2 = VR) ∧ Hid (S2.Ok (keep.length + (l0.length - i))) ∧ Hid (∀ n ∈ keep, n < S1.list.length) ∧ Hid (S2.list.length = S1.list.length ∧ S2.vars = S1.vars ∧ S2.watch.length = 2 * S1.vars + 2) ∧ Hid (SvAt wi L2 S2) ∧ Hid (L.ext L2 w) ∧ Hid (Fr (L.own w) w wi) ∧ Hid (Ints wi (some ⟨g0, 0, none⟩) c0 (casts (keep ++ l0.drop keep.length))) ∧ Hid (∀ k, k ∈ blks (some ⟨g0, 0, none⟩) → (L2.lab k).1 ≠ L2.id))
      case atStart => exact ⟨0, [], S1.wset cy [], L5, by omega, Nat.le_refl _, rfl, rfl, HV0.out, HO5.out.less (by simp), (fun n hn => by cases hn), ⟨rfl, rfl, HWL5.out⟩, H5.out, HE5.out, HF5.out, HI5.out, HN5.out⟩
      case round =>
       obtain ⟨i, keep, S2, L2, hi, hki, rfl, rfl, HVS, HO2, HKN, HSM, H2, HE2, HF2, HI2, HN2⟩ := hrel
       have HI := Lib.hid hi
       have hil : i ≤ l0.length := by omega
       clear hi
       by_cases hlt2 : i < l0.length
       ·have cn := (HI2.out : Ints _ (some ⟨g0, 0, none⟩) c0 _).cell (i := i) (by rw [casts_len, row_len (by omega)]; exact hlt2)
        rw [casts_get, row_get hki hlt2] at cn
        obtain ⟨n, hn⟩ : ∃ n, l0[i]! = n := ⟨_, rfl⟩
        rw [hn] at cn
        have hmem : n ∈ l0 := by rw [← hn]; simp only [List.getElem!_eq_getElem?_getD, List.getElem?_eq_getElem hlt2, Option.getD_some]; exact List.getElem_mem hlt2
        have hnl : n < S2.list.length := by rw [HSM.out.1]; exact HL0N.out n hmem
        have hnb : n < 1099511627776 := by have := HO1.out.ll; have := HSM.out.1; omega
        have hdr : l0.drop i = n :: l0.drop (i + 1) := by rw [List.drop_eq_getElem_cons hlt2, ← hn]; simp only [List.getElem!_eq_getElem?_getD, List.getElem?_eq_getElem hlt2, Option.getD_some]
        have hok1 := HO2.out.less (m' := (keep.length + (l0.length - (i + 1))) + 1) (by omega)
        have HVC := visit_calls _ L2 S2 H2.out _ hok1 n hnl off
        have hvo := hok1.visit hnl off
        have hff := visit_ff S2 n off
        have hvs := HVS.out
        rw [hdr] at hvs
        simp only [Sv.visitsF] at hvs
        rw [HE2.out.1] at HVC
        obtain ⟨⟨q1, st, okb⟩, hq⟩ : ∃ q, S2.visitF n off = q := ⟨_, rfl⟩
        rw [hq] at HVC hvo hff hvs
        simp only at HVC hvo hff hvs
        have HVC := Lib.hid HVC
        have HVO := Lib.hid hvo
        have HFFF := Lib.hid hff
        have HVS2 := Lib.hid hvs
        have HNB := Lib.hid (HL0N.out n hmem)
        clear hq hvo hff hvs hdr hmem hn hnl hok1
        go_wp2_with fail
        clear cn
        refine HVC.out.mono ?_
        clear HVC
        rintro e w6 ⟨rfl, L3, h3, he3, hf3⟩
        have HE3 := Lib.hid (SvL.ext_trans HE2.out (by exact he3) HF2.out.size)
        have HF3' := Lib.hid (SvL.own_then HE2.out HF2.out hf3)
        have hg2 : ∀ V : World, g0 ∉ L2.own V := fun V hm => HN2.out g0 (by simp [blks]) (SvL.mem_own.1 hm).2
        have HI3 := Lib.hid (HI2.out.fr hf3 (fun k hk => by simp [blks] at hk; subst hk; exact hg2 _))
        have HN3 : Hid (∀ k, k ∈ blks (some (⟨g0, 0, none⟩ : Addr)) → (L3.lab k).1 ≠ L3.id) := fun k hk e => by
         have hl : k < _ := HI2.out.lt k hk
         exact HN2.out k hk (he3.2.2 k hl (e.trans he3.2.1))
        have H3 := Lib.hid h3
        clear h3 he3 hf3 hg2 HE2 HF2 H2 HI2 HN2
        cases st with
        | true =>
         cases okb with
         | true =>
          have hkl : keep.length < l0.length := by omega
          have HB : Hid (Fr [] w6 (w6.alloc (.cells #[.int .i64 n] 3))) := box_fr' _ _
          have HCE : Hid ((w6.alloc (.cells #[.int .i64 n] 3)).cell? ⟨w6.heap.size, 0, none⟩ = some (.int .i64 n)) := (At.new w6 _ _).cell 0
          go_wp2_with (at_builtin; (refine wpList_append_in1 _ rfl _ _ rfl g0 c0 keep.length (casts (keep ++ l0.drop keep.length)) rfl (HI3.out.keep' HB.out) ⟨w6.heap.size, 0, none⟩ 1 n rfl HCE.out (by rw [casts_len, row_len (by omega)]; exact hkl) ?_; intro w7 hi7 hf7))
          rw [row_put n hkl] at hi7
          have HI7 := Lib.hid hi7
          have hF7 : Fr [g0] w6 w7 := (HB.out.mono (fun k hk => by cases hk)).then_ hf7
          have H7 := Lib.hid (H3.out.fr hF7 (fun k hk _ => by simp at hk; subst hk; exact HN3.out k (by simp [blks])))
          have HF7 := Lib.hid (HF3'.out.trans hF7 (fun k hk => by simp at hk; subst hk; exact HG0.out k (by simp [blks])))
          have HVO2 := Lib.hid HVO.out
          have hvs := HVS2.out
          simp only [if_true] at hvs
          have HVS3 := Lib.hid hvs
          have HKN2 : Hid (∀ j ∈ keep ++ [n], j < S1.list.length) := fun j hj => by
           rcases List.mem_append.1 hj with h | h
           ·exact HKN.out j h
           ·simp at h; rw [h]; exact HNB.out
          clear hi7 hf7 hF7 hvs HB HCE HI3 H3 HF3'
          have hvs := HVS3.out
          try simp only [if_true] at hvs
          have HVS4 := Lib.hid hvs
          clear hvs
          go_roundg (gk - 1)
          case measure => have := HI.out; omega
          case rel => exact ⟨i + 1, keep ++ [n], q1, L3, by have := HI.out; omega, by simp; omega, by simp, by go_num, HVS4.out, HVO2.out.1.less (by simp; omega), HKN2.out, ⟨by rw [HVO2.out.2.2.1]; exact HSM.out.1, by rw [HVO2.out.2.1]; exact HSM.out.2.1, by rw [HVO2.out.2.2.2.2]; exact HSM.out.2.2⟩, H7.out, HE3.out, HF7.out, HI7.out, HN3.out⟩
         | false =>
          have hkl : keep.length < l0.length := by omega
          have HB : Hid (Fr [] w6 (w6.alloc (.cells #[.int .i64 n] 3))) := box_fr' _ _
          have HCE : Hid ((w6.alloc (.cells #[.int .i64 n] 3)).cell? ⟨w6.heap.size, 0, none⟩ = some (.int .i64 n)) := (At.new w6 _ _).cell 0
          go_wp2_with (at_builtin; (refine wpList_append_in1 _ rfl _ _ rfl g0 c0 keep.length (casts (keep ++ l0.drop keep.length)) rfl (HI3.out.keep' HB.out) ⟨w6.heap.size, 0, none⟩ 1 n rfl HCE.out (by rw [casts_len, row_len (by omega)]; exact hkl) ?_; intro w7 hi7 hf7))
          rw [row_put n hkl] at hi7
          have HI7 := Lib.hid hi7
          have hF7 : Fr [g0] w6 w7 := (HB.out.mono (fun k hk => by cases hk)).then_ hf7
          have H7 := Lib.hid (H3.out.fr hF7 (fun k hk _ => by simp at hk; subst hk; exact HN3.out k (by simp [blks])))
          have HF7 := Lib.hid (HF3'.out.trans hF7 (fun k hk => by simp at hk; subst hk; exact HG0.out k (by simp [blks])))
          have HVO2 := Lib.hid HVO.out
          have hvs := HVS2.out
          simp only [if_true] at hvs
          have HVS3 := Lib.hid hvs
          have HKN2 : Hid (∀ j ∈ keep ++ [n], j < S1.list.length) := fun j hj => by
           rcases List.mem_append.1 hj with h | h
           ·exact HKN.out j h
           ·simp at h; rw [h]; exact HNB.out
          clear hi7 hf7 hF7 hvs HB HCE HI3 H3 HF3'
          have hcl2 : cy < L3.ws.length := by rw [H7.out.lenw, HVO2.out.2.2.2.2, HSM.out.2.2]; have := HCL.out; rw [H1L.out] at this; exact this
          obtain ⟨gw, hgw, sw, fw⟩ := H7.out.whd hcl2
          obtain ⟨-, -, -, -, c4, -⟩ := H7.out.cells
          rw [hgw, HE3.out.1] at c4
          have HN3' : Hid (L.a ∉ blks (some ⟨g0, 0, none⟩)) := fun hm => HN3.out _ hm (H7.out.has_own (.inl (by rw [HE3.out.1])))
          have HN4' : Hid (gw ∉ blks (some ⟨g0, 0, none⟩)) := fun hm => HN3.out _ hm (H7.out.has_own (.inr (.inr (.inr (.inr (.inl (by rw [hgw]; simp [blks])))))))
          have HC4' := Lib.hid c4
          have HSW' := Lib.hid sw
          have HFW' := Lib.hid fw
          have HGW' := Lib.hid hgw
          have hvs := HVS3.out
          try simp only [Bool.false_eq_true, if_false] at hvs
          rw [HCY.out] at hvs
          have HV9 := Lib.hid hvs
          have hcl3 : cy < L3.ws.length := hcl2
          have HCL3 := Lib.hid hcl3
          have HRN : Hid (RES = (VR.1, some n)) := by
           rcases HVR.out with h1 | ⟨n', h1, h2⟩
           ·rw [← HV9.out] at h1
            simp at h1
           ·have e : n' = n := by rw [← HV9.out] at h1; simpa using h1.symm
            rw [h2, e]
            rfl
          have hki1 : keep.length + 1 ≤ i + 1 := by omega
          have HIN : Hid (∀ k : Nat, k < (casts (l0.drop (i + 1))).length → w7.cell? ⟨g0, i + 1 + k, none⟩ = some (.int .i64 (casts (l0.drop (i + 1)))[k]!)) := fun k hk => by
           rw [casts_len, List.length_drop] at hk
           have h1 := HI7.out.cell (i := i + 1 + k) (by rw [casts_len, row_len (by simp; omega)]; omega)
           rw [h1, casts_get, casts_get, row_get (by simp; omega) (by omega), drop_get]
          have hl0d : (casts (l0.drop (i + 1))).length = l0.length - (i + 1) := by rw [casts_len, List.length_drop]
          have HL0D := Lib.hid hl0d
          have hi1i : IntKind.i64.wrap ((i : Int) + 1) = (i : Int) + 1 := IntWalk.i64_in _ (by omega)
          have hb1 : (i : Int) + 1 ≤ l0.length := by omega
          have hb0 : (0 : Int) ≤ (i : Int) + 1 := by omega
          have hb2 : i + 1 ≤ l0.length := by omega
          have hb3 : i + 1 ≤ c0 := by omega
          clear hvs sw fw hgw c4 hcl2 hl0d
          by_cases hcap : c0 = i + 1
          ·subst hcap
           refine wp_region_noPanic ?_
           refine wp_region_C (fun w' : World => Fr [g0] w7 w') 13 (by kernel_rfl) ((Fr.refl _ w7).drew) (fun hT0 => ?_)
           refine T0 (i := 0) (oi := ?opr14u1) (v := ?vpr14u1) (by rfl) (by kernel_rfl) (by rfl) ?ypr14u1 hT0 ?_
           case ypr14u1 => (intro w; go_simp <;> with_reducible rfl)
           try simp only [Act.put, q5, q6, q7]
           refine T0 (i := 1) (oi := ?opr14u2) (v := ?vpr14u2) (by rfl) (by kernel_rfl) (by rfl) ?ypr14u2 (hT0.more 0) ?_
           case ypr14u2 => (intro w; go_simp <;> with_reducible rfl)
           try simp only [Act.put, q5, q6, q7]
           refine T0 (i := 2) (oi := ?opr14u3) (v := ?vpr14u3) (by rfl) (by kernel_rfl) (by rfl) ?ypr14u3 ((hT0.more 0).more 1) ?_
           case ypr14u3 => (intro w; go_simp <;> with_reducible rfl)
           try simp only [Act.put, q5, q6, q7]
           refine T1 (i := 3) (oi := ?opr14u4) (v := ?vpr14u4) [3, 13] (by rfl) (by kernel_rfl) (by rfl) ?ypr14u4 ((((hT0.more 0).more 1).more 2).resolve_left (by decide)) ?_
           case ypr14u4 => (intro w hSw; (have s4 := hSw.cellN HN3'.out HC4'.out; have s5 := hSw.cellN HN4'.out HSW'.out); go_simp <;> with_reducible rfl)
           try simp only [Act.put, q5, q6, q7]
           refine T0 (i := 4) (oi := ?opr14u5) (v := ?vpr14u5) (by rfl) (by kernel_rfl) (by rfl) ?ypr14u5 ((((hT0.more 0).more 1).more 2).more 3) ?_
           case ypr14u5 => (intro w; go_simp <;> with_reducible rfl)
           try simp only [Act.put, q5, q6, q7]
           refine T0 (i := 6) (oi := ?opr14u6) (v := ?vpr14u6) (by rfl) (by kernel_rfl) (by rfl) ?ypr14u6 (((((hT0.more 0).more 1).more 2).more 3).more 4) ?_
           case ypr14u6 => (intro w; go_simp <;> with_reducible rfl)
           try simp only [Act.put, q5, q6, q7]
           refine T0 (i := 7) (oi := ?opr14u7) (v := ?vpr14u7) (by rfl) (by kernel_rfl) (by rfl) ?ypr14u7 ((((((hT0.more 0).more 1).more 2).more 3).more 4).more 6) ?_
           case ypr14u7 => (intro w; go_simp <;> with_reducible rfl)
           try simp only [Act.put, q5, q6, q7]
           refine T0 (i := 8) (oi := ?opr14u8) (v := ?vpr14u8) (by rfl) (by kernel_rfl) (by rfl) ?ypr14u8 (((((((hT0.more 0).more 1).more 2).more 3).more 4).more 6).more 7) ?_
           case ypr14u8 => (intro w; go_simp <;> with_reducible rfl)
           try simp only [Act.put, q5, q6, q7]
           refine T0 (i := 9) (oi := ?opr14u9) (v := ?vpr14u9) (by rfl) (by kernel_rfl) (by rfl) ?ypr14u9 ((((((((hT0.more 0).more 1).more 2).more 3).more 4).more 6).more 7).more 8) ?_
           case ypr14u9 => (intro w; go_simp <;> with_reducible rfl)
           try simp only [Act.put, q5, q6, q7]
           refine T0 (i := 10) (oi := ?opr14u10) (v := ?vpr14u10) (by rfl) (by kernel_rfl) (by rfl) ?ypr14u10 (((((((((hT0.more 0).more 1).more 2).more 3).more 4).more 6).more 7).more 8).more 9) ?_
           case ypr14u10 => (intro w; go_simp <;> with_reducible rfl)
           try simp only [Act.put, q5, q6, q7]
           have hSx := ((((((((((hT0.more 0).more 1).more 2).more 3).more 4).more 6).more 7).more 8).more 9).more 10).resolve_left (by decide)
           refine wpAnyC_ready (rs := [5]) (by kernel_rfl) (by simp) ?_
           refine ReadyC.cons (o := ?opr14u11) ?hopr14u11 ?hsteppr14u11 ?_
           case hopr14u11 => rfl
           case hsteppr14u11 =>
            intro K hK
            (go_simp; refine (KC.out _).mono ?_; rintro e w5 ⟨rfl, rfl⟩; dsimp only)
            refine hK.out _ _ (.inr ?_) (fun hHeld => ?_)
            ·first | exact hSx.then_ hf8 | exact hSx
            have hT11 := hHeld
            clear hHeld
            clear hK K
            try simp only [Act.put, q5, q6, q7]
            have hSx := hT11.resolve_left (by decide)
            refine wpAnyC_ready (rs := [11]) (by kernel_rfl) (by simp) ?_
            refine ReadyC.cons (o := ?opr14u12) ?hopr14u12 ?hsteppr14u12 ?_
            case hopr14u12 => rfl
            case hsteppr14u12 =>
             intro K hK
             (refine step_append_in rfl _ _ rfl g0 (i + 1) (keep.length + 1) (casts ((keep ++ [n]) ++ l0.drop (keep ++ [n]).length)) rfl ?hownpr14u12 ⟨g0, 0, none⟩ 0 0 [] rfl rfl (fun k hk => absurd hk (by simp)) (by rw [casts_len, row_len (by simp; omega)]; simp; omega) ?_; (case hownpr14u12 => first | exact HI7.out.drew | exact HI7.out); intro w8 hi8 hf8)
             refine hK.out _ _ (.inr ?_) (fun hHeld => ?_)
             ·first | exact hSx.then_ hf8 | exact hSx
             have hT12 := hHeld
             clear hHeld
             clear hK K
             try simp only [Act.put, q5, q6, q7]
             refine T0 (i := 12) (oi := ?opr14u13) (v := ?vpr14u13) (by rfl) (by kernel_rfl) (by rfl) ?ypr14u13 hT12 ?_
             case ypr14u13 => (intro w; go_simp <;> with_reducible rfl)
             try simp only [Act.put, q5, q6, q7]
             have hSx := (hT12.more 12).resolve_left (by decide)
             refine wpAnyC_ready (rs := [13]) (by kernel_rfl) (by simp) ?_
             refine ReadyC.cons (o := ?opr14u14) ?hopr14u14 ?hsteppr14u14 ?_
             case hopr14u14 => rfl
             case hsteppr14u14 =>
              intro K hK
              (have sb := hSx.cellN HN4'.out HSW'.out; have fb : World.frozen? _ _ = _ := (World.frozen?_of_block (hSx.block gw (lt_of_cell HSW'.out) HN4'.out)).trans HFW'.out; go_simp)
              refine hK.out _ _ (.inl rfl) (fun hHeld => ?_)
              have hT14 := hHeld
              clear hHeld
              clear hK K
              try simp only [Act.put, q5, q6, q7]
              refine wpAnyC_done (by kernel_rfl) ?_ _
              refine NoPanic.normal ?_
              have hcut : (casts ((keep ++ [n]) ++ l0.drop (keep ++ [n]).length)).take (keep.length + 1) = casts (keep ++ [n]) := by
               have := row_cut (keep := keep ++ [n]) (l0 := l0)
               rw [List.length_append, List.length_singleton] at this
               rw [List.length_append, List.length_singleton]
               exact this
              have hdz : l0.drop (i + 1) = [] := List.drop_eq_nil_of_le (by omega)
              have hlz : l0.length - (i + 1) = 0 := by omega
              have hi9 : Ints w8 (some ⟨g0, 0, none⟩) (i + 1) (casts ((keep ++ [n]) ++ l0.drop (i + 1))) := by
               have := hi8.take_ (keep.length + 1)
               rw [hcut, List.append_nil, List.take_append_of_le_length (by rw [casts_len]; simp), List.take_of_length_le (by rw [casts_len]; simp)] at this
               rw [hdz, List.append_nil]
               exact this
              obtain ⟨gw2, hg2, _, L8, h8, ha8, hid8, hx8, hf9⟩ := H7.out.give (c := cy) HCL3.out (A0 := some ⟨g0, 0, none⟩) HN3.out hi9 hSx (fun k hk => .inl hk)
              obtain rfl : gw = gw2 := by rw [HGW'.out] at hg2; simpa using hg2
              have hlen9 : ((keep ++ [n]) ++ l0.drop (i + 1)).length = keep.length + 1 + (l0.length - (i + 1)) := by simp; omega
              rw [hlen9, hlz] at h8 hf9
              have hE8 : L.ext L8 w := by
               refine ⟨ha8.trans HE3.out.1, hid8.trans HE3.out.2.1, fun k hk e => ?_⟩
               rcases hx8 k (Nat.lt_of_lt_of_le hk HF7.out.size) (e.trans HE3.out.2.1.symm) with h1 | h1
               ·exact HE3.out.2.2 k hk (h1.trans HE3.out.2.1)
               ·rcases HG0.out k h1 with h2 | h2
                ·exact (SvL.mem_own.1 h2).2
                ·omega
              have hF8 := HF7.out.trans hf9 (fun k hk => by
               rcases List.mem_append.1 hk with h1 | h1
               ·exact HG0.out k h1
               ·rw [SvL.mem_own] at h1
                rcases Nat.lt_or_ge k w.heap.size with hl | hl
                ·exact .inl (SvL.mem_own.2 ⟨hl, HE3.out.2.2 k hl (h1.2.trans HE3.out.2.1)⟩)
                ·exact .inr hl)
              have hS8 : q1.wset cy ((keep ++ [n]) ++ l0.drop (i + 1)) = VR.1 := by rw [← HV9.out]
              rw [hS8] at h8
              have FF := Lib.hid (FIN.out VR.1 (some n) HRN.out _ L8 h8 hE8 hF8)
              clear hi8 hf8 hi9 h8 hE8 hF8 hS8 hSx hf9
              go_wp2_with fail
              go_ret
              exact FF.out
             exact ReadyC.nil
            exact ReadyC.nil
           exact ReadyC.nil
          ·have hcap2 : c0 - (i + 1) ≠ 0 := by omega
           refine wp_region_noPanic ?_
           refine wp_region_C (fun w' : World => Fr [g0] w7 w') 13 (by kernel_rfl) ((Fr.refl _ w7).drew) (fun hT0 => ?_)
           refine T0 (i := 0) (oi := ?oqr14u1) (v := ?vqr14u1) (by rfl) (by kernel_rfl) (by rfl) ?yqr14u1 hT0 ?_
           case yqr14u1 => (intro w; go_simp <;> with_reducible rfl)
           try simp only [Act.put, q5, q6, q7]
           refine T0 (i := 1) (oi := ?oqr14u2) (v := ?vqr14u2) (by rfl) (by kernel_rfl) (by rfl) ?yqr14u2 (hT0.more 0) ?_
           case yqr14u2 => (intro w; go_simp <;> with_reducible rfl)
           try simp only [Act.put, q5, q6, q7]
           refine T0 (i := 2) (oi := ?oqr14u3) (v := ?vqr14u3) (by rfl) (by kernel_rfl) (by rfl) ?yqr14u3 ((hT0.more 0).more 1) ?_
           case yqr14u3 => (intro w; go_simp <;> with_reducible rfl)
           try simp only [Act.put, q5, q6, q7]
           refine T1 (i := 3) (oi := ?oqr14u4) (v := ?vqr14u4) [3, 13] (by rfl) (by kernel_rfl) (by rfl) ?yqr14u4 ((((hT0.more 0).more 1).more 2).resolve_left (by decide)) ?_
           case yqr14u4 => (intro w hSw; (have s4 := hSw.cellN HN3'.out HC4'.out; have s5 := hSw.cellN HN4'.out HSW'.out); go_simp <;> with_reducible rfl)
           try simp only [Act.put, q5, q6, q7]
           refine T0 (i := 4) (oi := ?oqr14u5) (v := ?vqr14u5) (by rfl) (by kernel_rfl) (by rfl) ?yqr14u5 ((((hT0.more 0).more 1).more 2).more 3) ?_
           case yqr14u5 => (intro w; go_simp <;> with_reducible rfl)
           try simp only [Act.put, q5, q6, q7]
           refine T0 (i := 6) (oi := ?oqr14u6) (v := ?vqr14u6) (by rfl) (by kernel_rfl) (by rfl) ?yqr14u6 (((((hT0.more 0).more 1).more 2).more 3).more 4) ?_
           case yqr14u6 => (intro w; go_simp <;> with_reducible rfl)
           try simp only [Act.put, q5, q6, q7]
           refine T0 (i := 7) (oi := ?oqr14u7) (v := ?vqr14u7) (by rfl) (by kernel_rfl) (by rfl) ?yqr14u7 ((((((hT0.more 0).more 1).more 2).more 3).more 4).more 6) ?_
           case yqr14u7 => (intro w; go_simp <;> with_reducible rfl)
           try simp only [Act.put, q5, q6, q7]
           refine T0 (i := 8) (oi := ?oqr14u8) (v := ?vqr14u8) (by rfl) (by kernel_rfl) (by rfl) ?yqr14u8 (((((((hT0.more 0).more 1).more 2).more 3).more 4).more 6).more 7) ?_
           case yqr14u8 => (intro w; go_simp <;> with_reducible rfl)
           try simp only [Act.put, q5, q6, q7]
           refine T0 (i := 9) (oi := ?oqr14u9) (v := ?vqr14u9) (by rfl) (by kernel_rfl) (by rfl) ?yqr14u9 ((((((((hT0.more 0).more 1).more 2).more 3).more 4).more 6).more 7).more 8) ?_
           case yqr14u9 => (intro w; go_simp <;> with_reducible rfl)
           try simp only [Act.put, q5, q6, q7]
           refine T0 (i := 10) (oi := ?oqr14u10) (v := ?vqr14u10) (by rfl) (by kernel_rfl) (by rfl) ?yqr14u10 (((((((((hT0.more 0).more 1).more 2).more 3).more 4).more 6).more 7).more 8).more 9) ?_
           case yqr14u10 => (intro w; go_simp <;> with_reducible rfl)
           try simp only [Act.put, q5, q6, q7]
           have hSx := ((((((((((hT0.more 0).more 1).more 2).more 3).more 4).more 6).more 7).more 8).more 9).more 10).resolve_left (by decide)
           refine wpAnyC_ready (rs := [5]) (by kernel_rfl) (by simp) ?_
           refine ReadyC.cons (o := ?oqr14u11) ?hoqr14u11 ?hstepqr14u11 ?_
           case hoqr14u11 => rfl
           case hstepqr14u11 =>
            intro K hK
            (go_simp; refine (KC.out _).mono ?_; rintro e w5 ⟨rfl, rfl⟩; dsimp only)
            refine hK.out _ _ (.inr ?_) (fun hHeld => ?_)
            ·first | exact hSx.then_ hf8 | exact hSx
            have hT11 := hHeld
            clear hHeld
            clear hK K
            try simp only [Act.put, q5, q6, q7]
            have hSx := hT11.resolve_left (by decide)
            refine wpAnyC_ready (rs := [11]) (by kernel_rfl) (by simp) ?_
            refine ReadyC.cons (o := ?oqr14u12) ?hoqr14u12 ?hstepqr14u12 ?_
            case hoqr14u12 => rfl
            case hstepqr14u12 =>
             intro K hK
             (refine step_append_in rfl _ _ rfl g0 c0 (keep.length + 1) (casts ((keep ++ [n]) ++ l0.drop (keep ++ [n]).length)) rfl ?hownqr14u12 ⟨g0, i + 1, none⟩ (l0.length - (i + 1)) (c0 - (i + 1)) (casts (l0.drop (i + 1))) HL0D.out rfl ?hrrqr14u12 (by rw [casts_len, casts_len, row_len (by simp; omega), List.length_drop]; omega) ?_; (case hownqr14u12 => first | exact HI7.out.drew | exact HI7.out); (case hrrqr14u12 => exact (fun k hk => by rw [addr_add]; exact HIN.out k hk)); intro w8 hi8 hf8)
             refine hK.out _ _ (.inr ?_) (fun hHeld => ?_)
             ·first | exact hSx.then_ hf8 | exact hSx
             have hT12 := hHeld
             clear hHeld
             clear hK K
             try simp only [Act.put, q5, q6, q7]
             refine T0 (i := 12) (oi := ?oqr14u13) (v := ?vqr14u13) (by rfl) (by kernel_rfl) (by rfl) ?yqr14u13 hT12 ?_
             case yqr14u13 => (intro w; go_simp <;> with_reducible rfl)
             try simp only [Act.put, q5, q6, q7]
             have hSx := (hT12.more 12).resolve_left (by decide)
             refine wpAnyC_ready (rs := [13]) (by kernel_rfl) (by simp) ?_
             refine ReadyC.cons (o := ?oqr14u14) ?hoqr14u14 ?hstepqr14u14 ?_
             case hoqr14u14 => rfl
             case hstepqr14u14 =>
              intro K hK
              (have sb := hSx.cellN HN4'.out HSW'.out; have fb : World.frozen? _ _ = _ := (World.frozen?_of_block (hSx.block gw (lt_of_cell HSW'.out) HN4'.out)).trans HFW'.out; go_simp)
              refine hK.out _ _ (.inl rfl) (fun hHeld => ?_)
              have hT14 := hHeld
              clear hHeld
              clear hK K
              try simp only [Act.put, q5, q6, q7]
              refine wpAnyC_done (by kernel_rfl) ?_ _
              refine NoPanic.normal ?_
              have hcut : (casts ((keep ++ [n]) ++ l0.drop (keep ++ [n]).length)).take (keep.length + 1) = casts (keep ++ [n]) := by
               have := row_cut (keep := keep ++ [n]) (l0 := l0)
               rw [List.length_append, List.length_singleton] at this
               rw [List.length_append, List.length_singleton]
               exact this
              have hi9 : Ints w8 (some ⟨g0, 0, none⟩) c0 (casts ((keep ++ [n]) ++ l0.drop (i + 1))) := by
               have := hi8.take_ (keep.length + 1 + (l0.length - (i + 1)))
               rw [hcut] at this
               have e : (casts (keep ++ [n]) ++ casts (l0.drop (i + 1))).length = keep.length + 1 + (l0.length - (i + 1)) := by
                rw [List.length_append, casts_len, casts_len, List.length_drop, List.length_append, List.length_singleton]
               rw [List.take_append_of_le_length (by rw [e]; exact Nat.le_refl _), List.take_of_length_le (by rw [e]; exact Nat.le_refl _)] at this
               unfold casts at this ⊢
               rw [List.map_append]
               exact this
              obtain ⟨gw2, hg2, _, L8, h8, ha8, hid8, hx8, hf9⟩ := H7.out.give (c := cy) HCL3.out (A0 := some ⟨g0, 0, none⟩) HN3.out hi9 hSx (fun k hk => .inl hk)
              obtain rfl : gw = gw2 := by rw [HGW'.out] at hg2; simpa using hg2
              have hlen9 : ((keep ++ [n]) ++ l0.drop (i + 1)).length = keep.length + 1 + (l0.length - (i + 1)) := by simp; omega
              rw [hlen9] at h8 hf9
              have hE8 : L.ext L8 w := by
               refine ⟨ha8.trans HE3.out.1, hid8.trans HE3.out.2.1, fun k hk e => ?_⟩
               rcases hx8 k (Nat.lt_of_lt_of_le hk HF7.out.size) (e.trans HE3.out.2.1.symm) with h1 | h1
               ·exact HE3.out.2.2 k hk (h1.trans HE3.out.2.1)
               ·rcases HG0.out k h1 with h2 | h2
                ·exact (SvL.mem_own.1 h2).2
                ·omega
              have hF8 := HF7.out.trans hf9 (fun k hk => by
               rcases List.mem_append.1 hk with h1 | h1
               ·exact HG0.out k h1
               ·rw [SvL.mem_own] at h1
                rcases Nat.lt_or_ge k w.heap.size with hl | hl
                ·exact .inl (SvL.mem_own.2 ⟨hl, HE3.out.2.2 k hl (h1.2.trans HE3.out.2.1)⟩)
                ·exact .inr hl)
              have hS8 : q1.wset cy ((keep ++ [n]) ++ l0.drop (i + 1)) = VR.1 := by rw [← HV9.out]
              rw [hS8] at h8
              have FF := Lib.hid (FIN.out VR.1 (some n) HRN.out _ L8 h8 hE8 hF8)
              clear hi8 hf8 hi9 h8 hE8 hF8 hS8 hSx hf9
              go_wp2_with fail
              go_ret
              exact FF.out
             exact ReadyC.nil
            exact ReadyC.nil
           exact ReadyC.nil
        | false =>
         have hokt := HFFF.out rfl
         subst hokt
         have hvs := HVS2.out
         simp only [Bool.false_eq_true, if_false, if_true] at hvs
         have HVS4 := Lib.hid hvs
         clear hvs
         go_wp2_with fail
         go_roundg (gk - 1)
         case measure => have := HI.out; omega
         case rel => exact ⟨i + 1, keep, q1, L3, by have := HI.out; omega, by omega, rfl, by go_num, HVS4.out, HVO.out.1.less (by simp), HKN.out, ⟨by rw [HVO.out.2.2.1]; exact HSM.out.1, by rw [HVO.out.2.1]; exact HSM.out.2.1, by rw [HVO.out.2.2.2.2]; exact HSM.out.2.2⟩, H3.out, HE3.out, HF3'.out, HI3.out, HN3.out⟩
       ·obtain rfl : i = l0.length := by omega
        clear HI
        have hcl2 : cy < L2.ws.length := by rw [H2.out.lenw, HSM.out.2.2]; have := HCL.out; rw [H1L.out] at this; exact this
        obtain ⟨gw, hgw, sw, fw⟩ := H2.out.whd hcl2
        obtain ⟨-, -, -, -, c4, -⟩ := H2.out.cells
        rw [hgw, HE2.out.1] at c4
        have HN3' : Hid (L.a ∉ blks (some ⟨g0, 0, none⟩)) := fun hm => HN2.out _ hm (H2.out.has_own (.inl (by rw [HE2.out.1])))
        have HN4' : Hid (gw ∉ blks (some ⟨g0, 0, none⟩)) := fun hm => HN2.out _ hm (H2.out.has_own (.inr (.inr (.inr (.inr (.inl (by rw [hgw]; simp [blks])))))))
        have HC4' := Lib.hid c4
        have HSW' := Lib.hid sw
        have HFW' := Lib.hid fw
        have HGW' := Lib.hid hgw
        have hvs := HVS.out
        rw [List.drop_length] at hvs
        simp only [Sv.visitsF] at hvs
        rw [HCY.out] at hvs
        have hw9 := H2.out.wat_eq hcl2
        have hr9 := H2.out.ewh cy hcl2
        have hl9 := HO2.out.room cy
        have hno9 : ∀ k, k ∈ blks (L2.ws[cy]!).A → k ∉ blks (some ⟨g0, 0, none⟩) := fun k hk hm => HN2.out k hm (H2.out.has_own (.inr (.inr (.inr (.inr (.inr (.inr (.inr (.inr (.inr ⟨cy, hcl2, hk⟩))))))))))
        unfold Sv.wat at hw9 hvs
        rw [hw9] at hl9 hvs
        obtain ⟨⟨A9, c9, l9⟩, hx9⟩ : ∃ x, L2.ws[cy]! = x := ⟨_, rfl⟩
        rw [hx9] at sw hr9 hl9 hvs hno9
        rw [hx9] at HSW'
        simp only at sw hr9 hl9 hvs HSW' hno9
        have HR9 := Lib.hid hr9
        have HV9 := Lib.hid hvs
        have hkeep : Ints wr (some ⟨g0, 0, none⟩) c0 (casts keep) := by
         have := HI2.out.take_ keep.length
         rw [row_cut] at this
         exact this
        have HKP := Lib.hid hkeep
        have hcl3 : cy < L2.ws.length := hcl2
        have HCL3 := Lib.hid hcl3
        have HRN : Hid (Sv.followF f { VR.1 with head := S1.head + 1 } = RES) := by
         rcases HVR.out with h1 | ⟨n, h1, _⟩
         ·exact h1.1
         ·rw [← HV9.out] at h1
          simp at h1
        have hkl9 : keep.length ≤ 2199023255552 := by omega
        clear hx9 hw9 hr9 hvs hkeep sw fw hgw c4 hcl2
        go_upto_region 17 with fail
        refine wp_region_noPanic ?_
        refine wp_region_C (fun w' : World => Fr (blks (some ⟨g0, 0, none⟩)) wr w') 17 (by kernel_rfl) ((Fr.refl _ wr).drew) (fun hT0 => ?_)
        refine T0 (i := 0) (oi := ?oxr17u1) (v := ?vxr17u1) (by rfl) (by kernel_rfl) (by rfl) ?yxr17u1 hT0 ?_
        case yxr17u1 => (intro w; go_simp <;> with_reducible rfl)
        try simp only [Act.put, q5, q6, q7]
        refine T0 (i := 1) (oi := ?oxr17u2) (v := ?vxr17u2) (by rfl) (by kernel_rfl) (by rfl) ?yxr17u2 (hT0.more 0) ?_
        case yxr17u2 => (intro w; go_simp <;> with_reducible rfl)
        try simp only [Act.put, q5, q6, q7]
        refine T0 (i := 2) (oi := ?oxr17u3) (v := ?vxr17u3) (by rfl) (by kernel_rfl) (by rfl) ?yxr17u3 ((hT0.more 0).more 1) ?_
        case yxr17u3 => (intro w; go_simp <;> with_reducible rfl)
        try simp only [Act.put, q5, q6, q7]
        refine T1 (i := 3) (oi := ?oxr17u4) (v := ?vxr17u4) [3, 17] (by rfl) (by kernel_rfl) (by rfl) ?yxr17u4 ((((hT0.more 0).more 1).more 2).resolve_left (by decide)) ?_
        case yxr17u4 => (intro w hSw; (have s4 := hSw.cellN HN3'.out HC4'.out; have s5 := hSw.cellN HN4'.out HSW'.out); go_simp <;> with_reducible rfl)
        try simp only [Act.put, q5, q6, q7]
        refine T0 (i := 4) (oi := ?oxr17u5) (v := ?vxr17u5) (by rfl) (by kernel_rfl) (by rfl) ?yxr17u5 ((((hT0.more 0).more 1).more 2).more 3) ?_
        case yxr17u5 => (intro w; go_simp <;> with_reducible rfl)
        try simp only [Act.put, q5, q6, q7]
        refine T0 (i := 6) (oi := ?oxr17u6) (v := ?vxr17u6) (by rfl) (by kernel_rfl) (by rfl) ?yxr17u6 (((((hT0.more 0).more 1).more 2).more 3).more 4) ?_
        case yxr17u6 => (intro w; go_simp <;> with_reducible rfl)
        try simp only [Act.put, q5, q6, q7]
        refine T0 (i := 7) (oi := ?oxr17u7) (v := ?vxr17u7) (by rfl) (by kernel_rfl) (by rfl) ?yxr17u7 ((((((hT0.more 0).more 1).more 2).more 3).more 4).more 6) ?_
        case yxr17u7 => (intro w; go_simp <;> with_reducible rfl)
        try simp only [Act.put, q5, q6, q7]
        refine T0 (i := 8) (oi := ?oxr17u8) (v := ?vxr17u8) (by rfl) (by kernel_rfl) (by rfl) ?yxr17u8 (((((((hT0.more 0).more 1).more 2).more 3).more 4).more 6).more 7) ?_
        case yxr17u8 => (intro w; go_simp <;> with_reducible rfl)
        try simp only [Act.put, q5, q6, q7]
        refine T0 (i := 9) (oi := ?oxr17u9) (v := ?vxr17u9) (by rfl) (by kernel_rfl) (by rfl) ?yxr17u9 ((((((((hT0.more 0).more 1).more 2).more 3).more 4).more 6).more 7).more 8) ?_
        case yxr17u9 => (intro w; go_simp <;> with_reducible rfl)
        try simp only [Act.put, q5, q6, q7]
        refine T1 (i := 10) (oi := ?oxr17u10) (v := ?vxr17u10) [10, 17] (by rfl) (by kernel_rfl) (by rfl) ?yxr17u10 ((((((((((hT0.more 0).more 1).more 2).more 3).more 4).more 6).more 7).more 8).more 9).resolve_left (by decide)) ?_
        case yxr17u10 => (intro w hSw; (have s4 := hSw.cellN HN3'.out HC4'.out; have s5 := hSw.cellN HN4'.out HSW'.out); go_simp <;> with_reducible rfl)
        try simp only [Act.put, q5, q6, q7]
        refine T0 (i := 11) (oi := ?oxr17u11) (v := ?vxr17u11) (by rfl) (by kernel_rfl) (by rfl) ?yxr17u11 ((((((((((hT0.more 0).more 1).more 2).more 3).more 4).more 6).more 7).more 8).more 9).more 10) ?_
        case yxr17u11 => (intro w; go_simp <;> with_reducible rfl)
        try simp only [Act.put, q5, q6, q7]
        have hSx := (((((((((((hT0.more 0).more 1).more 2).more 3).more 4).more 6).more 7).more 8).more 9).more 10).more 11).resolve_left (by decide)
        refine wpAnyC_ready (rs := [5]) (by kernel_rfl) (by simp) ?_
        refine ReadyC.cons (o := ?oxr17u12) ?hoxr17u12 ?hstepxr17u12 ?_
        case hoxr17u12 => rfl
        case hstepxr17u12 =>
         intro K hK
         (go_simp; refine (KC.out _).mono ?_; rintro e w5 ⟨rfl, rfl⟩; dsimp only)
         refine hK.out _ _ (.inr ?_) (fun hHeld => ?_)
         ·first | exact hSx.then_ hf7 | exact hSx
         have hT12 := hHeld
         clear hHeld
         clear hK K
         try simp only [Act.put, q5, q6, q7]
         have hSx := hT12.resolve_left (by decide)
         refine wpAnyC_ready (rs := [12]) (by kernel_rfl) (by simp) ?_
         refine ReadyC.cons (o := ?oxr17u13) ?hoxr17u13 ?hstepxr17u13 ?_
         case hoxr17u13 => rfl
         case hstepxr17u13 =>
          intro K hK
          (go_simp; refine (KC.out _).mono ?_; rintro e w5 ⟨rfl, rfl⟩; dsimp only)
          refine hK.out _ _ (.inr ?_) (fun hHeld => ?_)
          ·first | exact hSx.then_ hf7 | exact hSx
          have hT13 := hHeld
          clear hHeld
          clear hK K
          try simp only [Act.put, q5, q6, q7]
          refine T0 (i := 13) (oi := ?oxr17u14) (v := ?vxr17u14) (by rfl) (by kernel_rfl) (by rfl) ?yxr17u14 hT13 ?_
          case yxr17u14 => (intro w; go_simp <;> with_reducible rfl)
          try simp only [Act.put, q5, q6, q7]
          refine T1 (i := 14) (oi := ?oxr17u15) (v := ?vxr17u15) [14, 17] (by rfl) (by kernel_rfl) (by rfl) ?yxr17u15 ((hT13.more 13).resolve_left (by decide)) ?_
          case yxr17u15 => (intro w hSw; (have s4 := hSw.cellN HN3'.out HC4'.out; have s5 := hSw.cellN HN4'.out HSW'.out); go_simp <;> with_reducible rfl)
          try simp only [Act.put, q5, q6, q7]
          have hSx := ((hT13.more 13).more 14).resolve_left (by decide)
          refine wpAnyC_ready (rs := [15]) (by kernel_rfl) (by simp) ?_
          refine ReadyC.cons (o := ?oxr17u16) ?hoxr17u16 ?hstepxr17u16 ?_
          case hoxr17u16 => rfl
          case hstepxr17u16 =>
           intro K hK
           (refine step_append_ints rfl _ _ rfl (some ⟨g0, 0, none⟩) c0 (casts keep) _ rfl (casts_len keep).symm ?hownxr17u16 A9 _ c9 (casts l9) (casts_len l9) rfl ?hrrxr17u16 (by rw [casts_len, casts_len]; omega) ?_; (case hownxr17u16 => first | exact HKP.out.drew | exact HKP.out); (case hrrxr17u16 => first | exact HR9.out.drew | exact HR9.out); intro A' cap w7 hi7 hf7 hb7 hs7)
           refine hK.out _ _ (.inr ?_) (fun hHeld => ?_)
           ·first | exact hSx.then_ hf7 | exact hSx
           have hT16 := hHeld
           clear hHeld
           clear hK K
           try simp only [Act.put, q5, q6, q7]
           refine T0 (i := 16) (oi := ?oxr17u17) (v := ?vxr17u17) (by rfl) (by kernel_rfl) (by rfl) ?yxr17u17 hT16 ?_
           case yxr17u17 => (intro w; go_simp <;> with_reducible rfl)
           try simp only [Act.put, q5, q6, q7]
           have hSx := (hT16.more 16).resolve_left (by decide)
           refine wpAnyC_ready (rs := [17]) (by kernel_rfl) (by simp) ?_
           refine ReadyC.cons (o := ?oxr17u18) ?hoxr17u18 ?hstepxr17u18 ?_
           case hoxr17u18 => rfl
           case hstepxr17u18 =>
            intro K hK
            (have sb := hSx.cellN HN4'.out HSW'.out; have fb : World.frozen? _ _ = _ := (World.frozen?_of_block (hSx.block gw (lt_of_cell HSW'.out) HN4'.out)).trans HFW'.out; go_simp)
            refine hK.out _ _ (.inl rfl) (fun hHeld => ?_)
            have hT18 := hHeld
            clear hHeld
            clear hK K
            try simp only [Act.put, q5, q6, q7]
            refine wpAnyC_done (by kernel_rfl) ?_ _
            refine NoPanic.normal ?_
            have hi8 : Ints w7 A' cap (casts (keep ++ l9)) := by
             have := hi7
             unfold casts at this ⊢
             rw [List.map_append]
             exact this
            obtain ⟨gw2, hg2, _, L8, h8, ha8, hid8, hx8, hf8⟩ := H2.out.give (c := cy) HCL3.out (A0 := (some ⟨g0, 0, none⟩)) HN2.out hi8 hSx (fun k hk => (hb7 k hk).imp id (fun e => by rw [e]; exact Nat.le_refl _))
            obtain rfl : gw = gw2 := by rw [HGW'.out] at hg2; simpa using hg2
            simp only [List.length_append] at h8 hf8
            obtain ⟨W8, hW8⟩ : ∃ W, w7.setCell ⟨gw, cy, none⟩ (.slice A' (keep.length + l9.length) cap) = W := ⟨_, rfl⟩
            rw [hW8] at h8 hf8 ⊢
            have hE8 : L.ext L8 w := by
             refine ⟨ha8.trans HE2.out.1, hid8.trans HE2.out.2.1, fun k hk e => ?_⟩
             rcases hx8 k (Nat.lt_of_lt_of_le hk HF2.out.size) (e.trans HE2.out.2.1.symm) with h1 | h1
             ·exact HE2.out.2.2 k hk (h1.trans HE2.out.2.1)
             ·rcases HG0.out k h1 with h2 | h2
              ·exact (SvL.mem_own.1 h2).2
              ·omega
            have hF8 : Fr (L.own w) w W8 := HF2.out.trans hf8 (fun k hk => by
             rcases List.mem_append.1 hk with h1 | h1
             ·exact HG0.out k h1
             ·rw [SvL.mem_own] at h1
              rcases Nat.lt_or_ge k w.heap.size with hl | hl
              ·exact .inl (SvL.mem_own.2 ⟨hl, HE2.out.2.2 k hl (h1.2.trans HE2.out.2.1)⟩)
              ·exact .inr hl)
            have hS8 : S2.wset cy (keep ++ l9) = VR.1 := by rw [← HV9.out]
            rw [hS8] at h8
            have hhv := HVIS.out.2.2.1
            have hh9 : VR.1.head = S1.head := hhv
            have hvv : VR.1.vars = S1.vars := HVIS.out.2.1
            have hlt8 : S1.T.lits.length ≤ VR.1.T.lits.length := by
             have := Sv.visits_lits off l0 [] (S1.wset cy [])
             rw [HV0.out] at this
             exact this
            have c8 := h8.cells.2.2.2.2.2.2.2.2.1
            have f8 := h8.obj.frozen 8
            rw [hh9] at c8
            rw [ha8.trans HE2.out.1] at c8 f8
            obtain ⟨h9, hf9⟩ := h8.sethead (S1.head + 1)
            rw [ha8.trans HE2.out.1] at h9 hf9
            have H9 := Lib.hid h9
            have HF9 := Lib.hid (SvL.own_then hE8 hF8 hf9)
            have HE9 := Lib.hid hE8
            have HO9 : Hid (({ VR.1 with head := S1.head + 1 } : Sv).Ok 0) := (by
             have o := HVIS.out.1
             exact ⟨o.vl, o.tr, o.hi, o.hl, o.ph, o.wl, o.ll, o.wb, o.wt, o.lr, o.ln, o.lb, by show S1.head + 1 ≤ VR.1.T.lits.length; omega, o.rs⟩ : ({ VR.1 with head := S1.head + 1 } : Sv).Ok 0)
            have HVV8 := Lib.hid hvv
            have hhb : S1.head ≤ 262143 := by omega
            clear hW8 h8 hf8 hE8 hF8 hS8 hhv hh9 hvv hlt8 h9 hf9 hi7 hf7 hb7 hs7 hi8 hx8 ha8 hid8 hSx
            go_wp2_with fail
            go_roundg f
            case measure => omega
            case rel => exact ⟨{ VR.1 with head := S1.head + 1 }, L8, HRN.out, (by show VR.1.vars + 1 ≤ f + (S1.head + 1); have := HFU.out; have := HVV8.out; omega), HO9.out, H9.out, HE9.out, HF9.out⟩
           exact ReadyC.nil
          exact ReadyC.nil
         exact ReadyC.nil
        exact ReadyC.nil
     
    exact ReadyC.nil
   exact ReadyC.nil
  ·have hd : decide ((S1.head : Int) < (S1.T.lits.length : Int)) = false := decide_eq_false (by omega)
   have HRZ : Hid (RES = (S1, none)) := by
    have h1 := HR1.out
    rw [followF_stop hlt] at h1
    exact h1.symm
   go_wp2_with fail
   refine wp_region_ext (by kernel_rfl) (by kernel_rfl) ?_
   repeat (go_big_quiet_step (exact call_same (KL.out _)))
   refine wpQuiet_nil ?_
   rintro w2 ⟨u2, hu2⟩
   have HF_w2 : Hid (Fr [] wr w2) := hu2 ▸ u2.fr
   clear hu2 u2
   have FF := Lib.hid (FIN.out S1 none HRZ.out w2 L1 (H1.out.keep HF_w2.out) HE1.out (HF1.out.then_ (HF_w2.out.mono (fun k hk => by cases hk))))
   clear e0 e8 c0 c8 KL hd
   go_wp2_with fail
   go_ret
   exact FF.out
end Go.Proofs.Ytjchilcpflfcnaa
