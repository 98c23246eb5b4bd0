/-  -/
import Derived.Test.YtjchilcpflfcnaaShH
set_option linter.unusedVariables false
namespace Go.Proofs.Ytjchilcpflfcnaa
open Go.RowKit
theorem mod7 (x : Int) : 0 ≤ (wrap64 (x.tmod 7 + 7)).tmod 7 ∧ (wrap64 (x.tmod 7 + 7)).tmod 7 ≤ 6 := by
 have h1 : x.tmod 7 < 7 := Int.tmod_lt_of_pos x (by omega)
 have h2 : -7 < x.tmod 7 := by
  have : (-x).tmod 7 < 7 := Int.tmod_lt_of_pos (-x) (by omega)
  rw [Int.neg_tmod] at this
  omega
 have h3 : wrap64 (x.tmod 7 + 7) = x.tmod 7 + 7 := by unfold wrap64; omega
 rw [h3]
 have h4 : (x.tmod 7 + 7).tmod 7 < 7 := Int.tmod_lt_of_pos _ (by omega)
 have h5 : 0 ≤ (x.tmod 7 + 7).tmod 7 := Int.tmod_nonneg _ (by omega)
 omega
theorem mod4 (x : Int) : 0 ≤ (wrap64 (x.tmod 4 + 4)).tmod 4 ∧ (wrap64 (x.tmod 4 + 4)).tmod 4 ≤ 3 := by
 have h1 : x.tmod 4 < 4 := Int.tmod_lt_of_pos x (by omega)
 have h2 : -4 < x.tmod 4 := by
  have : (-x).tmod 4 < 4 := Int.tmod_lt_of_pos (-x) (by omega)
  rw [Int.neg_tmod] at this
  omega
 have h3 : wrap64 (x.tmod 4 + 4) = x.tmod 4 + 4 := by unfold wrap64; omega
 rw [h3]
 have h4 : (x.tmod 4 + 4).tmod 4 < 4 := Int.tmod_lt_of_pos _ (by omega)
 have h5 : 0 ≤ (x.tmod 4 + 4).tmod 4 := Int.tmod_nonneg _ (by omega)
 omega
theorem mod4w (x : Int) : IntKind.i64.wrap (x.tmod 4 + 4) = wrap64 (x.tmod 4 + 4) := by
 have h1 : x.tmod 4 < 4 := Int.tmod_lt_of_pos x (by omega)
 have h2 : -4 < x.tmod 4 := by
  have : (-x).tmod 4 < 4 := Int.tmod_lt_of_pos (-x) (by omega)
  rw [Int.neg_tmod] at this
  omega
 rw [IntWalk.i64_in _ (by omega)]
 unfold wrap64
 omega
structure Pt where
 X : Int
 L : Ls
instance : Inhabited Pt := ⟨⟨0, default⟩⟩
def RdP (w : World) (A : Option Addr) (ps : List Pt) : Prop := (0 < ps.length → ∃ b o, A = some ⟨b, o, none⟩ ∧ ∀ j : Nat, j < ps.length → w.cell? ⟨b, o + j * 2, none⟩ = some (.int .i64 (ps[j]!).X) ∧ w.cell? ⟨b, o + j * 2 + 1, none⟩ = some ((ps[j]!).L.val)) ∧
 ∀ j : Nat, j < ps.length → OkL w (ps[j]!).L ∧ (ps[j]!).L.l.length ≤ 1048576
theorem RdP.keep {w w' : World} {A : Option Addr} {ps : List Pt} (k : RdP w A ps) (hf : Fr [] w w') : RdP w' A ps := by
 refine ⟨fun h0 => ?_, fun j hj => ⟨(k.2 j hj).1.keep hf, (k.2 j hj).2⟩⟩
 obtain ⟨b, o, hA, hx⟩ := k.1 h0
 refine ⟨b, o, hA, fun j hj => ?_⟩
 obtain ⟨h0, h1⟩ := hx j hj
 exact ⟨hf.cellS h0, hf.cellS h1⟩
theorem RdP.one {w : World} {A : Option Addr} {ps : List Pt} (k : RdP w A ps) {j : Nat} (hj : j < ps.length) : ∃ b o x B d l, A = some ⟨b, o, none⟩ ∧
  w.cell? ⟨b, o + j * 2, none⟩ = some (.int .i64 x) ∧ w.cell? ⟨b, o + j * 2 + 1, none⟩ = some (.slice B l.length d) ∧ OkL w ⟨B, d, l⟩ ∧ l.length ≤ 1048576 := by
 obtain ⟨b, o, hA, hx⟩ := k.1 (by omega)
 obtain ⟨h0, h1⟩ := hx j hj
 obtain ⟨k1, k2⟩ := k.2 j hj
 exact ⟨b, o, _, _, _, _, hA, h0, h1, k1, k2⟩
def RdB (w : World) (A : Option Addr) (bs : List Bool) : Prop := 0 < bs.length → ∃ b o, A = some ⟨b, o, none⟩ ∧ ∀ j : Nat, j < bs.length → w.cell? ⟨b, o + j, none⟩ = some (.bool bs[j]!)
theorem RdB.keep {w w' : World} {A : Option Addr} {bs : List Bool} (k : RdB w A bs) (hf : Fr [] w w') : RdB w' A bs := fun h0 => by
 obtain ⟨b, o, hA, hx⟩ := k h0
 exact ⟨b, o, hA, fun j hj => hf.cellS (hx j hj)⟩
def Gop (w0 : World) (V a k : Nat) (w : World) : Prop := ∃ X L A c S, GsAt X w0 w L S a A c (swN V k) ∧ Sv.Kept (fun _ => True) (V + k) 68722360329 68722360329 S
def Gpt (w0 : World) (V a k : Nat) (w : World) : Prop := ∃ X L A c S F, GsAt X w0 w L S a A c (swN V 3) ∧ Sv.Kept F (V + 3) 68722360329 (68722360329 + k) S
theorem gput_kept {S : Sv} {F : (Nat → Bool) → Prop} {vars U W : Nat} {sw : List Int} (h : Sv.Kept F vars U W S) {g : Nat} {l : List Int} (hra : Ra l) (hsw : R64 (-sw[g]!)) (hr : S.list.length < 1099511627776) : ∃ F', Sv.Kept F' vars U (W + 1) (gputF sw S g l).1 := by
 unfold gputF
 split
 ·exact h.addAny hra hr
 ·split
  ·exact ⟨F, h.up (Nat.le_refl _) (Nat.le_succ _)⟩
  ·exact h.addAny (hra.snoc hsw) hr
theorem swN_neg {V g : Nat} (hV : V ≤ 6) (hg : g ≤ 3) : R64 (-(swN V 3)[g]!) := by
 cases g with
 | zero =>
  show R64 (-0)
  exact ⟨by decide, by decide⟩
 | succ j =>
  rw [swN_get (by omega)]
  exact ⟨by omega, by omega⟩
structure G3 (w : World) (k : Nat) (A1 : Option Addr) (c1 : Nat) (xs : List Int) (A2 : Option Addr) (c2 : Nat) (ys : List Int) (wi : World) : Prop where
 ra : Ints wi A1 c1 xs
 rb : Ints wi A2 c2 ys
 na : ∀ j, j ∈ blks A1 → w.heap.size ≤ j ∧ j ∉ blks A2
 nb : ∀ j, j ∈ blks A2 → w.heap.size ≤ j
 fr : Fr [] w wi
 lx : xs.length ≤ k
 ly : ys.length ≤ k
 sub : ∀ x ∈ xs, x ∈ ys
 rng : ∀ y ∈ ys, 1 ≤ y ∧ y ≤ k
namespace G3
variable {w wi : World} {k c1 c2 : Nat} {A1 A2 : Option Addr} {xs ys : List Int}
theorem start (w : World) : G3 w 0 none 0 [] none 0 [] w := ⟨Ints.nil _, Ints.nil _, fun j hj => by simp [blks] at hj, fun j hj => by simp [blks] at hj, Fr.refl _ _, by simp, by simp, fun x hx => hx, fun y hy => by cases hy⟩
theorem more (h : G3 w k A1 c1 xs A2 c2 ys wi) : G3 w (k + 1) A1 c1 xs A2 c2 ys wi := ⟨h.ra, h.rb, h.na, h.nb, h.fr, Nat.le_succ_of_le h.lx, Nat.le_succ_of_le h.ly, h.sub, fun y hy => by have := h.rng y hy; omega⟩
theorem addb (h : G3 w k A1 c1 xs A2 c2 ys wi) {wc w7 : World} {gb capb : Nat} (f1 : Fr [] wi wc) (hi : Ints w7 (some ⟨gb, 0, none⟩) capb (ys ++ [((k : Int) + 1)])) (hf : Fr (blks A2) wc w7) (hg : gb ∈ blks A2 ∨ gb = wc.heap.size) :
  G3 w (k + 1) A1 c1 xs (some ⟨gb, 0, none⟩) capb (ys ++ [((k : Int) + 1)]) w7 := by
 have hs := f1.size
 have hw := h.fr.size
 refine ⟨(h.ra.fr f1 (fun _ _ hm => by cases hm)).fr hf (fun j hj hm => (h.na j hj).2 hm), hi, fun j hj => ⟨(h.na j hj).1, fun hm => ?_⟩, fun j hj => ?_, (h.fr.then_ f1).trans hf (fun j hj => .inr (h.nb j hj)), by have := h.lx; omega, by simpa using h.ly, fun x hx => List.mem_append_left _ (h.sub x hx), fun y hy => ?_⟩
 ·simp [blks] at hm
  subst hm
  rcases hg with h1 | h1
  ·exact (h.na j hj).2 h1
  ·have := h.ra.lt j hj
   omega
 ·simp [blks] at hj
  subst hj
  rcases hg with h1 | h1
  ·exact h.nb j h1
  ·omega
 ·rcases List.mem_append.1 hy with h1 | h1
  ·have := h.rng y h1
   omega
  ·simp at h1
   omega
theorem both (h : G3 w k A1 c1 xs A2 c2 ys wi) {wb w5 wc w7 : World} {ga capa gb capb : Nat} (f0 : Fr [] wi wb) (hi5 : Ints w5 (some ⟨ga, 0, none⟩) capa (xs ++ [((k : Int) + 1)])) (hf5 : Fr (blks A1) wb w5) (hg5 : ga ∈ blks A1 ∨ ga = wb.heap.size)
  (f1 : Fr [] w5 wc) (hi : Ints w7 (some ⟨gb, 0, none⟩) capb (ys ++ [((k : Int) + 1)])) (hf : Fr (blks A2) wc w7) (hg : gb ∈ blks A2 ∨ gb = wc.heap.size) :
  G3 w (k + 1) (some ⟨ga, 0, none⟩) capa (xs ++ [((k : Int) + 1)]) (some ⟨gb, 0, none⟩) capb (ys ++ [((k : Int) + 1)]) w7 := by
 have hs := f0.size
 have hw := h.fr.size
 have hs5 := hf5.size
 have hsc := f1.size
 have hga : w.heap.size ≤ ga ∧ ga ∉ blks A2 ∧ ga < w5.heap.size := by
  have h3 := hi5.lt ga (by simp [blks])
  rcases hg5 with h1 | h1
  ·exact ⟨(h.na ga h1).1, (h.na ga h1).2, h3⟩
  ·exact ⟨by omega, fun hm => by have := h.rb.lt ga hm; omega, h3⟩
 refine ⟨(hi5.fr f1 (fun _ _ hm => by cases hm)).fr hf (fun j hj hm => ?_), hi, fun j hj => ?_, fun j hj => ?_, (((h.fr.then_ f0).trans hf5 (fun j hj => .inr (h.na j hj).1)).then_ f1).trans hf (fun j hj => .inr (h.nb j hj)), by simpa using h.lx, by simpa using h.ly, fun x hx => ?_, fun y hy => ?_⟩
 ·simp [blks] at hj
  subst hj
  exact hga.2.1 hm
 ·simp [blks] at hj
  subst hj
  refine ⟨hga.1, fun hm => ?_⟩
  simp [blks] at hm
  rcases hg with h1 | h1
  ·rw [hm] at hga
   exact hga.2.1 h1
  ·omega
 ·simp [blks] at hj
  subst hj
  rcases hg with h1 | h1
  ·exact h.nb j h1
  ·omega
 ·rcases List.mem_append.1 hx with h1 | h1
  ·exact List.mem_append_left _ (h.sub x h1)
  ·exact List.mem_append_right _ h1
 ·rcases List.mem_append.1 hy with h1 | h1
  ·have := h.rng y h1
   omega
  ·simp at h1
   omega
end G3
theorem gpt_next {X : List Nat} {w0 w4 : World} {L4 : SvL} {S : Sv} {a : Nat} {A : Option Addr} {c V k g : Nat} {l : List Int} (h4 : GsAt X w0 w4 L4 (gputF (swN V 3) S g l).1 a A c (swN V 3)) (kp : ∃ F', Sv.Kept F' (V + 3) 68722360329 (68722360329 + k + 1) (gputF (swN V 3) S g l).1) : Gpt w0 V a (k + 1) w4 := by
 obtain ⟨F', h5⟩ := kp
 exact ⟨X, L4, A, c, _, F', h4, h5⟩
theorem g3_ra {xs ys : List Int} {k : Nat} (hk : k ≤ 3) (hs : ∀ x ∈ xs, x ∈ ys) (hr : ∀ y ∈ ys, 1 ≤ y ∧ y ≤ (k : Int)) : Ra xs := (mem_idx (p := R64)).2 fun x hx => by
 have := hr x (hs x hx)
 exact ⟨by omega, by omega⟩
theorem gmore_end {F : (Nat → Bool) → Prop} {V : Nat} {sw xs ys us : List Int} {S5 S6 : Sv} {r5 r6 : Int} (hs : ∀ x ∈ xs, x ∈ ys) (hv : S6.vars = V)
  (h5 : (r5 = 0 ∧ (us.any (gown sw) = true ∨ us.any (offB (V : Nat)) = true)) ∨ (us.any (gown sw) = false ∧ us.any (offB (V : Nat)) = false ∧ Sv.Ans (gon sw xs ++ us) F V S5 r5))
  (h6 : (r6 = 0 ∧ (us.any (gown sw) = true ∨ us.any (offB (V : Nat)) = true)) ∨ (us.any (gown sw) = false ∧ us.any (offB (V : Nat)) = false ∧ Sv.Ans (gon sw ys ++ us) F V S6 r6)) (h2 : r5 = 2) : r6 = 2 := by
 rcases h5 with ⟨h7, _⟩ | ⟨h7, h8, h9⟩
 ·omega
 ·rcases h6 with ⟨_, h6⟩ | ⟨_, _, h6⟩
  ·rw [h7, h8] at h6
   simp at h6
  ·subst h2
   refine Sv.Ans.more (fun u hu => ?_) hv h9 h6
   rcases List.mem_append.1 hu with h1 | h1
   ·exact List.mem_append_left _ (gon_sub hs u h1)
   ·exact List.mem_append_right _ h1
set_option maxRecDepth 100000 in
set_option maxHeartbeats 16000000 in
theorem more_calls (w : World) (vars : Int) (hv : R64 vars) (A : Option Addr) (c : Nat) (ps : List Pt) (h : RdP w A ps) (hl : ps.length ≤ 1048576)
  (B : Option Addr) (d : Nat) (bs : List Bool) (hb : RdB w B bs) (hbl : bs.length ≤ 1048576) (B' : Option Addr) (d' : Nat) (bs' : List Bool) (hb' : RdB w B' bs') (hbl' : bs'.length ≤ 1048576)
  (E : Option Addr) (dd : Nat) (us : List Int) (hu : OkL w ⟨E, dd, us⟩) (hul : us.length ≤ 1048576) :
  Calls Try.prog 3 #[.int .i64 vars, .slice A ps.length c, .slice B bs.length d, .slice B' bs'.length d', .slice E us.length dd] w fun e w' => e = .returned (.bool true) ∧ Fr [] w w' := by
 have HH := Lib.hid h
 have HB := Lib.hid hb
 have HB' := Lib.hid hb'
 have HU := Lib.hid hu
 have KAL := Lib.hid (galive_calls w)
 obtain ⟨V, hV⟩ : ∃ V : Nat, (wrap64 (vars.tmod 7 + 7)).tmod 7 = V := ⟨((wrap64 (vars.tmod 7 + 7)).tmod 7).toNat, by have := (mod7 vars).1; omega⟩
 have hV6 : V ≤ 6 := by have := (mod7 vars).2; omega
 have HV := Lib.hid hV
 clear h hb hb' hu hV
 go_enter Try.func3, Try.ntmps3
 go_wp2_with fail
 refine KAL.out.mono ?_
 clear KAL
 rintro e w1 ⟨rfl, hf1⟩
 have HF1 := Lib.hid hf1
 clear hf1
 have KN := Lib.hid (gnew_calls w1 (V : Int) (by omega) (by omega))
 go_upto_region 4 with fail
 rw [HV.out]
 go_wp2_with fail
 refine KN.out.mono ?_
 clear KN
 rintro e w2 ⟨L2, a, b, rfl, h2⟩
 have HG2 : Hid (Gop w1 V a 0 w2) := ⟨_, _, _, _, _, h2, Sv.Kept.new V (by omega)⟩
 clear h2
 go_wp2_with fail
 go_loopg [12] 3 (fun gk x12 wr => ∃ k : Nat, k + gk = 3 ∧ x12 = .int .i64 ((k + 1 : Nat) : Int) ∧ Hid (Gop w1 V a k wr))
 case atStart => exact ⟨0, by omega, rfl, HG2.out⟩
 case round =>
  obtain ⟨k, hk, rfl, HG⟩ := hrel
  have HK := Lib.hid hk
  have hk3 : k ≤ 3 := by omega
  clear hk HG2
  by_cases hlt : k < 3
  ·have hlt2 : ((k + 1 : Nat) : Int) < 4 := by omega
   obtain ⟨X, L, A1, c1, S, h3, kp⟩ := HG.out
   have KO := gopen_calls h3 kp.inv.ok (by rw [kp.vars]; omega) (by rw [swN_len]; omega)
   rw [kp.vars, swN_next] at KO
   have KO := Lib.hid KO
   have HKP := Lib.hid kp
   clear h3 kp
   go_wp2_with fail
   refine KO.out.mono ?_
   clear KO
   rintro e w3 ⟨rfl, L3, A3, c3, X3, -, h4⟩
   have HG4 : Hid (Gop w1 V a (k + 1) w3) := ⟨X3, L3, A3, c3, _, h4, HKP.out.grow 1 (by omega)⟩
   clear h4
   go_wp2_with fail
   go_roundg (gk - 1)
   case measure => have := HK.out; omega
   case rel => exact ⟨k + 1, by have := HK.out; omega, by go_num, HG4.out⟩
  ·obtain rfl : k = 3 := by omega
   have HG0 : Hid (Gpt w1 V a 0 wr) := by
    obtain ⟨X, L, A1, c1, S, h3, kp⟩ := HG.out
    exact ⟨X, L, A1, c1, S, _, h3, kp⟩
   obtain ⟨w3, rfl⟩ : ∃ x, x = wr := ⟨_, rfl⟩
   clear HK HG
   go_wp2_with fail
   go_loopg [13] ps.length (fun gk x13 wr => ∃ k : Nat, k + gk = ps.length ∧ k ≤ 20 ∧ x13 = .int .i64 k ∧ Hid (Gpt w1 V a k wr))
   case atStart => exact ⟨0, by omega, by omega, rfl, HG0.out⟩
   case round =>
    obtain ⟨k, hk, hk20, rfl, HG⟩ := hrel
    have HK := Lib.hid hk
    have hkn : k ≤ ps.length := by omega
    clear hk HG0
    by_cases hlt : k < ps.length
    ·by_cases hl20 : k < 20
     ·have hl21 : (k : Int) < 20 := by omega
      have hlt2 : (k : Int) < (ps.length : Int) := by omega
      obtain ⟨X, L, A1, c1, S, F, h3, kp0⟩ := HG.out
      obtain ⟨b0, o0, x, B0, d0, l, hA, y0, y1, ok, hll⟩ := (HH.out.keep HF1.out).one hlt
      have x0 := h3.fr.cellS y0
      have x1 := h3.fr.cellS y1
      subst hA
      obtain ⟨g, hg⟩ : ∃ g : Nat, (wrap64 (x.tmod 4 + 4)).tmod 4 = g := ⟨((wrap64 (x.tmod 4 + 4)).tmod 4).toNat, by have := (mod4 x).1; omega⟩
      have hg3 : g ≤ 3 := by have := (mod4 x).2; omega
      have HGV : Hid ((IntKind.i64.wrap (x.tmod 4 + 4)).tmod 4 = (g : Int)) := (by rw [mod4w]; exact hg : (IntKind.i64.wrap (x.tmod 4 + 4)).tmod 4 = (g : Int))
      have KP := fun W (hW : Fr [] wr W) => gput_calls (h3.keep hW) kp0.inv.ok g (by rw [swN_len]; omega) (fun h0 => by have := swN_in (V := V) (k := 3) (g := (g : Int)) (by omega) (by omega); rw [Int.toNat_natCast] at this; rw [this]; omega) B0 d0 l ((h3.keep hW).ox.own.far_old ok.1) ok.2.1 ok.2.2.2 (by omega) (by have := kp0.list; omega) (by have := kp0.used; omega)
      have KP := Lib.hid KP
      have kp := gput_kept (sw := swN V 3) kp0 (g := g) (l := l) ok.2.1 (swN_neg hV6 hg3) (by have := kp0.list; omega)
      have HX0 := Lib.hid x0
      have HX1 := Lib.hid x1
      clear h3 kp0 hg x0 x1 y0 y1 ok
      go_upto_region 12 with fail
      refine wp_region_noPanic ?_
      refine wp_region_C (fun w' : World => Fr [] wr w') 14 (by kernel_rfl) ((Fr.refl [] wr).drew) (fun hT0 => ?_)
      refine wpAnyC_take0 (i := 0) (oi := ?oir12u1) (v := ?vr12u1) ?hir12u1 (by kernel_rfl) (by kernel_rfl) (by kernel_rfl) (by kernel_rfl) ?hQr12u1 ?hwr12u1 ?hyr12u1 hT0 ?_
      case hir12u1 => (simp only [List.getElem?_toArray, List.getElem?_cons_zero]; rfl)
      case hQr12u1 => exact fun _ _ _ h => h
      case hwr12u1 => rfl
      case hyr12u1 => (intro w; go_simp <;> with_reducible rfl)
      try simp only [Act.put, List.setIfInBounds_toArray, List.set_cons_zero, List.set_cons_succ]
      refine wpAnyC_take0 (i := 1) (oi := ?oir12u2) (v := ?vr12u2) ?hir12u2 (by kernel_rfl) (by kernel_rfl) (by kernel_rfl) (by kernel_rfl) ?hQr12u2 ?hwr12u2 ?hyr12u2 (hT0.more 0) ?_
      case hir12u2 => (simp only [List.getElem?_toArray, List.getElem?_cons_succ, List.getElem?_cons_zero]; rfl)
      case hQr12u2 => exact fun _ _ _ h => h
      case hwr12u2 => rfl
      case hyr12u2 => (intro w; go_simp <;> with_reducible rfl)
      try simp only [Act.put, List.setIfInBounds_toArray, List.set_cons_zero, List.set_cons_succ]
      refine wpAnyC_take0 (i := 2) (oi := ?oir12u3) (v := ?vr12u3) ?hir12u3 (by kernel_rfl) (by kernel_rfl) (by kernel_rfl) (by kernel_rfl) ?hQr12u3 ?hwr12u3 ?hyr12u3 ((hT0.more 0).more 1) ?_
      case hir12u3 => (simp only [List.getElem?_toArray, List.getElem?_cons_succ, List.getElem?_cons_zero]; rfl)
      case hQr12u3 => exact fun _ _ _ h => h
      case hwr12u3 => rfl
      case hyr12u3 => (intro w; go_simp <;> with_reducible rfl)
      try simp only [Act.put, List.setIfInBounds_toArray, List.set_cons_zero, List.set_cons_succ]
      refine wpAnyC_take0 (i := 3) (oi := ?oir12u4) (v := ?vr12u4) ?hir12u4 (by kernel_rfl) (by kernel_rfl) (by kernel_rfl) (by kernel_rfl) ?hQr12u4 ?hwr12u4 ?hyr12u4 (((hT0.more 0).more 1).more 2) ?_
      case hir12u4 => (simp only [List.getElem?_toArray, List.getElem?_cons_succ, List.getElem?_cons_zero]; rfl)
      case hQr12u4 => exact fun _ _ _ h => h
      case hwr12u4 => rfl
      case hyr12u4 => (intro w; go_simp <;> with_reducible rfl)
      try simp only [Act.put, List.setIfInBounds_toArray, List.set_cons_zero, List.set_cons_succ]
      refine wpAnyC_take0 (i := 4) (oi := ?oir12u5) (v := ?vr12u5) ?hir12u5 (by kernel_rfl) (by kernel_rfl) (by kernel_rfl) (by kernel_rfl) ?hQr12u5 ?hwr12u5 ?hyr12u5 ((((hT0.more 0).more 1).more 2).more 3) ?_
      case hir12u5 => (simp only [List.getElem?_toArray, List.getElem?_cons_succ, List.getElem?_cons_zero]; rfl)
      case hQr12u5 => exact fun _ _ _ h => h
      case hwr12u5 => rfl
      case hyr12u5 => (intro w; go_simp <;> with_reducible rfl)
      try simp only [Act.put, List.setIfInBounds_toArray, List.set_cons_zero, List.set_cons_succ]
      refine wpAnyC_take (i := 5) (oi := ?oir12u6) (v := ?vr12u6) [5, 6, 7, 8, 14] ?hir12u6 (by kernel_rfl) (by kernel_rfl) (by kernel_rfl) (by kernel_rfl) ?hQr12u6 (.inl ⟨?hwr12u6, ?hyr12u6⟩) ((((((hT0.more 0).more 1).more 2).more 3).more 4).resolve_left (by decide)) ?_
      case hir12u6 => (simp only [List.getElem?_toArray, List.getElem?_cons_succ, List.getElem?_cons_zero]; rfl)
      case hQr12u6 => exact fun _ _ _ h => h
      case hwr12u6 => rfl
      case hyr12u6 => (intro w hSw; (have s0 := hSw.cellS HX0.out; have s1 := hSw.cellS HX1.out); go_simp <;> with_reducible rfl)
      try simp only [Act.put, List.setIfInBounds_toArray, List.set_cons_zero, List.set_cons_succ]
      refine wpAnyC_take0 (i := 6) (oi := ?oir12u7) (v := ?vr12u7) ?hir12u7 (by kernel_rfl) (by kernel_rfl) (by kernel_rfl) (by kernel_rfl) ?hQr12u7 ?hwr12u7 ?hyr12u7 ((((((hT0.more 0).more 1).more 2).more 3).more 4).more 5) ?_
      case hir12u7 => (simp only [List.getElem?_toArray, List.getElem?_cons_succ, List.getElem?_cons_zero]; rfl)
      case hQr12u7 => exact fun _ _ _ h => h
      case hwr12u7 => rfl
      case hyr12u7 => (intro w; go_simp <;> with_reducible rfl)
      try simp only [Act.put, List.setIfInBounds_toArray, List.set_cons_zero, List.set_cons_succ]
      refine wpAnyC_take0 (i := 7) (oi := ?oir12u8) (v := ?vr12u8) ?hir12u8 (by kernel_rfl) (by kernel_rfl) (by kernel_rfl) (by kernel_rfl) ?hQr12u8 ?hwr12u8 ?hyr12u8 (((((((hT0.more 0).more 1).more 2).more 3).more 4).more 5).more 6) ?_
      case hir12u8 => (simp only [List.getElem?_toArray, List.getElem?_cons_succ, List.getElem?_cons_zero]; rfl)
      case hQr12u8 => exact fun _ _ _ h => h
      case hwr12u8 => rfl
      case hyr12u8 => (intro w; go_simp <;> with_reducible rfl)
      try simp only [Act.put, List.setIfInBounds_toArray, List.set_cons_zero, List.set_cons_succ]
      refine wpAnyC_take0 (i := 8) (oi := ?oir12u9) (v := ?vr12u9) ?hir12u9 (by kernel_rfl) (by kernel_rfl) (by kernel_rfl) (by kernel_rfl) ?hQr12u9 ?hwr12u9 ?hyr12u9 ((((((((hT0.more 0).more 1).more 2).more 3).more 4).more 5).more 6).more 7) ?_
      case hir12u9 => (simp only [List.getElem?_toArray, List.getElem?_cons_succ, List.getElem?_cons_zero]; rfl)
      case hQr12u9 => exact fun _ _ _ h => h
      case hwr12u9 => rfl
      case hyr12u9 => (intro w; go_simp <;> with_reducible rfl)
      try simp only [Act.put, List.setIfInBounds_toArray, List.set_cons_zero, List.set_cons_succ]
      refine wpAnyC_take0 (i := 9) (oi := ?oir12u10) (v := ?vr12u10) ?hir12u10 (by kernel_rfl) (by kernel_rfl) (by kernel_rfl) (by kernel_rfl) ?hQr12u10 ?hwr12u10 ?hyr12u10 (((((((((hT0.more 0).more 1).more 2).more 3).more 4).more 5).more 6).more 7).more 8) ?_
      case hir12u10 => (simp only [List.getElem?_toArray, List.getElem?_cons_succ, List.getElem?_cons_zero]; rfl)
      case hQr12u10 => exact fun _ _ _ h => h
      case hwr12u10 => rfl
      case hyr12u10 => (intro w; go_simp <;> with_reducible rfl)
      try simp only [Act.put, List.setIfInBounds_toArray, List.set_cons_zero, List.set_cons_succ]
      refine wpAnyC_take0 (i := 10) (oi := ?oir12u11) (v := ?vr12u11) ?hir12u11 (by kernel_rfl) (by kernel_rfl) (by kernel_rfl) (by kernel_rfl) ?hQr12u11 ?hwr12u11 ?hyr12u11 ((((((((((hT0.more 0).more 1).more 2).more 3).more 4).more 5).more 6).more 7).more 8).more 9) ?_
      case hir12u11 => (simp only [List.getElem?_toArray, List.getElem?_cons_succ, List.getElem?_cons_zero]; rfl)
      case hQr12u11 => exact fun _ _ _ h => h
      case hwr12u11 => rfl
      case hyr12u11 => (intro w; go_simp <;> with_reducible rfl)
      try simp only [Act.put, List.setIfInBounds_toArray, List.set_cons_zero, List.set_cons_succ]
      refine wpAnyC_take0 (i := 11) (oi := ?oir12u12) (v := ?vr12u12) ?hir12u12 (by kernel_rfl) (by kernel_rfl) (by kernel_rfl) (by kernel_rfl) ?hQr12u12 ?hwr12u12 ?hyr12u12 (((((((((((hT0.more 0).more 1).more 2).more 3).more 4).more 5).more 6).more 7).more 8).more 9).more 10) ?_
      case hir12u12 => (simp only [List.getElem?_toArray, List.getElem?_cons_succ, List.getElem?_cons_zero]; rfl)
      case hQr12u12 => exact fun _ _ _ h => h
      case hwr12u12 => rfl
      case hyr12u12 => (intro w; go_simp <;> with_reducible rfl)
      try simp only [Act.put, List.setIfInBounds_toArray, List.set_cons_zero, List.set_cons_succ]
      refine wpAnyC_take0 (i := 12) (oi := ?oir12u13) (v := ?vr12u13) ?hir12u13 (by kernel_rfl) (by kernel_rfl) (by kernel_rfl) (by kernel_rfl) ?hQr12u13 ?hwr12u13 ?hyr12u13 ((((((((((((hT0.more 0).more 1).more 2).more 3).more 4).more 5).more 6).more 7).more 8).more 9).more 10).more 11) ?_
      case hir12u13 => (simp only [List.getElem?_toArray, List.getElem?_cons_succ, List.getElem?_cons_zero]; rfl)
      case hQr12u13 => exact fun _ _ _ h => h
      case hwr12u13 => rfl
      case hyr12u13 => (intro w; go_simp <;> with_reducible rfl)
      try simp only [Act.put, List.setIfInBounds_toArray, List.set_cons_zero, List.set_cons_succ]
      refine wpAnyC_take (i := 13) (oi := ?oir12u14) (v := ?vr12u14) [13, 14] ?hir12u14 (by kernel_rfl) (by kernel_rfl) (by kernel_rfl) (by kernel_rfl) ?hQr12u14 (.inl ⟨?hwr12u14, ?hyr12u14⟩) ((((((((((((((hT0.more 0).more 1).more 2).more 3).more 4).more 5).more 6).more 7).more 8).more 9).more 10).more 11).more 12).resolve_left (by decide)) ?_
      case hir12u14 => (simp only [List.getElem?_toArray, List.getElem?_cons_succ, List.getElem?_cons_zero]; rfl)
      case hQr12u14 => exact fun _ _ _ h => h
      case hwr12u14 => rfl
      case hyr12u14 => (intro w hSw; (have s0 := hSw.cellS HX0.out; have s1 := hSw.cellS HX1.out); go_simp <;> with_reducible rfl)
      try simp only [Act.put, List.setIfInBounds_toArray, List.set_cons_zero, List.set_cons_succ]
      have hSx := ((((((((((((((hT0.more 0).more 1).more 2).more 3).more 4).more 5).more 6).more 7).more 8).more 9).more 10).more 11).more 12).more 13).resolve_left (by decide)
      refine wpAnyC_ready (rs := [14]) (by kernel_rfl) (by simp) ?_
      refine ReadyC.cons (o := ?or12u15) ?hor12u15 ?hstepr12u15 ReadyC.nil
      case hor12u15 => (simp only [List.getElem?_toArray, List.getElem?_cons_succ, List.getElem?_cons_zero]; rfl)
      intro K hK
      (go_simp; rw [HGV.out]; refine (KP.out _ hSx).mono ?_; rintro e w4 ⟨rfl, L4, a4, h4⟩; dsimp only)
      refine hK.out _ _ (.inl rfl) (fun hT15 => ?_)
      clear hK K
      try simp only [Act.put, List.setIfInBounds_toArray, List.set_cons_zero, List.set_cons_succ]
      refine wpAnyC_done (by kernel_rfl) ?_ _
      refine NoPanic.normal ?_
      have HG4 := Lib.hid (gpt_next h4 kp)
      clear h4 a4 KP kp
      go_wp2_with fail
      go_roundg (gk - 1)
      case measure => have := HK.out; omega
      case rel => exact ⟨k + 1, by have := HK.out; omega, by omega, by go_num, HG4.out⟩
     ·have hl21 : ¬ (k : Int) < 20 := by omega
      have hlt2 : (k : Int) < (ps.length : Int) := by omega
      obtain ⟨w3, rfl⟩ : ∃ x, x = wr := ⟨_, rfl⟩
      obtain ⟨X, L, A0, c0, S, F, h3, kp⟩ := HG.out
      have HFR := Lib.hid (HF1.out.then_ h3.fr)
      have H3 := Lib.hid h3
      have HKP := Lib.hid kp
      have hk21 : k ≤ 20 := hk20
      clear h3 kp HG HK
      go_wp2_with fail
      go_loopg [14, 15, 16, 17] 3 (fun gk x14 x15 x16 x17 wi => ∃ (m : Nat) (A1 : Option Addr) (c1 : Nat) (xs : List Int) (A2 : Option Addr) (c2 : Nat) (ys : List Int), m + gk = 3 ∧ x14 = .slice A1 xs.length c1 ∧ x15 = .slice A2 ys.length c2 ∧ x16 = .int .i64 ((m : Int) + 1) ∧ Hid (G3 w3 m A1 c1 xs A2 c2 ys wi))
      case atStart => exact ⟨0, none, 0, [], none, 0, [], by omega, rfl, rfl, rfl, G3.start _⟩
      case round =>
       obtain ⟨wi, rfl⟩ : ∃ x, x = wr := ⟨_, rfl⟩
       obtain ⟨m, A1, c1, xs, A2, c2, ys, hk, rfl, rfl, rfl, HG⟩ := hrel
       have HK := Lib.hid hk
       have hm3 : m ≤ 3 := by omega
       have hlx := HG.out.lx
       have hly := HG.out.ly
       clear hk
       by_cases hlt : m < 3
       ·have hlt4 : ((m : Int) + 1) < 4 := by omega
        by_cases hm : m + 1 < bs.length
        ·have hm1 : (m : Int) + 1 < (bs.length : Int) := by omega
         obtain ⟨b1, o1, hB1, x1⟩ := (HB.out.keep (HFR.out.then_ HG.out.fr)) (by omega)
         subst hB1
         have y1 := x1 _ hm
         obtain ⟨q1, hq1⟩ : ∃ q, bs[m + 1]! = q := ⟨_, rfl⟩
         rw [hq1] at y1
         clear x1 hq1
         cases q1 with
         | true =>
          obtain ⟨wb, hwb⟩ : ∃ W, wi.alloc (.cells #[.int .i64 ((m : Int) + 1)] 3) = W := ⟨_, rfl⟩
          have HFB : Hid (Fr [] wi wb) := hwb ▸ box_fr' _ _
          have hca : wb.cell? ⟨wi.heap.size, 0, none⟩ = some (.int .i64 ((m : Int) + 1)) := by
           rw [← hwb]
           exact (At.new wi 3 #[.int .i64 ((m : Int) + 1)]).cell 0
          have HA1 : Hid (Ints wb A1 c1 xs) := HG.out.ra.fr HFB.out (fun _ _ hm => by cases hm)
          go_upto_region 20 with (at_builtin; (refine wpList_append_int _ rfl _ _ rfl A1 c1 xs xs.length rfl rfl HA1.out ⟨wi.heap.size, 0, none⟩ 1 ((m : Int) + 1) rfl hca (by omega) ?_; intro ga capa w5 hi5 hf5 hg5 hs5; have HI5 := Lib.hid hi5; have HF5 := Lib.hid hf5; have HG5 := Lib.hid hg5; clear hi5 hf5 hg5 hs5 hca))
          obtain ⟨wc, hwc⟩ : ∃ W, w5.alloc (.cells #[.int .i64 ((m : Int) + 1)] 3) = W := ⟨_, rfl⟩
          have HFC : Hid (Fr [] w5 wc) := hwc ▸ box_fr' _ _
          have hcb : wc.cell? ⟨w5.heap.size, 0, none⟩ = some (.int .i64 ((m : Int) + 1)) := by
           rw [← hwc]
           exact (At.new w5 3 #[.int .i64 ((m : Int) + 1)]).cell 0
          have HA2 : Hid (Ints wc A2 c2 ys) := ((HG.out.rb.fr HFB.out (fun _ _ hm => by cases hm)).fr HF5.out (fun j hj hm => (HG.out.na j hm).2 hj)).fr HFC.out (fun _ _ hm => by cases hm)
          go_wp2_with (at_builtin; (refine wpList_append_int _ rfl _ _ rfl A2 c2 ys ys.length rfl rfl HA2.out ⟨w5.heap.size, 0, none⟩ 1 ((m : Int) + 1) rfl hcb (by omega) ?_; intro gb capb w7 hi7 hf7 hg7 hs7; have HI7 := Lib.hid hi7; have HF7 := Lib.hid hf7; have HG7 := Lib.hid hg7; clear hi7 hf7 hg7 hs7 hcb))
          have HN := Lib.hid (HG.out.both HFB.out HI5.out HF5.out HG5.out HFC.out HI7.out HF7.out HG7.out)
          clear hwb hwc
          go_roundg (gk - 1)
          case measure => have := HK.out; omega
          case rel => exact ⟨m + 1, some ⟨ga, 0, none⟩, capa, xs ++ [((m : Int) + 1)], some ⟨gb, 0, none⟩, capb, ys ++ [((m : Int) + 1)], by have := HK.out; omega, by simp, by simp, by go_num, HN.out⟩
         | false =>
          by_cases hm2 : m + 1 < bs'.length
          ·have hm3 : ((m : Int) + 1) < (bs'.length : Int) := by omega
           obtain ⟨b2, o2, hB2, x2⟩ := (HB'.out.keep (HFR.out.then_ HG.out.fr)) (by omega)
           subst hB2
           have y2 := x2 _ hm2
           obtain ⟨q2, hq2⟩ : ∃ q, bs'[m + 1]! = q := ⟨_, rfl⟩
           rw [hq2] at y2
           clear x2 hq2
           cases q2 with
           | true =>
            obtain ⟨wc, hwc⟩ : ∃ W, wi.alloc (.cells #[.int .i64 ((m : Int) + 1)] 3) = W := ⟨_, rfl⟩
            have HFC : Hid (Fr [] wi wc) := hwc ▸ box_fr' _ _
            have hcb : wc.cell? ⟨wi.heap.size, 0, none⟩ = some (.int .i64 ((m : Int) + 1)) := by
             rw [← hwc]
             exact (At.new wi 3 #[.int .i64 ((m : Int) + 1)]).cell 0
            have HA2 : Hid (Ints wc A2 c2 ys) := HG.out.rb.fr HFC.out (fun _ _ hm => by cases hm)
            go_wp2_with (at_builtin; (refine wpList_append_int _ rfl _ _ rfl A2 c2 ys ys.length rfl rfl HA2.out ⟨wi.heap.size, 0, none⟩ 1 ((m : Int) + 1) rfl hcb (by omega) ?_; intro gb capb w7 hi7 hf7 hg7 hs7; have HI7 := Lib.hid hi7; have HF7 := Lib.hid hf7; have HG7 := Lib.hid hg7; clear hi7 hf7 hg7 hs7 hcb))
            have HN := Lib.hid (HG.out.addb HFC.out HI7.out HF7.out HG7.out)
            clear hwc
            go_roundg (gk - 1)
            case measure => have := HK.out; omega
            case rel => exact ⟨m + 1, A1, c1, xs, some ⟨gb, 0, none⟩, capb, ys ++ [((m : Int) + 1)], by have := HK.out; omega, rfl, by simp, by go_num, HN.out⟩
           | false =>
            go_wp2_with fail
            have HN := Lib.hid (HG.out.more)
            go_roundg (gk - 1)
            case measure => have := HK.out; omega
            case rel => exact ⟨m + 1, A1, c1, xs, A2, c2, ys, by have := HK.out; omega, rfl, rfl, by go_num, HN.out⟩
          ·have hm3 : ¬ ((m : Int) + 1) < (bs'.length : Int) := by omega
           go_wp2_with fail
           have HN := Lib.hid (HG.out.more)
           go_roundg (gk - 1)
           case measure => have := HK.out; omega
           case rel => exact ⟨m + 1, A1, c1, xs, A2, c2, ys, by have := HK.out; omega, rfl, rfl, by go_num, HN.out⟩
        ·have hm1 : ¬ ((m : Int) + 1) < (bs.length : Int) := by omega
         by_cases hm2 : m + 1 < bs'.length
         ·have hm3 : ((m : Int) + 1) < (bs'.length : Int) := by omega
          obtain ⟨b2, o2, hB2, x2⟩ := (HB'.out.keep (HFR.out.then_ HG.out.fr)) (by omega)
          subst hB2
          have y2 := x2 _ hm2
          obtain ⟨q2, hq2⟩ : ∃ q, bs'[m + 1]! = q := ⟨_, rfl⟩
          rw [hq2] at y2
          clear x2 hq2
          cases q2 with
          | true =>
           obtain ⟨wc, hwc⟩ : ∃ W, wi.alloc (.cells #[.int .i64 ((m : Int) + 1)] 3) = W := ⟨_, rfl⟩
           have HFC : Hid (Fr [] wi wc) := hwc ▸ box_fr' _ _
           have hcb : wc.cell? ⟨wi.heap.size, 0, none⟩ = some (.int .i64 ((m : Int) + 1)) := by
            rw [← hwc]
            exact (At.new wi 3 #[.int .i64 ((m : Int) + 1)]).cell 0
           have HA2 : Hid (Ints wc A2 c2 ys) := HG.out.rb.fr HFC.out (fun _ _ hm => by cases hm)
           go_wp2_with (at_builtin; (refine wpList_append_int _ rfl _ _ rfl A2 c2 ys ys.length rfl rfl HA2.out ⟨wi.heap.size, 0, none⟩ 1 ((m : Int) + 1) rfl hcb (by omega) ?_; intro gb capb w7 hi7 hf7 hg7 hs7; have HI7 := Lib.hid hi7; have HF7 := Lib.hid hf7; have HG7 := Lib.hid hg7; clear hi7 hf7 hg7 hs7 hcb))
           have HN := Lib.hid (HG.out.addb HFC.out HI7.out HF7.out HG7.out)
           clear hwc
           go_roundg (gk - 1)
           case measure => have := HK.out; omega
           case rel => exact ⟨m + 1, A1, c1, xs, some ⟨gb, 0, none⟩, capb, ys ++ [((m : Int) + 1)], by have := HK.out; omega, rfl, by simp, by go_num, HN.out⟩
          | false =>
           go_wp2_with fail
           have HN := Lib.hid (HG.out.more)
           go_roundg (gk - 1)
           case measure => have := HK.out; omega
           case rel => exact ⟨m + 1, A1, c1, xs, A2, c2, ys, by have := HK.out; omega, rfl, rfl, by go_num, HN.out⟩
         ·have hm3 : ¬ ((m : Int) + 1) < (bs'.length : Int) := by omega
          go_wp2_with fail
          have HN := Lib.hid (HG.out.more)
          go_roundg (gk - 1)
          case measure => have := HK.out; omega
          case rel => exact ⟨m + 1, A1, c1, xs, A2, c2, ys, by have := HK.out; omega, rfl, rfl, by go_num, HN.out⟩
       ·obtain rfl : m = 3 := by omega
        have h5 := H3.out.more HG.out.fr (Y := blks A1 ++ blks A2) (fun j hj => by
         rcases List.mem_append.1 hj with h1 | h1
         ·exact ⟨(HG.out.na j h1).1, HG.out.ra.lt j h1⟩
         ·exact ⟨HG.out.nb j h1, HG.out.rb.lt j h1⟩)
        have KS1 := Lib.hid (gtells_calls h5 HKP.out (by omega) (by omega) (by omega) A1 c1 xs HG.out.ra.rd (g3_ra (by omega) HG.out.sub HG.out.rng) hlx (fun g hg => by have := HG.out.rng g (HG.out.sub g hg); omega) E dd us (HU.out.1.keep (HFR.out.then_ HG.out.fr)) HU.out.2.1 HU.out.2.2.2 (by omega))
        go_wp2_with fail
        refine KS1.out.mono ?_
        clear KS1
        rintro e w5 ⟨S5, r5, kp5, ⟨rfl, L5, a5, h6⟩, st5, ans5⟩
        have KS2 := Lib.hid (gtells_calls h6 kp5 (by omega) (by omega) (by omega) A2 c2 ys (st5.rd HG.out.rb.rd (fun j hj => List.mem_append_right _ (List.mem_append_right _ hj))) (g3_ra (by omega) (fun x hx => hx) HG.out.rng) hly (fun g hg => by have := HG.out.rng g hg; omega) E dd us (HU.out.1.keep (HF1.out.then_ h6.fr)) HU.out.2.1 HU.out.2.2.2 (by omega))
        have HAN5 := Lib.hid ans5
        clear kp5 h6 st5 ans5 h5 a5
        go_wp2_with fail
        refine KS2.out.mono ?_
        clear KS2
        rintro e w6 ⟨S6, r6, kp6, ⟨rfl, L6, a6, h7⟩, -, ans6⟩
        have HFE := Lib.hid (HF1.out.then_ h7.fr)
        have HE := Lib.hid (gmore_end HG.out.sub kp6.vars HAN5.out ans6)
        clear kp6 h7 ans6 a6
        by_cases h2 : r5 = 2
        ·have d5 : (r5 != (2 : Int)) = false := by simp [h2]
         have d6 : (r6 == (2 : Int)) = true := by simp [HE.out h2]
         go_wp2_with fail
         go_ret
         exact ⟨rfl, HFE.out⟩
        ·have d5 : (r5 != (2 : Int)) = true := by simp [h2]
         go_wp2_with fail
         go_ret
         exact ⟨rfl, HFE.out⟩
    ·have hlt2 : ¬ (k : Int) < (ps.length : Int) := by omega
     obtain ⟨w3, rfl⟩ : ∃ x, x = wr := ⟨_, rfl⟩
     obtain ⟨X, L, A0, c0, S, F, h3, kp⟩ := HG.out
     have HFR := Lib.hid (HF1.out.then_ h3.fr)
     have H3 := Lib.hid h3
     have HKP := Lib.hid kp
     have hk21 : k ≤ 20 := hk20
     clear h3 kp HG HK
     go_wp2_with fail
     go_loopg [14, 15, 16, 17] 3 (fun gk x14 x15 x16 x17 wi => ∃ (m : Nat) (A1 : Option Addr) (c1 : Nat) (xs : List Int) (A2 : Option Addr) (c2 : Nat) (ys : List Int), m + gk = 3 ∧ x14 = .slice A1 xs.length c1 ∧ x15 = .slice A2 ys.length c2 ∧ x16 = .int .i64 ((m : Int) + 1) ∧ Hid (G3 w3 m A1 c1 xs A2 c2 ys wi))
     case atStart => exact ⟨0, none, 0, [], none, 0, [], by omega, rfl, rfl, rfl, G3.start _⟩
     case round =>
      obtain ⟨wi, rfl⟩ : ∃ x, x = wr := ⟨_, rfl⟩
      obtain ⟨m, A1, c1, xs, A2, c2, ys, hk, rfl, rfl, rfl, HG⟩ := hrel
      have HK := Lib.hid hk
      have hm3 : m ≤ 3 := by omega
      have hlx := HG.out.lx
      have hly := HG.out.ly
      clear hk
      by_cases hlt : m < 3
      ·have hlt4 : ((m : Int) + 1) < 4 := by omega
       by_cases hm : m + 1 < bs.length
       ·have hm1 : (m : Int) + 1 < (bs.length : Int) := by omega
        obtain ⟨b1, o1, hB1, x1⟩ := (HB.out.keep (HFR.out.then_ HG.out.fr)) (by omega)
        subst hB1
        have y1 := x1 _ hm
        obtain ⟨q1, hq1⟩ : ∃ q, bs[m + 1]! = q := ⟨_, rfl⟩
        rw [hq1] at y1
        clear x1 hq1
        cases q1 with
        | true =>
         obtain ⟨wb, hwb⟩ : ∃ W, wi.alloc (.cells #[.int .i64 ((m : Int) + 1)] 3) = W := ⟨_, rfl⟩
         have HFB : Hid (Fr [] wi wb) := hwb ▸ box_fr' _ _
         have hca : wb.cell? ⟨wi.heap.size, 0, none⟩ = some (.int .i64 ((m : Int) + 1)) := by
          rw [← hwb]
          exact (At.new wi 3 #[.int .i64 ((m : Int) + 1)]).cell 0
         have HA1 : Hid (Ints wb A1 c1 xs) := HG.out.ra.fr HFB.out (fun _ _ hm => by cases hm)
         go_upto_region 20 with (at_builtin; (refine wpList_append_int _ rfl _ _ rfl A1 c1 xs xs.length rfl rfl HA1.out ⟨wi.heap.size, 0, none⟩ 1 ((m : Int) + 1) rfl hca (by omega) ?_; intro ga capa w5 hi5 hf5 hg5 hs5; have HI5 := Lib.hid hi5; have HF5 := Lib.hid hf5; have HG5 := Lib.hid hg5; clear hi5 hf5 hg5 hs5 hca))
         obtain ⟨wc, hwc⟩ : ∃ W, w5.alloc (.cells #[.int .i64 ((m : Int) + 1)] 3) = W := ⟨_, rfl⟩
         have HFC : Hid (Fr [] w5 wc) := hwc ▸ box_fr' _ _
         have hcb : wc.cell? ⟨w5.heap.size, 0, none⟩ = some (.int .i64 ((m : Int) + 1)) := by
          rw [← hwc]
          exact (At.new w5 3 #[.int .i64 ((m : Int) + 1)]).cell 0
         have HA2 : Hid (Ints wc A2 c2 ys) := ((HG.out.rb.fr HFB.out (fun _ _ hm => by cases hm)).fr HF5.out (fun j hj hm => (HG.out.na j hm).2 hj)).fr HFC.out (fun _ _ hm => by cases hm)
         go_wp2_with (at_builtin; (refine wpList_append_int _ rfl _ _ rfl A2 c2 ys ys.length rfl rfl HA2.out ⟨w5.heap.size, 0, none⟩ 1 ((m : Int) + 1) rfl hcb (by omega) ?_; intro gb capb w7 hi7 hf7 hg7 hs7; have HI7 := Lib.hid hi7; have HF7 := Lib.hid hf7; have HG7 := Lib.hid hg7; clear hi7 hf7 hg7 hs7 hcb))
         have HN := Lib.hid (HG.out.both HFB.out HI5.out HF5.out HG5.out HFC.out HI7.out HF7.out HG7.out)
         clear hwb hwc
         go_roundg (gk - 1)
         case measure => have := HK.out; omega
         case rel => exact ⟨m + 1, some ⟨ga, 0, none⟩, capa, xs ++ [((m : Int) + 1)], some ⟨gb, 0, none⟩, capb, ys ++ [((m : Int) + 1)], by have := HK.out; omega, by simp, by simp, by go_num, HN.out⟩
        | false =>
         by_cases hm2 : m + 1 < bs'.length
         ·have hm3 : ((m : Int) + 1) < (bs'.length : Int) := by omega
          obtain ⟨b2, o2, hB2, x2⟩ := (HB'.out.keep (HFR.out.then_ HG.out.fr)) (by omega)
          subst hB2
          have y2 := x2 _ hm2
          obtain ⟨q2, hq2⟩ : ∃ q, bs'[m + 1]! = q := ⟨_, rfl⟩
          rw [hq2] at y2
          clear x2 hq2
          cases q2 with
          | true =>
           obtain ⟨wc, hwc⟩ : ∃ W, wi.alloc (.cells #[.int .i64 ((m : Int) + 1)] 3) = W := ⟨_, rfl⟩
           have HFC : Hid (Fr [] wi wc) := hwc ▸ box_fr' _ _
           have hcb : wc.cell? ⟨wi.heap.size, 0, none⟩ = some (.int .i64 ((m : Int) + 1)) := by
            rw [← hwc]
            exact (At.new wi 3 #[.int .i64 ((m : Int) + 1)]).cell 0
           have HA2 : Hid (Ints wc A2 c2 ys) := HG.out.rb.fr HFC.out (fun _ _ hm => by cases hm)
           go_wp2_with (at_builtin; (refine wpList_append_int _ rfl _ _ rfl A2 c2 ys ys.length rfl rfl HA2.out ⟨wi.heap.size, 0, none⟩ 1 ((m : Int) + 1) rfl hcb (by omega) ?_; intro gb capb w7 hi7 hf7 hg7 hs7; have HI7 := Lib.hid hi7; have HF7 := Lib.hid hf7; have HG7 := Lib.hid hg7; clear hi7 hf7 hg7 hs7 hcb))
           have HN := Lib.hid (HG.out.addb HFC.out HI7.out HF7.out HG7.out)
           clear hwc
           go_roundg (gk - 1)
           case measure => have := HK.out; omega
           case rel => exact ⟨m + 1, A1, c1, xs, some ⟨gb, 0, none⟩, capb, ys ++ [((m : Int) + 1)], by have := HK.out; omega, rfl, by simp, by go_num, HN.out⟩
          | false =>
           go_wp2_with fail
           have HN := Lib.hid (HG.out.more)
           go_roundg (gk - 1)
           case measure => have := HK.out; omega
           case rel => exact ⟨m + 1, A1, c1, xs, A2, c2, ys, by have := HK.out; omega, rfl, rfl, by go_num, HN.out⟩
         ·have hm3 : ¬ ((m : Int) + 1) < (bs'.length : Int) := by omega
          go_wp2_with fail
          have HN := Lib.hid (HG.out.more)
          go_roundg (gk - 1)
          case measure => have := HK.out; omega
          case rel => exact ⟨m + 1, A1, c1, xs, A2, c2, ys, by have := HK.out; omega, rfl, rfl, by go_num, HN.out⟩
       ·have hm1 : ¬ ((m : Int) + 1) < (bs.length : Int) := by omega
        by_cases hm2 : m + 1 < bs'.length
        ·have hm3 : ((m : Int) + 1) < (bs'.length : Int) := by omega
         obtain ⟨b2, o2, hB2, x2⟩ := (HB'.out.keep (HFR.out.then_ HG.out.fr)) (by omega)
         subst hB2
         have y2 := x2 _ hm2
         obtain ⟨q2, hq2⟩ : ∃ q, bs'[m + 1]! = q := ⟨_, rfl⟩
         rw [hq2] at y2
         clear x2 hq2
         cases q2 with
         | true =>
          obtain ⟨wc, hwc⟩ : ∃ W, wi.alloc (.cells #[.int .i64 ((m : Int) + 1)] 3) = W := ⟨_, rfl⟩
          have HFC : Hid (Fr [] wi wc) := hwc ▸ box_fr' _ _
          have hcb : wc.cell? ⟨wi.heap.size, 0, none⟩ = some (.int .i64 ((m : Int) + 1)) := by
           rw [← hwc]
           exact (At.new wi 3 #[.int .i64 ((m : Int) + 1)]).cell 0
          have HA2 : Hid (Ints wc A2 c2 ys) := HG.out.rb.fr HFC.out (fun _ _ hm => by cases hm)
          go_wp2_with (at_builtin; (refine wpList_append_int _ rfl _ _ rfl A2 c2 ys ys.length rfl rfl HA2.out ⟨wi.heap.size, 0, none⟩ 1 ((m : Int) + 1) rfl hcb (by omega) ?_; intro gb capb w7 hi7 hf7 hg7 hs7; have HI7 := Lib.hid hi7; have HF7 := Lib.hid hf7; have HG7 := Lib.hid hg7; clear hi7 hf7 hg7 hs7 hcb))
          have HN := Lib.hid (HG.out.addb HFC.out HI7.out HF7.out HG7.out)
          clear hwc
          go_roundg (gk - 1)
          case measure => have := HK.out; omega
          case rel => exact ⟨m + 1, A1, c1, xs, some ⟨gb, 0, none⟩, capb, ys ++ [((m : Int) + 1)], by have := HK.out; omega, rfl, by simp, by go_num, HN.out⟩
         | false =>
          go_wp2_with fail
          have HN := Lib.hid (HG.out.more)
          go_roundg (gk - 1)
          case measure => have := HK.out; omega
          case rel => exact ⟨m + 1, A1, c1, xs, A2, c2, ys, by have := HK.out; omega, rfl, rfl, by go_num, HN.out⟩
        ·have hm3 : ¬ ((m : Int) + 1) < (bs'.length : Int) := by omega
         go_wp2_with fail
         have HN := Lib.hid (HG.out.more)
         go_roundg (gk - 1)
         case measure => have := HK.out; omega
         case rel => exact ⟨m + 1, A1, c1, xs, A2, c2, ys, by have := HK.out; omega, rfl, rfl, by go_num, HN.out⟩
      ·obtain rfl : m = 3 := by omega
       have h5 := H3.out.more HG.out.fr (Y := blks A1 ++ blks A2) (fun j hj => by
        rcases List.mem_append.1 hj with h1 | h1
        ·exact ⟨(HG.out.na j h1).1, HG.out.ra.lt j h1⟩
        ·exact ⟨HG.out.nb j h1, HG.out.rb.lt j h1⟩)
       have KS1 := Lib.hid (gtells_calls h5 HKP.out (by omega) (by omega) (by omega) A1 c1 xs HG.out.ra.rd (g3_ra (by omega) HG.out.sub HG.out.rng) hlx (fun g hg => by have := HG.out.rng g (HG.out.sub g hg); omega) E dd us (HU.out.1.keep (HFR.out.then_ HG.out.fr)) HU.out.2.1 HU.out.2.2.2 (by omega))
       go_wp2_with fail
       refine KS1.out.mono ?_
       clear KS1
       rintro e w5 ⟨S5, r5, kp5, ⟨rfl, L5, a5, h6⟩, st5, ans5⟩
       have KS2 := Lib.hid (gtells_calls h6 kp5 (by omega) (by omega) (by omega) A2 c2 ys (st5.rd HG.out.rb.rd (fun j hj => List.mem_append_right _ (List.mem_append_right _ hj))) (g3_ra (by omega) (fun x hx => hx) HG.out.rng) hly (fun g hg => by have := HG.out.rng g hg; omega) E dd us (HU.out.1.keep (HF1.out.then_ h6.fr)) HU.out.2.1 HU.out.2.2.2 (by omega))
       have HAN5 := Lib.hid ans5
       clear kp5 h6 st5 ans5 h5 a5
       go_wp2_with fail
       refine KS2.out.mono ?_
       clear KS2
       rintro e w6 ⟨S6, r6, kp6, ⟨rfl, L6, a6, h7⟩, -, ans6⟩
       have HFE := Lib.hid (HF1.out.then_ h7.fr)
       have HE := Lib.hid (gmore_end HG.out.sub kp6.vars HAN5.out ans6)
       clear kp6 h7 ans6 a6
       by_cases h2 : r5 = 2
       ·have d5 : (r5 != (2 : Int)) = false := by simp [h2]
        have d6 : (r6 == (2 : Int)) = true := by simp [HE.out h2]
        go_wp2_with fail
        go_ret
        exact ⟨rfl, HFE.out⟩
       ·have d5 : (r5 != (2 : Int)) = true := by simp [h2]
        go_wp2_with fail
        go_ret
        exact ⟨rfl, HFE.out⟩
end Go.Proofs.Ytjchilcpflfcnaa
