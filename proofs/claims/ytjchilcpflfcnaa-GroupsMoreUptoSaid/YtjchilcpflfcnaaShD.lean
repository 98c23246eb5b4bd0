/-  -/
import Derived.Test.YtjchilcpflfcnaaShC
import Derived.Test.YtjchilcpflfcnaaSgY
set_option linter.unusedVariables false
namespace Go.Proofs.Ytjchilcpflfcnaa
open Go.RowKit
def InR (V : Nat) (l : List Int) : Prop := ∀ x ∈ l, x ≠ 0 ∧ -(V : Int) ≤ x ∧ x ≤ V
def aOf (s : List Bool) : Nat → Bool := fun v => s[v - 1]!
namespace Sv
def msTo (S : Sv) (k : Nat) : List Bool := (List.range k).map fun i : Nat => S.valB ((i : Int) + 1)
theorem aOf_ms {S : Sv} {V : Nat} (hv : S.vars = V) (hh : S.has = true) (v : Nat) (h1 : 1 ≤ v) (h2 : v ≤ V) : aOf (S.msTo V) v = S.model[v]! := by
 unfold aOf msTo
 simp only [List.getElem!_eq_getElem?_getD, List.getElem?_map, List.getElem?_range (show v - 1 < V by omega), Option.map_some, Option.getD_some]
 unfold valB
 have e : ((v - 1 : Nat) : Int) + 1 = (v : Int) := by omega
 rw [e, hh, decide_eq_true (by omega : (1 : Int) ≤ (v : Int)), decide_eq_true (by omega : (v : Int) ≤ (S.vars : Int)), Int.toNat_natCast]
 simp [List.getElem!_eq_getElem?_getD]
end Sv
namespace Rt
variable {V : Nat} {cls : List (List Int)} {us : List Int} {S : Sv} {r : Int}
end Rt
theorem pushes_mem : ∀ (n : Nat) (v : Int) (H : Hp), HI H → 1 ≤ v → v + n ≤ H.at_.length → (∀ y ∈ H.items, y ∈ (Sv.pushes n v H).items) ∧ (∀ x : Int, v ≤ x → x < v + n → x ∈ (Sv.pushes n v H).items) ∧ ∀ y ∈ (Sv.pushes n v H).items, y ∈ H.items ∨ v ≤ y
 | 0, v, H, h, h1, h2 => ⟨fun y hy => hy, fun x h3 h4 => by omega, fun y hy => .inl hy⟩
 | n + 1, v, H, h, h1, h2 => by
  have hk := h.pushC v
  obtain ⟨g1, g2, g3⟩ := pushes_mem n (v + 1) (Sv.pushC H v) hk.1 (by omega) (by rw [hk.2]; omega)
  rw [Sv.pushes]
  refine ⟨fun y hy => g1 y (pushC_keeps h v hy), fun x h3 h4 => ?_, fun y hy => ?_⟩
  ·by_cases e : x = v
   ·rw [e]
    exact g1 v (pushC_in h (by omega) (by omega))
   ·exact g2 x (by omega) (by omega)
  ·rcases g3 y hy with h5 | h5
   ·rcases pushC_mem h v y h5 with h6 | h6
    ·exact .inl h6
    ·exact .inr (by omega)
   ·exact .inr (by omega)
namespace Sv
theorem R_grow {S : Sv} (ok : S.Ok 0) (n : Nat) (hb : S.vars + n ≤ 262143) : (S.grow n).R = S.R ∧ (S.grow n).T.levels.length = S.T.levels.length := by
 have h := ok.rep.grow n (by omega)
 exact ⟨R_of (S := S.grow n) h, h.dep⟩
theorem wat_grow (S : Sv) (n c : Nat) : (S.grow n).wat c = S.wat c := by
 show (S.watch ++ List.replicate (2 * n) ([] : List Nat))[c]! = S.watch[c]!
 simp only [List.getElem!_eq_getElem?_getD]
 by_cases e : c < S.watch.length
 ·rw [List.getElem?_append_left e]
 ·rw [List.getElem?_append_right (by omega), List.getElem?_replicate, List.getElem?_eq_none (l := S.watch) (by omega)]
  split <;> rfl
theorem Inv.grow {S : Sv} (h : S.Inv) (n : Nat) (hb : S.vars + n ≤ 262143) : (S.grow n).Inv := by
 obtain ⟨hR, hl⟩ := R_grow h.ok n hb
 have hw := wat_grow S n
 refine ⟨h.ok.grow n hb, h.dist, fun A e B h1 h2 => h.rsn A e B (hR ▸ h1) h2, fun A e B h1 h2 => h.dec A e B (hR ▸ h1) h2, fun e he => ?_, ⟨fun c => by rw [hw]; exact h.wi.nd c, fun c k hk hl2 => ?_, fun k hl2 => ?_⟩, fun k hl2 e he => ?_⟩
 ·rw [hR] at he
  rw [hl]
  exact h.hd e he
 ·rw [hw] at hk
  exact h.wi.wd c k hk hl2
 ·rw [hw, hw]
  exact h.wi.wc k hl2
 ·rw [hR] at he ⊢
  exact h.wt k hl2 e he
theorem val_grow {S : Sv} (ok : S.Ok 0) (n : Nat) (hb : S.vars + n ≤ 262143) (x : Int) : (S.grow n).val x = S.val x := by
 have h1 := (ok.grow n hb).rep
 have h2 := ok.rep
 rw [(R_grow ok n hb).1] at h1
 unfold val
 rw [h1.valF, h2.valF]
theorem Hc.grow {S : Sv} (h : S.Hc) (ok : S.Ok 0) (n : Nat) (hb : S.vars + n ≤ 262143) : (S.grow n).Hc := by
 have hg : HI (S.H.growF n) ∧ (S.H.growF n).at_.length = S.vars + n + 1 := by
  rw [growF_len ok.hl hb]
  refine ⟨ok.hi.grow n, ?_⟩
  have := ok.hl
  simp only [Hp.growBy, List.length_append, List.length_replicate]
  omega
 have hit : (S.H.growF n).items = S.H.items := by rw [growF_len ok.hl hb]; rfl
 obtain ⟨g1, g2, g3⟩ := pushes_mem n ((S.vars : Int) + 1) (S.H.growF n) hg.1 (by omega) (by rw [hg.2]; omega)
 rw [hit] at g1 g3
 refine ⟨fun v h1 h2 h3 => ?_, fun x hx => ?_⟩
 ·rw [val_grow ok n hb] at h3
  have h2 : v ≤ ((S.vars + n : Nat) : Int) := h2
  by_cases e : v ≤ S.vars
  ·exact g1 v (h.all v h1 e h3)
  ·exact g2 v (by omega) (by omega)
 ·rcases g3 x hx with h4 | h4
  ·exact h.pos x h4
  ·omega
theorem Knows.grow {S : Sv} {F : (Nat → Bool) → Prop} (h : S.Knows F) (ok : S.Ok 0) (n : Nat) (hb : S.vars + n ≤ 262143) : (S.grow n).Knows F := by
 obtain ⟨hR, hl⟩ := R_grow ok n hb
 refine ⟨fun a ha => ⟨(h.sound a ha).1, fun e he => (h.sound a ha).2 e (hR ▸ he)⟩, h.bad, fun hb2 a ha => h.full hb2 a ⟨ha.1, fun e he => ha.2 e (by rw [hR]; exact he)⟩⟩
theorem Cnt.grow {S : Sv} (h : S.Cnt) (n : Nat) : (S.grow n).Cnt := h.same (fun n => ⟨rfl, rfl⟩) rfl rfl
theorem zero_same {S S' : Sv} (h : S'.R = S.R) : S'.zero = S.zero := by unfold zero; rw [h]
theorem Kept.up {S : Sv} {F : (Nat → Bool) → Prop} {vars U V U' V' : Nat} (h : Kept F vars U V S) (h1 : U ≤ U') (h2 : V ≤ V') : Kept F vars U' V' S :=
 ⟨h.inv, h.lev, h.hc, h.kn, h.cnt, h.vars, Nat.le_trans h.used h1, Nat.le_trans h.list h2, h.bump, h.lim⟩
theorem Kept.grow {S : Sv} {F : (Nat → Bool) → Prop} {vars U V : Nat} (h : Kept F vars U V S) (n : Nat) (hb : vars + n ≤ 262143) : Kept F (vars + n) U V (S.fresh0.grow n) := by
 have hv : S.fresh0.vars + n ≤ 262143 := by have := h.vars; show S.vars + n ≤ _; omega
 obtain ⟨hR, hl⟩ := R_grow h.inv.fresh0.ok n hv
 have hc0 : S.fresh0.Hc := ⟨h.hc.all, h.hc.pos⟩
 have hc1 : S.fresh0.Cnt := h.cnt.same (fun n => ⟨rfl, rfl⟩) rfl rfl
 have hP : (S.fresh0.grow n).Phi = S.Phi := Phi_eq rfl (LL_same (fun n => ⟨rfl, rfl⟩) rfl) (zero_same hR)
 exact ⟨h.inv.fresh0.grow n hv, hl.trans h.lev, hc0.grow h.inv.fresh0.ok n hv, h.kn.fresh0.grow h.inv.fresh0.ok n hv, hc1.grow n, by show S.vars + n = _; rw [h.vars], by rw [hP]; exact h.used, by rw [hP]; exact h.list, h.bump, h.lim⟩
theorem Kept.new (V : Nat) (hV : V ≤ 262143) : Kept (fun _ => True) V 68722360329 68722360329 (Sv.new (V : Int)) := by
 obtain ⟨i1, i2, i3, i4, i5, i6, i7⟩ := Inv.new (V : Int)
 have hv := (Sv.Ok.new (V : Int)).2
 have hvn : (Sv.new (V : Int)).vars = V := by rw [hv]; omega
 have hP := Phi_le (Sv.new (V : Int))
 have hR : (Sv.new (V : Int)).R = [] := rfl
 have hrc : ∀ n, (Sv.new (V : Int)).rc n = ⟨[], false, 0⟩ := fun n => rc_out (Nat.zero_le _)
 have hLL : (Sv.new (V : Int)).LL = [] := rfl
 have hob : bare.Ok 0 := by
  have := (Sv.Ok.new 0).1
  exact this
 have hcb : bare.Hc := ⟨fun v h1 h2 => by
  have h2 : v ≤ ((0 : Nat) : Int) := h2
  omega, fun x hx => by cases hx⟩
 refine ⟨i1, i2, hcb.grow hob _ (by show 0 + _ ≤ _; omega), Knows.new _, ⟨fun n m h1 => by
  rw [live_iff, hrc] at h1
  exact absurd h1.1 (by simp), by rw [i3, hLL]; rfl⟩, hvn, by rw [i6]; omega, by rw [i5]; simpa using hP, by rw [i7]; decide, by rw [i4]; decide⟩
theorem Cnt.attach {S : Sv} (h : S.Cnt) (hi : S.Inv) {l : List Int} (hf : S.Fits l) (hd : (l.map tv).Nodup) (hr : S.list.length < 1099511627776) : (S.attach l false).Cnt ∧ (S.attach l false).LL = S.LL := by
 obtain ⟨k1, k2, k3⟩ := hi.attach hf hd false hr
 have hlen : (S.attach l false).list.length = S.list.length + 1 := (attach_same S l false).2.2.1
 have hlive : ∀ n, n ≠ S.list.length → (S.attach l false).liveB n = S.liveB n := fun n hn => by unfold liveB; rw [k3 n hn]
 have hnew : (S.attach l false).liveB S.list.length = false := by unfold liveB; rw [k2]; rfl
 have hLL : (S.attach l false).LL = S.LL := by
  unfold LL
  rw [hlen, List.range_succ, List.filter_append, List.filter_cons, hnew, List.filter_nil]
  simp only [Bool.false_eq_true, if_false, List.append_nil]
  refine List.filter_congr fun n hn => hlive n ?_
  have := List.mem_range.1 hn
  omega
 refine ⟨⟨fun n m n1 n2 n3 => ?_, by rw [hLL]; exact h.many⟩, hLL⟩
 have en : n ≠ S.list.length := fun e => by rw [e, hnew] at n1; cases n1
 have em : m ≠ S.list.length := fun e => by rw [e, hnew] at n2; cases n2
 rw [hlive n en] at n1
 rw [hlive m em] at n2
 refine h.dl n m n1 n2 fun x => ?_
 have := n3 x
 rw [k3 n en, k3 m em] at this
 exact this
end Sv
namespace Sv
structure AdS (S S' : Sv) : Prop where
 H : S'.H = S.H
 R : ∃ Z, S'.R = S.R ++ Z
 LL : S'.LL = S.LL
 cnt : S'.Cnt
theorem AdS.refl0 {S : Sv} (h : S.Cnt) : AdS S S.fresh0 := ⟨rfl, ⟨[], by rw [List.append_nil]; rfl⟩, rfl, h.same (fun n => ⟨rfl, rfl⟩) rfl rfl⟩
theorem addTo_same {S : Sv} (h : S.Inv) (hc : S.Cnt) {out : List Int} (h1 : out.length ≤ 1048576) (hl : ∀ x ∈ out, x ≠ 0 ∧ -(S.vars : Int) ≤ x ∧ x ≤ S.vars) (hd : (out.map tv).Nodup) (hv : ∀ x ∈ out, S.val x = 0) (hr : S.list.length < 1099511627776) : AdS S (S.addTo out) := by
 unfold Sv.addTo
 by_cases e0 : out.length = 0
 ·rw [if_pos e0]
  exact ⟨rfl, ⟨[], by rw [List.append_nil]; rfl⟩, rfl, hc.same (fun n => ⟨rfl, rfl⟩) rfl rfl⟩
 ·rw [if_neg e0]
  have hm := get_mem (l := out) (i := 0) (by omega)
  by_cases e1 : out.length = 1
  ·rw [if_pos e1]
   have ht := tv_in (hl _ hm).1 (hl _ hm).2.1 (hl _ hm).2.2 h.ok.vl
   have hR := R_put (r := 0) h.ok (putB_of h.ok ht.1 ht.2 (hv _ hm))
   exact ⟨rfl, ⟨_, hR⟩, rfl, hc.same (fun n => ⟨rfl, rfl⟩) rfl rfl⟩
  ·rw [if_neg e1]
   obtain ⟨k1, k2⟩ := hc.attach h ⟨by omega, h1, hl⟩ hd hr
   have hs := attach_same S out false
   exact ⟨hs.2.2.2.2.2, ⟨[], by rw [List.append_nil]; exact R_congr hs.1⟩, k2, k1⟩
theorem addF_same {S : Sv} (h : S.Inv) (hc : S.Cnt) {l : List Int} (hra : Ra l) (hr : S.list.length < 1099511627776) (hck : chkF S.vars l = 0) : AdS S (S.addF l).1 := by
 unfold Sv.addF
 rw [if_pos hck]
 by_cases hs : S.skipB (nrm l) = true
 ·rw [if_pos hs]
  exact AdS.refl0 hc
 ·rw [if_neg hs]
  obtain ⟨h1, h2⟩ := left_rng (S := S) hra hck
  have hs : S.skipB (nrm l) = false := by simpa using hs
  unfold skipB at hs
  rw [Bool.or_eq_false_iff] at hs
  have hc2 := chk_rng hra hck
  have hd := nrm_dist (l := l) (v := S.vars) (fun x hx => (hc2.2 x (nrm_mem hx).1).2) h.ok.vl hs.1
  have k := addTo_same (S := S.fresh0) h.fresh0 (hc.same (fun n => ⟨rfl, rfl⟩) rfl rfl) (out := S.leftOf (nrm l)) (by omega) h2 (by
   unfold leftOf
   exact hd.sublist (List.Sublist.map tv (List.filter_sublist))) (fun x hx => by
   unfold leftOf at hx
   rw [List.mem_filter] at hx
   have h3 : ¬ S.val x < 0 := by simpa using hx.2
   have h4 : ¬ 0 < S.val x := fun h5 => by
    have : (nrm l).any (fun x => decide (0 < S.val x)) = true := List.any_eq_true.2 ⟨x, hx.1, by simpa using h5⟩
    rw [this] at hs
    cases hs.2
   show S.val x = 0
   omega) hr
  exact ⟨k.H, k.R, k.LL, k.cnt⟩
theorem Kept.addF {S : Sv} {F : (Nat → Bool) → Prop} {vars U V : Nat} (h : Kept F vars U V S) {l : List Int} (hra : Ra l) (hr : S.list.length < 1099511627776) (hck : chkF S.vars l = 0) : Kept (fun a => F a ∧ Sat1 a l) vars U (V + 1) (S.addF l).1 := by
 obtain ⟨k1, k2⟩ := h.inv.addF h.lev hra hr
 obtain ⟨m1, m2, m3, m4, m5⟩ := addF_more S l
 have hv := (h.inv.ok.addF hra hr).2
 have hs := addF_same h.inv h.cnt hra hr hck
 obtain ⟨Z, hZ⟩ := hs.R
 have hP : (S.addF l).1.Phi ≤ S.Phi := Phi_mono m4 (by rw [hs.LL]; have := zero_up hZ; omega)
 have h1 := h.used
 have h2 := h.list
 exact ⟨k1, k2, h.hc.mono h.inv.ok k1.ok hv (fun y => by rw [hs.H]) (fun e he => by rw [hZ]; exact List.mem_append_left _ he), h.kn.addF h.inv h.lev hra hr hck, hs.cnt, hv.trans h.vars, by rw [m1]; omega, by omega, by rw [m2]; exact h.bump, by rw [m4]; exact h.lim⟩
end Sv
end Go.Proofs.Ytjchilcpflfcnaa
