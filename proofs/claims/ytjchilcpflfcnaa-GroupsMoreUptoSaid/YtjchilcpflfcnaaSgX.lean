/-  -/
import Derived.Test.YtjchilcpflfcnaaSgA
import Derived.Test.YtjchilcpflfcnaaSgV
set_option linter.unusedVariables false
set_option linter.unusedSimpArgs false
namespace Go.Proofs.Ytjchilcpflfcnaa
open Go.RowKit
theorem Sat1.perm {a : Nat → Bool} {l l' : List Int} (h : Sat1 a l) (hp : l'.Perm l) : Sat1 a l' := by
 obtain ⟨y, hy, ht⟩ := h
 exact ⟨y, hp.mem_iff.2 hy, ht⟩
namespace Sv
theorem Good.bad_zero {S : Sv} (h : S.Inv) {n : Nat} (hc : S.Cfl n) (hn : (S.rc n).lits ≠ []) (h0 : S.T.levels.length = 0) {a : Nat → Bool} (ha : S.Good a) : False := by
 obtain ⟨y, hy, ht⟩ := ha.1 n hn
 obtain ⟨e, he, hx⟩ := hc.1 y hy
 have hr := R_rng h.ok he
 have hy0 : y ≠ 0 := (h.ok.lr n y hy).1
 have := ha.2 e he (by omega)
 rw [hx] at this
 exact (Tru.neg hy0).1 this ht
theorem good_of {S : Sv} (h : S.Inv) {a : Nat → Bool} (h1 : ∀ n, (S.rc n).lits ≠ [] → Sat1 a (S.rc n).lits) (h2 : ∀ e ∈ S.R, e.l = 0 → e.r = 0 → Tru a e.x) : S.Good a := by
 refine ⟨h1, ?_⟩
 have key : ∀ (k : Nat) (A : List St) (e : St) (B : List St), A.length = k → S.R = A ++ e :: B → e.l = 0 → Tru a e.x := by
  intro k
  induction k using Nat.strongRecOn with
  | ind k ih =>
   intro A e B hA hR hl
   have he : e ∈ S.R := by rw [hR]; simp
   by_cases hr : e.r = 0
   ·exact h2 e he hl hr
   ·obtain ⟨n, hn, ls, hls, hall⟩ := h.rsn A e B hR hr
    obtain ⟨y, hy, ht⟩ := h1 n (by rw [hls]; simp)
    rw [hls] at hy
    rcases List.mem_cons.1 hy with hy | hy
    ·rw [← hy]; exact ht
    ·exfalso
     obtain ⟨e', he', hx⟩ := hall y hy
     obtain ⟨A1, B1, hAB⟩ := List.append_of_mem he'
     have hle : e'.l ≤ e.l := by
      have hs := h.ok.rep.sorted
      rw [hR] at hs
      exact (List.pairwise_append.1 hs).2.2 e' he' e List.mem_cons_self
     have hb := R_rng h.ok (show e' ∈ S.R by rw [hR]; exact List.mem_append_left _ he')
     have := ih A1.length (by rw [← hA, hAB]; simp) A1 e' (B1 ++ e :: B) rfl (by rw [hR, hAB]; simp) (by omega)
     have hy0 : y ≠ 0 := (h.ok.lr n y (by rw [hls]; exact List.mem_cons_of_mem _ hy)).1
     rw [hx] at this
     exact (Tru.neg hy0).1 this ht
 intro e he hl
 obtain ⟨A, B, hR⟩ := List.append_of_mem he
 exact key A.length A e B rfl hR hl
theorem Good.mo {S S' : Sv} (hm : Mo S S') (h' : S'.Inv) {a : Nat → Bool} (ha : S.Good a) : S'.Good a := by
 obtain ⟨Z, hZ, hr⟩ := hm.pre
 refine good_of h' (fun n hn => ?_) (fun e he hl h0 => ?_)
 ·have hp := hm.lits n
  have : (S.rc n).lits ≠ [] := fun e => by rw [e] at hp; exact hn (List.perm_nil.1 hp)
  exact (ha.1 n this).perm hp
 ·rw [hZ] at he
  rcases List.mem_append.1 he with h1 | h1
  ·exact ha.2 e h1 hl
  ·exact absurd h0 (hr e h1)
def Base (S : Sv) (a : Nat → Bool) : Prop := (∀ n, (S.rc n).lrn = false → (S.rc n).lits ≠ [] → Sat1 a (S.rc n).lits) ∧ ∀ e ∈ S.R, e.l = 0 → Tru a e.x
theorem Base.mo {S S' : Sv} (hm : Mo S S') {a : Nat → Bool} (ha : S'.Base a) : S.Base a := by
 obtain ⟨Z, hZ, hr⟩ := hm.pre
 refine ⟨fun n hl hn => ?_, fun e he hl => ha.2 e (by rw [hZ]; exact List.mem_append_left _ he) hl⟩
 have hp := hm.lits n
 have : (S'.rc n).lits ≠ [] := fun e => by rw [e] at hp; exact hn (List.nil_perm.1 hp)
 exact (ha.1 n ((hm.lrn n).trans hl) this).perm hp.symm
structure Knows (S : Sv) (F : (Nat → Bool) → Prop) : Prop where
 sound : ∀ a, F a → S.Good a
 bad : S.bad = true → ∀ a, ¬ F a
 full : S.bad = false → ∀ a, S.Base a → F a
theorem Knows.congr {S S' : Sv} {F : (Nat → Bool) → Prop} (h : S.Knows F) (hT : S'.T = S.T) (hl : S'.list = S.list) (hb : S'.bad = S.bad) : S'.Knows F := by
 have hR := R_congr hT
 have hrc := rc_same hl
 refine ⟨fun a ha => ?_, fun hb2 => h.bad (hb ▸ hb2), fun hb2 a ha => h.full (hb ▸ hb2) a ⟨fun n h1 h2 => ?_, fun e he => ?_⟩⟩
 ·have := h.sound a ha
  exact ⟨fun n hn => by rw [hrc] at hn ⊢; exact this.1 n hn, fun e he => this.2 e (hR ▸ he)⟩
 ·have := ha.1 n (by rw [hrc]; exact h1) (by rw [hrc]; exact h2)
  rw [hrc] at this
  exact this
 ·exact ha.2 e (by rw [hR]; exact he)
theorem Knows.mo {S S' : Sv} {F : (Nat → Bool) → Prop} (h : S.Knows F) (hm : Mo S S') (h' : S'.Inv) (hb : S'.bad = S.bad) : S'.Knows F :=
 ⟨fun a ha => (h.sound a ha).mo hm h', fun hb2 => h.bad (hb ▸ hb2), fun hb2 a ha => h.full (hb ▸ hb2) a (ha.mo hm)⟩
theorem Knows.zero {S : Sv} {F : (Nat → Bool) → Prop} (h : S.Knows F) (hi : S.Inv) {n : Nat} (hc : S.Cfl n) (hn : (S.rc n).lits ≠ []) (h0 : S.T.levels.length = 0) : ({ S with bad := true } : Sv).Knows F := by
 have hno : ∀ a, ¬ F a := fun a ha => (h.sound a ha).bad_zero hi hc hn h0
 exact ⟨fun a ha => absurd ha (hno a), fun _ => hno, fun h => by cases h⟩
theorem Knows.back {S : Sv} {F : (Nat → Bool) → Prop} (h : S.Knows F) (hi : S.Inv) (level : Nat) : (S.back level).Knows F := by
 by_cases hl : level < S.T.levels.length
 ·obtain ⟨h1, h2, h3, h4, B, h5, h6, h7⟩ := back_eqs hi.ok hl
  have hrc := rc_same h1
  have hb := (back_more S level).2.2.2.2.1
  refine ⟨fun a ha => ?_, fun hb2 => h.bad (hb ▸ hb2), fun hb2 a ha => h.full (hb ▸ hb2) a ⟨fun n k1 k2 => ?_, fun e he h0 => ?_⟩⟩
  ·have := h.sound a ha
   exact ⟨fun n hn => by rw [hrc] at hn ⊢; exact this.1 n hn, fun e he => this.2 e (by rw [h5]; exact List.mem_append_left _ he)⟩
  ·have := ha.1 n (by rw [hrc]; exact k1) (by rw [hrc]; exact k2)
   rw [hrc] at this
   exact this
  ·refine ha.2 e ?_ h0
   rw [h5] at he
   rcases List.mem_append.1 he with h8 | h8
   ·exact h8
   ·have := h6 e h8; omega
 ·have : S.back level = S := by
   unfold Sv.back
   rw [if_pos (by omega)]
  rw [this]
  exact h
theorem Knows.learnt {B : Sv} {F : (Nat → Bool) → Prop} (h : B.Knows F) (hi : B.Inv) {l : List Int} (hf : 2 ≤ l.length → B.Fits l) (hr : B.list.length < 1099511627776) (l0 : 0 < l.length) (hl : ∀ x ∈ l, x ≠ 0 ∧ -(B.vars : Int) ≤ x ∧ x ≤ B.vars) (hnd : (l.map tv).Nodup) (hv : B.val l[0]! = 0)
  (h1 : 2 ≤ l.length → 0 < B.T.levels.length) (hs : ∀ a, F a → Sat1 a l) : (B.learnt l).Knows F := by
 have hl0 := hl _ (get_mem (l := l) (i := 0) l0)
 have ht := tv_in hl0.1 hl0.2.1 hl0.2.2 hi.ok.vl
 unfold Sv.learnt
 by_cases e1 : l.length = 1
 ·rw [if_pos e1]
  have hR := R_put (r := 0) hi.ok (putB_of hi.ok ht.1 ht.2 hv)
  obtain ⟨y, hy⟩ : ∃ y, l = [y] := by
   match l, e1 with
   | [y], _ => exact ⟨y, rfl⟩
  refine ⟨fun a ha => ?_, h.bad, fun hb a ha => h.full hb a ⟨ha.1, fun e he h0 => ha.2 e (by rw [hR]; exact List.mem_append_left _ he) h0⟩⟩
  have hg := h.sound a ha
  refine ⟨hg.1, fun e he h0 => ?_⟩
  rw [hR] at he
  rcases List.mem_append.1 he with h3 | h3
  ·exact hg.2 e h3 h0
  ·rw [List.mem_singleton.1 h3]
   obtain ⟨z, hz, hzt⟩ := hs a ha
   rw [hy] at hz ⊢
   rw [List.mem_singleton.1 hz] at hzt
   exact hzt
 ·rw [if_neg e1]
  have h2 : 2 ≤ l.length := by omega
  obtain ⟨k1, k2, k3⟩ := hi.attach (hf h2) hnd true hr
  have hsm := attach_same B l true
  have hb : (B.attach l true).T.putB l[0]! = true := by
   rw [hsm.1]
   exact putB_of hi.ok ht.1 ht.2 hv
  have hR := R_put (r := (B.list.length : Int) + 1) k1.ok hb
  rw [R_congr hsm.1, hsm.1] at hR
  obtain ⟨S', hS'⟩ : ∃ S' : Sv, ({ ((B.attach l true).put l[0]! (B.list.length + 1)) with many := B.many + 1 } : Sv) = S' := ⟨_, rfl⟩
  have hR' : S'.R = B.R ++ [⟨l[0]!, B.T.levels.length, (B.list.length : Int) + 1⟩] := by rw [← hS']; exact hR
  have hrn : S'.rc B.list.length = ⟨l, true, B.used⟩ := by rw [← hS']; exact k2
  have hro : ∀ n, n ≠ B.list.length → S'.rc n = B.rc n := fun n hn => by rw [← hS']; exact k3 n hn
  have hbad : S'.bad = B.bad := by rw [← hS']; rfl
  rw [hS']
  refine ⟨fun a ha => ?_, fun hb2 => h.bad (hbad ▸ hb2), fun hb2 a ha => h.full (hbad ▸ hb2) a ⟨fun n n1 n2 => ?_, fun e he h0 => ha.2 e (by rw [hR']; exact List.mem_append_left _ he) h0⟩⟩
  ·have hg := h.sound a ha
   refine ⟨fun n hn => ?_, fun e he h0 => ?_⟩
   ·by_cases e : n = B.list.length
    ·rw [e, hrn]
     exact hs a ha
    ·rw [hro n e] at hn ⊢
     exact hg.1 n hn
   ·rw [hR'] at he
    rcases List.mem_append.1 he with h3 | h3
    ·exact hg.2 e h3 h0
    ·rw [List.mem_singleton.1 h3] at h0
     have h0 : (B.T.levels.length : Int) = 0 := h0
     have := h1 h2
     omega
  ·have hne : n ≠ B.list.length := fun e => by
    have := in_list n2
    omega
   have := ha.1 n (by rw [hro n hne]; exact n1) (by rw [hro n hne]; exact n2)
   rw [hro n hne] at this
   exact this
theorem Good.skel {S S1 : Sv} (h : S1.skel = S.skel) {a : Nat → Bool} (ha : S1.Good a) : S.Good a := by
 have hR : S1.R = S.R := R_congr (congrArg (fun x => x.1) h)
 refine ⟨fun n hn => ?_, fun e he => ha.2 e (hR ▸ he)⟩
 rw [← (skel_rc h n).1] at hn ⊢
 exact ha.1 n hn
theorem Knows.skel {S S1 : Sv} (h : S1.skel = S.skel) {F : (Nat → Bool) → Prop} (hk : S.Knows F) : S1.Knows F := by
 have hR : S1.R = S.R := R_congr (congrArg (fun x => x.1) h)
 have hb : S1.bad = S.bad := congrArg (fun x => x.2.2.2.2.2.2.2.2.2.2.2.1) h
 refine ⟨fun a ha => Good.skel h.symm (hk.sound a ha), fun h2 => hk.bad (hb ▸ h2), fun h2 a ha => hk.full (hb ▸ h2) a ⟨fun n n1 n2 => ?_, fun e he => ha.2 e (hR ▸ he)⟩⟩
 have := ha.1 n ((skel_rc h n).2.trans n1) (by rw [(skel_rc h n).1]; exact n2)
 rw [(skel_rc h n).1] at this
 exact this
theorem Knows.conflict {S : Sv} {F : (Nat → Bool) → Prop} (hk : S.Knows F) (h : S.Inv) {n : Nat} (hc : S.Cfl n) (hn : (S.rc n).lits ≠ []) (hr : S.list.length < 1099511627776) (hd : 0 < S.T.levels.length) {S2 : Sv} (he : S.conflict n = some (S2, true)) : S2.Knows F := by
 obtain ⟨S1, l, lev, h1, h2, h3⟩ := learned_spec h.ok h.rsn h.dec hc hd hn
 obtain ⟨ok1, eT, eV, eL, eU, f0, f1, f2, f3, f4⟩ := learned_fit h.ok h1
 have hI1 : S1.Inv := h.congr ok1 eT (congrArg (fun x => x.2.2.2.2.2.2.1) h2) (fun j => (skel_rc h2 j).1) (congrArg (fun x => x.2.2.1) h2)
 have hR1 : S1.R = S.R := R_congr eT
 have hlt := h3.lt
 have hlv : lev.toNat < S1.T.levels.length := by rw [eT]; omega
 obtain ⟨b1, b2, b3, b4, BB, b5, b6, b7⟩ := back_eqs hI1.ok hlv
 have hbv := (hI1.ok.back lev.toNat).2.1
 have hIB := hI1.back lev.toNat
 have hin : ∀ e ∈ (S1.back lev.toNat).R, e ∈ S.R := fun e he => by rw [← hR1, b5]; exact List.mem_append_left _ he
 obtain ⟨et, het, hetx, hetl⟩ := h3.top
 have hS2 : S2 = ((S1.back lev.toNat).learnt l).bumped := by
  unfold Sv.conflict at he
  rw [if_neg (by omega), h1] at he
  simp only [Option.some.injEq, Prod.mk.injEq] at he
  exact he.1.symm
 rw [hS2]
 have hv : (S1.back lev.toNat).val l[0]! = 0 := by
  rcases val_range hIB.ok l[0]! with h5 | h5 | h5
  ·exact h5
  ·exfalso
   obtain ⟨e, he, hx⟩ := (val_pos hIB.ok l[0]!).1 (by omega)
   exact not_both h.ok (hin e he) het (by rw [hx, hetx])
  ·exfalso
   obtain ⟨e, he, hx⟩ := (val_neg hIB.ok).1 (by omega : (S1.back lev.toNat).val l[0]! < 0)
   have hxe : e.x = et.x := by rw [hx, hetx]; omega
   have := R_uniq h.ok (hin e he) het (by rw [hxe])
   have := b7 e he
   subst_vars
   omega
 have hkL : ((S1.back lev.toNat).learnt l).Knows F := by
  refine ((hk.skel h2).back hI1 lev.toNat).learnt hIB (fun h5 => ⟨h5, f1, by rw [hbv, eV]; exact f2⟩) (by rw [b1, eL]; exact hr) f0 (by rw [hbv, eV]; exact f2) h3.nd hv (fun h5 => ?_) (fun a ha => h3.sem a (hk.sound a ha))
  obtain ⟨e, he, hx, hl1, hl2⟩ := h3.tail 1 (Nat.le_refl 1) h5
  rw [b3]
  omega
 exact hkL.congr rfl rfl rfl
theorem Knows.drop1 {S : Sv} {F : (Nat → Bool) → Prop} (h : S.Knows F) {n : Nat} (hl : (S.rc n).lrn = true) : (S.drop1 n).Knows F := by
 refine ⟨fun a ha => ?_, h.bad, fun hb a ha => h.full hb a ⟨fun j h1 h2 => ?_, ha.2⟩⟩
 ·have hg := h.sound a ha
  refine ⟨fun j hj => ?_, hg.2⟩
  rw [rc_drop1] at hj ⊢
  split
  ·rename_i e
   rw [if_pos e] at hj
   exact absurd rfl hj
  ·rename_i e
   rw [if_neg e] at hj
   exact hg.1 j hj
 ·have hne : ¬ (n = j ∧ n < S.list.length) := fun e => by
   rw [← e.1, hl] at h1
   cases h1
  have := ha.1 j (by rw [rc_drop1, if_neg hne]; exact h1) (by rw [rc_drop1, if_neg hne]; exact h2)
  rw [rc_drop1, if_neg hne] at this
  exact this
end Sv
namespace Sv
def As (us : List Int) (S : Sv) : Prop := ∀ i : Nat, i < S.T.levels.length → i < us.length → ∃ e ∈ S.R, e.x = us[i]! ∧ e.l ≤ i + 1
def Dc (us : List Int) (S : Sv) : Prop := ∀ e ∈ S.R, e.r = 0 → 1 ≤ e.l → e.l ≤ us.length → ∃ i : Nat, i < us.length ∧ e.x = us[i]!
theorem As.mo {us : List Int} {S S' : Sv} (h : As us S) (hm : Mo S S') (hl : S'.T.levels.length = S.T.levels.length) : As us S' := fun i h1 h2 => by
 obtain ⟨Z, hZ, _⟩ := hm.pre
 obtain ⟨e, he, hx⟩ := h i (by omega) h2
 exact ⟨e, by rw [hZ]; exact List.mem_append_left _ he, hx⟩
theorem Dc.mo {us : List Int} {S S' : Sv} (h : Dc us S) (hm : Mo S S') : Dc us S' := fun e he hr h1 h2 => by
 obtain ⟨Z, hZ, hz⟩ := hm.pre
 rw [hZ] at he
 rcases List.mem_append.1 he with h3 | h3
 ·exact h e h3 hr h1 h2
 ·exact absurd hr (hz e h3)
theorem As.back {us : List Int} {S : Sv} (h : As us S) {m : Nat} (ok : S.Ok m) (level : Nat) : As us (S.back level) := by
 by_cases hl : level < S.T.levels.length
 ·obtain ⟨h1, h2, h3, h4, B, h5, h6, h7⟩ := back_eqs ok hl
  intro i k1 k2
  rw [h3] at k1
  obtain ⟨e, he, hx, hle⟩ := h i (by omega) k2
  refine ⟨e, ?_, hx, hle⟩
  rw [h5] at he
  rcases List.mem_append.1 he with h8 | h8
  ·exact h8
  ·have := h6 e h8; omega
 ·have : S.back level = S := by
   unfold Sv.back
   rw [if_pos (by omega)]
  rw [this]
  exact h
theorem Dc.back {us : List Int} {S : Sv} (h : Dc us S) {m : Nat} (ok : S.Ok m) (level : Nat) : Dc us (S.back level) := by
 by_cases hl : level < S.T.levels.length
 ·obtain ⟨h1, h2, h3, h4, B, h5, h6, h7⟩ := back_eqs ok hl
  exact fun e he => h e (by rw [h5]; exact List.mem_append_left _ he)
 ·have : S.back level = S := by
   unfold Sv.back
   rw [if_pos (by omega)]
  rw [this]
  exact h
theorem As.congr {us : List Int} {S S' : Sv} (h : As us S) (hT : S'.T = S.T) : As us S' := by
 unfold As at *
 rw [R_congr hT, hT]
 exact h
theorem Dc.congr {us : List Int} {S S' : Sv} (h : Dc us S) (hT : S'.T = S.T) : Dc us S' := by
 unfold Dc at *
 rw [R_congr hT]
 exact h
theorem As.put {us : List Int} {S : Sv} (h : As us S) {m : Nat} (ok : S.Ok m) (x r : Int) : As us (S.put x r) := by
 intro i h1 h2
 rw [put_levels] at h1
 obtain ⟨e, he, hx⟩ := h i h1 h2
 refine ⟨e, ?_, hx⟩
 by_cases hb : S.T.putB x = true
 ·rw [R_put ok hb]; exact List.mem_append_left _ he
 ·rw [R_congr (show (S.put x r).T = S.T by unfold Sv.put; simp only; rw [if_neg hb])]; exact he
theorem Dc.put {us : List Int} {S : Sv} (h : Dc us S) {m : Nat} (ok : S.Ok m) (x r : Int) (hr : r = 0 → S.T.levels.length = 0 ∨ us.length < S.T.levels.length ∨ ∃ i : Nat, i < us.length ∧ x = us[i]!) : Dc us (S.put x r) := by
 by_cases hb : S.T.putB x = true
 ·intro e he h0 h1 h2
  rw [R_put ok hb] at he
  rcases List.mem_append.1 he with h3 | h3
  ·exact h e h3 h0 h1 h2
  ·rw [List.mem_singleton.1 h3] at h0 h1 h2 ⊢
   have h1 : (1 : Int) ≤ S.T.levels.length := h1
   have h2 : (S.T.levels.length : Int) ≤ us.length := h2
   rcases hr h0 with h4 | h4 | h4
   ·omega
   ·omega
   ·exact h4
 ·exact h.congr (show (S.put x r).T = S.T by unfold Sv.put; simp only; rw [if_neg hb])
theorem learnt_AsDc {us : List Int} {B : Sv} (h : B.Inv) (ha : As us B) (hd : Dc us B) {l : List Int} (h1 : l.length = 1 → B.T.levels.length = 0) : As us (B.learnt l).bumped ∧ Dc us (B.learnt l).bumped := by
 by_cases e1 : l.length = 1
 ·have e : (B.learnt l).bumped.T = (B.put l[0]! 0).T := by unfold learnt; rw [if_pos e1]; rfl
  exact ⟨(ha.put h.ok l[0]! 0).congr e, (hd.put h.ok l[0]! 0 (fun _ => .inl (h1 e1))).congr e⟩
 ·have e : (B.learnt l).bumped.T = (B.put l[0]! (B.list.length + 1)).T := by
   unfold learnt
   rw [if_neg e1]
   show ((B.attach l true).put l[0]! _).T = _
   unfold Sv.put
   simp only
   rw [(attach_same B l true).1]
  exact ⟨(ha.put h.ok l[0]! _).congr e, (hd.put h.ok l[0]! _ (fun e => by omega)).congr e⟩
theorem conflict_AsDc {us : List Int} {S : Sv} (h : S.Inv) (ha : As us S) (hd : Dc us S) {n : Nat} (hc : S.Cfl n) (hn : (S.rc n).lits ≠ []) (hdep : 0 < S.T.levels.length) {S2 : Sv} (he : S.conflict n = some (S2, true)) : As us S2 ∧ Dc us S2 := by
 obtain ⟨S1, l, lev, h1, h2, h3⟩ := learned_spec h.ok h.rsn h.dec hc hdep hn
 obtain ⟨ok1, eT, eV, eL, eU, f0, f1, f2, f3, f4⟩ := learned_fit h.ok h1
 have hI1 : S1.Inv := h.congr ok1 eT (congrArg (fun x => x.2.2.2.2.2.2.1) h2) (fun j => (skel_rc h2 j).1) (congrArg (fun x => x.2.2.1) h2)
 have hlt := h3.lt
 have hlv : lev.toNat < S1.T.levels.length := by rw [eT]; omega
 have hS2 : S2 = ((S1.back lev.toNat).learnt l).bumped := by
  unfold Sv.conflict at he
  rw [if_neg (by omega), h1] at he
  simp only [Option.some.injEq, Prod.mk.injEq] at he
  exact he.1.symm
 rw [hS2]
 exact learnt_AsDc (hI1.back lev.toNat) ((ha.congr eT).back ok1 _) ((hd.congr eT).back ok1 _) (fun h5 => by
  rw [(back_eqs ok1 hlv).2.2.1, h3.one h5]
  rfl)
theorem blame_sem {S : Sv} (h : S.Inv) : ∀ (Q D : List St) (g met : List Int), S.R = Q.reverse ++ D →
  (∀ m ∈ met, m ∈ blameL S (Q.map (·.x)) g met) ∧
  (∀ m ∈ blameL S (Q.map (·.x)) g met, m ∈ met ∨ ∃ e ∈ S.R, e.r = 0 ∧ 1 ≤ e.l ∧ e.x = m) ∧
  ∀ a, S.Good a → (∀ m ∈ blameL S (Q.map (·.x)) g met, Tru a m) → ∀ e ∈ Q, tv e.x ∈ g → Tru a e.x
 | [], D, g, met, hR => ⟨fun m hm => hm, fun m hm => .inl hm, fun a _ _ e he => by cases he⟩
 | e0 :: Q, D, g, met, hR => by
  have hR2 : S.R = Q.reverse ++ (e0 :: D) := by rw [hR]; simp
  have he0 : e0 ∈ S.R := by rw [hR2]; simp
  obtain ⟨hl, hr⟩ := lev_of h.ok he0
  have hrg := R_rng h.ok he0
  rw [List.map_cons, blameL, hl, hr]
  by_cases hs : tv e0.x ∉ g ∨ e0.l = 0
  ·rw [if_pos hs]
   obtain ⟨i1, i2, i3⟩ := blame_sem h Q (e0 :: D) g met hR2
   refine ⟨i1, i2, fun a ha ht e he hg => ?_⟩
   rcases List.mem_cons.1 he with rfl | he
   ·rcases hs with hs | hs
    ·exact absurd hg hs
    ·exact ha.2 e he0 hs
   ·exact i3 a ha ht e he hg
  ·rw [if_neg hs]
   have hl1 : 1 ≤ e0.l := by
    have : ¬ e0.l = 0 := fun e => hs (.inr e)
    omega
   by_cases h0 : e0.r - 1 < 0
   ·rw [if_pos h0]
    have hrz : e0.r = 0 := by
     have := (h.ok.rs (tv e0.x)).1
     rw [hr] at this
     omega
    obtain ⟨i1, i2, i3⟩ := blame_sem h Q (e0 :: D) g (e0.x :: met) hR2
    refine ⟨fun m hm => i1 m (List.mem_cons_of_mem _ hm), fun m hm => ?_, fun a ha ht e he hg => ?_⟩
    ·rcases i2 m hm with h1 | h1
     ·rcases List.mem_cons.1 h1 with h1 | h1
      ·exact .inr ⟨e0, he0, hrz, hl1, h1.symm⟩
      ·exact .inl h1
     ·exact .inr h1
    ·rcases List.mem_cons.1 he with rfl | he
     ·exact ht _ (i1 _ List.mem_cons_self)
     ·exact i3 a ha ht e he hg
   ·rw [if_neg h0]
    obtain ⟨n, hn, ls, hls, hall⟩ := h.rsn _ _ _ hR2 (by omega : e0.r ≠ 0)
    rw [hn, show ((n : Int) + 1 - 1).toNat = n by omega]
    obtain ⟨i1, i2, i3⟩ := blame_sem h Q (e0 :: D) ((S.rc n).lits.map tv ++ g) met hR2
    refine ⟨i1, i2, fun a ha ht e he hg => ?_⟩
    rcases List.mem_cons.1 he with rfl | he
    ·obtain ⟨y, hy, hyt⟩ := ha.1 n (by rw [hls]; simp)
     have hy2 := hy
     rw [hls] at hy
     rcases List.mem_cons.1 hy with h5 | h5
     ·rw [← h5]; exact hyt
     ·exfalso
      obtain ⟨e', he', hx⟩ := hall y h5
      have hR' : e' ∈ S.R := by rw [hR2]; exact List.mem_append_left _ he'
      have ht2 := (opp_tv h.ok hR' hx).1
      have := i3 a ha ht e' (List.mem_reverse.1 he') (by rw [← ht2]; exact List.mem_append_left _ (List.mem_map_of_mem hy2))
      rw [hx] at this
      exact (Tru.neg (h.ok.lr n y hy2).1).1 this hyt
    ·exact i3 a ha ht e he (List.mem_append_right _ hg)
theorem core_sem (met : List Int) : ∀ (us P core : List Int), (∀ x ∈ core, x ∈ P ∧ x ∈ met) → (∀ x ∈ P, x ∈ met → x ∈ core) → core.Pairwise (fun x y => (P ++ us).idxOf x < (P ++ us).idxOf y) →
  (∀ x ∈ coreL met us core, x ∈ P ++ us ∧ x ∈ met) ∧ (∀ x ∈ P ++ us, x ∈ met → x ∈ coreL met us core) ∧ (coreL met us core).Pairwise (fun x y => (P ++ us).idxOf x < (P ++ us).idxOf y)
 | [], P, core, h1, h2, h3 => by
  rw [coreL]
  rw [List.append_nil] at *
  exact ⟨h1, h2, h3⟩
 | x :: r, P, core, h1, h2, h3 => by
  rw [coreL]
  have e : P ++ x :: r = (P ++ [x]) ++ r := by simp
  rw [e] at h3 ⊢
  by_cases hc : x ∈ met ∧ x ∉ core
  ·rw [if_pos hc]
   have hnP : x ∉ P := fun hx => hc.2 (h2 x hx hc.1)
   refine core_sem met r (P ++ [x]) (core ++ [x]) (fun y hy => ?_) (fun y hy hm => ?_) ?_
   ·rcases List.mem_append.1 hy with h4 | h4
    ·exact ⟨List.mem_append_left _ (h1 y h4).1, (h1 y h4).2⟩
    ·rw [List.mem_singleton.1 h4]
     exact ⟨by simp, hc.1⟩
   ·rcases List.mem_append.1 hy with h4 | h4
    ·exact List.mem_append_left _ (h2 y h4 hm)
    ·exact List.mem_append_right _ h4
   ·rw [List.pairwise_append]
    refine ⟨h3, List.pairwise_singleton _ _, fun y hy z hz => ?_⟩
    rw [List.mem_singleton.1 hz]
    have hyP := (h1 y hy).1
    rw [List.append_assoc, List.idxOf_append, if_pos hyP, List.idxOf_append, if_neg hnP]
    have := List.idxOf_lt_length_of_mem hyP
    omega
  ·rw [if_neg hc]
   refine core_sem met r (P ++ [x]) core (fun y hy => ⟨List.mem_append_left _ (h1 y hy).1, (h1 y hy).2⟩) (fun y hy hm => ?_) h3
   rcases List.mem_append.1 hy with h4 | h4
   ·exact h2 y h4 hm
   ·rw [List.mem_singleton.1 h4] at hm ⊢
    exact Classical.byContradiction fun hn => hc ⟨hm, hn⟩
end Sv
theorem pushC_mem {H : Hp} (h : HI H) (x y : Int) (hy : y ∈ (Sv.pushC H x).items) : y ∈ H.items ∨ y = x := by
 unfold Sv.pushC at hy
 split at hy
 ·rename_i hb
  exact ((h.push hb.1 hb.2).2.2.2.2 y).1 hy
 ·exact .inl hy
theorem pushC_keeps {H : Hp} (h : HI H) (x : Int) {y : Int} (hy : y ∈ H.items) : y ∈ (Sv.pushC H x).items := by
 unfold Sv.pushC
 split
 ·rename_i hb
  exact ((h.push hb.1 hb.2).2.2.2.2 y).2 (.inl hy)
 ·exact hy
theorem pushC_in {H : Hp} (h : HI H) {x : Int} (h1 : 0 ≤ x) (h2 : x < H.at_.length) : x ∈ (Sv.pushC H x).items := by
 have hb : H.isB x = true := by simp [Hp.isB, h1, h2]
 unfold Sv.pushC
 by_cases hp : H.pl x < 0
 ·rw [if_pos ⟨hb, hp⟩]
  exact ((h.push hb hp).2.2.2.2 x).2 (.inr rfl)
 ·rw [if_neg (fun e => hp e.2)]
  obtain ⟨k1, k2⟩ := h.pc.inv x.toNat (by omega) (by show 0 ≤ H.pl x; omega)
  rw [show ((x.toNat : Nat) : Int) = x by omega] at k2
  rw [← k2]
  exact get_mem k1
theorem raiseC_mem {H : Hp} (h : HI H) (x b : Int) : HI (Sv.raiseC H x b) ∧ ∀ y, y ∈ (Sv.raiseC H x b).items ↔ y ∈ H.items := by
 unfold Sv.raiseC
 split
 ·rename_i hb
  obtain ⟨k1, k2, k3, k4, k5⟩ := h.raise hb.1 hb.2.1 hb.2.2.1 hb.2.2.2
  exact ⟨k1, k5⟩
 ·exact ⟨h, fun y => Iff.rfl⟩
namespace Sv
structure Hc (S : Sv) : Prop where
 all : ∀ v : Int, 1 ≤ v → v ≤ S.vars → S.val v = 0 → v ∈ S.H.items
 pos : ∀ x ∈ S.H.items, 1 ≤ x
theorem Hc.mono {S S' : Sv} {m m' : Nat} (ok : S.Ok m) (ok' : S'.Ok m') (h : S.Hc) (hv : S'.vars = S.vars) (hH : ∀ y, y ∈ S'.H.items ↔ y ∈ S.H.items) (hR : ∀ e ∈ S.R, e ∈ S'.R) : S'.Hc := by
 refine ⟨fun v h1 h2 h3 => (hH v).2 (h.all v h1 (by rw [← hv]; exact h2) ?_), fun x hx => h.pos x ((hH x).1 hx)⟩
 rcases val_range ok v with h4 | h4 | h4
 ·exact h4
 ·exfalso
  obtain ⟨e, he, hx⟩ := (val_pos ok v).1 (by omega)
  exact (val_not ok' h3 e (hR e he)).1 hx
 ·exfalso
  obtain ⟨e, he, hx⟩ := (val_neg ok).1 (by omega : S.val v < 0)
  exact (val_not ok' h3 e (hR e he)).2 hx
theorem pickF_Hc {S0 : Sv} {m0 : Nat} (ok0 : S0.Ok m0) : ∀ (f : Nat) (S : Sv) (m : Nat), S.Ok m → S.T = S0.T → S.Hc → S.H.items.length < f →
  ((pickF f S).2 = 0 → (∀ x ∈ (pickF f S).1.H.items, 1 ≤ x) ∧ ∀ v : Int, 1 ≤ v → v ≤ S.vars → S0.val v ≠ 0) ∧
  ((pickF f S).2 ≠ 0 → (∀ x ∈ (pickF f S).1.H.items, 1 ≤ x) ∧ ∀ v : Int, 1 ≤ v → v ≤ S.vars → S0.val v = 0 → v ∈ (pickF f S).1.H.items ∨ (pickF f S).2 = v ∨ (pickF f S).2 = -v)
 | 0, S, m, ok, hT, h, hf => absurd hf (Nat.not_lt_zero _)
 | f + 1, S, m, ok, hT, h, hf => by
  have hval : ∀ x, S.val x = S0.val x := fun x => by unfold val; rw [hT]
  rw [pickF]
  by_cases h0 : S.H.items.length = 0
  ·rw [if_pos h0]
   refine ⟨fun _ => ⟨h.pos, fun v h1 h2 h3 => ?_⟩, fun h => absurd rfl h⟩
   have := h.all v h1 h2 (by rw [hval]; exact h3)
   rw [List.eq_nil_of_length_eq_zero h0] at this
   cases this
  ·rw [if_neg h0]
   obtain ⟨k1, k2, k3, k4, k5⟩ := ok.hi.pop (by omega)
   have hroot := (ok.hi.root (by omega)).1
   have hv1 := h.pos _ hroot
   obtain ⟨v0, hv0⟩ : ∃ v0, S.H.it 0 = v0 := ⟨_, rfl⟩
   rw [hv0] at k5 hv1 ⊢
   have ok1 : ({ S with H := S.H.popF } : Sv).Ok m := ⟨ok.vl, ok.tr, k1, by show S.H.popF.at_.length = _; rw [k4]; exact ok.hl, ok.ph, ok.wl, ok.ll, ok.wb, ok.wt, ok.lr, ok.ln, ok.lb, ok.hd, ok.rs⟩
   simp only
   by_cases hv : ({ S with H := S.H.popF } : Sv).val v0 ≠ 0
   ·rw [if_pos hv]
    have hv' : S0.val v0 ≠ 0 := by rw [← hval]; exact hv
    have hc1 : ({ S with H := S.H.popF } : Sv).Hc := ⟨fun v h1 h2 h3 => (k5 v).2 ⟨h.all v h1 h2 h3, fun e => hv (e ▸ h3)⟩, fun x hx => h.pos x ((k5 x).1 hx).1⟩
    exact pickF_Hc ok0 f _ m ok1 hT hc1 (by show S.H.popF.items.length < f; omega)
   ·rw [if_neg hv]
    simp only
    have hne : (if S.phase[v0.toNat]! = true then v0 else -v0) ≠ 0 := by split <;> omega
    refine ⟨fun e => absurd e hne, fun _ => ⟨fun x hx => h.pos x ((k5 x).1 hx).1, fun v h1 h2 h3 => ?_⟩⟩
    by_cases e : v = v0
    ·right
     split
     ·exact .inl e.symm
     ·exact .inr (by rw [e])
    ·exact .inl ((k5 v).2 ⟨h.all v h1 h2 (by rw [hval]; exact h3), e⟩)
theorem model_of {S : Sv} (h : S.Inv) (hf : S.head = S.T.lits.length) (hs : ∀ v : Int, 1 ≤ v → v ≤ S.vars → S.val v ≠ 0) (a : Nat → Bool) (ha : ∀ v : Nat, 1 ≤ v → v ≤ S.vars → a v = decide (0 < S.val (v : Int))) :
  (∀ e ∈ S.R, Tru a e.x) ∧ ∀ n, (S.rc n).lits ≠ [] → Sat1 a (S.rc n).lits := by
 have hvl := h.ok.vl
 have hT : ∀ e ∈ S.R, Tru a e.x := fun e he => by
  have hr := R_rng h.ok he
  have hn : e.x.natAbs = (tv e.x).toNat ∧ (tv e.x = e.x ∧ 0 < e.x ∨ tv e.x = -e.x ∧ e.x < 0) := by
   have h1 := hr.1
   have h2 := hr.2.1
   unfold tv at h1 h2 ⊢
   split at h1
   ·omega
   ·rename_i e1
    rw [if_neg e1] at h2 ⊢
    split at h1
    ·rename_i e2
     rw [if_pos e2] at h2 ⊢
     omega
    ·rename_i e2
     rw [if_neg e2] at h2 ⊢
     omega
  unfold Tru
  rw [hn.1, ha _ (by omega) (by omega)]
  have e1 : (((tv e.x).toNat : Nat) : Int) = tv e.x := by omega
  rw [e1, decide_eq_true_eq]
  rcases hn.2 with ⟨h1, h2⟩ | ⟨h1, h2⟩
  ·rw [h1]
   exact ⟨fun _ => h2, fun _ => (val_pos h.ok _).2 ⟨e, he, rfl⟩⟩
  ·rw [h1]
   have : S.val (-e.x) < 0 := (val_neg h.ok).2 ⟨e, he, by omega⟩
   exact ⟨fun h => by omega, fun h => by omega⟩
 refine ⟨hT, fun n hn => ?_⟩
 have h2 := two_of h.ok hn
 have hl := h.ok.lit (n := n) (k := 0) (by omega)
 have ht := tv_in hl.1 hl.2.1 hl.2.2 hvl
 have hv : S.val (S.rc n).lits[0]! ≠ 0 := fun e => by
  have htv := hs (tv (S.rc n).lits[0]!) ht.1 ht.2
  have : tv (S.rc n).lits[0]! = (S.rc n).lits[0]! ∨ tv (S.rc n).lits[0]! = -(S.rc n).lits[0]! := by
   unfold tv
   split
   ·exact .inl rfl
   ·split
    ·exact .inr rfl
    ·exact .inl rfl
  rcases this with h3 | h3
  ·rw [h3] at htv; exact htv e
  ·rw [h3] at htv; exact htv (val_opp h.ok e)
 rcases val_range h.ok (S.rc n).lits[0]! with h3 | h3 | h3
 ·exact absurd h3 hv
 ·obtain ⟨e, he, hx⟩ := (val_pos h.ok (S.rc n).lits[0]!).1 (by omega)
  exact ⟨(S.rc n).lits[0]!, get_mem (by omega), hx ▸ hT e he⟩
 ·obtain ⟨e, he, hx⟩ := (val_neg h.ok).1 (by omega : S.val (S.rc n).lits[0]! < 0)
  obtain ⟨e', he', hx', _⟩ := (h.wt n hn e (by rw [hf, ← R_len, List.take_length]; exact he)).1 hx
  exact ⟨(S.rc n).lits[1]!, get_mem (by omega), hx' ▸ hT e' he'⟩
end Sv
namespace Sv
theorem backL_items (level : Int) : ∀ (Q : List St) (S : Sv) (m : Nat), S.Ok m → (∀ e ∈ Q, e ∈ S.R) → Q.Pairwise (fun a b : St => b.l ≤ a.l) → (∀ y ∈ S.H.items, 1 ≤ y) →
  (∀ y ∈ S.H.items, y ∈ (backL level (Q.map (·.x)) S).H.items) ∧ (∀ e ∈ Q, level < e.l → tv e.x ∈ (backL level (Q.map (·.x)) S).H.items) ∧ ∀ y ∈ (backL level (Q.map (·.x)) S).H.items, 1 ≤ y
 | [], S, m, ok, hq, hp, h1 => ⟨fun y hy => hy, (fun e he => by cases he), h1⟩
 | e0 :: Q, S, m, ok, hq, hp, h1 => by
  rw [List.pairwise_cons] at hp
  have he0 := hq e0 List.mem_cons_self
  have hl := (lev_of ok he0).1
  have hr := R_rng ok he0
  rw [List.map_cons]
  by_cases hs : e0.l ≤ level
  ·rw [backL_stop (by rw [hl]; exact hs)]
   refine ⟨fun y hy => hy, fun e he hle => ?_, h1⟩
   exfalso
   rcases List.mem_cons.1 he with rfl | he
   ·omega
   ·have := hp.1 e he; omega
  ·rw [backL_go (by rw [hl]; exact hs)]
   have hpu : ∀ y ∈ (pushC S.H (tv e0.x)).items, 1 ≤ y := fun y hy => by
    rcases pushC_mem ok.hi _ _ hy with h2 | h2
    ·exact h1 y h2
    ·rw [h2]; exact hr.1
   obtain ⟨i1, i2, i3⟩ := backL_items level Q _ m (ok.back1 e0.x) (fun e he => hq e (List.mem_cons_of_mem _ he)) hp.2 hpu
   have hin : tv e0.x ∈ (pushC S.H (tv e0.x)).items := pushC_in ok.hi (by omega) (by rw [ok.hl]; omega)
   refine ⟨fun y hy => i1 y (pushC_keeps ok.hi _ hy), fun e he hle => ?_, i3⟩
   rcases List.mem_cons.1 he with rfl | he
   ·exact i1 _ hin
   ·exact i2 e he hle
theorem set_tv {S : Sv} {m : Nat} (ok : S.Ok m) {v : Int} (h1 : 1 ≤ v) (h2 : v ≤ S.vars) (h : S.val v ≠ 0) : ∃ e ∈ S.R, tv e.x = v ∧ (e.x = v ∨ e.x = -v) := by
 have hvl := ok.vl
 rcases val_range ok v with h3 | h3 | h3
 ·exact absurd h3 h
 ·obtain ⟨e, he, hx⟩ := (val_pos ok v).1 (by omega)
  exact ⟨e, he, by rw [hx, tv_nat (by omega)], .inl hx⟩
 ·obtain ⟨e, he, hx⟩ := (val_neg ok).1 (by omega : S.val v < 0)
  exact ⟨e, he, by rw [hx, tv_neg (by omega) (by omega)]; omega, .inr hx⟩
theorem Hc.back {S : Sv} (h : S.Hc) {m : Nat} (ok : S.Ok m) (level : Nat) : (S.back level).Hc := by
 by_cases hl : level < S.T.levels.length
 ·obtain ⟨h1, h2, h3, h4, B, h5, h6, h7⟩ := back_eqs ok hl
  have hrev : S.T.lits.reverse = S.R.reverse.map (·.x) := by rw [ok.rep.lits, List.map_reverse]
  have hsort : S.R.reverse.Pairwise (fun a b : St => b.l ≤ a.l) := List.pairwise_reverse.2 ok.rep.sorted
  obtain ⟨i1, i2, i3⟩ := backL_items (level : Int) S.R.reverse S m ok (fun e he => List.mem_reverse.1 he) hsort h.pos
  rw [← hrev] at i1 i2 i3
  have hH : (S.back level).H = (backL (level : Int) S.T.lits.reverse S).H := by
   unfold Sv.back
   rw [if_neg (by omega)]
  have okb := (ok.back level).1
  have hv := (ok.back level).2.1
  refine ⟨fun v v1 v2 v3 => ?_, fun x hx => i3 x (hH ▸ hx)⟩
  rw [hH]
  by_cases h0 : S.val v = 0
  ·exact i1 v (h.all v v1 (by rw [← hv]; exact v2) h0)
  ·obtain ⟨e, he, ht, hx⟩ := set_tv ok v1 (by rw [← hv]; exact v2) h0
   have hne : e ∉ (S.back level).R := fun hm => by
    have := val_not okb v3 e hm
    exact hx.elim this.1 this.2
   have hle : (level : Int) < e.l := by
    rw [h5] at he
    rcases List.mem_append.1 he with h8 | h8
    ·exact absurd h8 hne
    ·exact h6 e h8
   rw [← ht]
   exact i2 e (List.mem_reverse.2 he) hle
 ·have : S.back level = S := by
   unfold Sv.back
   rw [if_pos (by omega)]
  rw [this]
  exact h
theorem meet_items {G : Gr} (h : HI G.S.H) (l : Int) : HI (meet G l).S.H ∧ ∀ y, y ∈ (meet G l).S.H.items ↔ y ∈ G.S.H.items := by
 unfold meet
 simp only
 split
 ·exact ⟨h, fun y => Iff.rfl⟩
 ·split
  ·exact raiseC_mem h _ _
  ·exact raiseC_mem h _ _
theorem meets_items (skip : Int) : ∀ (ls : List Int) (G : Gr), HI G.S.H → HI (meets skip ls G).S.H ∧ ∀ y, y ∈ (meets skip ls G).S.H.items ↔ y ∈ G.S.H.items
 | [], G, h => ⟨h, fun y => Iff.rfl⟩
 | l :: r, G, h => by
  rw [meets]
  split
  ·obtain ⟨h1, h2⟩ := meet_items h l
   obtain ⟨h3, h4⟩ := meets_items skip r _ h1
   exact ⟨h3, fun y => (h4 y).trans (h2 y)⟩
  ·exact meets_items skip r G h
theorem learnL_items : ∀ (f : Nat) (G : Gr) (n skip : Int) (rest : List Int) (GE : Gr) (xe : Int), HI G.S.H → learnL f G n skip rest = some (GE, xe) → ∀ y, y ∈ GE.S.H.items ↔ y ∈ G.S.H.items
 | 0, G, n, skip, rest, GE, xe, hi, h => by rw [learnL_zero] at h; cases h
 | f + 1, G, n, skip, rest, GE, xe, hi, h => by
  rw [learnL_eq] at h
  have hk : HI (learn1 G n skip).S.H ∧ ∀ y, y ∈ (learn1 G n skip).S.H.items ↔ y ∈ G.S.H.items := by
   unfold learn1
   split
   ·exact meets_items skip _ { G with S := G.S.acted n.toNat } hi
   ·exact ⟨hi, fun y => Iff.rfl⟩
  generalize learn1 G n skip = G1 at h hk
  unfold learn2 at h
  cases hq : rest.dropWhile (fun x => decide (tv x ∉ G1.seen)) with
  | nil => rw [hq] at h; cases h
  | cons x r =>
   rw [hq] at h
   simp only at h
   split at h
   ·simp only [Option.some.injEq, Prod.mk.injEq] at h
    obtain ⟨rfl, rfl⟩ := h
    exact hk.2
   ·exact fun y => (learnL_items f { G1 with opn := G1.opn - 1 } _ _ _ GE xe hk.1 h y).trans (hk.2 y)
theorem learned_items {S : Sv} {m : Nat} (ok : S.Ok m) {n : Nat} {S1 : Sv} {l : List Int} {lev : Int} (h : S.learned n = some (S1, l, lev)) : ∀ y, y ∈ S1.H.items ↔ y ∈ S.H.items := by
 unfold learned at h
 cases hq : learnL (S.T.lits.length + 1) ⟨S, [], 0, [0]⟩ n 0 S.T.lits.reverse with
 | none => rw [hq] at h; cases h
 | some p =>
  obtain ⟨G, x⟩ := p
  rw [hq] at h
  simp only [Option.some.injEq, Prod.mk.injEq] at h
  obtain ⟨rfl, _⟩ := h
  exact learnL_items _ _ _ _ _ G x ok.hi hq
theorem put_in (S : Sv) {m : Nat} (ok : S.Ok m) (x r : Int) : ∀ e ∈ S.R, e ∈ (S.put x r).R := fun e he => by
 by_cases hb : S.T.putB x = true
 ·rw [R_put ok hb]; exact List.mem_append_left _ he
 ·rw [R_congr (show (S.put x r).T = S.T by unfold Sv.put; simp only; rw [if_neg hb])]; exact he
theorem learnt_in {B : Sv} {m : Nat} (ok : B.Ok m) (l : List Int) : (B.learnt l).bumped.H = B.H ∧ (B.learnt l).bumped.vars = B.vars ∧ ∀ e ∈ B.R, e ∈ (B.learnt l).bumped.R := by
 by_cases e1 : l.length = 1
 ·have e : (B.learnt l) = B.put l[0]! 0 := by unfold learnt; rw [if_pos e1]
  rw [e]
  exact ⟨rfl, rfl, put_in B ok _ _⟩
 ·have e : (B.learnt l) = { ((B.attach l true).put l[0]! (B.list.length + 1)) with many := B.many + 1 } := by unfold learnt; rw [if_neg e1]
  have hT : (B.learnt l).bumped.T = (B.put l[0]! (B.list.length + 1)).T := by
   rw [e]
   show ((B.attach l true).put l[0]! _).T = _
   unfold Sv.put
   simp only
   rw [(attach_same B l true).1]
  have hR : (B.learnt l).bumped.R = (B.put l[0]! (B.list.length + 1)).R := R_congr hT
  refine ⟨by rw [e]; exact (attach_same B l true).2.2.2.2.2, by rw [e]; exact (attach_same B l true).2.1, fun x hx => ?_⟩
  rw [hR]
  exact put_in B ok _ _ x hx
theorem Hc.conflict {S : Sv} (hh : S.Hc) (h : S.Inv) {n : Nat} (hc : S.Cfl n) (hn : (S.rc n).lits ≠ []) (hr : S.list.length < 1099511627776) (hdep : 0 < S.T.levels.length) {S2 : Sv} (he : S.conflict n = some (S2, true)) : S2.Hc := by
 obtain ⟨S1, l, lev, h1, h2, h3⟩ := learned_spec h.ok h.rsn h.dec hc hdep hn
 obtain ⟨ok1, eT, eV, eL, eU, f0, f1, f2, f3, f4⟩ := learned_fit h.ok h1
 have hS2 : S2 = ((S1.back lev.toNat).learnt l).bumped := by
  unfold Sv.conflict at he
  rw [if_neg (by omega), h1] at he
  simp only [Option.some.injEq, Prod.mk.injEq] at he
  exact he.1.symm
 have hc1 : S1.Hc := hh.mono h.ok ok1 eV (learned_items h.ok h1) (fun e he => by rw [R_congr eT]; exact he)
 have hb := hc1.back ok1 lev.toNat
 have okb := (ok1.back lev.toNat)
 have okl := okb.1.learnt f0 f1 (by rw [okb.2.1, eV]; exact f2) (by rw [okb.2.2, eL]; exact hr)
 obtain ⟨k1, k2, k3⟩ := learnt_in okb.1 l
 rw [hS2]
 exact hb.mono okb.1 okl.bumped k2 (fun y => by rw [k1]) k3
theorem Hc.rest {S S' : Sv} (h : S.Hc) {m m' : Nat} (ok : S.Ok m) (ok' : S'.Ok m') (hm : Mo S S') (hr : S'.rest = S.rest) : S'.Hc := by
 have e1 : S'.H = S.H := congrArg (fun x => x.1) hr
 have e2 : S'.vars = S.vars := congrArg (fun x => x.2.1) hr
 obtain ⟨Z, hZ, _⟩ := hm.pre
 exact h.mono ok ok' e2 (fun y => by rw [e1]) (fun e he => by rw [hZ]; exact List.mem_append_left _ he)
end Sv
namespace Sv
structure Up (S S' : Sv) : Prop where
 R : ∃ Z, S'.R = S.R ++ Z ∧ ∀ e ∈ Z, 1 ≤ e.l
 list : S'.list = S.list
 bad : S'.bad = S.bad
 vars : S'.vars = S.vars
theorem Up.knows {S S' : Sv} {F : (Nat → Bool) → Prop} (u : Up S S') (h : S.Knows F) : S'.Knows F := by
 obtain ⟨Z, hZ, hz⟩ := u.R
 have hrc := rc_same u.list
 refine ⟨fun a ha => ?_, fun hb => h.bad (u.bad ▸ hb), fun hb a ha => h.full (u.bad ▸ hb) a ⟨fun n h1 h2 => ?_, fun e he h0 => ha.2 e (by rw [hZ]; exact List.mem_append_left _ he) h0⟩⟩
 ·have hg := h.sound a ha
  refine ⟨fun n hn => by rw [hrc] at hn ⊢; exact hg.1 n hn, fun e he h0 => ?_⟩
  rw [hZ] at he
  rcases List.mem_append.1 he with h1 | h1
  ·exact hg.2 e h1 h0
  ·have := hz e h1; omega
 ·have := ha.1 n (by rw [hrc]; exact h1) (by rw [hrc]; exact h2)
  rw [hrc] at this
  exact this
structure One1 (us : List Int) (S' : Sv) : Prop where
 set : ∀ v : Int, 1 ≤ v → v ≤ S'.vars → S'.val v ≠ 0
 us : ∀ u ∈ us, ∃ e ∈ S'.R, e.x = u
 full : S'.head = S'.T.lits.length
 model : S'.model = (List.range (S'.vars + 1)).map fun v : Nat => decide (0 < S'.val (v : Int))
 has : S'.has = true
structure Two2 (us : List Int) (S' : Sv) : Prop where
 no : ∀ a, S'.Good a → ¬ ∀ u ∈ S'.core, Tru a u
 sub : ∀ u ∈ S'.core, u ∈ us
 ord : S'.core.Pairwise (fun x y => us.idxOf x < us.idxOf y)
theorem pick_same (S : Sv) {m : Nat} (ok : S.Ok m) : S.pick.1.T = S.T ∧ S.pick.1.list = S.list ∧ S.pick.1.bad = S.bad ∧ S.pick.1.vars = S.vars ∧ S.pick.1.head = S.head := by
 obtain ⟨p1, p2, p3, p4, p5, p6, p7⟩ := ok.pick
 exact ⟨p2, p4, (pickF_more _ S).2.2.2.2, p3, p5⟩
theorem choose_tells {us : List Int} {S : Sv} (h : S.Inv) (hf : S.head = S.T.lits.length) (hA : As us S) (hD : Dc us S) (hc : S.Hc) (hl : us.length ≤ S.T.levels.length) :
  (S.choose.2 = 0 ∨ S.choose.2 = 1) ∧ Up S S.choose.1 ∧ (S.choose.2 = 0 → As us S.choose.1 ∧ Dc us S.choose.1) ∧ S.choose.1.Hc ∧ (S.choose.2 = 1 → One1 us S.choose.1 ∧ S.choose.1.T = S.T) := by
 obtain ⟨s1, s2, s3, s4, s5⟩ := pick_same S h.ok
 have hI := (choose_spec h hf).1
 obtain ⟨c1, c2⟩ := pickF_Hc h.ok (S.H.items.length + 1) S 0 h.ok rfl hc (by omega)
 have c0 : S.pick.2 = 0 → ∀ x ∈ S.pick.1.H.items, 1 ≤ x := fun e => (c1 e).1
 have c1 : S.pick.2 = 0 → ∀ v : Int, 1 ≤ v → v ≤ S.vars → S.val v ≠ 0 := fun e => (c1 e).2
 have c2 : S.pick.2 ≠ 0 → (∀ x ∈ S.pick.1.H.items, 1 ≤ x) ∧ ∀ v : Int, 1 ≤ v → v ≤ S.vars → S.val v = 0 → v ∈ S.pick.1.H.items ∨ S.pick.2 = v ∨ S.pick.2 = -v := c2
 unfold choose at hI ⊢
 by_cases h0 : S.pick.2 = 0
 ·rw [if_pos h0] at hI ⊢
  have hT : S.pick.1.keep.T = S.T := s1
  have hR : S.pick.1.keep.R = S.R := R_congr hT
  refine ⟨.inr rfl, ⟨⟨[], by rw [hR, List.append_nil], fun e he => by cases he⟩, s2, s3, s4⟩, fun h => (by cases h), ⟨fun v v1 v2 v3 => absurd v3 (by
   have : S.pick.1.keep.val v = S.val v := by unfold val; rw [hT]
   rw [this]
   exact c1 h0 v v1 (by rw [← s4]; exact v2)), c0 h0⟩, fun _ => ⟨⟨fun v v1 v2 => ?_, fun u hu => ?_, ?_, rfl, rfl⟩, hT⟩⟩
  ·have v2 : v ≤ S.pick.1.vars := v2
   have : S.pick.1.keep.val v = S.val v := by unfold val; rw [hT]
   rw [this]
   exact c1 h0 v v1 (by rw [← s4]; exact v2)
  ·obtain ⟨i, hi, hg⟩ := List.getElem_of_mem hu
   obtain ⟨e, he, hx, _⟩ := hA i (by omega) hi
   exact ⟨e, by rw [hR]; exact he, by rw [hx, getE hi, hg]⟩
  ·show S.pick.1.head = _
   rw [s5, hT]; exact hf
 ·rw [if_neg h0] at hI ⊢
  obtain ⟨k1, k2⟩ := c2 h0
  have hv := pickF_val h.ok _ S rfl h0
  have hIp : S.pick.1.Inv := by
   obtain ⟨p1, p2, p3, p4, p5, p6, p7⟩ := h.ok.pick
   refine h.congr p1 p2 p5 (fun n => by rw [rc_same p4]) ?_
   have : ∀ (f : Nat) (S : Sv), (pickF f S).1.watch = S.watch := by
    intro f
    induction f with
    | zero => intro S; rfl
    | succ f ih =>
     intro S
     rw [pickF]
     split
     ·rfl
     ·simp only
      split
      ·exact ih _
      ·rfl
   exact this _ S
  obtain ⟨p1, p2, p3, p4, p5, p6, p7⟩ := h.ok.pick
  obtain ⟨q1, q2⟩ := hIp.choice (by rw [s1, s5]; exact hf) h0 (by rw [s4]; exact p6) (by rw [s4]; exact p7) (by unfold val; rw [s1]; exact hv)
  rw [R_congr s1, s1] at q2
  have hAp : As us S.pick.1 := hA.congr s1
  have hDp : Dc us S.pick.1 := hD.congr s1
  have hAd : As us S.pick.1.deep := fun i i1 i2 => by
   obtain ⟨e, he, hx⟩ := hAp i (by rw [s1]; omega) i2
   exact ⟨e, by rw [R_deep hIp.ok]; exact he, hx⟩
  have hDd : Dc us S.pick.1.deep := fun e he => hDp e (by rw [R_deep hIp.ok] at he; exact he)
  refine ⟨.inl rfl, ⟨⟨_, q2, fun e he => by rw [List.mem_singleton.1 he]; show (1 : Int) ≤ ((S.T.levels.length + 1 : Nat) : Int); omega⟩, s2, s3, s4⟩, fun _ => ⟨hAd.put hIp.ok.deep _ _, hDd.put hIp.ok.deep _ _ (fun _ => .inr (.inl (by rw [deep_levels, s1]; omega)))⟩, ⟨fun v v1 v2 v3 => ?_, k1⟩, fun h => by cases h⟩
  have v2 : v ≤ S.pick.1.vars := v2
  have hold : S.val v = 0 := by
   rcases val_range h.ok v with h4 | h4 | h4
   ·exact h4
   ·exfalso
    obtain ⟨e, he, hx⟩ := (val_pos h.ok v).1 (by omega)
    exact (val_not q1.ok v3 e (by rw [q2]; exact List.mem_append_left _ he)).1 hx
   ·exfalso
    obtain ⟨e, he, hx⟩ := (val_neg h.ok).1 (by omega : S.val v < 0)
    exact (val_not q1.ok v3 e (by rw [q2]; exact List.mem_append_left _ he)).2 hx
  have hnx := val_not q1.ok v3 ⟨S.pick.2, (S.T.levels.length + 1 : Nat), 0⟩ (by rw [q2]; simp)
  rcases k2 v v1 (by rw [← s4]; exact v2) hold with h5 | h5 | h5
  ·exact h5
  ·exact absurd h5 hnx.1
  ·exact absurd h5 hnx.2
end Sv
namespace Sv
theorem blame_two {us : List Int} {S : Sv} (h : S.Inv) (hD : Dc us S) (hcore : S.core = []) (hd : S.T.levels.length < us.length) {a : Int} (ha : a ∈ us) (ha0 : a ≠ 0) (hv : S.val a = -1) : Two2 us (S.blame a us) := by
 have hrev : S.T.lits.reverse = S.R.reverse.map (·.x) := by rw [h.ok.rep.lits, List.map_reverse]
 obtain ⟨b1, b2, b3⟩ := blame_sem h S.R.reverse [] [tv a] [a] (by simp)
 rw [← hrev] at b1 b2 b3
 have hin : ∀ m ∈ blameL S S.T.lits.reverse [tv a] [a], m ∈ us := fun m hm => by
  rcases b2 m hm with h1 | ⟨e, he, hr, hl, hx⟩
  ·rw [List.mem_singleton.1 h1]; exact ha
  ·have hrg := R_rng h.ok he
   obtain ⟨i, hi, hxi⟩ := hD e he hr hl (by omega)
   rw [← hx, hxi]
   exact get_mem hi
 obtain ⟨c1, c2, c3⟩ := core_sem (blameL S S.T.lits.reverse [tv a] [a]) us [] [] (fun x hx => by cases hx) (fun x hx => by cases hx) List.Pairwise.nil
 have hc : (S.blame a us).core = coreL (blameL S S.T.lits.reverse [tv a] [a]) us [] := by
  show coreL _ us S.core = _
  rw [hcore]
 refine ⟨fun a' hg hall => ?_, fun u hu => ?_, ?_⟩
 ·have hg : S.Good a' := hg
  have hmet : ∀ m ∈ blameL S S.T.lits.reverse [tv a] [a], Tru a' m := fun m hm => hall m (by rw [hc]; exact c2 m (hin m hm) hm)
  obtain ⟨e, he, hx⟩ := (val_neg h.ok).1 (by omega : S.val a < 0)
  have ht := (opp_tv h.ok he hx).1
  have h1 := b3 a' hg hmet e (List.mem_reverse.2 he) (by rw [← ht]; exact List.mem_singleton.2 rfl)
  rw [hx] at h1
  exact (Tru.neg ha0).1 h1 (hmet a (b1 a (List.mem_singleton.2 rfl)))
 ·rw [hc] at hu
  exact (c1 u hu).1
 ·rw [hc]
  exact c3
theorem deep_AsDc {us : List Int} {S : Sv} {m : Nat} (ok : S.Ok m) (hA : As us S) (hD : Dc us S) (hv : S.T.levels.length < us.length → ∃ e ∈ S.R, e.x = us[S.T.levels.length]!) : As us S.deep ∧ Dc us S.deep := by
 refine ⟨fun i i1 i2 => ?_, fun e he => hD e (by rw [R_deep ok] at he; exact he)⟩
 rw [deep_levels] at i1
 rw [R_deep ok]
 by_cases h : i < S.T.levels.length
 ·exact hA i h i2
 ·have : i = S.T.levels.length := by omega
  subst this
  obtain ⟨e, he, hx⟩ := hv i2
  have := (R_rng ok he).2.2.2
  exact ⟨e, he, hx, by omega⟩
theorem decideF_tells {us : List Int} : ∀ (f : Nat) (S : Sv), S.Inv → S.head = S.T.lits.length → (∀ x ∈ us, x ≠ 0 ∧ -(S.vars : Int) ≤ x ∧ x ≤ S.vars) → As us S → Dc us S → S.Hc → S.core = [] → us.length ≤ f + S.T.levels.length →
  ((decideF us f S).2 = 0 ∨ (decideF us f S).2 = 1 ∨ (decideF us f S).2 = 2) ∧ Up S (decideF us f S).1 ∧
  ((decideF us f S).2 = 0 → As us (decideF us f S).1 ∧ Dc us (decideF us f S).1) ∧ (decideF us f S).1.Hc ∧
  ((decideF us f S).2 = 1 → One1 us (decideF us f S).1) ∧ ((decideF us f S).2 = 2 → Two2 us (decideF us f S).1)
 | 0, S, h, hf, hu, hA, hD, hc, hcore, hl => by
  obtain ⟨k1, k2, k3, k5, k4⟩ := choose_tells h hf hA hD hc (by omega)
  have e : decideF us 0 S = S.choose := rfl
  rw [e]
  exact ⟨k1.elim .inl (fun h => .inr (.inl h)), k2, k3, k5, fun h => (k4 h).1, fun h => by rcases k1 with k1 | k1 <;> omega⟩
 | f + 1, S, h, hf, hu, hA, hD, hc, hcore, hl => by
  rw [decideF]
  by_cases hd : S.T.levels.length < us.length
  ·rw [if_pos hd]
   have hm := get_mem (l := us) hd
   have ha := hu _ hm
   simp only
   by_cases h1 : S.val us[S.T.levels.length]! = -1
   ·rw [if_pos h1]
    exact ⟨.inr (.inr rfl), ⟨⟨[], by rw [List.append_nil]; rfl, fun e he => by cases he⟩, rfl, rfl, rfl⟩, fun h => (by cases h), ⟨hc.all, hc.pos⟩, fun h => (by cases h), fun _ => blame_two h hD hcore hd hm ha.1 h1⟩
   ·rw [if_neg h1]
    by_cases h2 : S.val us[S.T.levels.length]! = 0
    ·rw [if_pos h2]
     obtain ⟨q1, q2⟩ := h.choice hf ha.1 ha.2.1 ha.2.2 h2
     refine ⟨.inl rfl, ⟨⟨_, q2, fun e he => by rw [List.mem_singleton.1 he]; show (1 : Int) ≤ ((S.T.levels.length + 1 : Nat) : Int); omega⟩, rfl, rfl, rfl⟩, fun _ => ⟨fun i i1 i2 => ?_, fun e he h0 l1 l2 => ?_⟩, ?_, fun h => (by cases h), fun h => (by cases h)⟩
     ·rw [put_levels, deep_levels] at i1
      by_cases hi : i < S.T.levels.length
      ·obtain ⟨e, he, hx⟩ := hA i hi i2
       exact ⟨e, by rw [q2]; exact List.mem_append_left _ he, hx⟩
      ·have : i = S.T.levels.length := by omega
       subst this
       exact ⟨⟨us[S.T.levels.length]!, (S.T.levels.length + 1 : Nat), 0⟩, by rw [q2]; simp, rfl, by show ((S.T.levels.length + 1 : Nat) : Int) ≤ _; omega⟩
     ·rw [q2] at he
      rcases List.mem_append.1 he with h3 | h3
      ·exact hD e h3 h0 l1 l2
      ·rw [List.mem_singleton.1 h3]
       exact ⟨_, hd, rfl⟩
     ·exact hc.mono h.ok q1.ok rfl (fun y => Iff.rfl) (fun e he => by rw [q2]; exact List.mem_append_left _ he)
    ·rw [if_neg h2]
     have htrue : ∃ e ∈ S.R, e.x = us[S.T.levels.length]! := by
      rcases val_range h.ok us[S.T.levels.length]! with h3 | h3 | h3
      ·exact absurd h3 h2
      ·exact (val_pos h.ok _).1 (by rw [h3]; decide)
      ·exact absurd h3 h1
     obtain ⟨d1, d2⟩ := deep_AsDc h.ok hA hD (fun _ => htrue)
     have hRd := R_deep h.ok
     have hcd : S.deep.Hc := hc.mono h.ok h.ok.deep rfl (fun y => Iff.rfl) (fun e he => by rw [hRd]; exact he)
     obtain ⟨i1, i2, i3, i4, i5, i6⟩ := decideF_tells f S.deep (h.deep hf) hf hu d1 d2 hcd hcore (by rw [deep_levels]; omega)
     obtain ⟨Z, hZ, hz⟩ := i2.R
     exact ⟨i1, ⟨⟨Z, by rw [hZ, hRd], hz⟩, i2.list, i2.bad, i2.vars⟩, i3, i4, i5, i6⟩
  ·rw [if_neg hd]
   obtain ⟨k1, k2, k3, k5, k4⟩ := choose_tells h hf hA hD hc (by omega)
   exact ⟨k1.elim .inl (fun h => .inr (.inl h)), k2, k3, k5, fun h => (k4 h).1, fun h => by rcases k1 with k1 | k1 <;> omega⟩
end Sv
theorem ddpN_all {xs : List Int} : ∀ k, k ≤ xs.length → ∀ j, j < k → xs[j]! ∈ ddpN xs k
 | 0, _, j, h => absurd h (Nat.not_lt_zero _)
 | k + 1, hk, j, h => by
  rw [ddpN]
  by_cases hc : k = 0 ∨ xs[k]! ≠ xs[k - 1]!
  ·rw [if_pos hc]
   by_cases e : j = k
   ·rw [e]; simp
   ·exact List.mem_append_left _ (ddpN_all k (by omega) j (by omega))
  ·rw [if_neg hc]
   by_cases e : j = k
   ·have h0 : k ≠ 0 := fun e => hc (.inl e)
    have h1 : xs[k]! = xs[k - 1]! := Classical.byContradiction fun e => hc (.inr e)
    rw [e, h1]
    exact ddpN_all k (by omega) (k - 1) (by omega)
   ·exact ddpN_all k (by omega) j (by omega)
theorem nrm_has {l : List Int} {x : Int} (h : x ∈ l) (h0 : x ≠ 0) : x ∈ nrm l := by
 have h1 : x ∈ msort (l.filter fun x => !(x == 0)) := List.mem_mergeSort.2 (List.mem_filter.2 ⟨h, by simpa using h0⟩)
 obtain ⟨i, hi, hg⟩ := List.getElem_of_mem h1
 have := ddpN_all (xs := msort (l.filter fun x => !(x == 0))) _ (Nat.le_refl _) i hi
 rw [getE hi, hg] at this
 exact this
theorem taut_sat {ys : List Int} {v : Nat} (hr : ∀ x ∈ ys, x ≠ 0 ∧ -(v : Int) ≤ x ∧ x ≤ v) (hv : v ≤ 262143) (h : tautB ys = true) (a : Nat → Bool) : Sat1 a ys := by
 unfold tautB at h
 rw [List.any_eq_true] at h
 obtain ⟨j, hj, ht⟩ := h
 rw [List.mem_range] at hj
 unfold tautAt at ht
 have m1 := get_mem (l := ys) (i := j) (by omega)
 have m2 := get_mem (l := ys) (i := j + 1) (by omega)
 have r2 := hr _ m2
 have : wrap64 (-(ys[j + 1]!)) = -(ys[j + 1]!) := by unfold wrap64; omega
 rw [this] at ht
 have ht : ys[j]! = -(ys[j + 1]!) := by simpa using ht
 by_cases hc : Tru a ys[j + 1]!
 ·exact ⟨_, m2, hc⟩
 ·exact ⟨_, m1, by rw [ht]; exact (Tru.neg r2.1).2 hc⟩
namespace Sv
theorem Knows.new (vars : Int) : (Sv.new vars).Knows fun _ => True := by
 have hR : (Sv.new vars).R = [] := rfl
 have hrc : ∀ n, (Sv.new vars).rc n = ⟨[], false, 0⟩ := fun n => rc_out (Nat.zero_le _)
 exact ⟨fun a _ => ⟨fun n hn => absurd (by rw [hrc]) hn, fun e he => by rw [hR] at he; cases he⟩, fun h => (by cases h), fun _ a _ => trivial⟩
theorem Knows.fresh0 {S : Sv} {F : (Nat → Bool) → Prop} (h : S.Knows F) : S.fresh0.Knows F := h.congr rfl rfl rfl
theorem Knows.used1 {S : Sv} {F : (Nat → Bool) → Prop} (h : S.Knows F) : S.used1.Knows F := h.congr rfl rfl rfl
theorem Knows.addTo {S : Sv} {F : (Nat → Bool) → Prop} (h : S.Knows F) (hi : S.Inv) {out : List Int} (h1 : out.length ≤ 1048576) (hl : ∀ x ∈ out, x ≠ 0 ∧ -(S.vars : Int) ≤ x ∧ x ≤ S.vars) (hd : (out.map tv).Nodup) (hv : ∀ x ∈ out, S.val x = 0) (hr : S.list.length < 1099511627776) (h0 : S.T.levels.length = 0)
  {G : (Nat → Bool) → Prop} (hG : ∀ a, F a → (G a ↔ Sat1 a out)) : (S.addTo out).Knows fun a => F a ∧ G a := by
 unfold Sv.addTo
 by_cases e0 : out.length = 0
 ·rw [if_pos e0]
  have hn : out = [] := List.eq_nil_of_length_eq_zero e0
  have hno : ∀ a, ¬ (F a ∧ G a) := fun a ⟨hf, hg⟩ => by
   obtain ⟨y, hy, _⟩ := (hG a hf).1 hg
   rw [hn] at hy
   cases hy
  exact ⟨fun a ha => absurd ha (hno a), fun _ => hno, fun h => by cases h⟩
 ·rw [if_neg e0]
  have hm := get_mem (l := out) (i := 0) (by omega)
  by_cases e1 : out.length = 1
  ·rw [if_pos e1]
   obtain ⟨y, hy⟩ : ∃ y, out = [y] := by
    match out, e1 with
    | [y], _ => exact ⟨y, rfl⟩
   have ht := tv_in (hl _ hm).1 (hl _ hm).2.1 (hl _ hm).2.2 hi.ok.vl
   have hR := R_put (r := 0) hi.ok (putB_of hi.ok ht.1 ht.2 (hv _ hm))
   rw [h0] at hR
   have hy0 : out[0]! = y := by rw [hy]; rfl
   rw [hy0] at hR ⊢
   have hs : ∀ a, Sat1 a out ↔ Tru a y := fun a => by
    rw [hy]
    exact ⟨fun ⟨z, hz, hzt⟩ => by rw [List.mem_singleton.1 hz] at hzt; exact hzt, fun h => ⟨y, List.mem_singleton.2 rfl, h⟩⟩
   refine ⟨fun a ⟨ha, hg⟩ => ?_, fun hb a ha => h.bad hb a ha.1, fun hb a ha => ?_⟩
   ·have hgd := h.sound a ha
    refine ⟨hgd.1, fun e he hl0 => ?_⟩
    rw [hR] at he
    rcases List.mem_append.1 he with h3 | h3
    ·exact hgd.2 e h3 hl0
    ·rw [List.mem_singleton.1 h3]
     exact (hs a).1 ((hG a ha).1 hg)
   ·have hf : F a := h.full hb a ⟨ha.1, fun e he hl0 => ha.2 e (by rw [hR]; exact List.mem_append_left _ he) hl0⟩
    refine ⟨hf, (hG a hf).2 ((hs a).2 ?_)⟩
    exact ha.2 ⟨y, ((0 : Nat) : Int), 0⟩ (by rw [hR]; simp) rfl
  ·rw [if_neg e1]
   obtain ⟨k1, k2, k3⟩ := hi.attach ⟨by omega, h1, hl⟩ hd false hr
   have hsm := attach_same S out false
   have hR : (S.attach out false).R = S.R := R_congr hsm.1
   have hne : out ≠ [] := fun e => e0 (by rw [e]; rfl)
   have hbad : (S.attach out false).bad = S.bad := rfl
   refine ⟨fun a ⟨ha, hg⟩ => ?_, fun hb a ha => h.bad hb a ha.1, fun hb a ha => ?_⟩
   ·have hgd := h.sound a ha
    refine ⟨fun n hn => ?_, fun e he hl0 => hgd.2 e (hR ▸ he) hl0⟩
    by_cases e : n = S.list.length
    ·rw [e, k2]
     exact (hG a ha).1 hg
    ·rw [k3 n e] at hn ⊢
     exact hgd.1 n hn
   ·have hf : F a := h.full hb a ⟨fun n n1 n2 => ?_, fun e he hl0 => ha.2 e (by rw [hR]; exact he) hl0⟩
    ·refine ⟨hf, (hG a hf).2 ?_⟩
     have := ha.1 S.list.length (by rw [k2]) (by rw [k2]; exact hne)
     rw [k2] at this
     exact this
    ·have hnn : n ≠ S.list.length := fun e => by
      have := in_list n2
      omega
     have := ha.1 n (by rw [k3 n hnn]; exact n1) (by rw [k3 n hnn]; exact n2)
     rw [k3 n hnn] at this
     exact this
theorem Knows.addF {S : Sv} {F : (Nat → Bool) → Prop} (h : S.Knows F) (hi : S.Inv) (h0 : S.T.levels.length = 0) {l : List Int} (hra : Ra l) (hr : S.list.length < 1099511627776) (hc : chkF S.vars l = 0) : (S.addF l).1.Knows fun a => F a ∧ Sat1 a l := by
 have hc2 := chk_rng hra hc
 have hnr : ∀ x ∈ nrm l, x ≠ 0 ∧ -(S.vars : Int) ≤ x ∧ x ≤ S.vars := fun x hx => hc2.2 x (nrm_mem hx).1
 have hns : ∀ a, Sat1 a (nrm l) ↔ Sat1 a l := fun a => ⟨fun ⟨y, hy, ht⟩ => ⟨y, (nrm_mem hy).1, ht⟩, fun ⟨y, hy, ht⟩ => ⟨y, nrm_has hy (hc2.2 y hy).1, ht⟩⟩
 unfold Sv.addF
 rw [if_pos hc]
 by_cases hs : S.skipB (nrm l) = true
 ·rw [if_pos hs]
  simp only
  by_cases hb : S.bad = true
  ·exact ⟨fun a ha => absurd ha.1 (h.bad hb a), fun _ a ha => h.bad hb a ha.1, fun hb2 => by
    have hb2 : S.bad = false := hb2
    rw [hb] at hb2; cases hb2⟩
  ·have hall : ∀ a, S.Base a → Sat1 a l := fun a ha => by
    rw [← hns]
    unfold skipB at hs
    rw [Bool.or_eq_true] at hs
    rcases hs with hs | hs
    ·exact taut_sat hnr hi.ok.vl hs a
    ·rw [List.any_eq_true] at hs
     obtain ⟨x, hx, hp⟩ := hs
     obtain ⟨e, he, hex⟩ := (val_pos hi.ok x).1 (by simpa using hp)
     have hrg := R_rng hi.ok he
     have := ha.2 e he (by omega)
     rw [hex] at this
     exact ⟨x, hx, this⟩
   exact ⟨fun a ha => h.fresh0.sound a ha.1, fun hb2 => absurd hb2 hb, fun hb2 a ha => ⟨h.fresh0.full hb2 a ha, hall a ha⟩⟩
 ·rw [if_neg hs]
  simp only
  obtain ⟨g1, g2⟩ := left_rng (S := S) hra hc
  have hs : S.skipB (nrm l) = false := by simpa using hs
  unfold skipB at hs
  rw [Bool.or_eq_false_iff] at hs
  have hd := nrm_dist (l := l) (v := S.vars) (fun x hx => (hnr x hx).2) hi.ok.vl hs.1
  refine h.fresh0.addTo hi.fresh0 (by omega) g2 ?_ (fun x hx => ?_) hr h0 (fun a ha => ?_)
  ·unfold leftOf
   exact hd.sublist (List.Sublist.map tv (List.filter_sublist))
  ·unfold leftOf at hx
   rw [List.mem_filter] at hx
   have h3 : ¬ S.val x < 0 := by simpa using hx.2
   have h4 : ¬ 0 < S.val x := fun h5 => by
    have : (nrm l).any (fun x => decide (0 < S.val x)) = true := List.any_eq_true.2 ⟨x, hx.1, by simpa using h5⟩
    rw [this] at hs
    cases hs.2
   show S.val x = 0
   omega
  ·rw [← hns]
   constructor
   ·rintro ⟨y, hy, ht⟩
    refine ⟨y, ?_, ht⟩
    unfold leftOf
    rw [List.mem_filter]
    refine ⟨hy, ?_⟩
    have : ¬ S.val y < 0 := fun hneg => by
     obtain ⟨e, he, hx⟩ := (val_neg hi.ok).1 hneg
     have hrg := R_rng hi.ok he
     have := (h.sound a ha).2 e he (by omega)
     rw [hx] at this
     exact (Tru.neg (hnr y hy).1).1 this ht
    simpa using this
   ·rintro ⟨y, hy, ht⟩
    unfold leftOf at hy
    exact ⟨y, (List.mem_filter.1 hy).1, ht⟩
end Sv
namespace Sv
theorem Inv.drop1 {S : Sv} (h : S.Inv) {n : Nat} (hr : ∀ e ∈ S.R, e.r ≠ (n : Int) + 1) : (S.drop1 n).Inv := by
 have ok := h.ok.drop1 n
 have hrc : ∀ j, j ≠ n → (S.drop1 n).rc j = S.rc j := fun j hj => by rw [rc_drop1, if_neg (fun e => hj e.1.symm)]
 have hne : ∀ j, ((S.drop1 n).rc j).lits ≠ [] → j ≠ n := fun j hj e => by
  subst e
  rw [rc_drop1] at hj
  split at hj
  ·exact hj rfl
  ·rename_i hh
   have : ¬ j < S.list.length := fun e => hh ⟨rfl, e⟩
   exact hj (by rw [rc_out (by omega)])
 refine ⟨ok, fun j => ?_, fun A e B h1 h2 => ?_, h.dec, h.hd, ⟨h.wi.nd, fun c j hj hl => ?_, fun j hl => ?_⟩, fun j hl e he => ?_⟩
 ·by_cases e : j = n
  ·by_cases hl : ((S.drop1 n).rc j).lits = []
   ·rw [hl]; exact List.nodup_nil
   ·exact absurd e (hne j hl)
  ·rw [hrc j e]; exact h.dist j
 ·obtain ⟨k, hk, ls, hls, hall⟩ := h.rsn A e B h1 h2
  have hkn : k ≠ n := fun ek => by
   have := hr e (by rw [show S.R = A ++ e :: B from h1]; simp)
   rw [hk, ek] at this
   exact this rfl
  exact ⟨k, hk, ls, by rw [hrc k hkn]; exact hls, hall⟩
 ·have := hne j hl
  rw [hrc j this] at hl ⊢
  exact h.wi.wd c j hj hl
 ·have := hne j hl
  rw [hrc j this] at hl ⊢
  exact h.wi.wc j hl
 ·have := hne j hl
  rw [hrc j this] at hl ⊢
  exact h.wt j hl e he
theorem not_reason {S : Sv} (h : S.Inv) {n : Nat} (hl : S.locked n = false) : ∀ e ∈ S.R, e.r ≠ (n : Int) + 1 := fun e he hr => by
 obtain ⟨A, B, hR⟩ := List.append_of_mem he
 obtain ⟨k, hk, ls, hls, _⟩ := h.rsn A e B hR (by omega)
 have hkn : k = n := by omega
 subst hkn
 have h0 : (S.rc k).lits[0]! = e.x := by rw [hls]; rfl
 have : S.locked k = true := by
  unfold locked
  rw [h0, (lev_of h.ok he).2, hr]
  simp only [decide_true, Bool.and_true, decide_eq_true_eq]
  exact (val_pos h.ok _).2 ⟨e, he, rfl⟩
 rw [this] at hl
 cases hl
theorem drops_keep : ∀ (D : List Nat) (S : Sv), S.Inv → D.Nodup → (∀ n ∈ D, (∀ e ∈ S.R, e.r ≠ (n : Int) + 1) ∧ (S.rc n).lrn = true) →
  (D.foldl drop1 S).Inv ∧ (D.foldl drop1 S).T = S.T ∧ (D.foldl drop1 S).H = S.H ∧ (D.foldl drop1 S).head = S.head ∧ ∀ F : (Nat → Bool) → Prop, S.Knows F → (D.foldl drop1 S).Knows F
 | [], S, h, _, _ => ⟨h, rfl, rfl, rfl, fun F hk => hk⟩
 | n :: r, S, h, hn, hd => by
  rw [List.nodup_cons] at hn
  obtain ⟨h1, h2⟩ := hd n List.mem_cons_self
  obtain ⟨i1, i2, i3, i4, i5⟩ := drops_keep r (S.drop1 n) (h.drop1 h1) hn.2 (fun m hm => by
   obtain ⟨g1, g2⟩ := hd m (List.mem_cons_of_mem _ hm)
   refine ⟨g1, ?_⟩
   have hnm : ¬ (n = m ∧ n < S.list.length) := fun e => hn.1 (e.1 ▸ hm)
   rw [rc_drop1, if_neg hnm]
   exact g2)
  exact ⟨i1, i2, i3, i4, fun F hk => i5 F (hk.drop1 h2)⟩
theorem red_keep {S S' : Sv} (h : S.Inv) (hr : RedR S S') : S'.Inv ∧ S'.T = S.T ∧ S'.H = S.H ∧ S'.head = S.head ∧ ∀ F : (Nat → Bool) → Prop, S.Knows F → S'.Knows F := by
 obtain ⟨D, h1, h2, h3, rfl⟩ := hr
 exact drops_keep D S h h1 (fun n hn => by
  obtain ⟨_, k2, _, k4⟩ := worn_lt (h2 n hn)
  exact ⟨not_reason h k4, k2⟩)
end Sv
end Go.Proofs.Ytjchilcpflfcnaa
