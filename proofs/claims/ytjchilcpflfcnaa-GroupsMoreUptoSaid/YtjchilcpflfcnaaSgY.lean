/-  -/
import Derived.Test.YtjchilcpflfcnaaSgX
import Derived.Test.YtjchilcpflfcnaaSgA
set_option linter.unusedVariables false
set_option linter.unusedSimpArgs false
set_option maxRecDepth 100000
namespace Go.Proofs.Ytjchilcpflfcnaa
open Go.RowKit
def bits : List Bool → Nat
 | [] => 0
 | b :: r => 2 * bits r + b.toNat
theorem bits_lt : ∀ l : List Bool, bits l < 2 ^ l.length
 | [] => by simp [bits]
 | b :: r => by
  have := bits_lt r
  rw [bits, List.length_cons, Nat.pow_succ]
  cases b <;> simp <;> omega
theorem bits_inj : ∀ l l' : List Bool, l.length = l'.length → bits l = bits l' → l = l'
 | [], [], _, _ => rfl
 | [], _ :: _, h, _ => by simp at h
 | _ :: _, [], h, _ => by simp at h
 | b :: r, b' :: r', h, e => by
  rw [bits, bits] at e
  have hb : b = b' := by
   cases b <;> cases b' <;> simp at e ⊢ <;> omega
  have hr : bits r = bits r' := by rw [hb] at e; omega
  rw [hb, bits_inj r r' (by simpa using h) hr]
def keyL (vars : Nat) (l : List Int) : List Bool := (List.range (2 * vars)).map fun c => l.any fun x => lcode x == c + 2
theorem keyL_sub {vars : Nat} {l l' : List Int} (h : keyL vars l = keyL vars l') (hr : ∀ x ∈ l, x ≠ 0 ∧ -(vars : Int) ≤ x ∧ x ≤ vars) : ∀ x ∈ l, x ∈ l' := fun x hx => by
 have hc0 : lcode x < 2 * vars + 2 := code_lt (hr x hx).2.1 (hr x hx).2.2
 have hc2 : 2 ≤ lcode x := by
  have := (hr x hx).1
  unfold lcode
  split <;> omega
 obtain ⟨c, hc⟩ : ∃ c, lcode x = c + 2 := ⟨lcode x - 2, by omega⟩
 have hcl : c < 2 * vars := by omega
 have h1 : (keyL vars l)[c]? = some true := by
  unfold keyL
  rw [List.getElem?_map, List.getElem?_range hcl]
  simp only [Option.map_some, Option.some.injEq]
  exact List.any_eq_true.2 ⟨x, hx, by simp [hc]⟩
 rw [h] at h1
 unfold keyL at h1
 rw [List.getElem?_map, List.getElem?_range hcl] at h1
 simp only [Option.map_some, Option.some.injEq] at h1
 obtain ⟨y, hy, he⟩ := List.any_eq_true.1 h1
 have : y = x := lcode_inj (by rw [hc]; simpa using he)
 rw [← this]
 exact hy
namespace Sv
def liveB (S : Sv) (n : Nat) : Bool := (S.rc n).lrn && !(S.rc n).lits.isEmpty
def LL (S : Sv) : List Nat := (List.range S.list.length).filter S.liveB
theorem live_iff {S : Sv} {n : Nat} : S.liveB n = true ↔ (S.rc n).lrn = true ∧ (S.rc n).lits ≠ [] := by
 unfold liveB
 simp
def DL (S : Sv) : Prop := ∀ n m, S.liveB n = true → S.liveB m = true → (∀ x, x ∈ (S.rc n).lits ↔ x ∈ (S.rc m).lits) → n = m
theorem LL_le {S : Sv} {m : Nat} (ok : S.Ok m) (h : S.DL) : S.LL.length ≤ 2 ^ (2 * S.vars) := by
 have hn : (S.LL.map fun n => bits (keyL S.vars (S.rc n).lits)).Nodup := by
  unfold List.Nodup
  rw [List.pairwise_map]
  have h0 : S.LL.Nodup := List.Nodup.sublist List.filter_sublist List.nodup_range
  refine List.Pairwise.imp_of_mem ?_ h0
  intro a b ha hb hab e
  have hk := bits_inj _ _ (by simp [keyL]) e
  have h1 : S.liveB a = true := (List.mem_filter.1 ha).2
  have h2 : S.liveB b = true := (List.mem_filter.1 hb).2
  exact hab (h a b h1 h2 fun x => ⟨keyL_sub hk (ok.lr a) x, keyL_sub hk.symm (ok.lr b) x⟩)
 have := nodup_lt_len (2 ^ (2 * S.vars)) _ hn (fun x hx => by
  rw [List.mem_map] at hx
  obtain ⟨n, _, rfl⟩ := hx
  have := bits_lt (keyL S.vars (S.rc n).lits)
  simpa [keyL] using this)
 simpa using this
theorem live_mo {S S' : Sv} (hm : Mo S S') (n : Nat) : S'.liveB n = S.liveB n := by
 have h1 := hm.lits n
 have h2 := hm.lrn n
 unfold liveB
 rw [h2]
 congr 1
 cases hq : (S.rc n).lits with
 | nil => rw [hq] at h1; rw [List.perm_nil.1 h1]
 | cons x r =>
  rw [hq] at h1
  cases hq2 : (S'.rc n).lits with
  | nil => rw [hq2] at h1; exact absurd h1.symm (by simp)
  | cons y r2 => rfl
theorem LL_mo {S S' : Sv} (hm : Mo S S') (hl : S'.list.length = S.list.length) : S'.LL = S.LL := by
 unfold LL
 rw [hl]
 congr 1
 funext n
 exact live_mo hm n
theorem DL.mo {S S' : Sv} (h : S.DL) (hm : Mo S S') : S'.DL := fun n m h1 h2 h3 => by
 rw [live_mo hm] at h1 h2
 exact h n m h1 h2 fun x => by rw [← (hm.lits n).mem_iff, ← (hm.lits m).mem_iff]; exact h3 x
theorem DL.same {S S' : Sv} (h : S.DL) (hl : ∀ n, (S'.rc n).lits = (S.rc n).lits ∧ (S'.rc n).lrn = (S.rc n).lrn) : S'.DL := fun n m h1 h2 h3 => by
 have e : ∀ n, S'.liveB n = S.liveB n := fun n => by unfold liveB; rw [(hl n).1, (hl n).2]
 rw [e] at h1 h2
 refine h n m h1 h2 fun x => ?_
 have := h3 x
 rw [(hl n).1, (hl m).1] at this
 exact this
theorem new_diff {S : Sv} (h : S.Inv) {l : List Int} {lev : Int} (hl : S.Lrd l lev) (h2 : 2 ≤ l.length) {n : Nat} (hn : (S.rc n).lits ≠ []) : ¬ ∀ x, x ∈ (S.rc n).lits ↔ x ∈ l := fun he => by
 have hlen := two_of h.ok hn
 have hfal : ∀ y ∈ l, ∃ e ∈ S.R, e.x = -y := fun y hy => by
  obtain ⟨k, hk, hg⟩ := List.getElem_of_mem hy
  by_cases h0 : k = 0
  ·obtain ⟨e, he, hx, _⟩ := hl.top
   refine ⟨e, he, ?_⟩
   have : l[0]! = y := by rw [getE (by omega)]; simp only [← hg, h0]
   omega
  ·obtain ⟨e, he, hx, _⟩ := hl.tail k (by omega) hk
   refine ⟨e, he, ?_⟩
   rw [hx, getE hk, hg]
 have hlow : ∀ y ∈ l, y ≠ l[0]! → ∃ e ∈ S.R.take S.head, e.x = -y := fun y hy hne => by
  obtain ⟨k, hk, hg⟩ := List.getElem_of_mem hy
  have h0 : k ≠ 0 := fun h0 => hne (by rw [getE (by omega)]; simp only [← hg, h0])
  obtain ⟨e, he, hx, hl1, hl2⟩ := hl.tail k (by omega) hk
  refine ⟨e, ?_, by rw [hx, getE hk, hg]⟩
  rw [← List.take_append_drop S.head S.R] at he
  rcases List.mem_append.1 he with h3 | h3
  ·exact h3
  ·have := h.hd e h3
   have := hl.lt.2
   omega
 have m0 := get_mem (l := (S.rc n).lits) (i := 0) (by omega)
 have m1 := get_mem (l := (S.rc n).lits) (i := 1) (by omega)
 have hd := getE_ne (h.dist n) (i := 0) (j := 1) (by omega) (by omega) (by omega)
 by_cases h0 : (S.rc n).lits[0]! = l[0]!
 ·have h1 : (S.rc n).lits[1]! ≠ l[0]! := fun e => hd (by rw [h0, e])
  obtain ⟨e, he1, hx⟩ := hlow _ ((he _).1 m1) h1
  obtain ⟨e', he', hx', _⟩ := (h.wt n hn e he1).2 hx
  obtain ⟨e2, he2, hx2⟩ := hfal _ ((he _).1 m0)
  exact not_both h.ok he2 he' (by rw [hx2, hx'])
 ·obtain ⟨e, he1, hx⟩ := hlow _ ((he _).1 m0) h0
  obtain ⟨e', he', hx', _⟩ := (h.wt n hn e he1).1 hx
  obtain ⟨e2, he2, hx2⟩ := hfal _ ((he _).1 m1)
  exact not_both h.ok he2 he' (by rw [hx2, hx'])
end Sv
namespace Sv
def zero (S : Sv) : Nat := (S.R.filter fun e : St => e.l == 0).length
theorem zero_le {S : Sv} {m : Nat} (ok : S.Ok m) : S.zero ≤ S.vars := by
 have h1 := List.length_filter_le (fun e : St => e.l == 0) S.R
 have h2 := lits_le ok
 rw [← R_len] at h2
 unfold zero
 omega
theorem zero_app {S S' : Sv} {Z : List St} (h : S'.R = S.R ++ Z) : S'.zero = S.zero + (Z.filter fun e : St => e.l == 0).length := by
 unfold zero
 rw [h, List.filter_append, List.length_append]
theorem LL_same {S S' : Sv} (hl : ∀ n, (S'.rc n).lits = (S.rc n).lits ∧ (S'.rc n).lrn = (S.rc n).lrn) (hn : S'.list.length = S.list.length) : S'.LL = S.LL := by
 unfold LL
 rw [hn]
 congr 1
 funext n
 unfold liveB
 rw [(hl n).1, (hl n).2]
structure Cnt (S : Sv) : Prop where
 dl : S.DL
 many : S.many = S.LL.length
theorem Cnt.mo {S S' : Sv} (h : S.Cnt) (hm : Mo S S') (hl : S'.list.length = S.list.length) (hmany : S'.many = S.many) : S'.Cnt := ⟨h.dl.mo hm, by rw [hmany, LL_mo hm hl]; exact h.many⟩
theorem Cnt.same {S S' : Sv} (h : S.Cnt) (hl : ∀ n, (S'.rc n).lits = (S.rc n).lits ∧ (S'.rc n).lrn = (S.rc n).lrn) (hn : S'.list.length = S.list.length) (hmany : S'.many = S.many) : S'.Cnt := ⟨h.dl.same hl, by rw [hmany, LL_same hl hn]; exact h.many⟩
theorem learnt_cnt {B : Sv} (h : B.Cnt) (hi : B.Inv) {l : List Int} (hr : B.list.length < 1099511627776) (l0 : 0 < l.length) (l1 : l.length ≤ 1048576) (hl : ∀ x ∈ l, x ≠ 0 ∧ -(B.vars : Int) ≤ x ∧ x ≤ B.vars) (hnd : (l.map tv).Nodup) (hv : B.val l[0]! = 0)
  (h1 : l.length = 1 → B.T.levels.length = 0) (hne : 2 ≤ l.length → ∀ n, (B.rc n).lits ≠ [] → ¬ ∀ x, x ∈ (B.rc n).lits ↔ x ∈ l) :
  (B.learnt l).bumped.Cnt ∧ B.LL.length + B.zero + 1 ≤ (B.learnt l).bumped.LL.length + (B.learnt l).bumped.zero := by
 have hl0 := hl _ (get_mem (l := l) (i := 0) l0)
 have ht := tv_in hl0.1 hl0.2.1 hl0.2.2 hi.ok.vl
 by_cases e1 : l.length = 1
 ·have e : (B.learnt l) = B.put l[0]! 0 := by unfold learnt; rw [if_pos e1]
  rw [e]
  have hR : (B.put l[0]! 0).bumped.R = B.R ++ [⟨l[0]!, B.T.levels.length, 0⟩] := R_put (r := 0) hi.ok (putB_of hi.ok ht.1 ht.2 hv)
  have hz := zero_app hR
  rw [h1 e1] at hz
  have hs : ((([⟨l[0]!, ((0 : Nat) : Int), 0⟩] : List St).filter fun e : St => e.l == 0)).length = 1 := rfl
  rw [hs] at hz
  have hll : (B.put l[0]! 0).bumped.LL = B.LL := LL_same (fun n => ⟨rfl, rfl⟩) rfl
  exact ⟨h.same (fun n => ⟨rfl, rfl⟩) rfl rfl, by rw [hll, hz]; omega⟩
 ·have h2 : 2 ≤ l.length := by omega
  obtain ⟨k1, k2, k3⟩ := hi.attach (l := l) ⟨h2, l1, hl⟩ hnd true hr
  have hsm := attach_same B l true
  obtain ⟨S', hS'⟩ : ∃ S' : Sv, (B.learnt l).bumped = S' := ⟨_, rfl⟩
  have e : (B.learnt l) = { ((B.attach l true).put l[0]! (B.list.length + 1)) with many := B.many + 1 } := by unfold learnt; rw [if_neg e1]
  have hrn : S'.rc B.list.length = ⟨l, true, B.used⟩ := by rw [← hS', e]; exact k2
  have hro : ∀ n, n ≠ B.list.length → S'.rc n = B.rc n := fun n hn => by rw [← hS', e]; exact k3 n hn
  have hlen : S'.list.length = B.list.length + 1 := by rw [← hS', e]; exact hsm.2.2.1
  have hmany : S'.many = B.many + 1 := by rw [← hS', e]; rfl
  have hb : (B.attach l true).T.putB l[0]! = true := by
   rw [hsm.1]
   exact putB_of hi.ok ht.1 ht.2 hv
  have hR : S'.R = B.R ++ [⟨l[0]!, B.T.levels.length, (B.list.length : Int) + 1⟩] := by
   have := R_put (r := (B.list.length : Int) + 1) k1.ok hb
   rw [R_congr hsm.1, hsm.1] at this
   rw [← hS', e]
   exact this
  have hz := zero_app hR
  have hlne : l ≠ [] := fun e => by rw [e] at l0; simp at l0
  have hlive : ∀ n, n ≠ B.list.length → S'.liveB n = B.liveB n := fun n hn => by unfold liveB; rw [hro n hn]
  have hnew : S'.liveB B.list.length = true := by
   rw [live_iff, hrn]
   exact ⟨rfl, hlne⟩
  have hLL : S'.LL = B.LL ++ [B.list.length] := by
   unfold LL
   rw [hlen, List.range_succ, List.filter_append, List.filter_cons, if_pos hnew, List.filter_nil]
   congr 1
   refine List.filter_congr fun n hn => hlive n ?_
   have := List.mem_range.1 hn
   omega
  rw [hS']
  refine ⟨⟨fun n m n1 n2 n3 => ?_, by rw [hmany, hLL, h.many]; simp⟩, by rw [hLL, hz]; simp; omega⟩
  by_cases en : n = B.list.length
  ·by_cases em : m = B.list.length
   ·rw [en, em]
   ·exfalso
    rw [hlive m em] at n2
    refine hne h2 m (live_iff.1 n2).2 fun x => ?_
    have := n3 x
    rw [en, hrn, hro m em] at this
    exact this.symm
  ·by_cases em : m = B.list.length
   ·exfalso
    rw [hlive n en] at n1
    refine hne h2 n (live_iff.1 n1).2 fun x => ?_
    have := n3 x
    rw [em, hrn, hro n en] at this
    exact this
   ·rw [hlive n en] at n1
    rw [hlive m em] at n2
    refine h.dl n m n1 n2 fun x => ?_
    have := n3 x
    rw [hro n en, hro m em] at this
    exact this
theorem conflict_cnt {S : Sv} (hcn : S.Cnt) (h : S.Inv) {n : Nat} (hc : S.Cfl n) (hn : (S.rc n).lits ≠ []) (hr : S.list.length < 1099511627776) (hd : 0 < S.T.levels.length) {S2 : Sv} (he : S.conflict n = some (S2, true)) :
  S2.Cnt ∧ S.LL.length + S.zero + 1 ≤ S2.LL.length + S2.zero := by
 obtain ⟨S1, l, lev, h1, h2, h3⟩ := learned_spec h.ok h.rsn h.dec hc hd hn
 obtain ⟨ok1, eT, eV, eL, eU, f0, f1, f2, f3, f4⟩ := learned_fit h.ok h1
 have hI1 : S1.Inv := h.congr ok1 eT (congrArg (fun x => x.2.2.2.2.2.2.1) h2) (fun j => (skel_rc h2 j).1) (congrArg (fun x => x.2.2.1) h2)
 have hR1 : S1.R = S.R := R_congr eT
 have hlt := h3.lt
 have hlv : lev.toNat < S1.T.levels.length := by rw [eT]; omega
 obtain ⟨b1, b2, b3, b4, BB, b5, b6, b7⟩ := back_eqs hI1.ok hlv
 have hbv := (hI1.ok.back lev.toNat).2.1
 have hIB := hI1.back lev.toNat
 have hin : ∀ e ∈ (S1.back lev.toNat).R, e ∈ S.R := fun e he => by rw [← hR1, b5]; exact List.mem_append_left _ he
 obtain ⟨et, het, hetx, hetl⟩ := h3.top
 have hS2 : S2 = ((S1.back lev.toNat).learnt l).bumped := by
  unfold Sv.conflict at he
  rw [if_neg (by omega), h1] at he
  simp only [Option.some.injEq, Prod.mk.injEq] at he
  exact he.1.symm
 have hrcB : ∀ j, ((S1.back lev.toNat).rc j).lits = (S.rc j).lits ∧ ((S1.back lev.toNat).rc j).lrn = (S.rc j).lrn := fun j => by
  rw [rc_same b1]
  exact skel_rc h2 j
 have hlB : (S1.back lev.toNat).list.length = S.list.length := by rw [b1, eL]
 have hmB : (S1.back lev.toNat).many = S.many := by
  rw [(back_more S1 lev.toNat).2.2.1]
  exact congrArg (fun x => x.2.2.2.2.2.2.2.2.2.1) h2
 have hcB : (S1.back lev.toNat).Cnt := hcn.same hrcB hlB hmB
 have hLB : (S1.back lev.toNat).LL = S.LL := LL_same hrcB hlB
 have hzB : (S1.back lev.toNat).zero = S.zero := by
  have : S1.zero = S.zero := by unfold zero; rw [hR1]
  rw [← this, zero_app b5]
  have hnil : (BB.filter fun e : St => e.l == 0) = [] := by
   rw [List.filter_eq_nil_iff]
   intro e he
   have := b6 e he
   simp
   omega
  rw [hnil]
  rfl
 have hv : (S1.back lev.toNat).val l[0]! = 0 := by
  rcases val_range hIB.ok l[0]! with h5 | h5 | h5
  ·exact h5
  ·exfalso
   obtain ⟨e, he, hx⟩ := (val_pos hIB.ok l[0]!).1 (by omega)
   exact not_both h.ok (hin e he) het (by rw [hx, hetx])
  ·exfalso
   obtain ⟨e, he, hx⟩ := (val_neg hIB.ok).1 (by omega : (S1.back lev.toNat).val l[0]! < 0)
   have hxe : e.x = et.x := by rw [hx, hetx]; omega
   have := R_uniq h.ok (hin e he) het (by rw [hxe])
   have := b7 e he
   subst_vars
   omega
 have k := learnt_cnt hcB hIB (by rw [hlB]; exact hr) f0 f1 (by rw [hbv, eV]; exact f2) h3.nd hv (fun k1 => by rw [b3, h3.one k1]; rfl) (fun k2 m hm => by
  rw [(hrcB m).1] at hm ⊢
  exact new_diff h h3 k2 hm)
 rw [hLB, hzB] at k
 rw [hS2]
 exact k
end Sv
theorem filter_ne_len {n : Nat} : ∀ {l : List Nat}, l.Nodup → n ∈ l → (l.filter fun j => !(j == n)).length + 1 = l.length
 | [], _, h => by cases h
 | a :: r, hd, h => by
  rw [List.nodup_cons] at hd
  by_cases e : a = n
  ·subst e
   have : r.filter (fun j => !(j == a)) = r := by
    rw [List.filter_eq_self]
    intro j hj
    have : j ≠ a := fun e => hd.1 (e ▸ hj)
    simpa using this
   rw [List.filter_cons, if_neg (by simp), this]
   rfl
  ·have hm : n ∈ r := by
    rcases List.mem_cons.1 h with h1 | h1
    ·exact absurd h1.symm e
    ·exact h1
   have := filter_ne_len hd.2 hm
   rw [List.filter_cons, if_pos (by simpa using e), List.length_cons, List.length_cons]
   omega
namespace Sv
theorem live_drop1 {S : Sv} {n : Nat} (hn : n < S.list.length) (j : Nat) : (S.drop1 n).liveB j = (S.liveB j && !(j == n)) := by
 unfold liveB
 rw [rc_drop1]
 by_cases e : n = j
 ·subst e
  rw [if_pos ⟨rfl, hn⟩]
  simp
 ·rw [if_neg (fun h => e h.1)]
  have : (j == n) = false := by simpa using fun h => e h.symm
  rw [this]
  simp
theorem Cnt.drop1 {S : Sv} (h : S.Cnt) {n : Nat} (hl : S.liveB n = true) : (S.drop1 n).Cnt := by
 have hn : n < S.list.length := in_list (live_iff.1 hl).2
 have hlv := live_drop1 (S := S) hn
 have hLL : (S.drop1 n).LL = S.LL.filter fun j => !(j == n) := by
  unfold LL
  have e : (S.drop1 n).list.length = S.list.length := by simp [Sv.drop1]
  rw [e, List.filter_filter]
  refine List.filter_congr fun j _ => ?_
  rw [hlv j, Bool.and_comm]
 have hnd : S.LL.Nodup := List.Nodup.sublist List.filter_sublist List.nodup_range
 have hlen := filter_ne_len hnd (show n ∈ S.LL from List.mem_filter.2 ⟨List.mem_range.2 hn, hl⟩)
 refine ⟨fun i j h1 h2 h3 => ?_, ?_⟩
 ·rw [hlv, Bool.and_eq_true] at h1 h2
  have hi : i ≠ n := by simpa using h1.2
  have hj : j ≠ n := by simpa using h2.2
  refine h.dl i j h1.1 h2.1 fun x => ?_
  have := h3 x
  rw [rc_drop1, if_neg (fun e => hi e.1.symm), rc_drop1, if_neg (fun e => hj e.1.symm)] at this
  exact this
 ·show S.many - 1 = _
  rw [hLL, h.many]
  omega
theorem drops_cnt : ∀ (D : List Nat) (S : Sv), S.Cnt → D.Nodup → (∀ n ∈ D, S.liveB n = true) → (D.foldl Sv.drop1 S).Cnt
 | [], S, h, _, _ => h
 | n :: r, S, h, hn, hd => by
  rw [List.nodup_cons] at hn
  have h1 := hd n List.mem_cons_self
  refine drops_cnt r _ (h.drop1 h1) hn.2 fun m hm => ?_
  rw [live_drop1 (in_list (live_iff.1 h1).2), hd m (List.mem_cons_of_mem _ hm)]
  have : m ≠ n := fun e => hn.1 (e ▸ hm)
  simpa using this
theorem red_cnt {S S' : Sv} (h : S.Cnt) (hr : RedR S S') : S'.Cnt := by
 obtain ⟨D, h1, h2, h3, rfl⟩ := hr
 refine drops_cnt D S h h1 fun n hn => ?_
 obtain ⟨_, k2, k3, _⟩ := worn_lt (h2 n hn)
 rw [live_iff]
 exact ⟨k2, fun e => by rw [e] at k3; simp at k3⟩
def Phi (S : Sv) : Nat := (262144 - S.limit) * 262154 + (262153 - (S.LL.length + S.zero))
theorem room {S : Sv} {m : Nat} (ok : S.Ok m) (hc : S.Cnt) (hv : S.vars ≤ 9) : S.LL.length ≤ 262144 ∧ S.zero ≤ 9 := by
 have h1 := LL_le ok hc.dl
 have h2 := zero_le ok
 have h3 : 2 ^ (2 * S.vars) ≤ 2 ^ 18 := Nat.pow_le_pow_right (by omega) (by omega)
 have h4 : (2 : Nat) ^ 18 = 262144 := by decide
 rw [h4] at h3
 have h5 := Nat.le_trans h1 h3
 clear h1 h3 h4
 exact ⟨h5, by omega⟩
theorem phi_ar0 {A x : Nat} (h : A ≤ 68722098176) : A + (262153 - x) ≤ 68722360329 := by omega
theorem phi_ar {A B C x y : Nat} (h4 : C ≤ A) (h5 : A + 262154 = B) : C + (262153 - x) + 1 ≤ B + (262153 - y) := by omega
theorem Phi_le (S : Sv) : S.Phi ≤ 68722360329 :=
 phi_ar0 (Nat.le_trans (Nat.mul_le_mul_right 262154 (Nat.sub_le 262144 S.limit)) (by decide))
theorem Phi_step {S S2 : Sv} {m : Nat} (ok : S2.Ok m) (hc : S2.Cnt) (hv : S2.vars ≤ 9) (hl : S2.limit = S.limit) (h : S.LL.length + S.zero + 1 ≤ S2.LL.length + S2.zero) : S2.Phi + 1 ≤ S.Phi := by
 have := room ok hc hv
 unfold Phi
 rw [hl]
 omega
theorem Phi_mono {S S2 : Sv} (hl : S2.limit = S.limit) (h : S.LL.length + S.zero ≤ S2.LL.length + S2.zero) : S2.Phi ≤ S.Phi := by
 unfold Phi
 rw [hl]
 omega
theorem Phi_red {S S2 : Sv} {m : Nat} (ok : S.Ok m) (hc : S.Cnt) (hv : S.vars ≤ 9) (hlim : (S.limit : Int) < S.many) (hl : S2.limit = S.limit + (S.limit / 16 + 1)) : S2.Phi + 1 ≤ S.Phi := by
 have h1 := (room ok hc hv).1
 have h2 := hc.many
 have h3 : S.limit < 262144 := by omega
 obtain ⟨t, ht⟩ : ∃ t, 262144 - S.limit = t + 1 := ⟨262144 - S.limit - 1, by omega⟩
 have h4 : 262144 - S2.limit ≤ t := by omega
 clear h1 h2 h3 hlim hl
 unfold Phi
 rw [ht]
 exact phi_ar (Nat.mul_le_mul_right 262154 h4) (Nat.succ_mul t 262154).symm
end Sv
namespace Sv
structure Go_ (us : List Int) (F : (Nat → Bool) → Prop) (vars U V : Nat) (S : Sv) : Prop where
 inv : S.Inv
 hc : S.Hc
 kn : S.Knows F
 as_ : As us S
 dc : Dc us S
 cnt : S.Cnt
 vars : S.vars = vars
 core : S.core = []
 has : S.has = false
 used : S.used + S.Phi ≤ U
 list : S.list.length + S.Phi ≤ V
 bump : S.bump ≤ 1073741824
 lim : S.limit ≤ 300000
 bad : S.bad = false
structure Told (us : List Int) (F : (Nat → Bool) → Prop) (vars U V u0 : Nat) (S : Sv) (r : Int) : Prop where
 inv : S.Inv
 hc : S.Hc
 kn : S.Knows F
 cnt : S.Cnt
 vars : S.vars = vars
 used : S.used + S.Phi ≤ U + 1
 list : S.list.length + S.Phi ≤ V
 bump : S.bump ≤ 1073741824
 lim : S.limit ≤ 300000
 more : u0 ≤ S.used
 ans : (r = 1 ∧ One1 us S ∧ S.core = [] ∧ S.bad = false) ∨ (r = 2 ∧ S.has = false ∧ (Two2 us S ∨ (S.core = [] ∧ ∀ a, ¬ F a)))
theorem Go_.small {us : List Int} {F : (Nat → Bool) → Prop} {vars U V : Nat} {S : Sv} (h : Go_ us F vars U V S) (hv : vars ≤ 9) (hU : U ≤ 549755813888) (hV : V ≤ 549755813888) (hl : S.T.levels.length ≤ 4398046511104) : S.Small := by
 have h1 := h.used
 have h2 := h.list
 have h3 := h.cnt.many
 have h4 := (room h.inv.ok h.cnt (by rw [h.vars]; exact hv)).1
 have h5 := h.lim
 exact ⟨by omega, by omega, h.bump, by omega, by omega, by omega, hl, h.core⟩
theorem zero_up {S S' : Sv} {Z : List St} (h : S'.R = S.R ++ Z) : S.zero ≤ S'.zero := by
 rw [zero_app h]; omega
theorem zero_back {S : Sv} {m : Nat} (ok : S.Ok m) (level : Nat) : (S.back level).zero = S.zero := by
 by_cases hl : level < S.T.levels.length
 ·obtain ⟨b1, b2, b3, b4, BB, b5, b6, b7⟩ := back_eqs ok hl
  rw [zero_app b5]
  have hnil : (BB.filter fun e : St => e.l == 0) = [] := by
   rw [List.filter_eq_nil_iff]
   intro e he
   have := b6 e he
   simp
   omega
  rw [hnil]
  rfl
 ·have : S.back level = S := by
   unfold Sv.back
   rw [if_pos (by omega)]
  rw [this]
theorem Phi_eq {S S' : Sv} (h1 : S'.limit = S.limit) (h2 : S'.LL = S.LL) (h3 : S'.zero = S.zero) : S'.Phi = S.Phi := by
 unfold Phi
 rw [h1, h2, h3]
theorem Go_.back {us : List Int} {F : (Nat → Bool) → Prop} {vars U V : Nat} {S : Sv} (h : Go_ us F vars U V S) (level : Nat) : Go_ us F vars U V (S.back level) := by
 have ok := h.inv.ok
 have hb := back_more S level
 have hk := ok.back level
 have hrc : ∀ n, ((S.back level).rc n).lits = (S.rc n).lits ∧ ((S.back level).rc n).lrn = (S.rc n).lrn := fun n => by rw [rc_same hk.2.2]; exact ⟨rfl, rfl⟩
 have hP : (S.back level).Phi = S.Phi := Phi_eq hb.2.2.2.1 (LL_same hrc (by rw [hk.2.2])) (zero_back ok level)
 exact ⟨h.inv.back level, h.hc.back ok level, h.kn.back h.inv level, h.as_.back ok level, h.dc.back ok level, h.cnt.same hrc (by rw [hk.2.2]) hb.2.2.1, hk.2.1.trans h.vars, hb.1.trans h.core, (back_has S level).1.trans h.has, by rw [hb.2.1, hP]; exact h.used, by rw [hk.2.2, hP]; exact h.list, by rw [hb.2.2.2.2.2.2]; exact h.bump, by rw [hb.2.2.2.1]; exact h.lim, hb.2.2.2.2.1.trans h.bad⟩
theorem Go_.follow {us : List Int} {F : (Nat → Bool) → Prop} {vars U V : Nat} {S : Sv} (h : Go_ us F vars U V S) : Go_ us F vars U V S.follow.1 ∧ S.follow.1.Phi ≤ S.Phi := by
 obtain ⟨f1, f2, f3, f4⟩ := follow_spec h.inv
 have hrest := (Ok.follow h.inv.ok).2.1
 have hr2 := hrest
 unfold Sv.rest at hr2
 simp only [Prod.mk.injEq] at hr2
 obtain ⟨r1, r2, r3, r4, r5, r6, r7, r8, r9, r10, r11, r12, r13⟩ := hr2
 obtain ⟨Z, hZ, _⟩ := f2.pre
 have hLL := LL_mo f2 r13
 have hP : S.follow.1.Phi ≤ S.Phi := Phi_mono r9 (by rw [hLL]; have := zero_up hZ; omega)
 exact ⟨⟨f1, h.hc.rest h.inv.ok f1.ok f2 hrest, h.kn.mo f2 f1 r10, h.as_.mo f2 (by rw [r12]), h.dc.mo f2, h.cnt.mo f2 r13 r8, r2.trans h.vars, r5.trans h.core, r11.trans h.has, by rw [r6]; have := h.used; omega, by rw [r13]; have := h.list; omega, by rw [r7]; exact h.bump, by rw [r9]; exact h.lim, r10.trans h.bad⟩, hP⟩
end Sv
namespace Sv
theorem pickF_more2 : ∀ (f : Nat) (S : Sv), (pickF f S).1.bump = S.bump ∧ (pickF f S).1.has = S.has
 | 0, S => ⟨rfl, rfl⟩
 | f + 1, S => by
  rw [pickF]
  split
  ·exact ⟨rfl, rfl⟩
  ·simp only
   split
   ·exact pickF_more2 f _
   ·exact ⟨rfl, rfl⟩
theorem choose_more2 (S : Sv) : S.choose.1.bump = S.bump ∧ S.choose.2 ≠ 2 := by
 unfold choose
 split
 ·exact ⟨(pickF_more2 _ S).1, show (1 : Int) ≠ 2 by decide⟩
 ·exact ⟨(pickF_more2 _ S).1, show (0 : Int) ≠ 2 by decide⟩
theorem decideF_more2 (us : List Int) : ∀ (f : Nat) (S : Sv), (decideF us f S).1.bump = S.bump ∧ ((decideF us f S).2 = 2 → (decideF us f S).1.has = S.has) ∧ ((decideF us f S).2 ≠ 2 → (decideF us f S).1.core = S.core)
 | 0, S => ⟨(choose_more2 S).1, fun h => absurd h (choose_more2 S).2, fun _ => (choose_more S).1⟩
 | f + 1, S => by
  rw [decideF]
  split
  ·simp only
   split
   ·exact ⟨rfl, fun _ => rfl, fun h => absurd rfl h⟩
   ·split
    ·exact ⟨rfl, fun h => (by cases h), fun _ => rfl⟩
    ·exact decideF_more2 us f S.deep
  ·exact ⟨(choose_more2 S).1, fun h => absurd h (choose_more2 S).2, fun _ => (choose_more S).1⟩
theorem drops_more : ∀ (D : List Nat) (S : Sv), (D.foldl drop1 S).used = S.used ∧ (D.foldl drop1 S).bump = S.bump ∧ (D.foldl drop1 S).has = S.has ∧ (D.foldl drop1 S).bad = S.bad
 | [], S => ⟨rfl, rfl, rfl, rfl⟩
 | n :: r, S => drops_more r (S.drop1 n)
theorem Go_.used1 {us : List Int} {F : (Nat → Bool) → Prop} {vars U V : Nat} {S : Sv} (h : Go_ us F vars U V S) : Go_ us F vars (U + 1) V S.used1 :=
 ⟨h.inv.used1, ⟨h.hc.all, h.hc.pos⟩, h.kn.used1, h.as_, h.dc, h.cnt.same (fun n => ⟨rfl, rfl⟩) rfl rfl, h.vars, h.core, h.has, by have := h.used; show S.used + 1 + S.Phi ≤ _; omega, h.list, h.bump, h.lim, h.bad⟩
theorem Go_.conflict {us : List Int} {F : (Nat → Bool) → Prop} {vars U V : Nat} {S : Sv} (h : Go_ us F vars U V S) (hv : vars ≤ 9) (hV : V ≤ 549755813888) {n : Nat} (hc : S.Cfl n) (hn : (S.rc n).lits ≠ []) (hd : 0 < S.T.levels.length) :
  ∃ S2, S.used1.conflict n = some (S2, true) ∧ Go_ us F vars U V S2 ∧ S2.Phi + 1 ≤ S.Phi ∧ S2.T.levels.length ≤ S.T.levels.length ∧ S2.used = S.used + 1 := by
 have h1 := h.used1
 have hl : S.used1.list.length < 1099511627776 := by have := h1.list; omega
 obtain ⟨S2, l, lev, c1, c2, c3, c4, S1, c5, c6⟩ := conflict_spec h1.inv (n := n) hc hn hl hd
 obtain ⟨a1, a2⟩ := conflict_AsDc h1.inv h1.as_ h1.dc (n := n) hc hn hd c2
 obtain ⟨n1, n2⟩ := conflict_cnt h1.cnt h1.inv (n := n) hc hn hl hd c2
 have hP := Phi_step c3.ok n1 (by rw [c4.vars]; show S.vars ≤ 9; rw [h.vars]; exact hv) c4.limit n2
 have hP1 : S.used1.Phi = S.Phi := rfl
 rw [hP1] at hP
 have hhas : S2.has = false := by
  rw [c6, learnt_has, (back_has S1 lev.toNat).1]
  have : S1.has = S.used1.has := congrArg (fun x => x.2.2.2.2.2.2.2.2.2.2.2.2.1) c5
  rw [this]
  exact h.has
 refine ⟨S2, c2, ⟨c3, h1.hc.conflict h1.inv (n := n) hc hn hl hd c2, h1.kn.conflict h1.inv (n := n) hc hn hl hd c2, a1, a2, n1, c4.vars.trans h.vars, c4.core.trans h.core, hhas, ?_, ?_, c4.bump, by rw [c4.limit]; exact h.lim, c4.bad.trans h.bad⟩, hP, c4.lev, c4.used⟩
 ·have := h.used
  rw [c4.used]
  show S.used + 1 + S2.Phi ≤ U
  omega
 ·have := h.list
  have := c4.list1
  have e : S.used1.list.length = S.list.length := rfl
  omega
theorem Go_.zeroed {us : List Int} {F : (Nat → Bool) → Prop} {vars U V : Nat} {S : Sv} (h : Go_ us F vars U V S) {n : Nat} (hc : S.Cfl n) (hn : (S.rc n).lits ≠ []) (hd : S.T.levels.length = 0) {u0 : Nat} (hu : u0 ≤ S.used) :
  S.used1.conflict n = some ({ S.used1 with bad := true }, false) ∧ Told us F vars U V u0 { S.used1 with bad := true } 2 := by
 have h1 := h.used1
 refine ⟨by unfold Sv.conflict; rw [if_pos (show S.used1.T.levels.length = 0 from hd)], ⟨h1.inv.congr (h1.inv.ok.setbad true) rfl rfl (fun _ => rfl) rfl, ⟨h.hc.all, h.hc.pos⟩, h1.kn.zero h1.inv (n := n) hc hn hd, h.cnt.same (fun n => ⟨rfl, rfl⟩) rfl rfl, h.vars, h1.used, h.list, h.bump, h.lim, by show u0 ≤ S.used + 1; omega, .inr ⟨rfl, h.has, .inr ⟨h.core, fun a ha => (h.kn.sound a ha).bad_zero h.inv hc hn hd⟩⟩⟩⟩
theorem Go_.red {us : List Int} {F : (Nat → Bool) → Prop} {vars U V : Nat} {S : Sv} (h : Go_ us F vars U V S) (hv : vars ≤ 9) (hlim : (S.limit : Int) < S.many) {S' : Sv} (hr : RedR S S') : Go_ us F vars U V S'.limUp ∧ S'.limUp.Phi ≤ S.Phi ∧ S'.limUp.T = S.T ∧ S'.limUp.head = S.head ∧ S'.limUp.used = S.used := by
 obtain ⟨k1, k2, k3, k4, k5⟩ := red_keep h.inv hr
 have hcn := red_cnt h.cnt hr
 obtain ⟨D, d1, d2, d3, rfl⟩ := hr
 have hs := drops_same D S
 have hm := drops_more D S
 have hv8 : S.vars ≤ 9 := by rw [h.vars]; exact hv
 have hP : (D.foldl drop1 S).limUp.Phi + 1 ≤ S.Phi := Phi_red h.inv.ok h.cnt hv8 hlim (by show (D.foldl drop1 S).limit + _ = _; rw [hs.2.2.2.2.1])
 have hI : (D.foldl drop1 S).limUp.Inv := k1.congr k1.ok.limUp rfl rfl (fun _ => rfl) rfl
 have hRm := (room h.inv.ok h.cnt hv8).1
 have hmany := h.cnt.many
 refine ⟨⟨hI, h.hc.mono h.inv.ok hI.ok hs.2.1 (fun y => by show y ∈ (D.foldl drop1 S).H.items ↔ _; rw [k3]) (fun e he => by rw [R_congr (show (D.foldl drop1 S).limUp.T = S.T from k2)]; exact he), (k5 F h.kn).congr rfl rfl rfl, h.as_.congr k2, h.dc.congr k2, hcn.same (fun n => ⟨rfl, rfl⟩) rfl rfl, hs.2.1.trans h.vars, hs.2.2.2.1.trans h.core, hm.2.2.1.trans h.has, ?_, ?_, ?_, ?_, hm.2.2.2.trans h.bad⟩, by omega, k2, k4, hm.1⟩
 ·have := h.used
  show (D.foldl drop1 S).used + _ ≤ U
  rw [hm.1]
  omega
 ·have := h.list
  show (D.foldl drop1 S).list.length + _ ≤ V
  rw [hs.2.2.1]
  omega
 ·show (D.foldl drop1 S).bump ≤ _
  rw [hm.2.1]; exact h.bump
 ·show (D.foldl drop1 S).limit + ((D.foldl drop1 S).limit / 16 + 1) ≤ 300000
  rw [hs.2.2.2.2.1]
  omega
theorem Go_.decide {us : List Int} {F : (Nat → Bool) → Prop} {vars U V : Nat} {S : Sv} (h : Go_ us F vars U V S) (hf : S.head = S.T.lits.length) (hu : ∀ y ∈ us, y ≠ 0 ∧ -(vars : Int) ≤ y ∧ y ≤ vars) {u0 : Nat} (hu0 : u0 ≤ S.used) :
  ((S.decide_ us).2 = 0 → Go_ us F vars U V (S.decide_ us).1 ∧ (S.decide_ us).1.Phi ≤ S.Phi ∧ (S.decide_ us).1.T.lits.length = S.T.lits.length + 1 ∧ (S.decide_ us).1.used = S.used) ∧
  ((S.decide_ us).2 ≠ 0 → Told us F vars U V u0 (S.decide_ us).1 (S.decide_ us).2) := by
 have hus : ∀ y ∈ us, y ≠ 0 ∧ -(S.vars : Int) ≤ y ∧ y ≤ S.vars := by rw [h.vars]; exact hu
 obtain ⟨d1, d2⟩ := decide_spec h.inv hf hus
 obtain ⟨e1, e2⟩ := decideF_fin (us.length + 1) S h.inv hf hus h.has h.core
 obtain ⟨t1, t2, t3, t4, t5, t6⟩ := decideF_tells (us.length + 1) S h.inv hf hus h.as_ h.dc h.hc h.core (by omega)
 have dk := Ok.decide_ h.inv.ok us
 have dm := decideF_more us (us.length + 1) S
 have dm2 := decideF_more2 us (us.length + 1) S
 change Fin us (S.decide_ us).1 at e1
 change (S.decide_ us).2 = 0 → (S.decide_ us).1.has = false at e2
 change (S.decide_ us).2 = 0 ∨ (S.decide_ us).2 = 1 ∨ (S.decide_ us).2 = 2 at t1
 change Up S (S.decide_ us).1 at t2
 change (S.decide_ us).2 = 0 → As us (S.decide_ us).1 ∧ Dc us (S.decide_ us).1 at t3
 change (S.decide_ us).1.Hc at t4
 change (S.decide_ us).2 = 1 → One1 us (S.decide_ us).1 at t5
 change (S.decide_ us).2 = 2 → Two2 us (S.decide_ us).1 at t6
 change ((S.decide_ us).2 = 0 → (S.decide_ us).1.core = S.core) ∧ (S.decide_ us).1.used = S.used ∧ (S.decide_ us).1.many = S.many ∧ (S.decide_ us).1.limit = S.limit ∧ (S.decide_ us).1.bad = S.bad at dm
 change (S.decide_ us).1.bump = S.bump ∧ ((S.decide_ us).2 = 2 → (S.decide_ us).1.has = S.has) ∧ ((S.decide_ us).2 ≠ 2 → (S.decide_ us).1.core = S.core) at dm2
 generalize S.decide_ us = q at *
 obtain ⟨Z, hZ, _⟩ := t2.R
 have hrc := rc_same t2.list
 have hLL : q.1.LL = S.LL := LL_same (fun n => by rw [hrc]; exact ⟨rfl, rfl⟩) (by rw [t2.list])
 have hP : q.1.Phi ≤ S.Phi := Phi_mono dm.2.2.2.1 (by rw [hLL]; have := zero_up hZ; omega)
 have hcn : q.1.Cnt := h.cnt.same (fun n => by rw [hrc]; exact ⟨rfl, rfl⟩) (by rw [t2.list]) dm.2.2.1
 have hus2 := h.used
 have hls := h.list
 refine ⟨fun hq => ⟨⟨d1, t4, t2.knows h.kn, (t3 hq).1, (t3 hq).2, hcn, t2.vars.trans h.vars, (dm.1 hq).trans h.core, e2 hq, by rw [dm.2.1]; omega, by rw [t2.list]; omega, by rw [dm2.1]; exact h.bump, by rw [dm.2.2.2.1]; exact h.lim, dm.2.2.2.2.trans h.bad⟩, hP, d2 hq, dm.2.1⟩, fun hq => ⟨d1, t4, t2.knows h.kn, hcn, t2.vars.trans h.vars, by rw [dm.2.1]; omega, by rw [t2.list]; omega, by rw [dm2.1]; exact h.bump, by rw [dm.2.2.2.1]; exact h.lim, by rw [dm.2.1]; exact hu0, ?_⟩⟩
 rcases t1 with h0 | h0 | h0
 ·exact absurd h0 hq
 ·exact .inl ⟨h0, t5 h0, (dm2.2.2 (by omega)).trans h.core, dm.2.2.2.2.trans h.bad⟩
 ·exact .inr ⟨h0, (dm2.2.1 h0).trans h.has, .inl (t6 h0)⟩
end Sv
namespace Sv
theorem round_told {us : List Int} {F : (Nat → Bool) → Prop} {vars U V u0 c x n : Nat} {budget : Int} {K : Nat → Nat → Sv → Prop} (hv : vars ≤ 9) (hu : ∀ y ∈ us, y ≠ 0 ∧ -(vars : Int) ≤ y ∧ y ≤ vars) (hU : U ≤ 549755813888) (hV : V ≤ 549755813888) (hn : n < 549755813888) (hnb : ¬ budget < ((n + 1 : Nat) : Int))
  (hK : ∀ next S, Go_ us F vars U V S → S.Phi < c → next ≤ n + 64 → max S.T.levels.length us.length + x ≤ 4398046511104 → u0 ≤ S.used → K next (n + 1) S) :
  ∀ (d next : Nat) (S : Sv), Go_ us F vars U V S → S.Phi < c + 1 → next ≤ n + 64 → max S.T.levels.length us.length + (x + d) ≤ 4398046511104 → u0 ≤ S.used → mu S next n < d → roundW true budget us (Told us F vars U V u0) K d next n S := by
 intro d
 induction d with
 | zero =>
  intro next S h hp hx hl h0 hm
  exact absurd hm (Nat.not_lt_zero _)
 | succ d ih =>
  intro next S h hp hx hl h0 hm
  rw [roundW]
  refine ⟨h.small hv hU hV (by omega), by omega, by omega, ?_⟩
  obtain ⟨f1, f2, f3, f4⟩ := follow_spec h.inv
  obtain ⟨g, gP⟩ := h.follow
  have hrest := (Ok.follow h.inv.ok).2.1
  have hlev : S.follow.1.T.levels = S.T.levels := congrArg (fun x => x.2.2.2.2.2.2.2.2.2.2.2.1) hrest
  have hused : S.follow.1.used = S.used := congrArg (fun x => x.2.2.2.2.2.1) hrest
  have hgrow : S.T.lits.length ≤ S.follow.1.T.lits.length := by
   obtain ⟨Z, hZ, _⟩ := f2.pre
   rw [← R_len, ← R_len, hZ]
   simp
  generalize S.follow = q at *
  obtain ⟨SF, o⟩ := q
  simp only at f1 f2 f3 f4 g gP hlev hused hgrow ⊢
  have hSv := h.vars
  have hgv := g.vars
  cases o with
  | some m =>
   simp only
   obtain ⟨k1, k2⟩ := f4 m rfl
   by_cases hd : SF.T.levels.length = 0
   ·obtain ⟨z1, z2⟩ := g.zeroed k1 k2 hd (u0 := u0) (by omega)
    rw [z1]
    exact z2
   ·obtain ⟨S2, c1, c2, c3, c4, c5⟩ := g.conflict hv hV k1 k2 (by omega)
    rw [c1]
    show if budget < ((n + 1 : Nat) : Int) then _ else K next (n + 1) S2
    rw [if_neg hnb]
    exact hK next S2 c2 (by omega) hx (by rw [hlev] at c4; omega) (by omega)
  | none =>
   simp only
   obtain ⟨r1, r2⟩ := rested_full f1 (f3 rfl) n next
   have hgr : Go_ us F vars U V (SF.rested n next) ∧ (SF.rested n next).Phi ≤ SF.Phi ∧ (SF.rested n next).used = SF.used ∧ (SF.rested n next).T.levels.length ≤ SF.T.levels.length := by
    unfold Sv.rested
    split
    ·have hb := back_more SF 0
     refine ⟨g.back 0, ?_, hb.2.1, hb.2.2.2.2.2.1⟩
     have hk := g.inv.ok.back 0
     exact Nat.le_of_eq (Phi_eq hb.2.2.2.1 (LL_same (fun n => by rw [rc_same hk.2.2]; exact ⟨rfl, rfl⟩) (by rw [hk.2.2])) (zero_back g.inv.ok 0))
    ·exact ⟨g, Nat.le_refl _, rfl, Nat.le_refl _⟩
   have hlr : ¬ next ≤ n → (SF.rested n next).T.lits.length = SF.T.lits.length := fun hnn => by
    unfold Sv.rested
    rw [if_neg hnn]
   generalize SF.rested n next = SR at *
   obtain ⟨q1, q2, q3, q4⟩ := hgr
   have fin : ∀ S3 : Sv, Go_ us F vars U V S3 → S3.Phi ≤ SR.Phi → S3.used = SR.used → S3.T = SR.T → S3.head = SR.head → (if (S3.decide_ us).2 = 0 then roundW true budget us (Told us F vars U V u0) K d (if next ≤ n then n + 64 else next) n (S3.decide_ us).1 else Told us F vars U V u0 (S3.decide_ us).1 (S3.decide_ us).2) := by
    intro S3 t1 t2 t3 t4 t5
    obtain ⟨e1, e2⟩ := t1.decide (by rw [t5, r2, t4]) hu (u0 := u0) (by omega)
    have dk := (Ok.decide_ t1.inv.ok us).2.2.2
    generalize S3.decide_ us = p at *
    by_cases hq : p.2 = 0
    ·rw [if_pos hq]
     obtain ⟨e3, e4, e5, e6⟩ := e1 hq
     have hl2 := lits_le e3.inv.ok
     have hv2 := e3.vars
     refine ih _ p.1 e3 (by omega) (by split <;> omega) (by rw [t4] at dk; rw [hlev] at q4; omega) (by omega) ?_
     rw [t4] at e5
     unfold mu at hm ⊢
     by_cases hnx : next ≤ n
     ·rw [if_pos hnx] at hm ⊢
      rw [if_neg (by omega)]
      omega
     ·rw [if_neg hnx] at hm ⊢
      rw [if_neg hnx]
      have := hlr hnx
      omega
    ·rw [if_neg hq]
     exact e2 hq
   unfold thinW
   by_cases hlim : (SR.limit : Int) < SR.many
   ·rw [if_pos hlim, if_pos rfl]
    intro S' hr
    obtain ⟨w1, w2, w3, w4, w5⟩ := q1.red hv hlim hr
    exact fin S'.limUp w1 w2 w5 w3 w4
   ·rw [if_neg hlim]
    exact fin SR q1 (Nat.le_refl _) rfl rfl rfl
theorem search_told {us : List Int} {F : (Nat → Bool) → Prop} {vars U V u0 : Nat} {budget : Int} (hv : vars ≤ 9) (hu : ∀ y ∈ us, y ≠ 0 ∧ -(vars : Int) ≤ y ∧ y ≤ vars) (hU : U ≤ 549755813888) (hV : V ≤ 549755813888) :
  ∀ (c next n : Nat) (S : Sv), Go_ us F vars U V S → S.Phi < c → next ≤ n + 64 → max S.T.levels.length us.length + c * 21 ≤ 4398046511104 → u0 ≤ S.used → n + c < 549755813888 → ((n + c : Nat) : Int) ≤ budget → searchW true budget us (Told us F vars U V u0) 21 c next n S := by
 intro c
 induction c with
 | zero =>
  intro next n S h hp hx hl h0 hc hb
  exact absurd hp (Nat.not_lt_zero _)
 | succ c ih =>
  intro next n S h hp hx hl h0 hc hb
  rw [searchW]
  refine round_told (c := c) (x := c * 21) hv hu hU hV (by omega) (by omega) (fun nx S2 k1 k2 k3 k4 k5 => ih nx (n + 1) S2 k1 k2 (by omega) k4 k5 (by omega) (by omega)) 21 next S h hp hx (by rw [Nat.succ_mul] at hl; exact hl) h0 ?_
  have := h.vars
  unfold mu
  split <;> omega
structure Kept (F : (Nat → Bool) → Prop) (vars U V : Nat) (S : Sv) : Prop where
 inv : S.Inv
 lev : S.T.levels.length = 0
 hc : S.Hc
 kn : S.Knows F
 cnt : S.Cnt
 vars : S.vars = vars
 used : S.used + S.Phi ≤ U
 list : S.list.length + S.Phi ≤ V
 bump : S.bump ≤ 1073741824
 lim : S.limit ≤ 300000
theorem Kept.go {F : (Nat → Bool) → Prop} {vars U V : Nat} {S : Sv} (h : Kept F vars U V S) (hb : S.bad = false) (us : List Int) : Go_ us F vars (U + 1) V S.fresh0.used1 :=
 ⟨h.inv.fresh0.used1, ⟨h.hc.all, h.hc.pos⟩, h.kn.fresh0.used1, fun i h1 => by
   have h1 : i < S.T.levels.length := h1
   have := h.lev; omega, fun e he h0 h1 h2 => by
   have := (R_rng h.inv.ok (show e ∈ S.R from he)).2.2.2
   have := h.lev
   omega, h.cnt.same (fun n => ⟨rfl, rfl⟩) rfl rfl, h.vars, rfl, rfl, by have := h.used; show S.used + 1 + S.Phi ≤ _; omega, h.list, h.bump, h.lim, hb⟩
def Ans (us : List Int) (F : (Nat → Bool) → Prop) (vars : Nat) (S : Sv) (r : Int) : Prop :=
 (r = 1 ∧ S.has = true ∧ S.core = [] ∧ S.model.length = vars + 1 ∧ ∀ a : Nat → Bool, (∀ v, 1 ≤ v → v ≤ vars → a v = S.model[v]!) → F a ∧ ∀ u ∈ us, Tru a u) ∨
 (r = 2 ∧ S.has = false ∧ (∀ a, F a → ¬ ∀ u ∈ S.core, Tru a u) ∧ (∀ u ∈ S.core, u ∈ us) ∧ S.core.Pairwise (fun x y => us.idxOf x < us.idxOf y))
def EndQ (us : List Int) (F : (Nat → Bool) → Prop) (vars U V u0 : Nat) (S : Sv) (r : Int) : Prop := Kept F vars U V S ∧ u0 ≤ S.used ∧ Ans us F vars S r
theorem Told.done {us : List Int} {F : (Nat → Bool) → Prop} {vars U V u0 : Nat} {S : Sv} {r : Int} (hv : vars ≤ 9) (h : Told us F vars U V u0 S r) : EndQ us F vars (U + 1) V u0 (S.back 0) r := by
 have ok := h.inv.ok
 have hb := back_more S 0
 have hk := ok.back 0
 have hh := back_has S 0
 have hrc : ∀ n, ((S.back 0).rc n).lits = (S.rc n).lits ∧ ((S.back 0).rc n).lrn = (S.rc n).lrn := fun n => by rw [rc_same hk.2.2]; exact ⟨rfl, rfl⟩
 have hP : (S.back 0).Phi = S.Phi := Phi_eq hb.2.2.2.1 (LL_same hrc (by rw [hk.2.2])) (zero_back ok 0)
 have hlev : (S.back 0).T.levels.length = 0 := by
  by_cases hl : 0 < S.T.levels.length
  ·exact (back_eqs ok hl).2.2.1
  ·have : S.back 0 = S := by
    unfold Sv.back
    rw [if_pos (by omega)]
   rw [this]
   omega
 refine ⟨⟨h.inv.back 0, hlev, h.hc.back ok 0, h.kn.back h.inv 0, h.cnt.same hrc (by rw [hk.2.2]) hb.2.2.1, hk.2.1.trans h.vars, by rw [hb.2.1, hP]; exact h.used, by rw [hk.2.2, hP]; exact h.list, by rw [hb.2.2.2.2.2.2]; exact h.bump, by rw [hb.2.2.2.1]; exact h.lim⟩, by rw [hb.2.1]; exact h.more, ?_⟩
 unfold Ans
 rw [hh.1, hh.2, hb.1]
 rcases h.ans with ⟨r1, o, c0, nb⟩ | ⟨r2, n0, ht⟩
 ·refine .inl ⟨r1, o.has, c0, by rw [o.model, ← h.vars]; simp, fun a ha => ?_⟩
  have hm := model_of h.inv o.full o.set a (fun v v1 v2 => by
   rw [ha v v1 (by rw [← h.vars]; exact v2), o.model]
   simp only [List.getElem!_eq_getElem?_getD, List.getElem?_map, List.getElem?_range (show v < S.vars + 1 by omega), Option.map_some, Option.getD_some])
  refine ⟨h.kn.full nb a ⟨fun n _ hn => hm.2 n hn, fun e he _ => hm.1 e he⟩, fun u hu => ?_⟩
  obtain ⟨e, he, hx⟩ := o.us u hu
  rw [← hx]
  exact hm.1 e he
 ·refine .inr ⟨r2, n0, ?_⟩
  rcases ht with ht | ⟨ht, hno⟩
  ·exact ⟨fun a ha => ht.no a (h.kn.sound a ha), ht.sub, ht.ord⟩
  ·rw [ht]
   exact ⟨fun a ha => absurd ha (hno a), (fun u hu => by cases hu), List.Pairwise.nil⟩
theorem offB_false {vars : Nat} {x : Int} (hv : vars ≤ 262143) (h0 : x ≠ 0) (h1 : -(vars : Int) ≤ x) (h2 : x ≤ vars) : offB vars x = false := by
 have := tv_in h0 h1 h2 hv
 unfold offB
 simp only [Bool.or_eq_false_iff, decide_eq_false_iff_not]
 omega
theorem solve_told {us : List Int} {F : (Nat → Bool) → Prop} {vars U V : Nat} {S : Sv} (h : Kept F vars U V S) (hv : vars ≤ 9) (hU : U + 2 ≤ 549755813888) (hV : V ≤ 549755813888) (hu : ∀ y ∈ us, y ≠ 0 ∧ -(vars : Int) ≤ y ∧ y ≤ vars) (hul : us.length ≤ 1099511627776) :
  S.solveW true 1099511627776 us 21 68722360330 (EndQ us F vars (U + 2) V (S.used + 1)) := by
 have hvl := h.inv.ok.vl
 have hva := h.vars
 unfold solveW
 have ho : us.any (offB S.vars) = false := by
  cases h4 : us.any (offB S.vars) with
  | false => rfl
  | true =>
   obtain ⟨x, hx, h5⟩ := List.any_eq_true.1 h4
   obtain ⟨y0, y1, y2⟩ := hu x hx
   rw [← hva] at y1 y2
   rw [offB_false hvl y0 y1 y2] at h5
   cases h5
 have hd : (decide ((1099511627776 : Int) < 1) || us.any (offB S.vars)) = false := by rw [ho]; rfl
 rw [hd, if_neg (by decide)]
 by_cases hb : S.bad = true
 ·rw [if_pos hb]
  refine ⟨⟨h.inv.fresh0.used1, h.lev, ⟨h.hc.all, h.hc.pos⟩, h.kn.fresh0.used1, h.cnt.same (fun n => ⟨rfl, rfl⟩) rfl rfl, h.vars, by have := h.used; show S.used + 1 + S.Phi ≤ _; omega, h.list, h.bump, h.lim⟩, Nat.le_refl _, .inr ⟨rfl, rfl, fun a ha => absurd ha (h.kn.bad hb a), (fun u hu => by cases hu), List.Pairwise.nil⟩⟩
 ·rw [if_neg hb]
  have hb : S.bad = false := by simpa using hb
  have hg := h.go hb us
  have hPl := Phi_le S
  have hs := search_told (u0 := S.used + 1) (budget := 1099511627776) hv hu (by omega : U + 1 ≤ 549755813888) hV 68722360330 64 0 S.fresh0.used1 hg (show S.Phi < _ by omega) (by omega) (by show max S.T.levels.length us.length + _ ≤ _; have := h.lev; omega) (Nat.le_refl _) (by omega) (by omega)
  have mono : ∀ (Q Q' : Sv → Int → Prop), (∀ S r, Q S r → Q' S r) → ∀ c next n S, searchW true 1099511627776 us Q 21 c next n S → searchW true 1099511627776 us Q' 21 c next n S := by
   intro Q Q' hQ c
   induction c with
   | zero => intro next n S h; exact h
   | succ c ih =>
    intro next n S hh
    rw [searchW] at hh ⊢
    revert hh
    generalize hK : searchW true 1099511627776 us Q 21 c = K
    generalize hK' : searchW true 1099511627776 us Q' 21 c = K'
    rw [hK, hK'] at ih
    clear hK hK'
    generalize (21 : Nat) = d
    induction d generalizing next n S with
    | zero => exact fun h => h
    | succ d ihd =>
     intro hh
     rw [roundW] at hh ⊢
     obtain ⟨m1, m2, m3, m4⟩ := hh
     refine ⟨m1, m2, m3, ?_⟩
     cases hf : S.follow.2 with
     | some cc =>
      rw [hf] at m4
      simp only at m4 ⊢
      revert m4
      cases S.follow.1.used1.conflict cc with
      | none => exact fun h => h
      | some q =>
       obtain ⟨S2, b⟩ := q
       cases b with
       | false => exact hQ _ _
       | true =>
        show (if _ then _ else _) → (if _ then _ else _)
        split
        ·exact hQ _ _
        ·exact ih _ _ _
     | none =>
      rw [hf] at m4
      simp only at m4 ⊢
      unfold thinW at m4 ⊢
      have hstep : ∀ S3 : Sv, (if (S3.decide_ us).2 = 0 then roundW true 1099511627776 us Q K d (if next ≤ n then n + 64 else next) n (S3.decide_ us).1 else Q (S3.decide_ us).1 (S3.decide_ us).2) → (if (S3.decide_ us).2 = 0 then roundW true 1099511627776 us Q' K' d (if next ≤ n then n + 64 else next) n (S3.decide_ us).1 else Q' (S3.decide_ us).1 (S3.decide_ us).2) := by
       intro S3
       split
       ·exact ihd _ _ _
       ·exact hQ _ _
      by_cases hlim : ((S.follow.1.rested n next).limit : Int) < (S.follow.1.rested n next).many
      ·rw [if_pos hlim, if_pos rfl] at m4
       rw [if_pos hlim, if_pos rfl]
       exact fun S' hS' => hstep _ (m4 S' hS')
      ·rw [if_neg hlim] at m4
       rw [if_neg hlim]
       exact hstep _ m4
  exact mono _ _ (fun S r ht => ht.done hv) _ _ _ _ hs
end Sv
end Go.Proofs.Ytjchilcpflfcnaa
