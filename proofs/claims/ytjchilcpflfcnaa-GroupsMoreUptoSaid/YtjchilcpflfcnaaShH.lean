/-  -/
import Derived.Test.YtjchilcpflfcnaaShG
import Derived.Test.YtjchilcpflfcnaaShE
set_option linter.unusedVariables false
namespace Go.Proofs.Ytjchilcpflfcnaa
open Go.RowKit
namespace Sv
theorem Ans.more {us vs : List Int} {F : (Nat → Bool) → Prop} {V : Nat} {S S' : Sv} {r : Int} (hs : ∀ u ∈ us, u ∈ vs) (hv' : S'.vars = V) (h : Ans us F V S 2) (h' : Ans vs F V S' r) : r = 2 := by
 have one : Ans vs F V S' 1 → ∃ a, F a ∧ ∀ u ∈ vs, Tru a u := fun h => by
  rcases h with ⟨_, h1, _, _, h4⟩ | ⟨h1, _⟩
  ·exact ⟨aOf (S'.msTo V), h4 _ (fun v v1 v2 => aOf_ms hv' h1 v v1 v2)⟩
  ·cases h1
 have two : ∀ a, F a → ¬ ∀ u ∈ us, Tru a u := fun a ha hu => by
  rcases h with ⟨h1, _⟩ | ⟨_, _, h2, h3, _⟩
  ·cases h1
  ·exact h2 a ha fun u hu2 => hu u (h3 u hu2)
 have hr : r = 1 ∨ r = 2 := by rcases h' with ⟨h1, _⟩ | ⟨h1, _⟩ <;> omega
 rcases hr with rfl | rfl
 ·obtain ⟨a, h1, h2⟩ := one h'
  exact absurd (fun u hu => h2 u (hs u hu)) (two a h1)
 ·rfl
theorem Kept.addAny {S : Sv} {F : (Nat → Bool) → Prop} {vars U V : Nat} (h : Kept F vars U V S) {l : List Int} (hra : Ra l) (hr : S.list.length < 1099511627776) : ∃ F', Kept F' vars U (V + 1) (S.addF l).1 := by
 by_cases hc : chkF S.vars l = 0
 ·exact ⟨_, h.addF hra hr hc⟩
 ·refine ⟨F, ?_⟩
  have e : (S.addF l).1 = S := by unfold Sv.addF; rw [if_neg hc]
  rw [e]
  exact h.up (Nat.le_refl _) (Nat.le_succ _)
end Sv
namespace Sv
theorem Kept.fresh0 {S : Sv} {F : (Nat → Bool) → Prop} {vars U V : Nat} (h : Kept F vars U V S) : Kept F vars U V S.fresh0 := by
 have hP : S.fresh0.Phi = S.Phi := Phi_eq rfl (LL_same (fun n => ⟨rfl, rfl⟩) rfl) (zero_same rfl)
 exact ⟨h.inv.fresh0, h.lev, ⟨h.hc.all, h.hc.pos⟩, h.kn.fresh0, h.cnt.same (fun n => ⟨rfl, rfl⟩) rfl rfl, h.vars, by rw [hP]; exact h.used, by rw [hP]; exact h.list, h.bump, h.lim⟩
end Sv
theorem off_in {V : Nat} {l : List Int} (hr : Ra l) (h : l.any (offB V) = false) : InR V l := by
 intro x hx
 have h3 : offB V x = false := by
  rw [List.any_eq_false] at h
  have := h x hx
  simpa using this
 unfold offB at h3
 simp only [Bool.or_eq_false_iff, decide_eq_false_iff_not] at h3
 have h5 := tv_rng ((mem_idx (p := R64)).1 hr x hx)
 exact ⟨Sv.tv_pos (by omega), by omega, by omega⟩
def swN (V k : Nat) : List Int := 0 :: (List.range k).map fun i => ((V + i + 1 : Nat) : Int)
theorem swN_len (V k : Nat) : (swN V k).length = k + 1 := by simp [swN]
theorem swN_next (V k : Nat) : swN V k ++ [((V + k : Nat) : Int) + 1] = swN V (k + 1) := by
 unfold swN
 rw [List.range_succ, List.map_append]
 rfl
theorem swN_get {V k j : Nat} (h : j < k) : (swN V k)[j + 1]! = ((V + j + 1 : Nat) : Int) := by
 simp [swN, h]
theorem swN_in {V k : Nat} {g : Int} (h0 : 1 ≤ g) (h1 : g ≤ k) : (swN V k)[g.toNat]! = (V : Int) + g := by
 obtain ⟨j, rfl⟩ : ∃ j : Nat, g = ((j + 1 : Nat) : Int) := ⟨g.toNat - 1, by omega⟩
 rw [Int.toNat_natCast, swN_get (by omega)]
 omega
theorem swN_lack {V k : Nat} {g : Int} (h0 : 0 ≤ g) (h1 : g ≤ k) : glack (swN V k) g = false := by
 obtain ⟨j, rfl⟩ : ∃ j : Nat, g = (j : Int) := ⟨g.toNat, by omega⟩
 refine glack_no (by rw [swN_len]; omega) fun h2 => ?_
 have := swN_in (V := V) (k := k) (g := (j : Int)) (by omega) h1
 rw [Int.toNat_natCast] at this
 rw [this]
 omega
theorem gon_in {V k : Nat} {gs : List Int} (h : ∀ g ∈ gs, 0 ≤ g ∧ g ≤ k) : InR (V + k) (gon (swN V k) gs) := by
 intro x hx
 unfold gon at hx
 obtain ⟨g, h1, rfl⟩ := List.mem_map.1 hx
 obtain ⟨h2, h3⟩ := List.mem_filter.1 h1
 have h4 := of_decide_eq_true h3
 obtain ⟨_, h5⟩ := h g h2
 rw [swN_in (by omega) h5]
 omega
theorem gon_sub {sw gs gs' : List Int} (h : ∀ g ∈ gs, g ∈ gs') : ∀ u ∈ gon sw gs, u ∈ gon sw gs' := by
 intro u hu
 unfold gon at hu ⊢
 obtain ⟨g, h1, rfl⟩ := List.mem_map.1 hu
 obtain ⟨h2, h3⟩ := List.mem_filter.1 h1
 exact List.mem_map.2 ⟨g, List.mem_filter.2 ⟨h g h2, h3⟩, rfl⟩
def GtP (F : (Nat → Bool) → Prop) (V k U W : Nat) (gs us : List Int) (X : List Nat) (w0 w : World) (la a : Nat) (A : Option Addr) (c : Nat) (e : Ending) (w' : World) : Prop :=
 ∃ (S' : Sv) (r : Int), Sv.Kept F (V + k) (U + 2) W S' ∧ GaP (.int .i64 r) S' X w0 la a A c (swN V k) e w' ∧ Stay X w w' ∧
  ((r = 0 ∧ (us.any (gown (swN V k)) = true ∨ us.any (offB (V + k : Nat)) = true)) ∨ (us.any (gown (swN V k)) = false ∧ us.any (offB (V + k : Nat)) = false ∧ Sv.Ans (gon (swN V k) gs ++ us) F (V + k) S' r))
theorem gtells_calls {X : List Nat} {w0 w : World} {L : SvL} {S : Sv} {a : Nat} {A : Option Addr} {c : Nat} {V k : Nat} (h : GsAt X w0 w L S a A c (swN V k)) {F : (Nat → Bool) → Prop} {U W : Nat} (kp : Sv.Kept F (V + k) U W S) (h9 : V + k ≤ 9) (hU : U ≤ 137438953472) (hW : W ≤ 137438953472)
  (B : Option Addr) (cb : Nat) (gs : List Int) (hgs : Rd w B gs) (hgra : Ra gs) (hgl : gs.length ≤ 3) (hgk : ∀ g ∈ gs, 0 ≤ g ∧ g ≤ k)
  (Al : Option Addr) (cl : Nat) (us : List Int) (hu : Rd w Al us) (hra : Ra us) (hn : Al = none → us.length = 0 ∧ cl = 0) (hul : us.length ≤ 549755813888) :
  Calls Try.prog 8 #[.pointer (some ⟨a, 0, none⟩), .int .i64 1099511627776, .slice B gs.length cb, .slice Al us.length cl] w (GtP F V k U W gs us X w0 w L.a a A c) := by
 have hgk2 : ∀ g ∈ gs, glack (swN V k) g = false := fun g hg => swN_lack (hgk g hg).1 (hgk g hg).2
 have hgo := gon_len (swN V k) gs
 cases ho : us.any (gown (swN V k)) with
 | true =>
  refine (gsolve_owned h B cb gs hgs hgra hgl hgk2 Al cl us hu hra (by omega) ho 1099511627776).mono ?_
  rintro e w' ⟨rfl, hf⟩
  exact ⟨S, 0, kp.up (by omega) (Nat.le_refl _), ⟨rfl, L, rfl, h.keep hf⟩, Stay.of hf, .inl ⟨rfl, .inl ho⟩⟩
 | false =>
  have hus : S.used < 4611686018427387904 := by have := kp.used; omega
  cases hr : us.any (offB (V + k : Nat)) with
  | true =>
   have hQ : S.solveW false 1099511627776 (gon (swN V k) gs ++ us) 0 0 (fun S' r => (S', r) = (S.fresh0, 0)) := by
    unfold Sv.solveW
    rw [if_pos (by rw [kp.vars, List.any_append, hr]; simp)]
   refine (gsolve_calls h false (fun h => by cases h) kp.inv.ok B cb gs hgs hgra hgl hgk2 Al cl us hu hra hn hul ho 1099511627776 0 0 _ hus hQ).mono ?_
   rintro e w' ⟨S', r, hq, -, h1, h2⟩
   simp only [Prod.mk.injEq] at hq
   obtain ⟨rfl, rfl⟩ := hq
   exact ⟨_, 0, kp.fresh0.up (by omega) (Nat.le_refl _), h1, h2, .inl ⟨rfl, .inr hr⟩⟩
  | false =>
   have hz : InR (V + k) (gon (swN V k) gs ++ us) := fun x hx => by
    rcases List.mem_append.1 hx with h1 | h1
    ·exact gon_in hgk x h1
    ·exact off_in hra hr x h1
   refine (gsolve_calls h true (fun _ => reduce_calls) kp.inv.ok B cb gs hgs hgra hgl hgk2 Al cl us hu hra hn hul ho 1099511627776 21 68722360330 _ hus (Sv.solve_told kp h9 (by omega) (by omega) hz (by rw [List.length_append]; omega))).mono ?_
   rintro e w' ⟨S', r, hq, -, h1, h2⟩
   exact ⟨S', r, hq.1, h1, h2, .inr ⟨ho, hr, hq.2.2⟩⟩
end Go.Proofs.Ytjchilcpflfcnaa
