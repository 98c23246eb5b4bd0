/- Parts of a proof. -/
import Derived.Test.YtpjbaobgnhjgoaaGreatGAF
import Derived.Maps.OwnOps
import Derived.Maps.OwnSet
import Derived.Shelf.Abstract
set_option linter.unusedVariables false
set_option linter.unusedSimpArgs false
set_option maxHeartbeats 8000000
set_option maxRecDepth 100000
namespace Go.Proofs.YtpjbaobgnhjgoaaGreat
open Go.RowKit
theorem Wv (w : World) : (zeroValue 4).run Tryz.prog w = .ok (.bool false) w := by kernel_rfl
theorem IM {P : Program} {e : TypeId} (he : P.underlying e = some .bool) {v : Value} {z : DataW Unit × List MemPlace} (h : plainElem P e v = some z) : ∃ b : Bool, v = .bool b ∧ z = (.lit (.bool b), []) := by
 unfold plainElem at h
 rw [he] at h
 cases v <;> simp at h
 subst h
 exact ⟨_, rfl, rfl⟩
def Gt (w : World) (b n : Nat) (f : Int → Bool) : Prop := ∃ D : DataW Unit, w.ownsMap Tryz.prog 3 (plainElem Tryz.prog 4) b n D ∧ ∀ v, dB v → D.atKey (.int .i64 v) (.lit (.bool false)) = .lit (.bool (f v))
theorem Gt.lt {w : World} {b n : Nat} {f : Int → Bool} (h : Gt w b n f) : b < w.heap.size := by
 obtain ⟨D, h1, _⟩ := h
 exact h1.lt
theorem Gt.fr {w w' : World} {S : List Nat} {b n : Nat} {f : Int → Bool} (h : Gt w b n f) (hf : Fr S w w') (hn : b ∉ S) : Gt w' b n f := by
 have bM := h.lt
 obtain ⟨D, ⟨es, clock, hb, F, hs, hD⟩, h2⟩ := h
 exact ⟨D, ⟨es, clock, (hf.block b bM hn).trans hb, F, hs, hD⟩, h2⟩
theorem Gt.new (w : World) : Gt (w.alloc (.map #[] 0)) w.heap.size 0 (fun _ => false) :=
 ⟨.map [], World.ownsMap_made w _ _ _, fun v _ => rfl⟩
theorem Ha {P : Program} {k e t : TypeId} (K : Maps.Keyed P k) (ht : P.underlying t = some (.map k e)) (he : P.underlying e = some .bool) {w : World} (hz : (zeroValue e).run P w = .ok (.bool false) w) {b n : Nat} {D : DataW Unit}
  (h1 : w.ownsMap P k (plainElem P e) b n D) {key : Value} {kl : Lit} (T7 : keyOf P k key = some kl) {s : Bool} (h2 : D.atKey kl (.lit (.bool false)) = .lit (.bool s)) :
  (Instr.lookup t (.map (some b)) key false).run P w = .ok (.bool s) w := by
 obtain ⟨x, ps, hr, hx⟩ := h1.lookup K ht hz (plainElem_bool he false) T7
 obtain ⟨y, rfl, hz⟩ := IM he hx
 have h4 := (Prod.mk.inj hz).1
 refine hr.trans ?_
 have h5 : (DataW.lit (H := Unit) (.bool y)) = .lit (.bool s) := by rw [← h4]; exact h2
 injection h5 with h5
 injection h5 with h5
 rw [← h5]
theorem Gt.look {w : World} {b n : Nat} {f : Int → Bool} (h : Gt w b n f) {v : Int} (hv : dB v) :
  (Instr.lookup 181 (.map (some b)) (.int .i64 v) false).run Tryz.prog w = .ok (.bool (f v)) w := by
 obtain ⟨D, h1, h2⟩ := h
 exact Ha (Maps.int_keyed Tryz.underlying3) Tryz.underlying181 Tryz.underlying4 (Wv w) h1 (OW hv) (h2 v hv)
theorem OF {D : DataW Unit} (hD : Maps.IsMap D) {v x : Int} {d : DataW Unit} {f : Int → Bool} {s : Bool} (hd : d = .lit (.bool s)) (h : dB x → D.atKey (.int .i64 x) (.lit (.bool false)) = .lit (.bool (f x))) (hx : dB x) :
  (D.put (.int .i64 v) d).atKey (.int .i64 x) (.lit (.bool false)) = .lit (.bool (if x = v then s else f x)) := by
 by_cases e : x = v
 ·subst e
  rw [if_pos rfl, Maps.atKey_put_same hD (by simp [WideAt.IsKeyLit]), hd]
 ·rw [if_neg e, Maps.atKey_put_other (by simpa using e), h hx]
theorem eN {α : Type} [Inhabited α] {l : List α} {p : α → Prop} : (∀ j : Nat, j < l.length → p l[j]!) ↔ ∀ x ∈ l, p x := by
 constructor
 ·intro h x hx
  obtain ⟨j, hj, e⟩ := List.mem_iff_getElem.1 hx
  have := h j hj
  rwa [ae, af hj, e] at this
 ·intro h j hj
  exact h _ (by rw [ae, af hj]; simp)
theorem z6 (w : World) (A : Option Addr) (c : Nat) (xs : List Int) (n : Int) (h : Rd w A xs) (hr : Ra xs) (hl : xs.length ≤ 17592186044416) :
  Calls Tryz.prog 181 #[.slice A xs.length c, .int .i64 n] w (JO (xs.any (n == ·)) w) := by
 have HH := aa h
 have HR := aa hr
 have rI : Hid (∀ (k : Nat) W, k ≤ 17592186044416 → xs.any (n == ·) = true → Fr [] w W → JO (xs.any (n == ·)) w (.returned (.int .i64 (k : Int))) W) := fun k W h1 h2 h3 => ⟨k, rfl, by omega, by omega, by rw [h2]; exact decide_eq_true (by omega), h3⟩
 have NO : Hid (∀ W, xs.any (n == ·) = false → Fr [] w W → JO (xs.any (n == ·)) w (.returned (.int .i64 (-1))) W) := fun W h2 h3 => ⟨-1, rfl, by omega, by omega, by rw [h2]; rfl, h3⟩
 clear h hr
 go_enter Tryz.func181, Tryz.ntmps181
 go_wp2_with fail
 go_loopg [8] xs.length (fun g i wr => ∃ k : Nat, k + g = xs.length ∧ i = .int .i64 k ∧ Fr [] w wr ∧ ev xs (n == ·) k)
 case atStart => exact ⟨0, by omega, rfl, Fr.refl _ _, ev.zero _ _⟩
 case round =>
  obtain ⟨k, hk, rfl, hx, hn⟩ := hrel
  have HK := aa hk
  have HX := aa hx
  have HN := aa hn
  have j4 : k ≤ xs.length := by omega
  clear hk hx hn
  by_cases bM : k < xs.length
  ·obtain ⟨b, o, x, hA, he, cx, gP, iP⟩ := (HH.out.keep HX.out).one HR.out bM
   subst hA
   obtain ⟨q, HQ⟩ : ∃ q : Bool, Hid ((n == x) = q) := ⟨(n == x), aa rfl⟩
   have hq := HQ.out
   cases q with
   | true =>
    go_wp2_with fail
    go_ret
    exact rI.out k _ (by omega) (sY _ _ k bM (by rw [he.out]; exact HQ.out)) HX.out
   | false =>
    go_wp2_with fail
    go_roundg (gk - 1)
    case measure => have := HK.out; omega
    case rel => exact ⟨k + 1, by have := HK.out; omega, by go_num, HX.out, HN.out.step (by rw [he.out]; exact HQ.out)⟩
  ·have HT := aa (HN.out.all bM)
   clear HN HK
   go_wp2_with fail
   go_ret
   exact NO.out _ HT.out HX.out
theorem tE (w : World) (A : Option Addr) (c : Nat) (xs : List Int) (n : Int) (h : Rd w A xs) (hr : Ra xs) (hl : xs.length ≤ 17592186044416) :
  Calls Tryz.prog 165 #[.slice A xs.length c, .int .i64 n] w fun e w' => e = .returned (.bool (xs.any (n == ·))) ∧ Fr [] w w' := by
 have HC := aa (z6 w A c xs n h hr hl)
 clear h hr
 go_enter Tryz.func165, Tryz.ntmps165
 go_wp2_with fail
 refine HC.out.mono ?_
 rintro e w2 ⟨n, rfl, h1, h2, h3, hf⟩
 have H3 := aa h3
 have HF := aa hf
 clear h3 hf
 go_wp2_with fail
 go_ret
 exact ⟨by rw [← H3.out]; rfl, HF.out⟩
theorem Gt.store {w : World} {b n : Nat} {f : Int → Bool} (h : Gt w b n f) (hn : n < maxLen) {v : Int} (hv : dB v) (s : Bool) :
  ∃ w', (Instr.mapUpdate 181 (.map (some b)) (.int .i64 v) (.bool s)).run Tryz.prog w = .ok () w' ∧ Gt w' b (n + 1) (fun x => if x = v then s else f x) ∧ Fr [b] w w' := by
 obtain ⟨D, h1, h2⟩ := h
 obtain ⟨w', hr, g1, g2⟩ := h1.update (Maps.int_keyed Tryz.underlying3) Tryz.underlying181 hn (OW hv) (plainElem_bool Tryz.underlying4 s)
 exact ⟨w', hr, ⟨_, g1, fun x hx => OF h1.isMap rfl (fun hr => h2 x hr) hx⟩, (Fr.refl _ w).grown g2 (fun k hk => by cases hk; exact .inl (by simp))⟩
def oW (w : World) (b n : Nat) (l : List Int) : Prop := ∃ f, Gt w b n f ∧ ∀ x, f x = true ↔ x ∈ l
theorem oW.new (w : World) : oW (w.alloc (.map #[] 0)) w.heap.size 0 [] := ⟨_, Gt.new w, fun x => by simp⟩
theorem oW.look {w : World} {b n : Nat} {l : List Int} (h : oW w b n l) {v : Int} (hv : dB v) :
  (Instr.lookup 181 (.map (some b)) (.int .i64 v) false).run Tryz.prog w = .ok (.bool (decide (v ∈ l))) w := by
 obtain ⟨f, h1, h2⟩ := h
 have e : decide (v ∈ l) = f v := by
  rw [Bool.eq_iff_iff, decide_eq_true_iff]
  exact (h2 v).symm
 rw [e]
 exact h1.look hv
theorem oW.store {w : World} {b n : Nat} {l : List Int} (h : oW w b n l) (hn : n < maxLen) {v : Int} (hv : dB v) :
  ∃ w', (Instr.mapUpdate 181 (.map (some b)) (.int .i64 v) (.bool true)).run Tryz.prog w = .ok () w' ∧ oW w' b (n + 1) (v :: l) ∧ Fr [b] w w' := by
 obtain ⟨f, h1, h2⟩ := h
 obtain ⟨w', hr, g1, g2⟩ := h1.store hn hv true
 refine ⟨w', hr, ⟨_, g1, fun x => ?_⟩, g2⟩
 simp only [ay]
 by_cases e : x = v
 ·simp [e]
 ·rw [if_neg e, h2 x]
  simp [e]
theorem oW.fr {w w' : World} {S : List Nat} {b n : Nat} {l : List Int} (h : oW w b n l) (hf : Fr S w w') (hn : b ∉ S) : oW w' b n l := by
 obtain ⟨f, h1, h2⟩ := h
 exact ⟨f, h1.fr hf hn, h2⟩
theorem oW.keep {w w' : World} {b n : Nat} {l : List Int} (h : oW w b n l) (hf : Fr [] w w') : oW w' b n l := h.fr hf (by simp)
theorem oW.congr {w : World} {b n : Nat} {l l' : List Int} (h : oW w b n l) (he : ∀ x, x ∈ l ↔ x ∈ l') : oW w b n l' := by
 obtain ⟨f, h1, h2⟩ := h
 exact ⟨f, h1, fun x => (h2 x).trans (he x)⟩
theorem oW.lt {w : World} {b n : Nat} {l : List Int} (h : oW w b n l) : b < w.heap.size := by
 obtain ⟨f, h1, h2⟩ := h
 exact h1.lt
theorem aK.Ur {w : World} {L : aH} {S : Sv} (h : aK w L S) {k : Nat} (hk : L.has k) : k < w.heap.size := by
 rcases hk with rfl | hk | hk | hk | hk | hk | hk | hk | ⟨n, hn, hk⟩ | ⟨c, hc, hk⟩
 ·exact h.obj.lt
 ·exact h.tr.lt k hk
 ·exact h.hp.lt k hk
 ·exact di h.sG k hk
 ·exact di h.rws k hk
 ·exact di h.sE k hk
 ·exact di h.vh k hk
 ·exact h.rV.lt k hk
 ·exact (h.nK n hn).lt k hk
 ·exact (h.pN c hc).lt k hk
def aH.seal (L : aH) (w : World) : aH := { L with cv := fun k => if k < w.heap.size then L.cv k else (L.id + 1, 0, 0) }
theorem aK.seal {w : World} {L : aH} {S : Sv} (h : aK w L S) : aK w (L.seal w) S := h.FE _ (fun k hk => if_pos (h.Ur hk))
theorem aH.kq (L : aH) (w : World) : L.ext (L.seal w) w := ⟨rfl, rfl, fun k hk e => by
 simp only [aH.seal] at e
 rwa [if_pos hk] at e⟩
theorem aH.gJ {L : aH} {w : World} {k : Nat} (h : w.heap.size ≤ k) : ((L.seal w).cv k).1 ≠ (L.seal w).id := by
 simp only [aH.seal]
 rw [if_neg (by omega)]
 simp
theorem aH.tD {L : aH} {w : World} {k : Nat} (h : k < w.heap.size) : (L.seal w).cv k = L.cv k := by
 simp only [aH.seal]
 rw [if_pos h]
def aH.fy (L : aH) (A : Option Addr) : Prop := ∀ k, k ∈ ah A → (L.cv k).1 ≠ L.id
theorem aH.lo {L : aH} {w : World} {k : Nat} (h : (L.cv k).1 ≠ L.id) : k ∉ L.own w := fun hm => h (aH.bI.1 hm).2
theorem Rd.frF {w w' : World} {A : Option Addr} {xs : List Int} {F : List Nat} (h : Rd w A xs) (hf : Fr F w w') (hn : ∀ k, k ∈ ah A → k ∉ F) : Rd w' A xs := by
 intro h0
 obtain ⟨b, o, rfl, hx⟩ := h h0
 exact ⟨b, o, rfl, fun j hj => hf.aZ (hn b (by simp [ah])) (hx j hj)⟩
theorem Rd.blk {w : World} {A : Option Addr} {xs : List Int} (h : Rd w A xs) (h0 : 0 < xs.length) : ∀ k, k ∈ ah A → k < w.heap.size := by
 obtain ⟨b, o, rfl, hx⟩ := h h0
 intro k hk
 simp [ah] at hk
 subst hk
 exact bt (hx 0 h0)
theorem aK.mY {w w1 : World} {L : aH} {S : Sv} (h : aK w L S) {A' : Option Addr} {c' : Nat} {F : List Nat} {ls : List Int} (hi : Ints w1 A' c' ls) (hf : Fr F w w1) (hF : ∀ k, k ∈ F → k < w.heap.size → L.cv k = (L.id, 7, 0))
  (hA : ∀ k, k ∈ ah A' → (k < w.heap.size ∧ L.cv k = (L.id, 7, 0)) ∨ w.heap.size ≤ k) :
  ∃ L', aK (w1.setCell ⟨L.a, 7, none⟩ (.slice A' ls.length c')) L' { S with core := ls } ∧ L.ext L' w ∧ Fr (L.own w) w (w1.setCell ⟨L.a, 7, none⟩ (.slice A' ls.length c')) ∧ L' = { L with oA := A', oC := c', cv := L.re w (7, 0) } := by
 have cd : Fr (L.a :: F) w (w1.setCell ⟨L.a, 7, none⟩ (.slice A' ls.length c')) := (hf.mono (fun k hk => .inl (by simp [hk]))).setCell (.inl (by simp)) _
 have zw : ∀ k, k ∈ L.a :: F → k < w.heap.size → ∃ t, (t = (7, 0) ∨ t = (0, 0)) ∧ L.cv k = (L.id, t) := by
  intro k hk hl
  rcases ay.1 hk with rfl | hk
  ·exact ⟨_, .inr rfl, h.t0⟩
  ·exact ⟨_, .inl rfl, hF k hk hl⟩
 have o := h.off (P := fun t => t = (7, 0) ∨ t = (0, 0)) cd zw
 have o1 := h.off (P := (· = (7, 0))) hf (fun k hk hl => ⟨_, rfl, hF k hk hl⟩)
 have g := h.tags (7, 0)
 have dN : L.a ∉ ah A' := fun hk => by
  rcases hA _ hk with ⟨_, h2⟩ | h2
  ·rw [h.t0] at h2; simp at h2
  ·have := h.obj.lt; omega
 refine ⟨{ L with oA := A', oC := c', cv := L.re w (7, 0) }, ⟨?_, o.tr (by simp), o.hp (by simp), h.gy, h.yP, h.yN, o.sG (by simp), o.rws (by simp), o.sE (by simp), o.vh (by simp), ?_, fun n hn => o.nK n hn (by simp), fun c hc => o.pN c hc (by simp),
  g.t0, g.t1, g.t2, g.t3, g.t4, g.t5, g.t6, fun k hk => aH.lj (hA k hk), g.t8, g.t9⟩, ⟨rfl, rfl, fun k hk e => aH.mE hk e⟩, aH.fE cd (fun k hk hl => by obtain ⟨t, _, e⟩ := zw k hk hl; rw [e]), rfl⟩
 ·have := (o1.obj (by simp)).cV 7 (.slice A' ls.length c')
  simpa [m7] using this
 ·exact hi.fy (p := ⟨L.a, 7, none⟩) dN _
theorem Sv.Ok.mY {S : Sv} {m : Nat} (ok : S.Ok m) (l : List Int) : ({ S with core := l } : Sv).Ok m := ⟨ok.vl, ok.tr, ok.hi, ok.hl, ok.ph, ok.wl, ok.ll, ok.wb, ok.wt, ok.lr, ok.ln, ok.lb, ok.hd, ok.rs⟩
theorem JZ {x : Int} {v : Nat} (h0 : -(v : Int) ≤ x) (h1 : x ≤ v) (hv : v ≤ 262143) : 0 ≤ tv x ∧ tv x ≤ v := by
 unfold tv
 split <;> omega
theorem tT {x : Int} {v : Nat} (h0 : -(v : Int) ≤ x) (h1 : x ≤ v) (hv : v ≤ 262143) : (if x < -x then -x else x) = tv x ∧ IntKind.i64.wrap (-x) = -x := ⟨Dh (by omega), IntWalk.i64_in _ (by omega)⟩
namespace Sv
theorem rG {S : Sv} {l : Int} {r g met : List Int} (h : tv l ∉ g ∨ S.T.cK (tv l) = 0) : dP S (l :: r) g met = dP S r g met := by
 rw [dP, if_pos h]
theorem EM {S : Sv} {l : Int} {r g met : List Int} (h : tv l ∈ g) (h1 : S.T.cK (tv l) ≠ 0) (h2 : S.T.eD (tv l) - 1 < 0) : dP S (l :: r) g met = dP S r g (l :: met) := by
 rw [dP, if_neg (by rintro (x | x); exact x h; exact h1 x), if_pos h2]
theorem IT {S : Sv} {l : Int} {r g met : List Int} (h : tv l ∈ g) (h1 : S.T.cK (tv l) ≠ 0) (h2 : ¬ S.T.eD (tv l) - 1 < 0) : dP S (l :: r) g met = dP S r ((S.rc (S.T.eD (tv l) - 1).toNat).lits.map tv ++ g) met := by
 rw [dP, if_neg (by rintro (x | x); exact x h; exact h1 x), if_neg h2]
end Sv
theorem yp {l : List Int} {j : Nat} (hj : j < l.length) (g : List Int) (x : Int) : x ∈ tv l[j]! :: ((l.take j).map tv ++ g) ↔ x ∈ (l.take (j + 1)).map tv ++ g := by
 rw [List.take_add_one, af hj, eI]
 simp only [ae, af hj, aq, bP, aj, ay, dW, fX, cG, or_false]
 constructor
 ·rintro (h | h | h)
  ·exact .inl (.inr h)
  ·exact .inl (.inl h)
  ·exact .inr h
 ·rintro ((h | h) | h)
  ·exact .inr (.inl h)
  ·exact .inl h
  ·exact .inr (.inr h)
theorem BW (w : World) (L : aH) (S : Sv) (h : aK w L S) (m : Nat) (ok : S.Ok m) (a : Int) (V8 : -(S.vars : Int) ≤ a) (V7 : a ≤ S.vars) (A : Option Addr) (c : Nat) (us : List Int) (hi : Rd w A us) (oP : ∀ x ∈ us, -(S.vars : Int) ≤ x ∧ x ≤ S.vars) (hal : us.length ≤ 1099511627776) (Yo : L.fy A) (iX : S.core = []) :
  Calls Tryz.prog 142 #[.pointer (some ⟨L.a, 0, none⟩), .int .i64 a, .slice A us.length c] w (me (.tuple #[]) (S.BX a us) L w) := by
 have nT := ok.vl
 obtain ⟨N7, Qp⟩ : ∃ N7, Sv.dP S S.T.lits.reverse [tv a] [a] = N7 := ⟨_, rfl⟩
 obtain ⟨RC, hRC⟩ : ∃ RC, Sv.jF N7 us S.core = RC := ⟨_, rfl⟩
 have co : S.BX a us = { S with core := RC } := by
  unfold Sv.BX
  rw [Qp, hRC]
 rw [co]
 have l8 : Hid (∀ W L', aK W L' { S with core := RC } → L.ext L' w → Fr (L.own w) w W → me (.tuple #[]) { S with core := RC } L w (.returned (.tuple #[])) W) := fun W L' g1 g2 g3 => ⟨rfl, L', g1, g2, g3⟩
 have vO := @run_makeMap Tryz.prog
 obtain ⟨va, Tc⟩ : ∃ va, tv a = va := ⟨_, rfl⟩
 obtain ⟨oQ, lO⟩ := tT V8 V7 nT
 have vM := JZ V8 V7 nT
 rw [Tc] at oQ vM Qp
 obtain ⟨w1, FS, lX, cE⟩ := (oW.new w).store (v := va) (by decide) ⟨by omega, by omega⟩
 have dv : Hid (Fr [] w w1) := ((Fr.refl [] w).alloc _).trans cE (fun k hk => by simp at hk; subst hk; exact .inr (ao _))
 obtain ⟨w2, RB, rr, cd⟩ := (oW.new w1).store (v := a) (by decide) ⟨by omega, by omega⟩
 have ZU : Hid (Fr [] w1 w2) := ((Fr.refl [] w1).alloc _).trans cd (fun k hk => by simp at hk; subst hk; exact .inr (ao _))
 have cJ : Hid (Fr [] w w2) := dv.out.ag ZU.out
 have JT := aa (lX.keep ZU.out)
 have E7 := aa rr
 have kX : w.heap.size < w1.heap.size := lX.lt
 have Oc := aa kX
 obtain ⟨bm, IA⟩ : ∃ bm, w1.heap.size = bm := ⟨_, rfl⟩
 obtain ⟨bg, Me⟩ : ∃ bg, w.heap.size = bg := ⟨_, rfl⟩
 rw [IA] at kX RB E7
 rw [Me] at kX FS JT
 have HH := aa h
 have kQ := aa ok
 have Zy := aa Qp
 have Sh := aa hRC
 have HBG := aa Me
 have HBM := aa IA
 have CG := aa kX
 have HI := aa hi
 have vz := aa oP
 have ZS := aa Yo
 have HCO := aa iX
 obtain ⟨c0, -, -, c3, -⟩ := h.cells
 have th := aa c0
 have Ci := aa c3
 have Nr := aa ok.gq
 have c0 := cJ.out.av th.out
 have KL := aa (jk w2 L.tL S.T (h.tr.fr cJ.out (by simp)))
 have vq := ok.gq
 have AV := h.lU
 have alM := ok.ll
 have dT : Hid (∀ x, ∀ n : Nat, ∀ k, x = S.T.lits[k]! → k < S.T.lits.length → n = n) := fun _ _ _ _ _ => rfl
 clear cE cd lX rr c3 h ok Qp hRC hi oP Yo iX V8 V7 Tc co dT
 go_enter Tryz.func142, Tryz.ntmps142
 go_wp2_with fail
 refine KL.out.mono ?_
 clear KL
 rintro e w3 ⟨rfl, rfl⟩
 clear FS RB c0 oQ lO
 have ep : IntKind.i64.wrap ((S.T.lits.length : Int) - 1) = (S.T.lits.length : Int) - 1 := IntWalk.i64_in _ (by omega)
 go_wp2_with fail
 clear ep
 go_loopg [8] S.T.lits.length (fun g x8 wr => ∃ (n1 n2 : Nat) (g1 jw : List Int), g ≤ S.T.lits.length ∧ x8 = .int .i64 ((g : Int) - 1) ∧ Hid (Sv.dP S (S.T.lits.take g).reverse g1 jw = N7) ∧ Hid (oW wr bg n1 g1) ∧ Hid (oW wr bm n2 jw) ∧ n1 + 1048577 * g ≤ 300000000000 ∧ n2 + g ≤ 262145 ∧ Hid (Fr [] w wr))
 case atStart => exact ⟨1, 1, [va], [a], ao _, rfl, by show _ = _; rw [fO]; exact Zy.out, JT.out, E7.out, by omega, by omega, cJ.out⟩
 case round =>
  obtain ⟨n1, n2, g1, jw, hk, rfl, HB, HG, HT, jZ, se, HF⟩ := hrel
  have rM := aa jZ
  have jp := aa se
  clear jZ se
  cases gk with
  | zero =>
   have HME : Hid (jw = N7) := by
    have := HB.out
    show _ = _
    simpa [Sv.dP] using this
   clear HB rM HG
   go_wp2_with fail
   have H1 := aa (HH.out.seal.keep HF.out)
   have dV := aa (L.kq w)
   have ZR : Hid (Fr (L.own w) w wr) := HF.out.mono (fun k hk => by cases hk)
   have vc : Hid (((L.seal w).cv bm).1 ≠ (L.seal w).id) := aH.gJ (by have := CG.out; have := HBG.out; omega)
   have oY := aa (HI.out.keep HF.out)
   have ZT : Hid ((L.seal w).fy A) := fun k hk => by
    rcases bl k w.heap.size with h1 | h1
    ·rw [aH.tD h1]; exact ZS.out k hk
    ·exact aH.gJ h1
   have PT := HME.out
   subst PT
   have HSC : Hid (({ S with core := [] } : Sv) = S) := (congrArg (fun l => ({ S with core := l } : Sv)) HCO.out).symm
   have Vb : Hid (Ra us) := (eN (p := dB)).2 fun x hx => by
    have := vz.out x hx
    constructor <;> omega
   have af3 : Hid (Sv.jF jw us [] = RC) := by
    have := Sh.out
    rw [HCO.out] at this
    exact this
   clear HF HI ZS Zy JT E7 th Ci Sh HME
   go_loopg [90] us.length (fun g x90 wi => ∃ (k : Nat) (c1 : List Int) (L1 : aH), k + g = us.length ∧ x90 = .int .i64 k ∧ Hid (Sv.jF jw (us.drop k) c1 = RC) ∧ Hid (aK wi L1 { S with core := c1 }) ∧ Hid (L.ext L1 w) ∧ Hid (Fr (L.own w) w wi) ∧ Hid (oW wi bm n2 jw) ∧ Hid ((L1.cv bm).1 ≠ L1.id) ∧ Hid (Rd wi A us) ∧ Hid (L1.fy A) ∧ c1.length ≤ k ∧ Hid (Ra c1))
   case atStart => exact ⟨0, [], L.seal w, by omega, rfl, af3.out, HSC.out.symm ▸ H1.out, dV.out, ZR.out, HT.out, vc.out, oY.out, ZT.out, ao _, fun j hj => absurd hj (aG _)⟩
   case round =>
    obtain ⟨k, c1, L1, hk, rfl, HB, H2, cL, NI, JR, QT, qi, Q1, qh, Je⟩ := hrel
    have HK := aa hk
    have nH : k ≤ us.length := by omega
    clear hk
    by_cases bM : k < us.length
    ·obtain ⟨b, o, x, hA, he, cx, gP, iP⟩ := qi.out.one Vb.out bM
     subst hA
     have vv : us.drop k = x :: us.drop (k + 1) := by
      rw [List.drop_eq_getElem_cons bM, ← he.out]
      simp only [ae, af bM, aq]
     have Wq := aa vv
     have jb := JR.out.look (v := x) ⟨gP, iP⟩
     clear vv
     by_cases hm : x ∈ jw
     ·have pJ : decide (x ∈ jw) = true := decide_eq_true hm
      rw [pJ] at jb
      have HM := aa hm
      obtain ⟨-, -, -, -, -, -, -, c7, -⟩ := H2.out.cells
      rw [cL.out.1] at c7
      simp only at c7
      have HC7 := aa c7
      have KC := aa (tE wr L1.oA L1.oC c1 x H2.out.rV.rd Je.out (by omega))
      obtain ⟨q, hq⟩ : ∃ q, c1.any (x == ·) = q := ⟨_, rfl⟩
      rw [hq] at KC
      have HQ := aa hq
      clear hm pJ hq
      go_wp2_with fail
      refine KC.out.mono ?_
      clear KC jb cx c7
      rintro e w3 ⟨rfl, hf⟩
      have cR := aa hf
      have c7 := cR.out.av HC7.out
      clear hf
      cases q with
      | true =>
       have wy : Hid (Sv.jF jw (us.drop (k + 1)) c1 = RC) := by
        have := HB.out
        rw [Wq.out, Sv.jF, if_neg (by
         rintro ⟨_, h2⟩
         have := HQ.out
         rw [List.any_eq_true] at this
         obtain ⟨y, gx, kg⟩ := this
         exact h2 ((beq_iff_eq.1 kg) ▸ gx))] at this
        exact this
       clear c7
       go_wp2_with fail
       go_roundg (gk - 1)
       case measure => have := HK.out; omega
       case rel => exact ⟨k + 1, c1, L1, by have := HK.out; omega, by go_num, wy.out, H2.out.keep cR.out, cL.out, NI.out.ag (cR.out.mono (fun k hk => by cases hk)), JR.out.keep cR.out, QT.out, qi.out.keep cR.out, Q1.out, by omega, Je.out⟩
      | false =>
       have wy : Hid (Sv.jF jw (us.drop (k + 1)) (c1 ++ [x]) = RC) := by
        have := HB.out
        rw [Wq.out, Sv.jF, if_pos ⟨HM.out, by
         intro h2
         have := HQ.out
         rw [List.any_eq_false] at this
         exact this x h2 (beq_self_eq_true x)⟩] at this
        exact this
       have H3 := aa (H2.out.keep cR.out)
       have XR : L.a ∉ ah L1.oA := fun hm => by
        have e1 := H2.out.t7 _ hm
        rw [← cL.out.1, H2.out.t0] at e1
        simp at e1
       have HN7 := aa XR
       have CL : Hid (Fr [] w3 (w3.alloc (.cells #[.int .i64 x] 3))) := aP _ _
       have NP : Hid ((w3.alloc (.cells #[.int .i64 x] 3)).cell? ⟨w3.heap.size, 0, none⟩ = some (.int .i64 x)) := (At.new w3 _ _).cell 0
       have Nx := aa (H3.out.rV.eE CL.out)
       have Gw : Hid (∀ w5, Fr (ah L1.oA) (w3.alloc (.cells #[.int .i64 x] 3)) w5 → w5.cell? ⟨L.a, 7, none⟩ = some (.slice L1.oA c1.length L1.oC) ∧ w5.frozen? ⟨L.a, 7, none⟩ = false) := fun w5 dK => by
        have c7' := CL.out.av (cR.out.av HC7.out)
        have f7 := (H3.out.keep CL.out).obj.frozen 7
        rw [cL.out.1] at f7
        exact ⟨dK.aZ HN7.out c7', (World.frozen?_of_block (dK.block L.a (bt c7') HN7.out)).trans f7⟩
       have Qj : c1.length < 17592186044416 := by omega
       have Ss := aa Qj
       clear XR Qj
       go_wp2_with (at_builtin; (refine cM _ rfl _ _ rfl L1.oA L1.oC c1 _ rfl rfl Nx.out ⟨w3.heap.size, 0, none⟩ 1 x rfl NP.out Ss.out ?_; intro g5 UF w5 sO dK JI hs5; obtain ⟨s7, f7⟩ := Gw.out w5 dK))
       have Yr : Fr (ah L1.oA) w3 w5 := (CL.out.mono (fun k hk => by cases hk)).ag dK
       obtain ⟨L6, h6, LX, fZ, hL6⟩ := H3.out.mY sO Yr (fun k hk hl => H3.out.t7 k hk) (fun k hk => by
        simp [ah] at hk
        subst hk
        rcases JI with h5 | h5
        ·exact .inl ⟨H3.out.rV.lt _ h5, H3.out.t7 _ h5⟩
        ·right
         rw [h5]
         simp)
       rw [cL.out.1, ai, bu] at h6 fZ
       have H6 := aa h6
       have Xy : w.heap.size ≤ w3.heap.size := aE NI.out.size cR.out.size
       have n9 := aa (aH.aM cL.out LX Xy)
       have iG := aa (aH.aI cL.out (NI.out.ag (cR.out.mono (fun k hk => by cases hk))) fZ)
       have hb3 : bm < w3.heap.size := aQ JR.out.lt cR.out.size
       have HT6 := aa ((JR.out.keep cR.out).fr fZ (aH.lo QT.out))
       have agl : Hid ((L6.cv bm).1 ≠ L6.id) := by
        show _ ≠ _
        rw [hL6]
        simp only
        rw [aH.ge hb3]
        exact QT.out
       have lM := aa ((qi.out.keep cR.out).frF fZ (fun k hk => aH.lo (Q1.out k hk)))
       have agP : Hid (L6.fy (some ⟨b, o, none⟩)) := fun k hk => by
        rw [hL6]
        simp only
        rw [aH.ge ((qi.out.keep cR.out).blk (by omega) k hk)]
        exact Q1.out k hk
       have af4 : Hid (Ra (c1 ++ [x])) := (eN (p := dB)).2 fun y hy => by
        rcases aj.1 hy with h5 | h5
        ·exact (eN (p := dB)).1 Je.out y h5
        ·simp at h5; rw [h5]; exact ⟨gP, iP⟩
       clear h6 LX fZ hL6 Yr sO dK JI hs5 hb3 Xy s7 f7
       go_roundg (gk - 1)
       case measure => have := HK.out; omega
       case rel => exact ⟨k + 1, c1 ++ [x], L6, by have := HK.out; omega, by go_num, wy.out, H6.out, n9.out, iG.out, HT6.out, agl.out, lM.out, agP.out, by simp; omega, af4.out⟩
     ·have pJ : decide (x ∈ jw) = false := decide_eq_false hm
      rw [pJ] at jb
      have wy : Hid (Sv.jF jw (us.drop (k + 1)) c1 = RC) := by
       have := HB.out
       rw [Wq.out, Sv.jF, if_neg (fun h => hm h.1)] at this
       exact this
      clear hm pJ
      go_wp2_with fail
      go_roundg (gk - 1)
      case measure => have := HK.out; omega
      case rel => exact ⟨k + 1, c1, L1, by have := HK.out; omega, by go_num, wy.out, H2.out, cL.out, NI.out, JR.out, QT.out, qi.out, Q1.out, by omega, Je.out⟩
    ·obtain rfl : k = us.length := by omega
     have HFN : Hid (c1 = RC) := by
      have := HB.out
      rw [List.drop_length] at this
      exact this
     have Ui := HFN.out
     subst Ui
     have FF := aa (l8.out _ L1 H2.out cL.out NI.out)
     clear HB HK
     go_wp2_with fail
     go_end0
     exact FF.out
  | succ i =>
   have sN : i < S.T.lits.length := by omega
   obtain ⟨gP, iP, Le, Ld, VQ⟩ := kQ.out.mZ sN
   obtain ⟨l, hl⟩ : ∃ l, S.T.lits[i]! = l := ⟨_, rfl⟩
   rw [hl] at gP iP Le Ld VQ
   have HL := aa hl
   obtain ⟨v, hv⟩ : ∃ v, tv l = v := ⟨_, rfl⟩
   obtain ⟨oQ, lO⟩ := tT Le Ld nT
   rw [hv] at oQ gP iP
   have HV := aa hv
   have Qk : ((i + 1 : Nat) : Int) - 1 = (i : Int) := by omega
   have c0 := HF.out.av th.out
   have KA := aa (jq wr L.tL S.T (HH.out.tr.fr HF.out (by simp)) (i : Int))
   rw [nu sN, hl] at KA
   have dG : Hid (Sv.dP S (l :: (S.T.lits.take i).reverse) g1 jw = N7) := by
    have := HB.out
    rw [pk sN, hl] at this
    exact this
   rw [Qk]
   clear HB hl hv
   go_wp2_with fail
   refine KA.out.mono ?_
   clear KA
   rintro e w4 ⟨rfl, rfl⟩
   by_cases hg : v ∈ g1
   ·have jb := HG.out.look (v := v) ⟨by omega, by omega⟩
    have pJ : decide (v ∈ g1) = true := decide_eq_true hg
    rw [pJ] at jb
    have HGM := aa hg
    clear hg pJ
    have KV := aa (im wr L.tL S.T (HH.out.tr.fr HF.out (by simp)) v)
    obtain ⟨lv, oD⟩ : ∃ lv, S.T.cK v = lv := ⟨_, rfl⟩
    rw [oD] at KV
    have Vi := aa oD
    clear oD
    go_wp2_with fail
    refine KV.out.mono ?_
    clear KV
    rintro e w5 ⟨rfl, rfl⟩
    clear jb oQ lO
    by_cases hz : lv = 0
    ·have hd : (lv == 0) = true := by simp [hz]
     have U8 : Hid (Sv.dP S (S.T.lits.take i).reverse g1 jw = N7) := by
      have := dG.out
      rw [Sv.rG (.inr (by rw [HV.out, Vi.out]; exact hz))] at this
      exact this
     clear hz
     go_wp2_with fail
     go_roundg i
     case measure => omega
     case rel => exact ⟨n1, n2, g1, jw, by omega, rfl, U8.out, HG.out, HT.out, by have := rM.out; omega, by have := jp.out; omega, HF.out⟩
    ·have hd : (lv == 0) = false := by simp [hz]
     have ja := kQ.out.rs v
     have KR := aa (i5 wr L.tL S.T (HH.out.tr.fr HF.out (by simp)) v)
     obtain ⟨r, hr⟩ : ∃ r : Nat, S.T.eD v = r := ⟨(S.T.eD v).toNat, by omega⟩
     rw [hr] at KR ja
     have HR := aa hr
     clear hr
     cases r with
     | zero =>
      obtain ⟨w6, lV, RM, fZ⟩ := HT.out.store (v := l) (by have := jp.out; unfold maxLen; omega) ⟨by omega, by omega⟩
      have iG : Hid (Fr [] wr w6 → True) := fun _ => trivial
      have U8 : Hid (Sv.dP S (S.T.lits.take i).reverse g1 (l :: jw) = N7) := by
       have := dG.out
       rw [Sv.EM (by rw [HV.out]; exact HGM.out) (by rw [HV.out, Vi.out]; exact hz) (by rw [HV.out, HR.out]; omega)] at this
       exact this
      have HM6 := aa RM
      have HG6 := aa (HG.out.fr fZ (by simp; have := CG.out; omega))
      have Vt : Hid (Fr [] w w6) := HF.out.trans fZ (fun k hk => by simp at hk; subst hk; right; have := CG.out; have := HBG.out; omega)
      clear RM fZ hz
      go_wp2_with fail
      refine KR.out.mono ?_
      clear KR
      rintro e w5 ⟨rfl, rfl⟩
      go_wp2_with fail
      go_roundg i
      case measure => omega
      case rel => exact ⟨n1, n2 + 1, g1, l :: jw, by omega, rfl, U8.out, HG6.out, HM6.out, by have := rM.out; omega, by have := jp.out; omega, Vt.out⟩
     | succ n =>
      have oz : n < S.list.length := by omega
      have ep : IntKind.i64.wrap (((n + 1 : Nat) : Int) - 1) = (n : Int) := by rw [IntKind.wrap_i64]; omega
      have sS : decide ((n : Int) < 0) = false := decide_eq_false (by omega)
      obtain ⟨gc, gY, x0, -, -⟩ := (HH.out.keep HF.out).nR (n := n) (by rw [AV]; exact oz)
      have jM := aa ((HH.out.keep HF.out).nK n (by rw [AV]; exact oz))
      have fm := HH.out.nS (n := n) (by rw [AV]; exact oz)
      have iq := fun k hk => kQ.out.lit (n := n) (k := k) hk
      have ug := kQ.out.lb n
      rw [fm] at iq ug
      obtain ⟨⟨A9, c9, l9, b9, t9⟩, Dv⟩ : ∃ x, L.cs[n]! = x := ⟨_, rfl⟩
      rw [Dv] at x0 jM fm iq ug
      simp only [Cw.rc] at x0 jM fm iq ug
      have Fa := aa iq
      have qf : n < L.cs.length := by omega
      have c3 := HF.out.av Ci.out
      rw [gY] at c3
      have U8 : Hid (Sv.dP S (S.T.lits.take i).reverse (l9.map tv ++ g1) jw = N7) := by
       have := dG.out
       rw [Sv.IT (by rw [HV.out]; exact HGM.out) (by rw [HV.out, Vi.out]; exact hz) (by rw [HV.out, HR.out]; omega), HV.out, HR.out, show (((n + 1 : Nat) : Int) - 1).toNat = n from by omega, fm] at this
       exact this
      have Sf : Hid (Ints w A9 c9 l9) := by
       have := HH.out.nK n qf
       rw [Dv] at this
       exact this
      clear fm iq Dv hz gY
      go_wp2_with fail
      refine KR.out.mono ?_
      clear KR
      rintro e w5 ⟨rfl, rfl⟩
      go_wp2_with fail
      clear c0 c3 x0 ep sS jM
      go_loopg [78] l9.length (fun g2 x78 wi => ∃ (j : Nat), j + g2 = l9.length ∧ x78 = .int .i64 j ∧ Hid (oW wi bg (n1 + j) ((l9.take j).map tv ++ g1)) ∧ Hid (oW wi bm n2 jw) ∧ Hid (Fr [] w wi))
      case atStart => exact ⟨0, by omega, rfl, HG.out, HT.out, HF.out⟩
      case round =>
       obtain ⟨j, hj, rfl, HGi, HTi, HFi⟩ := hrel
       have HJ := aa hj
       have Ip : j ≤ l9.length := by omega
       clear hj
       by_cases bM : j < l9.length
       ·obtain ⟨jJ, gx, kg⟩ := Fa.out j bM
        obtain ⟨gb, hA9, ru⟩ := Sf.out.pos bM
        subst hA9
        have cy := (Sf.out.eE HFi.out).cell bM
        obtain ⟨y, hy⟩ : ∃ y, l9[j]! = y := ⟨_, rfl⟩
        rw [hy] at jJ gx kg cy
        have hty := JZ gx kg nT
        obtain ⟨oQ, lO⟩ := tT gx kg nT
        obtain ⟨ty, Td⟩ : ∃ ty, tv y = ty := ⟨_, rfl⟩
        rw [Td] at hty oQ
        obtain ⟨w6, lV, RM, fZ⟩ := HGi.out.store (v := ty) (by have := rM.out; unfold maxLen; omega) ⟨by omega, by omega⟩
        have HM6 : Hid (oW w6 bg (n1 + (j + 1)) ((l9.take (j + 1)).map tv ++ g1)) := RM.congr (fun x => by
         have := yp bM g1 x
         rw [hy, Td] at this
         exact this)
        have HT6 := aa (HTi.out.fr fZ (by simp; have := CG.out; omega))
        have Vt : Hid (Fr [] w w6) := HFi.out.trans fZ (fun k hk => by simp at hk; subst hk; right; have := HBG.out; omega)
        clear RM fZ Td hy
        go_wp2_with fail
        go_roundg (gk - 1)
        case measure => have := HJ.out; omega
        case rel => exact ⟨j + 1, by have := HJ.out; omega, by go_num, HM6.out, HT6.out, Vt.out⟩
       ·obtain rfl : j = l9.length := by omega
        have HGE : Hid (oW wr bg (n1 + l9.length) (l9.map tv ++ g1)) := by
         have := HGi.out
         rw [fO] at this
         exact this
        clear HJ HGi
        go_wp2_with fail
        go_roundg i
        case measure => omega
        case rel => exact ⟨n1 + l9.length, n2, l9.map tv ++ g1, jw, by omega, rfl, U8.out, HGE.out, HTi.out, by have := rM.out; omega, by have := jp.out; omega, HFi.out⟩
   ·have jb := HG.out.look (v := v) ⟨by omega, by omega⟩
    have pJ : decide (v ∈ g1) = false := decide_eq_false hg
    rw [pJ] at jb
    have U8 : Hid (Sv.dP S (S.T.lits.take i).reverse g1 jw = N7) := by
     have := dG.out
     rw [Sv.rG (.inl (by rw [HV.out]; exact hg))] at this
     exact this
    clear hg pJ
    go_wp2_with fail
    go_roundg i
    case measure => omega
    case rel => exact ⟨n1, n2, g1, jw, by omega, rfl, U8.out, HG.out, HT.out, by have := rM.out; omega, by have := jp.out; omega, HF.out⟩
def B8 (w : World) (L : aH) (A : Option Addr) (us : List Int) : Prop := Rd w A us ∧ (0 < us.length → L.fy A)
theorem yM {w : World} {L L' : aH} {A : Option Addr} (he : L.ext L' w) (hf : L.fy A) (hb : ∀ k, k ∈ ah A → k < w.heap.size) : L'.fy A := fun k hk e =>
 hf k hk (he.2.2 k (hb k hk) (e.trans he.2.1))
theorem B8.step {w w' : World} {L L' : aH} {A : Option Addr} {us : List Int} (h : B8 w L A us) (he : L.ext L' w) (hf : Fr (L.own w) w w') : B8 w' L' A us := by
 refine ⟨fun h0 => ?_, fun h0 => yM he (h.2 h0) (h.1.blk h0)⟩
 exact (h.1.frF hf (fun k hk => aH.lo (h.2 h0 k hk))) h0
theorem B8.keep {w w' : World} {L : aH} {A : Option Addr} {us : List Int} (h : B8 w L A us) (hf : Fr [] w w') : B8 w' L A us := ⟨h.1.keep hf, h.2⟩
theorem oI (w : World) (L : aH) (S : Sv) (h : aK w L S) (m : Nat) (ok : S.Ok m) (hd : S.T.levels.length < 17592186044416) :
  Calls Tryz.prog 143 #[.pointer (some ⟨L.tL.a, 0, none⟩)] w fun e w' => (∃ x, e = .returned x) ∧ ∃ L', aK w' L' S.deep ∧ L.ext L' w ∧ Fr (L.own w) w w' := by
 obtain ⟨R, hR⟩ := ok.tr
 have hs := hR.size
 refine (xN w L.tL S.T h.tr (by omega) hd).mono ?_
 rintro e w' ⟨rfl, WE, h1, h2, h3⟩
 exact ⟨⟨_, rfl⟩, h.tz h1 h2 h3⟩
theorem ku (w : World) (L : aH) (S : Sv) (h : aK w L S) (m : Nat) (ok : S.Ok m) (l r : Int) (h0 : -(S.vars : Int) ≤ l) (h1 : l ≤ S.vars) :
  Calls Tryz.prog 129 #[.pointer (some ⟨L.tL.a, 0, none⟩), .int .i64 l, .int .i64 r] w fun e w' => (∃ x, e = .returned x) ∧ ∃ L', aK w' L' (S.put l r) ∧ L.ext L' w ∧ Fr (L.own w) w w' := by
 have hl := ok.gq
 have hv := ok.vl
 refine (qp w L.tL S.T h.tr l r (by omega) (by omega) (by omega)).mono ?_
 rintro e w' ⟨rfl, WE, h1, h2, h3⟩
 exact ⟨⟨_, rfl⟩, h.tz h1 h2 h3⟩
namespace Sv
theorem Ok.deep {S : Sv} {m : Nat} (ok : S.Ok m) : S.deep.Ok m := by
 obtain ⟨R, hR⟩ := ok.tr
 refine ⟨ok.vl, ⟨R, ?_⟩, ok.hi, ok.hl, ok.ph, ok.wl, ok.ll, ok.wb, ok.wt, ok.lr, ok.ln, ok.lb, ok.hd, ok.rs⟩
 have := hR.deep
 simpa [Sv.deep, Tr.uM] using this
theorem eK (S : Sv) : S.deep.T.levels.length = S.T.levels.length + 1 := by simp [Sv.deep, Tr.uM]
theorem dz (S : Sv) (l r : Int) : (S.put l r).T.levels = S.T.levels := by
 unfold Sv.put
 simp only
 split <;> rfl
theorem Ok.choose {S : Sv} {m : Nat} (ok : S.Ok m) : S.choose.1.Ok m ∧ S.choose.1.vars = S.vars ∧ S.choose.1.list = S.list ∧ S.choose.1.T.levels.length ≤ S.T.levels.length + 1 := by
 have hp := ok.pick
 unfold Sv.choose
 split
 ·exact ⟨hp.1.keep, hp.2.2.1, hp.2.2.2.1, by show S.pick.1.T.levels.length ≤ _; rw [hp.2.1]; omega⟩
 ·refine ⟨hp.1.deep.put ⟨by omega, by omega⟩, hp.2.2.1, hp.2.2.2.1, ?_⟩
  rw [dz, eK, hp.2.1]
  omega
theorem yU {S : Sv} {us : List Int} {f : Nat} (h : ¬ S.T.levels.length < us.length) : bQ us f S = S.choose := by
 cases f with
 | zero => rfl
 | succ f => rw [bQ, if_neg h]
theorem Ok.bQ {us : List Int} {m : Nat} : ∀ (f : Nat) (S : Sv), S.Ok m → (Sv.bQ us f S).1.Ok m ∧ (Sv.bQ us f S).1.vars = S.vars ∧ (Sv.bQ us f S).1.list = S.list ∧ (Sv.bQ us f S).1.T.levels.length ≤ max S.T.levels.length us.length + 1
 | 0, S, ok => by
  have h := ok.choose
  exact ⟨h.1, h.2.1, h.2.2.1, by have := h.2.2.2; show S.choose.1.T.levels.length ≤ _; omega⟩
 | f + 1, S, ok => by
  rw [Sv.bQ]
  split
  ·rename_i bM
   simp only
   split
   ·exact ⟨ok.mY _, rfl, rfl, by show S.T.levels.length ≤ _; omega⟩
   ·split
    ·refine ⟨ok.deep.put ⟨by omega, by omega⟩, rfl, rfl, ?_⟩
     rw [dz, eK]
     omega
    ·have ih := Ok.bQ (us := us) f S.deep ok.deep
     refine ⟨ih.1, ih.2.1, ih.2.2.1, ?_⟩
     have := ih.2.2.2
     rw [eK] at this
     omega
  ·have h := ok.choose
   exact ⟨h.1, h.2.1, h.2.2.1, by have := h.2.2.2; omega⟩
theorem Ok.aS {S : Sv} {m : Nat} (ok : S.Ok m) (us : List Int) : (S.aS us).1.Ok m ∧ (S.aS us).1.vars = S.vars ∧ (S.aS us).1.list = S.list ∧ (S.aS us).1.T.levels.length ≤ max S.T.levels.length us.length + 1 := Ok.bQ _ S ok
end Sv
theorem je (w : World) (L : aH) (S : Sv) (h : aK w L S) (m : Nat) (ok : S.Ok m) (A : Option Addr) (c : Nat) (us : List Int) (vN : B8 w L A us) (zq : ∀ x ∈ us, -(S.vars : Int) ≤ x ∧ x ≤ S.vars) (vo : us.length ≤ 1099511627776) (iX : S.core = []) (YC : S.T.levels.length ≤ 4398046511104) :
  Calls Tryz.prog 109 #[.pointer (some ⟨L.a, 0, none⟩), .slice A us.length c] w (me (.int .i64 (S.aS us).2) (S.aS us).1 L w) := by
 obtain ⟨RES, co⟩ : ∃ RES, S.aS us = RES := ⟨_, rfl⟩
 have dC : Hid (Sv.bQ us (us.length + 1) S = RES) := co
 rw [co]
 have l8 : Hid (∀ (S' : Sv) (r : Int), RES = (S', r) → ∀ W L', aK W L' S' → L.ext L' w → Fr (L.own w) w W → me (.int .i64 RES.2) RES.1 L w (.returned (.int .i64 r)) W) := fun S' r e W L' g1 g2 g3 => by
  subst e
  exact ⟨rfl, L', g1, g2, g3⟩
 have HH := aa h
 have kQ := aa ok
 have Wi := aa vN
 have Oa := aa zq
 have HCO := aa iX
 have nT := ok.vl
 clear co h ok vN zq iX
 go_enter Tryz.func109, Tryz.ntmps109
 go_wp2_with fail
 go_loopg [] (us.length + 1) (fun g wr => ∃ (S1 : Sv) (L1 : aH), Hid (Sv.bQ us g S1 = RES) ∧ us.length + 1 ≤ g + S1.T.levels.length ∧ S1.T.levels.length ≤ 8796093022208 ∧ Hid (S1.vars = S.vars) ∧ Hid (S1.core = []) ∧ Hid (S1.Ok m) ∧ Hid (aK wr L1 S1) ∧ Hid (L.ext L1 w) ∧ Hid (Fr (L.own w) w wr))
 case atStart => exact ⟨S, L, dC.out, by omega, by omega, rfl, HCO.out, kQ.out, HH.out, aH.bX _ _, Fr.refl _ _⟩
 case round =>
  obtain ⟨S1, L1, oY, hg, Ct, HV1, mg, j7, H1, dV, dv⟩ := hrel
  have HG := aa hg
  have kj : L1.a = L.a := dV.out.1
  obtain ⟨c0, -⟩ := H1.out.cells
  rw [kj] at c0
  have Vv := aa kj
  have th := aa c0
  have KD := aa (jS wr L1.tL S1.T H1.out.tr)
  obtain ⟨d, hd⟩ : ∃ d, S1.T.levels.length = d := ⟨_, rfl⟩
  rw [hd] at KD Ct
  have HD := aa hd
  have Ni := aa (Wi.out.step dV.out dv.out)
  clear kj hg hd
  have fY : S1.vars = S.vars := HV1.out
  by_cases bM : d < us.length
  ·obtain ⟨f, rfl⟩ : ∃ f, gk = f + 1 := ⟨gk - 1, by have := HG.out; have := HD.out; omega⟩
   have Vb : Hid (Ra us) := (eN (p := dB)).2 fun x hx => by
    have := Oa.out x hx
    constructor <;> omega
   obtain ⟨b, o, x, hA, he, cx, gP, iP⟩ := Ni.out.1.one Vb.out bM
   subst hA
   have hxb := Oa.out x (by rw [← he.out]; exact bw bM)
   obtain ⟨y, hy⟩ : ∃ y, S1.T.km x = y := ⟨_, rfl⟩
   have KV := aa (dt wr L1.tL S1.T H1.out.tr x gP iP j7.out.small)
   rw [hy] at KV
   have HY : Hid (S1.val us[S1.T.levels.length]! = y) := by
    show _ = _
    rw [HD.out, he.out]
    exact hy
   clear hy
   by_cases gx : y = -1
   ·subst gx
    have Ef : (((-1 : Int)) == (-1 : Int)) = true := rfl
    have KB := aa (BW wr L1 S1 H1.out m j7.out x (by omega) (by omega) (some ⟨b, o, none⟩) c us Ni.out.1 (fun z hz => by have := Oa.out z hz; omega) vo (Ni.out.2 (by omega)) mg.out)
    rw [Vv.out] at KB
    have HK : Hid (RES = (S1.BX x us, 2)) := by
     have := oY.out
     rw [Sv.bQ, if_pos (by rw [HD.out]; exact bM)] at this
     simp only at this
     rw [if_pos HY.out, HD.out, he.out] at this
     exact this.symm
    go_wp2_with fail
    refine KD.out.mono ?_
    rintro e w2 ⟨rfl, rfl⟩
    go_wp2_with fail
    refine KD.out.mono ?_
    rintro e w2 ⟨rfl, rfl⟩
    go_wp2_with fail
    refine KV.out.mono ?_
    rintro e w2 ⟨rfl, rfl⟩
    go_wp2_with fail
    refine KB.out.mono ?_
    rintro e w2 ⟨rfl, L2, h2, iW, cd⟩
    have FF := aa (l8.out _ 2 HK.out w2 L2 h2 (aH.aM dV.out iW dv.out.size) (aH.aI dV.out dv.out cd))
    clear KB KV KD h2 iW cd c0 cx
    go_wp2_with fail
    go_ret
    exact FF.out
   ·by_cases jJ : y = 0
    ·subst jJ
     have Na := aa (oI wr L1 S1 H1.out m j7.out (by rw [HD.out]; omega))
     have HK : Hid (RES = (S1.deep.put x 0, 0)) := by
      have := oY.out
      rw [Sv.bQ, if_pos (by rw [HD.out]; exact bM)] at this
      simp only at this
      rw [if_neg (by rw [HY.out]; decide), if_pos HY.out, HD.out, he.out] at this
      exact this.symm
     go_wp2_with fail
     refine KD.out.mono ?_
     rintro e w2 ⟨rfl, rfl⟩
     go_wp2_with fail
     refine KD.out.mono ?_
     rintro e w2 ⟨rfl, rfl⟩
     go_wp2_with fail
     refine KV.out.mono ?_
     rintro e w2 ⟨rfl, rfl⟩
     go_wp2_with fail
     refine Na.out.mono ?_
     rintro e w2 ⟨⟨x2, rfl⟩, L2, h2, iW, cd⟩
     have H2 := aa h2
     have cL := aa (aH.aM dV.out iW dv.out.size)
     have cJ := aa (aH.aI dV.out dv.out cd)
     obtain ⟨c0, -⟩ := H2.out.cells
     rw [cL.out.1] at c0
     have KP := aa (ku w2 L2 S1.deep H2.out m j7.out.deep x 0 (by show -(S1.vars : Int) ≤ x; omega) (by show x ≤ (S1.vars : Int); omega))
     clear Na KV KD h2 iW cd cx
     go_wp2_with fail
     refine KP.out.mono ?_
     rintro e w3 ⟨⟨x3, rfl⟩, L3, h3, vu, cY⟩
     have FF := aa (l8.out _ 0 HK.out w3 L3 h3 (aH.aM cL.out vu cJ.out.size) (aH.aI cL.out cJ.out cY))
     clear KP h3 vu cY c0
     go_wp2_with fail
     go_ret
     exact FF.out
    ·have Ef : (y == (-1 : Int)) = false := by simp [gx]
     have hd0 : (y == (0 : Int)) = false := by simp [jJ]
     have Na := aa (oI wr L1 S1 H1.out m j7.out (by rw [HD.out]; omega))
     have HK : Hid (Sv.bQ us f S1.deep = RES) := by
      have := oY.out
      rw [Sv.bQ, if_pos (by rw [HD.out]; exact bM)] at this
      simp only at this
      rw [if_neg (by rw [HY.out]; exact gx), if_neg (by rw [HY.out]; exact jJ)] at this
      exact this
     go_wp2_with fail
     refine KD.out.mono ?_
     rintro e w2 ⟨rfl, rfl⟩
     go_wp2_with fail
     refine KD.out.mono ?_
     rintro e w2 ⟨rfl, rfl⟩
     go_wp2_with fail
     refine KV.out.mono ?_
     rintro e w2 ⟨rfl, rfl⟩
     go_wp2_with fail
     refine Na.out.mono ?_
     rintro e w2 ⟨⟨x2, rfl⟩, L2, h2, iW, cd⟩
     have H2 := aa h2
     have cL := aa (aH.aM dV.out iW dv.out.size)
     have cJ := aa (aH.aI dV.out dv.out cd)
     have YB : S1.deep.T.levels.length ≤ 8796093022208 := by rw [Sv.eK, HD.out]; omega
     have agS := aa YB
     clear Na KV KD h2 iW cd cx YB
     go_wp2_with fail
     go_roundg f
     case measure => omega
     case rel => exact ⟨S1.deep, L2, HK.out, by have := HG.out; rw [Sv.eK]; omega, agS.out, HV1.out, mg.out, j7.out.deep, H2.out, cL.out, cJ.out⟩
  ·have HK : Hid (RES = S1.choose) := by
    have := oY.out
    rw [Sv.yU (by rw [HD.out]; exact bM)] at this
    exact this.symm
   have KP := aa (CZ wr L1 S1 H1.out m j7.out)
   rw [Vv.out] at KP
   have Nk := aa j7.out.pick
   obtain ⟨PK, hPK⟩ : ∃ PK, S1.pick = PK := ⟨_, rfl⟩
   have Ma : S1.choose = if PK.2 = 0 then (PK.1.keep, 1) else (PK.1.deep.put PK.2 0, 0) := by
    unfold Sv.choose
    rw [hPK]
   rw [hPK] at KP Nk
   obtain ⟨S2, p⟩ := PK
   simp only at Ma KP Nk
   have HCH := aa Ma
   clear Ma hPK
   go_wp2_with fail
   refine KD.out.mono ?_
   rintro e w2 ⟨rfl, rfl⟩
   go_wp2_with fail
   refine KP.out.mono ?_
   rintro e w2 ⟨rfl, L2, h2, iW, cd⟩
   have H2 := aa h2
   have cL := aa (aH.aM dV.out iW dv.out.size)
   have cJ := aa (aH.aI dV.out dv.out cd)
   have TC : S2.vars = S1.vars := Nk.out.2.2.1
   have XF : S2.T.levels.length ≤ 8796093022208 := by rw [Nk.out.2.1, HD.out]; exact Ct
   have hpr := Nk.out.2.2.2.2.2
   obtain ⟨c0, -⟩ := H2.out.cells
   rw [cL.out.1] at c0
   clear KP KD h2 iW cd
   by_cases Ln : p = 0
   ·subst Ln
    have HK : Hid (RES = (S2.keep, 1)) := by
     have := HCH.out
     rw [if_pos rfl] at this
     exact HK.out.trans this
    have KK := aa (Ds w2 L2 S2 H2.out m Nk.out.1)
    rw [cL.out.1] at KK
    clear TC XF hpr
    go_wp2_with fail
    refine KK.out.mono ?_
    rintro e w3 ⟨rfl, L3, h3, vu, cY⟩
    have FF := aa (l8.out _ 1 HK.out w3 L3 h3 (aH.aM cL.out vu cJ.out.size) (aH.aI cL.out cJ.out cY))
    clear KK h3 vu cY c0
    go_wp2_with fail
    go_ret
    exact FF.out
   ·have hpb : (p == (0 : Int)) = false := by simp [Ln]
    have HK : Hid (RES = (S2.deep.put p 0, 0)) := by
     have := HCH.out
     rw [if_neg Ln] at this
     exact HK.out.trans this
    have Na := aa (oI w2 L2 S2 H2.out m Nk.out.1 (by omega))
    have HP1 : Hid (-(S2.vars : Int) ≤ p ∧ p ≤ S2.vars) := by
     rw [TC]
     exact hpr
    clear TC XF hpr
    go_wp2_with fail
    refine Na.out.mono ?_
    rintro e w3 ⟨⟨x3, rfl⟩, L3, h3, vu, cY⟩
    have H3 := aa h3
    have gF := aa (aH.aM cL.out vu cJ.out.size)
    have cR := aa (aH.aI cL.out cJ.out cY)
    obtain ⟨c0, -⟩ := H3.out.cells
    rw [gF.out.1] at c0
    have KPU := aa (ku w3 L3 S2.deep H3.out m Nk.out.1.deep p 0 HP1.out.1 HP1.out.2)
    clear Na h3 vu cY
    go_wp2_with fail
    refine KPU.out.mono ?_
    rintro e w4 ⟨⟨x4, rfl⟩, L4, h4, RT, eF⟩
    have FF := aa (l8.out _ 0 HK.out w4 L4 h4 (aH.aM gF.out RT cR.out.size) (aH.aI gF.out cR.out eF))
    clear KPU h4 RT eF c0
    go_wp2_with fail
    go_ret
    exact FF.out
namespace Sv
def rest (S : Sv) : Hp × Nat × List Bool × List Bool × List Int × Nat × Nat × Int × Nat × Bool × Bool × List Int × Nat :=
 (S.H, S.vars, S.phase, S.model, S.core, S.used, S.bump, S.many, S.bU, S.bad, S.has, S.T.levels, S.list.length)
theorem wO (S : Sv) (n : Nat) (l : List Int) : (S.dH n l).rest = S.rest := by simp [rest, dH]
theorem na (S : Sv) (n : Nat) (l : List Nat) : (S.bS n l).rest = S.rest := rfl
theorem GU (S : Sv) (n k : Nat) : (S.fP n k).rest = S.rest := rfl
theorem Kd (S : Sv) (l r : Int) : (S.put l r).rest = S.rest := by
 unfold rest
 rw [dz]
 rfl
theorem CV (S : Sv) (n : Nat) : (S.cP n).1.rest = S.rest := by
 unfold cP nb
 split
 ·rw [GU, wO]
 ·rfl
theorem jT (S : Sv) (n : Nat) (off : Int) : (S.ch n off).rest = S.rest := by
 unfold ch
 split
 ·rw [wO]
 ·rfl
theorem tH (S : Sv) (n : Nat) (off : Int) : (S.cF n off).1.rest = S.rest := by
 unfold cF
 split
 ·rfl
 ·unfold eY
  simp only
  split
  ·exact jT S n off
  ·split
   ·rw [CV, jT]
   ·split
    ·exact jT S n off
    ·rw [Kd, jT]
theorem mD (off : Int) : ∀ (ws keep : List Nat) (S : Sv), (bH off ws keep S).1.rest = S.rest
 | [], keep, S => by rw [bH, na]
 | n :: r, keep, S => by
  rw [bH]
  try simp only
  split
  ·rw [mD off r, tH]
  ·rw [na, tH]
theorem uF {S : Sv} {f : Nat} (h : S.head < S.T.lits.length) : cI (f + 1) S =
  if (bH (-(S.T.lits[S.head]!)) (S.eX (aJ (-(S.T.lits[S.head]!)))) [] (S.bS (aJ (-(S.T.lits[S.head]!))) [])).2.isSome = true
  then ((bH (-(S.T.lits[S.head]!)) (S.eX (aJ (-(S.T.lits[S.head]!)))) [] (S.bS (aJ (-(S.T.lits[S.head]!))) [])).1, (bH (-(S.T.lits[S.head]!)) (S.eX (aJ (-(S.T.lits[S.head]!)))) [] (S.bS (aJ (-(S.T.lits[S.head]!))) [])).2)
  else cI f { (bH (-(S.T.lits[S.head]!)) (S.eX (aJ (-(S.T.lits[S.head]!)))) [] (S.bS (aJ (-(S.T.lits[S.head]!))) [])).1 with head := (bH (-(S.T.lits[S.head]!)) (S.eX (aJ (-(S.T.lits[S.head]!)))) [] (S.bS (aJ (-(S.T.lits[S.head]!))) [])).1.head + 1 } := by
 simp only [cI]
 rw [if_pos h]
 generalize bH (-(S.T.lits[S.head]!)) (S.eX (aJ (-(S.T.lits[S.head]!)))) [] (S.bS (aJ (-(S.T.lits[S.head]!))) []) = q
 obtain ⟨S1, o⟩ := q
 cases o <;> simp
theorem Ok.cI : ∀ (f : Nat) (S : Sv), S.Ok 0 → (Sv.cI f S).1.Ok 0 ∧ (Sv.cI f S).1.rest = S.rest ∧ ∀ n, (Sv.cI f S).2 = some n → n < S.list.length
 | 0, S, ok => ⟨ok, rfl, fun n h => by cases h⟩
 | f + 1, S, ok => by
  by_cases h : S.head < S.T.lits.length
  ·rw [uF h]
   generalize ho : -(S.T.lits[S.head]!) = off
   have hb := ok.mZ h
   have hc : aJ off < S.watch.length := by
    rw [ok.wl]
    exact fG (by omega) (by omega)
   have o2 : (S.bS (aJ off) []).Ok (([] : List Nat).length + (S.eX (aJ off)).length) := ok.bS hc (fun n hn => by cases hn) (by simp)
   have hv := o2.mj off (S.eX (aJ off)) [] _ (fun n hn => ok.wb _ n hn) (fun n hn => by cases hn) (by show _ < (S.watch.set _ _).length; rw [ak]; exact hc)
   have hr := mD off (S.eX (aJ off)) [] (S.bS (aJ off) [])
   have hl := jQ off (S.eX (aJ off)) [] (S.bS (aJ off) [])
   rw [na] at hr
   generalize bH off (S.eX (aJ off)) [] (S.bS (aJ off) []) = q at *
   split
   ·exact ⟨hv.1, hr, hv.2.2.2.2⟩
   ·have o := hv.1
    have hh : q.1.head = S.head := hv.2.2.1
    have oS : S.T.lits.length ≤ q.1.T.lits.length := hl
    have ok9 : ({ q.1 with head := q.1.head + 1 } : Sv).Ok 0 := ⟨o.vl, o.tr, o.hi, o.hl, o.ph, o.wl, o.ll, o.wb, o.wt, o.lr, o.ln, o.lb, by show q.1.head + 1 ≤ q.1.T.lits.length; omega, o.rs⟩
    have ih := Ok.cI f _ ok9
    have hl3 : q.1.list.length = S.list.length := hv.2.2.2.1
    exact ⟨ih.1, ih.2.1.trans hr, fun n hn => by have := ih.2.2 n hn; show n < _; have e : ({ q.1 with head := q.1.head + 1 } : Sv).list.length = S.list.length := hl3; omega⟩
  ·rw [lD h]
   exact ⟨ok, rfl, fun n h => by cases h⟩
theorem Ok.follow {S : Sv} (ok : S.Ok 0) : S.follow.1.Ok 0 ∧ S.follow.1.rest = S.rest ∧ ∀ n, S.follow.2 = some n → n < S.list.length := Ok.cI _ S ok
theorem uZ (level : Int) : ∀ (r : List Int) (S : Sv), (dy level r S).core = S.core ∧ (dy level r S).used = S.used ∧ (dy level r S).many = S.many ∧ (dy level r S).bU = S.bU ∧ (dy level r S).bad = S.bad ∧ (dy level r S).T = S.T ∧ (dy level r S).bump = S.bump
 | [], S => ⟨rfl, rfl, rfl, rfl, rfl, rfl, rfl⟩
 | l :: r, S => by
  rw [dy]
  split
  ·exact ⟨rfl, rfl, rfl, rfl, rfl, rfl, rfl⟩
  ·exact uZ level r _
theorem jo (S : Sv) (level : Nat) : (S.back level).core = S.core ∧ (S.back level).used = S.used ∧ (S.back level).many = S.many ∧ (S.back level).bU = S.bU ∧ (S.back level).bad = S.bad ∧ (S.back level).T.levels.length ≤ S.T.levels.length ∧ (S.back level).bump = S.bump := by
 unfold back
 split
 ·exact ⟨rfl, rfl, rfl, rfl, rfl, ao _, rfl⟩
 ·have h := uZ level S.T.lits.reverse S
  refine ⟨h.1, h.2.1, h.2.2.1, h.2.2.2.1, h.2.2.2.2.1, ?_, h.2.2.2.2.2.2⟩
  try simp only
  rw [h.2.2.2.2.2.1]
  simp only [Tr.cD]
  try split
  all_goals first | exact ao _ | (simp only [Tr.uP, bk]; omega)
theorem tM : ∀ (f : Nat) (S : Sv), (cW f S).1.core = S.core ∧ (cW f S).1.used = S.used ∧ (cW f S).1.many = S.many ∧ (cW f S).1.bU = S.bU ∧ (cW f S).1.bad = S.bad
 | 0, S => ⟨rfl, rfl, rfl, rfl, rfl⟩
 | f + 1, S => by
  rw [cW]
  split
  ·exact ⟨rfl, rfl, rfl, rfl, rfl⟩
  ·simp only
   split
   ·exact tM f _
   ·exact ⟨rfl, rfl, rfl, rfl, rfl⟩
theorem iy (S : Sv) : S.choose.1.core = S.core ∧ S.choose.1.used = S.used ∧ S.choose.1.many = S.many ∧ S.choose.1.bU = S.bU ∧ S.choose.1.bad = S.bad := by
 have h := tM (S.H.items.length + 1) S
 unfold choose
 split
 ·exact h
 ·exact h
theorem pQ (us : List Int) : ∀ (f : Nat) (S : Sv), ((bQ us f S).2 = 0 → (bQ us f S).1.core = S.core) ∧ (bQ us f S).1.used = S.used ∧ (bQ us f S).1.many = S.many ∧ (bQ us f S).1.bU = S.bU ∧ (bQ us f S).1.bad = S.bad
 | 0, S => ⟨fun _ => (iy S).1, (iy S).2⟩
 | f + 1, S => by
  rw [bQ]
  split
  ·simp only
   split
   ·exact ⟨fun h => by simp at h, rfl, rfl, rfl, rfl⟩
   ·split
    ·exact ⟨fun _ => rfl, rfl, rfl, rfl, rfl⟩
    ·exact pQ us f _
  ·exact ⟨fun _ => (iy S).1, (iy S).2⟩
end Sv
theorem mw {T : Tr} {f k : Nat} {l : List Int} {cO : Int} (h : ¬ k < l.length) : Sv.second T f k l cO = (l, cO) := by
 cases f with
 | zero => rfl
 | succ f => rw [Sv.second, if_neg h]
theorem GQ {T : Tr} {f k : Nat} {l : List Int} {cO : Int} (h : k < l.length) (hv : cO < T.cK (tv l[k]!)) : Sv.second T (f + 1) k l cO = Sv.second T f (k + 1) (cj l 1 k) (T.cK (tv l[k]!)) := by
 rw [Sv.second, if_pos h, if_pos hv]
theorem GR {T : Tr} {f k : Nat} {l : List Int} {cO : Int} (h : k < l.length) (hv : ¬ cO < T.cK (tv l[k]!)) : Sv.second T (f + 1) k l cO = Sv.second T f (k + 1) l cO := by
 rw [Sv.second, if_pos h, if_neg hv]
theorem pe (w : World) (L : aH) (S : Sv) (h : aK w L S) (m : Nat) (ok : S.Ok m) (A : Option Addr) (c : Nat) (l : List Int) (hi : Ints w A c l) (hA : ∀ k, k ∈ ah A → (L.cv k).1 ≠ L.id) (AU : ∀ x ∈ l, -(S.vars : Int) ≤ x ∧ x ≤ S.vars) (hlen : l.length ≤ 17592186044416) :
  Calls Tryz.prog 163 #[.pointer (some ⟨L.a, 0, none⟩), .slice A l.length c] w fun e w' => e = .returned (.int .i64 (Sv.second S.T l.length 1 l 0).2) ∧ Ints w' A c (Sv.second S.T l.length 1 l 0).1 ∧ Fr (ah A) w w' := by
 obtain ⟨RES, co⟩ : ∃ RES, Sv.second S.T l.length 1 l 0 = RES := ⟨_, rfl⟩
 rw [co]
 have l8 : Hid (∀ (l1 : List Int) (r : Int), (l1, r) = RES → ∀ W, Ints W A c l1 → Fr (ah A) w W → (Ending.returned (.int .i64 r) = .returned (.int .i64 RES.2) ∧ Ints W A c RES.1 ∧ Fr (ah A) w W)) := fun l1 r e W g1 g2 => by
  subst e
  exact ⟨rfl, g1, g2⟩
 have dC := aa co
 have nT := ok.vl
 obtain ⟨c0, -⟩ := h.cells
 have th := aa c0
 have HI := aa hi
 have oM := aa AU
 have Jg : Hid (L.a ∉ ah A) := fun hm => hA _ hm (by rw [h.t0])
 have Zk : Hid (∀ W, Fr (ah A) w W → TrAt W L.tL S.T) := fun W hW => h.tr.fr hW (fun k hk hm => hA _ hm (by rw [h.t1 k hk]))
 clear co h ok hi hA AU c0
 go_enter Tryz.func163, Tryz.ntmps163
 go_wp2_with fail
 go_loopg [5, 6] l.length (fun g x5 x6 wr => ∃ (k : Nat) (l1 : List Int) (cO : Int), k + g = l.length + 1 ∧ 1 ≤ k ∧ x5 = .int .i64 cO ∧ x6 = .int .i64 k ∧ Hid (Sv.second S.T g k l1 cO = RES) ∧ Hid (l1.length = l.length) ∧ Hid (∀ x ∈ l1, -(S.vars : Int) ≤ x ∧ x ≤ S.vars) ∧ Hid (Ints wr A c l1) ∧ Hid (Fr (ah A) w wr))
 case atStart => exact ⟨1, l, 0, by omega, by omega, rfl, rfl, dC.out, rfl, oM.out, HI.out, Fr.refl _ _⟩
 case round =>
  obtain ⟨k, l1, cO, hk, Ec, rfl, rfl, HR, HL, HB, Nx, HF⟩ := hrel
  have HK := aa hk
  have nH : k ≤ l.length + 1 := by omega
  clear hk
  by_cases bM : k < l.length
  ·obtain ⟨f, rfl⟩ : ∃ f, gk = f + 1 := ⟨gk - 1, by have := HK.out; omega⟩
   have LE : k < l1.length := by rw [HL.out]; exact bM
   have E8 := aa LE
   obtain ⟨gb, zx, ru⟩ := Nx.out.pos LE
   subst zx
   have c0 := HF.out.aZ Jg.out th.out
   have cy := Nx.out.cell LE
   obtain ⟨y, hy⟩ : ∃ y, l1[k]! = y := ⟨_, rfl⟩
   have NV := HB.out y (by rw [← hy]; exact get_mem LE)
   rw [hy] at cy
   have HY := aa hy
   obtain ⟨gx, kg⟩ := NV
   obtain ⟨oQ, lO⟩ := tT gx kg nT
   have e0 := Ext.cell c0
   have ey := Ext.cell cy
   obtain ⟨lv, oD⟩ : ∃ lv, S.T.cK (tv y) = lv := ⟨_, rfl⟩
   have Nr := aa oD
   have KV := aa (fun u : Ext wr => im u.v L.tL S.T ((Zk.out wr HF.out).fr u.fr (by simp)) (tv y))
   simp only [oD] at KV
   clear hy oD LE ru
   by_cases RQ : cO < lv
   ·have hd : decide (cO < lv) = true := decide_eq_true RQ
    have qi : Hid (Sv.second S.T f (k + 1) (cj l1 1 k) lv = RES) := by
     have := HR.out
     rw [GQ E8.out (by rw [HY.out, Nr.out]; exact RQ), HY.out, Nr.out] at this
     exact this
    clear RQ
    go_wp2_with fail
    refine al (by kernel_rfl) (by kernel_rfl) ?_
    repeat (go_big_quiet_step (exact aV (KV.out _)))
    refine wpQuiet_nil ?_
    rintro w2 ⟨u2, bJ⟩
    have aT : Hid (Fr [] wr w2) := bJ ▸ u2.fr
    clear bJ u2
    clear e0 ey c0 cy oQ lO
    have lR := aa (HF.out.ag (aT.out.mono (fun k hk => by cases hk)))
    have lZ := aa (Nx.out.eE aT.out)
    have cy := lZ.out.cell E8.out
    have c1 := lZ.out.cell (i := 1) (by have := E8.out; omega)
    rw [HY.out] at cy
    obtain ⟨z, hz⟩ : ∃ z, l1[1]! = z := ⟨_, rfl⟩
    rw [hz] at c1
    have HZ := aa hz
    have f1 := lZ.out.frozen 1
    have fk := lZ.out.frozen k
    have FY : 1 < l.length := by omega
    have Cz := (lZ.out.cV 1 y).drew
    have cA := Cz.cell (i := k) (by rw [ak]; exact E8.out)
    have eA : (l1.set 1 y)[k]! = y := by
     rw [du]
     split
     ·rfl
     ·exact HY.out
    rw [eA] at cA
    have fA := Cz.frozen k
    clear hz Cz eA
    go_upto_region 8 with fail
    go_region
    have qN := aa (((lZ.out.cV 1 l1[k]!).cV k l1[1]!).drew)
    rw [HY.out, HZ.out] at qN
    have E3 : Hid (Ints ((w2.setCell ⟨gb, 1, none⟩ (.int .i64 y)).setCell ⟨gb, k, none⟩ (.int .i64 z)).drew (some ⟨gb, 0, none⟩) c (cj l1 1 k)) := by
     have := qN.out
     unfold cj
     rw [HY.out, HZ.out]
     exact this
    have cJ : Hid (Fr (ah (some ⟨gb, 0, none⟩)) w ((w2.setCell ⟨gb, 1, none⟩ (.int .i64 y)).setCell ⟨gb, k, none⟩ (.int .i64 z)).drew) := ((lR.out.setCell (.inl (by simp [ah])) _).setCell (.inl (by simp [ah])) _).drew
    clear cy c1 f1 fk cA fA
    go_wp2_with fail
    go_roundg f
    case measure => omega
    case rel => exact ⟨k + 1, cj l1 1 k, lv, by have := HK.out; omega, by omega, rfl, by go_num, qi.out, by rw [eO]; exact HL.out, fun x hx => HB.out x (pd (by have := E8.out; omega) E8.out hx), E3.out, cJ.out⟩
   ·have hd : decide (cO < lv) = false := decide_eq_false RQ
    have qi : Hid (Sv.second S.T f (k + 1) l1 cO = RES) := by
     have := HR.out
     rw [GR E8.out (by rw [HY.out, Nr.out]; exact RQ)] at this
     exact this
    clear RQ
    go_wp2_with fail
    refine al (by kernel_rfl) (by kernel_rfl) ?_
    repeat (go_big_quiet_step (exact aV (KV.out _)))
    refine wpQuiet_nil ?_
    rintro w2 ⟨u2, bJ⟩
    have aT : Hid (Fr [] wr w2) := bJ ▸ u2.fr
    clear bJ u2
    clear e0 ey c0 cy oQ lO
    have lR := aa (HF.out.ag (aT.out.mono (fun k hk => by cases hk)))
    have lZ := aa (Nx.out.eE aT.out)
    go_wp2_with fail
    go_roundg f
    case measure => omega
    case rel => exact ⟨k + 1, l1, cO, by have := HK.out; omega, by omega, rfl, by go_num, qi.out, HL.out, HB.out, lZ.out, lR.out⟩
  ·have HE : Hid ((l1, cO) = RES) := by
    have := HR.out
    rw [mw (by rw [HL.out]; exact bM)] at this
    exact this
   have FF := aa (l8.out _ _ HE.out wr Nx.out HF.out)
   clear HR HB
   go_wp2_with fail
   go_ret
   exact FF.out
theorem aK.Iu {w w' : World} {L : aH} {S : Sv} (h : aK w L S) {H' : Hp} (ht : b8 w' L.hL H') (hf : Fr L.hL.fp w w') : aK w' L { S with H := H' } := by
 have hF : ∀ k, k ∈ L.hL.fp → k < w.heap.size → L.cv k = (L.id, 2, 0) := fun k hk _ => h.t2 k hk
 have o := h.off (P := (· = (2, 0))) hf (fun k hk hl => ⟨_, rfl, hF k hk hl⟩)
 exact ⟨o.obj (by decide), o.tr (by decide), ht, h.gy, h.yP, h.yN, o.sG (by decide), o.rws (by decide), o.sE (by decide), o.vh (by decide), o.rV (by decide), fun n hn => o.nK n hn (by simp), fun n hn => o.pN n hn (by simp),
  h.t0, h.t1, h.t2, h.t3, h.t4, h.t5, h.t6, h.t7, h.t8, h.t9⟩
structure j8 where
 gb : Nat
 bm : Nat
 A : Option Addr
 c : Nat
def j8.own (X : j8) : List Nat := X.gb :: X.bm :: ah X.A
structure fW (w : World) (L : aH) (X : j8) (n : Nat) (G : Sv.Gr) : Prop where
 sv : aK w L G.S
 obj : At w X.gb 183 #[.pointer (some ⟨L.a, 0, none⟩), .map (some X.bm), .int .i64 G.fg, .slice X.A G.a8.length X.c]
 sn : oW w X.bm n G.seen
 ln : Ints w X.A X.c G.a8
 f1 : (L.cv X.gb).1 ≠ L.id
 f2 : (L.cv X.bm).1 ≠ L.id
 f3 : ∀ k, k ∈ ah X.A → (L.cv k).1 ≠ L.id
 fs : ∀ k, w.heap.size ≤ k → (L.cv k).1 ≠ L.id
 d12 : X.gb ≠ X.bm
 d3 : ∀ k, k ∈ ah X.A → k ≠ X.gb ∧ k ≠ X.bm
theorem fW.fy {w : World} {L : aH} {X : j8} {n : Nat} {G : Sv.Gr} (h : fW w L X n G) : ∀ k, k ∈ X.own → (L.cv k).1 ≠ L.id := by
 intro k hk
 simp only [j8.own, ay] at hk
 rcases hk with rfl | rfl | hk
 ·exact h.f1
 ·exact h.f2
 ·exact h.f3 k hk
theorem fW.keep {w w' : World} {L : aH} {X : j8} {n : Nat} {G : Sv.Gr} (h : fW w L X n G) (hf : Fr [] w w') : fW w' L X n G :=
 ⟨h.sv.keep hf, h.obj.keep hf, h.sn.keep hf, h.ln.eE hf, h.f1, h.f2, h.f3, fun k hk => h.fs k (aE hf.size hk), h.d12, h.d3⟩
theorem fW.WG {w w' : World} {L : aH} {X : j8} {n n' : Nat} {G : Sv.Gr} {s : List Int} (h : fW w L X n G) (hm : oW w' X.bm n' s) (hf : Fr [X.bm] w w') : fW w' L X n' { G with seen := s } :=
 ⟨h.sv.fr hf (fun k hk _ => by simp at hk; subst hk; exact h.f2), hf.at_ h.obj (by simpa using h.d12), hm, h.ln.fr hf (fun k hk hm => by simp at hm; exact (h.d3 k hk).2 hm), h.f1, h.f2, h.f3, fun k hk => h.fs k (aE hf.size hk), h.d12, h.d3⟩
theorem fW.Yv {w w' : World} {L : aH} {X : j8} {n : Nat} {G : Sv.Gr} {H' : Hp} (h : fW w L X n G) (hp : b8 w' L.hL H') (hf : Fr L.hL.fp w w') : fW w' L X n { G with S := { G.S with H := H' } } :=
 have hn : ∀ k, k ∈ X.own → k ∉ L.hL.fp := fun k hk hm => h.fy k hk (by rw [h.sv.t2 k hm])
 ⟨h.sv.Iu hp hf, hf.at_ h.obj (hn _ (by simp [j8.own])), h.sn.fr hf (hn _ (by simp [j8.own])), h.ln.fr hf (fun k hk => hn _ (by simp [j8.own, hk])), h.f1, h.f2, h.f3, fun k hk => h.fs k (aE hf.size hk), h.d12, h.d3⟩
theorem fW.SO {w : World} {L : aH} {X : j8} {n : Nat} {G : Sv.Gr} (h : fW w L X n G) (v : Int) : fW (w.setCell ⟨X.gb, 2, none⟩ (.int .i64 v)) L X n { G with fg := v } := by
 have hf : Fr [X.gb] w (w.setCell ⟨X.gb, 2, none⟩ (.int .i64 v)) := (Fr.refl _ w).setCell (.inl (by simp)) _
 refine ⟨h.sv.fr hf (fun k hk _ => by simp at hk; subst hk; exact h.f1), ?_, h.sn.fr hf (by simpa using h.d12.symm), h.ln.fr hf (fun k hk hm => by simp at hm; exact (h.d3 k hk).1 hm), h.f1, h.f2, h.f3, fun k hk => h.fs k (aE hf.size hk), h.d12, h.d3⟩
 have := h.obj.cV 2 (.int .i64 v)
 simpa using this
theorem fW.SW {w w1 : World} {L : aH} {X : j8} {n : Nat} {G : Sv.Gr} (h : fW w L X n G) {A' : Option Addr} {c' : Nat} {ls : List Int} (hi : Ints w1 A' c' ls) (hf : Fr (ah X.A) w w1) (hA : ∀ k, k ∈ ah A' → k ∈ ah X.A ∨ w.heap.size ≤ k) :
  fW (w1.setCell ⟨X.gb, 3, none⟩ (.slice A' ls.length c')) L ⟨X.gb, X.bm, A', c'⟩ n { G with a8 := ls } := by
 have cd : Fr (X.gb :: ah X.A) w (w1.setCell ⟨X.gb, 3, none⟩ (.slice A' ls.length c')) := (hf.mono (fun k hk => .inl (by simp [hk]))).setCell (.inl (by simp)) _
 have hF : ∀ k, k ∈ X.gb :: ah X.A → (L.cv k).1 ≠ L.id := fun k hk => h.fy k (by simp only [j8.own, ay] at hk ⊢; rcases hk with hk | hk <;> simp [hk])
 have h3 : ∀ k, k ∈ ah A' → k ≠ X.gb ∧ k ≠ X.bm := fun k hk => by
  rcases hA k hk with h1 | h1
  ·exact h.d3 k h1
  ·have := h.obj.lt
   have := h.sn.lt
   omega
 refine ⟨h.sv.fr cd (fun k hk _ => hF k hk), ?_, h.sn.fr cd (by
  simp only [ay, not_or]
  exact ⟨h.d12.symm, fun hk => (h.d3 _ hk).2 rfl⟩), ?_, h.f1, h.f2, fun k hk => ?_, fun k hk => h.fs k (aE cd.size hk), h.d12, h3⟩
 ·have := (hf.at_ h.obj (fun hk => (h.d3 _ hk).1 rfl)).cV 3 (.slice A' ls.length c')
  simpa using this
 ·exact hi.fy (p := ⟨X.gb, 3, none⟩) (fun hk => (h3 _ hk).1 rfl) _
 ·rcases hA k hk with h1 | h1
  ·exact h.f3 k h1
  ·exact h.fs k h1
namespace Sv
def raise (S : Sv) (v : Int) : Sv := { S with H := ol S.H v S.bump }
theorem Ok.raise {S : Sv} {m : Nat} (ok : S.Ok m) (v : Int) : (S.raise v).Ok m := by
 have hh : HI (ol S.H v S.bump) ∧ (ol S.H v S.bump).at_.length = S.H.at_.length := by
  unfold ol
  split
  ·rename_i hb
   obtain ⟨h1, h2, h3, h4⟩ := hb
   have := ok.hi.raise h1 h2 h3 h4
   exact ⟨this.1, this.2.2.2.1⟩
  ·exact ⟨ok.hi, rfl⟩
 exact ⟨ok.vl, ok.tr, hh.1, hh.2.trans ok.hl, ok.ph, ok.wl, ok.ll, ok.wb, ok.wt, ok.lr, ok.ln, ok.lb, ok.hd, ok.rs⟩
theorem ig {G : Sv.Gr} {l : Int} (h : tv l ∈ G.seen ∨ G.S.T.cK (tv l) ≤ 0) : meet G l = G := by
 unfold meet
 simp only
 rw [if_pos h]
theorem fF {G : Sv.Gr} {l : Int} (h : ¬ (tv l ∈ G.seen ∨ G.S.T.cK (tv l) ≤ 0)) (h2 : G.S.T.cK (tv l) = G.S.T.levels.length) : meet G l = { G with S := G.S.raise (tv l), seen := tv l :: G.seen, fg := G.fg + 1 } := by
 unfold meet raise
 simp only
 rw [if_neg h, if_pos h2]
theorem gN {G : Sv.Gr} {l : Int} (h : ¬ (tv l ∈ G.seen ∨ G.S.T.cK (tv l) ≤ 0)) (h2 : ¬ G.S.T.cK (tv l) = G.S.T.levels.length) : meet G l = { G with S := G.S.raise (tv l), seen := tv l :: G.seen, a8 := G.a8 ++ [l] } := by
 unfold meet raise
 simp only
 rw [if_neg h, if_neg h2]
theorem Ok.meet {G : Sv.Gr} {m : Nat} (ok : G.S.Ok m) (l : Int) : (meet G l).S.Ok m := by
 by_cases h : tv l ∈ G.seen ∨ G.S.T.cK (tv l) ≤ 0
 ·rw [ig h]; exact ok
 ·by_cases h2 : G.S.T.cK (tv l) = G.S.T.levels.length
  ·rw [fF h h2]; exact ok.raise _
  ·rw [gN h h2]; exact ok.raise _
theorem wW (G : Sv.Gr) (l : Int) : (meet G l).S.T = G.S.T ∧ (meet G l).S.vars = G.S.vars ∧ (meet G l).S.list = G.S.list ∧ (meet G l).S.used = G.S.used ∧ (meet G l).fg ≤ G.fg + 1 ∧ G.fg ≤ (meet G l).fg ∧ (meet G l).a8.length ≤ G.a8.length + 1 := by
 by_cases h : tv l ∈ G.seen ∨ G.S.T.cK (tv l) ≤ 0
 ·rw [ig h]; exact ⟨rfl, rfl, rfl, rfl, by omega, by omega, by omega⟩
 ·by_cases h2 : G.S.T.cK (tv l) = G.S.T.levels.length
  ·rw [fF h h2]; exact ⟨rfl, rfl, rfl, rfl, by simp, by simp; omega, by simp⟩
  ·rw [gN h h2]; exact ⟨rfl, rfl, rfl, rfl, by simp; omega, by simp, by simp⟩
end Sv
def Za (G' : Sv.Gr) (L : aH) (X : j8) (n : Nat) (w : World) (e : Ending) (w' : World) : Prop :=
 e = .returned (.tuple #[]) ∧ ∃ (X' : j8) (n' : Nat), fW w' L X' n' G' ∧ n' ≤ n + 1 ∧ X'.gb = X.gb ∧ X'.bm = X.bm ∧ (∀ k, k ∈ ah X'.A → k ∈ ah X.A ∨ w.heap.size ≤ k) ∧ Fr (X.own ++ L.hL.fp) w w'
theorem De (w : World) (L : aH) (X : j8) (n : Nat) (G : Sv.Gr) (h : fW w L X n G) (m : Nat) (ok : G.S.Ok m) (l : Int) (h0 : -(G.S.vars : Int) ≤ l) (h1 : l ≤ G.S.vars) (hn : n < maxLen) (hle : G.a8.length < 17592186044416) (ho : -4611686018427387904 ≤ G.fg) (xh : G.fg < 4611686018427387904) :
  Calls Tryz.prog 161 #[.pointer (some ⟨X.gb, 0, none⟩), .int .i64 l] w (Za (Sv.meet G l) L X n w) := by
 have nT := ok.vl
 obtain ⟨RES, co⟩ : ∃ RES, Sv.meet G l = RES := ⟨_, rfl⟩
 rw [co]
 have dC := aa co
 obtain ⟨v, hv⟩ : ∃ v, tv l = v := ⟨_, rfl⟩
 obtain ⟨oQ, lO⟩ := tT h0 h1 nT
 have vM := JZ h0 h1 nT
 rw [hv] at oQ vM
 have HV := aa hv
 have HG := aa h
 have kQ := aa ok
 have g0 := h.obj.cell 0
 have g1 := h.obj.cell 1
 simp only [cq, cg, bT] at g0 g1
 obtain ⟨c0, c1, -, -, -, -, -, -, -, -, N4, -⟩ := h.sv.cells
 have th := aa c0
 have mg := aa c1
 have ag3 := aa N4
 have CK := aa g0
 have Wm := aa g1
 clear co hv
 by_cases hs : v ∈ G.seen
 ·have jb := h.sn.look (v := v) ⟨by omega, by omega⟩
  have pJ : decide (v ∈ G.seen) = true := decide_eq_true hs
  rw [pJ] at jb
  have HR : Hid (RES = G) := by rw [← dC.out]; exact Sv.ig (.inl (by rw [HV.out]; exact hs))
  have hr := HR.out.symm
  subst hr
  have FF : Hid (Za G L X n w (.returned (.tuple #[])) w) := ⟨rfl, X, n, HG.out, by omega, rfl, rfl, fun k hk => .inl hk, Fr.refl _ _⟩
  clear hs pJ h ok
  go_enter Tryz.func161, Tryz.ntmps161
  go_wp2_with fail
  refine bodyPost_ret (results_none rfl _ _ _) rfl ?_
  exact FF.out
 ·have jb := h.sn.look (v := v) ⟨by omega, by omega⟩
  have pJ : decide (v ∈ G.seen) = false := decide_eq_false hs
  rw [pJ] at jb
  have KV := aa (im w L.tL G.S.T h.sv.tr v)
  obtain ⟨lv, oD⟩ : ∃ lv, G.S.T.cK v = lv := ⟨_, rfl⟩
  rw [oD] at KV
  have Nr := aa oD
  have HS := aa hs
  clear pJ oD hs
  by_cases hz : lv ≤ 0
  ·have hd : decide (lv ≤ 0) = true := decide_eq_true hz
   have HR : Hid (RES = G) := by rw [← dC.out]; exact Sv.ig (.inr (by rw [HV.out, Nr.out]; exact hz))
   have hr := HR.out.symm
   subst hr
   have FF : Hid (Za G L X n w (.returned (.tuple #[])) w) := ⟨rfl, X, n, HG.out, by omega, rfl, rfl, fun k hk => .inl hk, Fr.refl _ _⟩
   clear hz h ok
   go_enter Tryz.func161, Tryz.ntmps161
   go_wp2_with fail
   refine KV.out.mono ?_
   clear KV
   rintro e w1 ⟨rfl, rfl⟩
   go_wp2_with fail
   refine bodyPost_ret (results_none rfl _ _ _) rfl ?_
   exact FF.out
  ·have hd : decide (lv ≤ 0) = false := decide_eq_false hz
   have Jg : Hid (¬ (tv l ∈ G.seen ∨ G.S.T.cK (tv l) ≤ 0)) := by
    rw [HV.out]
    show ¬ _
    rintro (h5 | h5)
    ·exact HS.out h5
    ·rw [Nr.out] at h5; exact hz h5
   obtain ⟨w1, FS, lX, cE⟩ := h.sn.store (v := v) hn ⟨by omega, by omega⟩
   have VH := aa (h.WG lX cE)
   have dv := aa cE
   have HGB : Hid (X.gb ∉ [X.bm]) := by show ¬ _; simpa using h.d12
   have Gz : Hid (L.a ∉ [X.bm]) := by
    show ¬ _
    simp only [an]
    intro e
    exact h.f2 (by rw [← e, h.sv.t0])
   have Q4 := aa (cE.aZ HGB.out CK.out)
   have zE := aa (cE.aZ Gz.out mg.out)
   have Sr := aa (cE.aZ Gz.out th.out)
   have Vy := aa (cE.aZ Gz.out ag3.out)
   have KR := aa (fun W (hW : Fr [] w1 W) => Bd W L.hL G.S.H (VH.out.sv.hp.fr hW (by simp)) kQ.out.hi v (G.S.bump : Int))
   clear hz h ok lX cE
   go_enter Tryz.func161, Tryz.ntmps161
   go_wp2_with fail
   refine KV.out.mono ?_
   clear KV
   rintro e w2 ⟨rfl, rfl⟩
   clear jb
   go_upto_region 3 with fail
   clear FS g0 g1 c0 c1 N4 oQ lO
   refine wp_region_noPanic ?_
   refine bj (fun w' : World => Fr [] w1 w') 15 (by kernel_rfl) ((Fr.refl [] w1).drew) (fun dd => ?_)
   apply TB 15 [(0, []), (1, []), (2, []), (3, [3, 4, 5, 6, 15]), (4, []), (5, []), (6, [6, 15]), (7, []), (8, []), (9, []), (10, []), (11, [11, 12, 13, 14, 15]), (12, []), (13, []), (14, [14, 15])]; kernel_rfl; rfl; · (repeat (apply ef; rfl; rfl; (· intro w aY; (try (have aY := aY.resolve_left (aF _ _); (have s0 := aY.av Q4.out; have s1 := aY.av zE.out; have s2 := aY.av Vy.out))); go_simp <;> with_reducible rfl); try simp only [Act.put, q5, q6, q7])); exact ee
   exact dd; intro dd
   refine R2 15 (by kernel_rfl) (by rfl) dd fun K hK ap => ?_
   (go_simp; refine (KR.out _ ap).mono ?_; rintro e w5 ⟨rfl, hp5, dK⟩; dsimp only)
   refine hK.out _ _ (.inl rfl) (fun kH => ?_)
   clear hK K
   try simp only [Act.put, q5, q6, q7]
   refine az (by kernel_rfl) ?_ _
   refine NoPanic.normal ?_
   have Q5 := aa ((VH.out.keep ap).Yv hp5 dK)
   have cR : Hid (Fr (X.own ++ L.hL.fp) w w5) := ((dv.out.mono (fun k hk => .inl (by simp at hk; simp [j8.own, hk]))).ag (ap.mono (fun k hk => by cases hk))).ag (dK.mono (fun k hk => .inl (by simp [hk])))
   clear hp5 dK KR
   have g0 := Q5.out.obj.cell 0
   simp only [cq, bT] at g0
   obtain ⟨c0, -⟩ := Q5.out.sv.cells
   have e0 := Ext.cell c0
   have eg := Ext.cell g0
   have KV := aa (fun u : Ext w5 => im u.v L.tL G.S.T (Q5.out.sv.tr.fr u.fr (by simp)) v)
   have KD := aa (fun u : Ext w5 => jS u.v L.tL G.S.T (Q5.out.sv.tr.fr u.fr (by simp)))
   simp only [Nr.out] at KV
   obtain ⟨d, hde⟩ : ∃ d, G.S.T.levels.length = d := ⟨_, rfl⟩
   simp only [hde] at KD
   have NL := aa hde
   clear hde
   by_cases heq : lv = (d : Int)
   ·have hdd : (lv == (d : Int)) = true := by simp [heq]
    have HR : Hid (RES = { G with S := G.S.raise v, seen := v :: G.seen, fg := G.fg + 1 }) := by
     rw [← dC.out, Sv.fF Jg.out (by rw [HV.out, Nr.out, NL.out]; exact heq), HV.out]
     rfl
    clear heq
    go_wp2_with fail
    refine al (by kernel_rfl) (by kernel_rfl) ?_
    repeat (go_big_quiet_step (first | exact aV (KV.out _) | exact aV (KD.out _)))
    refine wpQuiet_nil ?_
    rintro w6 ⟨u2, bJ⟩
    have Cd : Hid (Fr [] w5 w6) := bJ ▸ u2.fr
    clear bJ u2
    clear e0 eg g0 c0
    have CL := aa (Q5.out.keep Cd.out)
    have gS := aa (cR.out.ag (Cd.out.mono (fun k hk => by cases hk)))
    have g2 := CL.out.obj.cell 2
    have fz := CL.out.obj.frozen 2
    simp only [cq, cg, bT] at g2
    have ep : IntKind.i64.wrap (G.fg + 1) = G.fg + 1 := IntWalk.i64_in _ (by omega)
    have FF : Hid (Za RES L X n w (.returned (.tuple #[])) (w6.setCell ⟨X.gb, 2, none⟩ (.int .i64 (G.fg + 1)))) :=
     ⟨rfl, X, n + 1, by rw [HR.out]; exact CL.out.SO (G.fg + 1), ao _, rfl, rfl, fun k hk => .inl hk, gS.out.setCell (.inl (by simp [j8.own])) _⟩
    go_wp2_with fail
    refine bodyPost_ret (results_none rfl _ _ _) rfl ?_
    exact FF.out
   ·have hdd : (lv == (d : Int)) = false := by simp [heq]
    have HR : Hid (RES = { G with S := G.S.raise v, seen := v :: G.seen, a8 := G.a8 ++ [l] }) := by
     rw [← dC.out, Sv.gN Jg.out (by rw [HV.out, Nr.out, NL.out]; exact heq), HV.out]
     rfl
    clear heq
    go_wp2_with fail
    refine al (by kernel_rfl) (by kernel_rfl) ?_
    repeat (go_big_quiet_step (first | exact aV (KV.out _) | exact aV (KD.out _)))
    refine wpQuiet_nil ?_
    rintro w6 ⟨u2, bJ⟩
    have Cd : Hid (Fr [] w5 w6) := bJ ▸ u2.fr
    clear bJ u2
    clear e0 eg g0 c0
    have CL := aa (Q5.out.keep Cd.out)
    have gS := aa (cR.out.ag (Cd.out.mono (fun k hk => by cases hk)))
    have g3 := CL.out.obj.cell 3
    simp only [cq, cg, bT] at g3
    have qO := aa g3
    have VG : Hid (Fr [] w6 (w6.alloc (.cells #[.int .i64 l] 3))) := aP _ _
    have NP : Hid ((w6.alloc (.cells #[.int .i64 l] 3)).cell? ⟨w6.heap.size, 0, none⟩ = some (.int .i64 l)) := (At.new w6 _ _).cell 0
    have Nx := aa (CL.out.ln.eE VG.out)
    have Gw : Hid (∀ w7, Fr (ah X.A) (w6.alloc (.cells #[.int .i64 l] 3)) w7 → w7.cell? ⟨X.gb, 3, none⟩ = some (.slice X.A G.a8.length X.c) ∧ w7.frozen? ⟨X.gb, 3, none⟩ = false) := fun w7 jl => by
     have Jz : X.gb ∉ ah X.A := fun hk => (CL.out.d3 _ hk).1 rfl
     have Wc := VG.out.av qO.out
     have f3' := (CL.out.keep VG.out).obj.frozen 3
     exact ⟨jl.aZ Jz Wc, (World.frozen?_of_block (jl.block X.gb (bt Wc) Jz)).trans f3'⟩
    have Ss : Hid (G.a8.length < 17592186044416) := hle
    go_wp2_with (at_builtin; (refine cM _ rfl _ _ rfl X.A X.c G.a8 _ rfl rfl Nx.out ⟨w6.heap.size, 0, none⟩ 1 l rfl NP.out Ss.out ?_; intro g7 YX w7 yA jl Ue XD; obtain ⟨s7, f7⟩ := Gw.out w7 jl))
    have Uj : Fr (ah X.A) w6 w7 := (VG.out.mono (fun k hk => by cases hk)).ag jl
    have hA7 : ∀ k, k ∈ ah (some (⟨g7, 0, none⟩ : Addr)) → k ∈ ah X.A ∨ w6.heap.size ≤ k := fun k hk => by
     simp [ah] at hk
     subst hk
     rcases Ue with h5 | h5
     ·exact .inl h5
     ·right
      rw [h5]
      simp
    have hB7 := CL.out.SW yA Uj hA7
    rw [ai, bu] at hB7
    have hz6 : w.heap.size ≤ w6.heap.size := gS.out.size
    have FF := aa (show Za RES L X n w (.returned (.tuple #[])) (w7.setCell ⟨X.gb, 3, none⟩ (.slice (some ⟨g7, 0, none⟩) (G.a8.length + 1) YX)) from
     ⟨rfl, ⟨X.gb, X.bm, some ⟨g7, 0, none⟩, YX⟩, n + 1, by rw [HR.out]; exact hB7, ao _, rfl, rfl, fun k hk => (hA7 k hk).imp id (fun h5 => aE hz6 h5), (gS.out.ag (Uj.mono (fun k hk => .inl (by simp [j8.own, hk])))).setCell (.inl (by simp [j8.own])) _⟩)
    clear hB7 yA jl Ue XD Uj hA7 hz6
    go_wp2_with fail
    refine bodyPost_ret (results_none rfl _ _ _) rfl ?_
    exact FF.out
theorem aK.act {w : World} {L : aH} {S : Sv} (h : aK w L S) {n : Nat} (hn : n < L.cs.length) {gc : Nat} (gY : L.cA = some ⟨gc, 0, none⟩) (x : Int) :
  w.frozen? ⟨gc, n * 3 + 2, none⟩ = false ∧ aK (w.setCell ⟨gc, n * 3 + 2, none⟩ (.int .i64 x)) { L with cs := L.cs.set n { L.cs[n]! with act := x } } { S with list := S.list.set n { S.rc n with act := x } } ∧
   Fr [gc] w (w.setCell ⟨gc, n * 3 + 2, none⟩ (.int .i64 x)) ∧ (L.cv gc).1 = L.id := by
 have r := h.sG
 unfold qc at r
 rw [gY] at r
 have jy : L.cv gc = (L.id, 3, 0) := h.t3 gc (by rw [gY]; simp [ah])
 have hf : Fr [gc] w (w.setCell ⟨gc, n * 3 + 2, none⟩ (.int .i64 x)) := (Fr.refl _ w).setCell (.inl (by simp)) _
 have o := h.off (P := (· = (3, 0))) hf (fun k hk hl => ⟨_, rfl, by simp at hk; subst hk; exact jy⟩)
 have ni := (World.ownsRow.stored r (n * 3 + 2) (.int .i64 x)).1
 have fm := h.nS hn
 have nI : ∀ j : Nat, (L.cs.set n { L.cs[n]! with act := x })[j]! = if n = j ∧ n < L.cs.length then { L.cs[n]! with act := x } else L.cs[j]! := fun j => du _ _ _ _
 have hA : ∀ j : Nat, ((L.cs.set n { L.cs[n]! with act := x })[j]!).A = (L.cs[j]!).A ∧ ((L.cs.set n { L.cs[n]! with act := x })[j]!).c = (L.cs[j]!).c ∧ ((L.cs.set n { L.cs[n]! with act := x })[j]!).lits = (L.cs[j]!).lits := fun j => by
  rw [nI]
  split
  ·rename_i e
   rw [e.1]
   exact ⟨rfl, rfl, rfl⟩
  ·exact ⟨rfl, rfl, rfl⟩
 refine ⟨World.ownsRow.frozenAt r _, ⟨?_, o.tr (by decide), o.hp (by decide), h.gy, ?_, h.yN, ?_, o.rws (by decide), o.sE (by decide), o.vh (by decide), o.rV (by decide), fun j hj => ?_, fun c hc => o.pN c hc (by simp),
  h.t0, h.t1, h.t2, h.t3, h.t4, h.t5, h.t6, h.t7, fun j hj k hk => ?_, h.t9⟩, hf, by rw [jy]⟩
 ·have := o.obj (by decide)
  simp only [m7, ak] at this ⊢
  exact this
 ·simp only
  rw [← h.yP, List.map_set]
  congr 1
  rw [fm]
  rfl
 ·unfold qc
  obtain ⟨g0, g1, g2⟩ := kJ L.cs n hn
  have e : (ew L.cs).set (n * 3 + 2) (.int .i64 x) = ew (L.cs.set n { L.cs[n]! with act := x }) := by
   rw [← ns L.cs n _ hn]
   simp only
   rw [js g0, js g1]
  simp only [ak]
  rw [← e, gY]
  exact ni
 ·simp only [ak] at hj
  obtain ⟨e1, e2, e3⟩ := hA j
  simp only
  rw [e1, e2, e3]
  exact o.nK j hj (by simp)
 ·simp only [ak] at hj
  simp only at hk
  rw [(hA j).1] at hk
  exact h.t8 j hj k hk
theorem fW.act {w : World} {L : aH} {X : j8} {nm : Nat} {G : Sv.Gr} (h : fW w L X nm G) {n : Nat} (hn : n < L.cs.length) {gc : Nat} (gY : L.cA = some ⟨gc, 0, none⟩) (x : Int) :
  fW (w.setCell ⟨gc, n * 3 + 2, none⟩ (.int .i64 x)).drew { L with cs := L.cs.set n { L.cs[n]! with act := x } } X nm { G with S := { G.S with list := G.S.list.set n { G.S.rc n with act := x } } } := by
 obtain ⟨h1, h2, h3, h4⟩ := h.sv.act hn gY x
 have hn : ∀ k, k ∈ X.own → k ∉ [gc] := fun k hk hm => h.fy k hk (by simp at hm; rw [hm]; exact h4)
 have h5 := h2.keep (Fr.refl [] _).drew
 have h6 := h3.drew
 exact ⟨h5, h6.at_ h.obj (hn _ (by simp [j8.own])), h.sn.fr h6 (hn _ (by simp [j8.own])), h.ln.fr h6 (fun k hk => hn _ (by simp [j8.own, hk])), h.f1, h.f2, h.f3, fun k hk => h.fs k (aE h6.size hk), h.d12, h.d3⟩
theorem fW.new {w : World} {L : aH} {S : Sv} (h : aK w L S) :
  fW (((w.alloc (.map #[] 0)).alloc (.cells #[.int .i64 0] 3)).alloc (.cells #[.pointer (some ⟨L.a, 0, none⟩), .map (some w.heap.size), .int .i64 0, .slice (some ⟨w.heap.size + 1, 0, none⟩) 1 1] 183)) (L.seal w)
   ⟨w.heap.size + 1 + 1, w.heap.size, some ⟨w.heap.size + 1, 0, none⟩, 1⟩ 0 ⟨S, [], 0, [0]⟩ := by
 have cE : Fr [] w (w.alloc (.map #[] 0)) := aP _ _
 have cd : Fr [] (w.alloc (.map #[] 0)) ((w.alloc (.map #[] 0)).alloc (.cells #[.int .i64 0] 3)) := aP _ _
 have cY : Fr [] ((w.alloc (.map #[] 0)).alloc (.cells #[.int .i64 0] 3)) (((w.alloc (.map #[] 0)).alloc (.cells #[.int .i64 0] 3)).alloc (.cells #[.pointer (some ⟨L.a, 0, none⟩), .map (some w.heap.size), .int .i64 0, .slice (some ⟨w.heap.size + 1, 0, none⟩) 1 1] 183)) := aP _ _
 have kG : ∀ k, w.heap.size ≤ k → ((L.seal w).cv k).1 ≠ (L.seal w).id := fun k hk => aH.gJ hk
 refine ⟨h.seal.keep ((cE.ag cd).ag cY), ?_, (oW.new w).keep (cd.ag cY), ?_, kG _ (by simp only; omega), kG _ (ao _), fun k hk => kG k (by simp [ah] at hk; omega), fun k hk => kG k (aE ((cE.ag cd).ag cY).size hk), by simp only; omega, fun k hk => by simp [ah] at hk; subst hk; simp⟩
 ·have := At.new ((w.alloc (.map #[] 0)).alloc (.cells #[.int .i64 0] 3)) 183 #[.pointer (some ⟨L.a, 0, none⟩), .map (some w.heap.size), .int .i64 0, .slice (some ⟨w.heap.size + 1, 0, none⟩) 1 1]
  rwa [show ((w.alloc (.map #[] 0)).alloc (.cells #[.int .i64 0] 3)).heap.size = w.heap.size + 1 + 1 from by simp] at this
 ·have : Ints ((w.alloc (.map #[] 0)).alloc (.cells #[.int .i64 0] 3)) (some ⟨(w.alloc (.map #[] 0)).heap.size, 0, none⟩) 1 [0] := World.ownsRow_lit (w.alloc (.map #[] 0)) #[.int .i64 0] 1 (bV _) (by simp [maxLen]) (by simp)
  rw [show (w.alloc (.map #[] 0)).heap.size = w.heap.size + 1 from by simp] at this
  exact this.eE cY
theorem fW.dH {w : World} {L : aH} {X : j8} {n : Nat} {G : Sv.Gr} (h : fW w L X n G) {ga : Nat} (hA : X.A = some ⟨ga, 0, none⟩) (v : Int) : fW (w.setCell ⟨ga, 0, none⟩ (.int .i64 v)) L X n { G with a8 := G.a8.set 0 v } := by
 have np : ga ∈ ah X.A := by rw [hA]; simp [ah]
 have hf : Fr [ga] w (w.setCell ⟨ga, 0, none⟩ (.int .i64 v)) := (Fr.refl _ w).setCell (.inl (by simp)) _
 have hd := h.d3 ga np
 have hl := h.ln
 rw [hA] at hl
 refine ⟨h.sv.fr hf (fun k hk _ => by simp at hk; subst hk; exact h.f3 _ np), ?_, h.sn.fr hf (by simpa using hd.2.symm), ?_, h.f1, h.f2, h.f3, fun k hk => h.fs k (aE hf.size hk), h.d12, h.d3⟩
 ·have := hf.at_ h.obj (by simpa using hd.1.symm)
  simpa using this
 ·rw [hA]
  exact hl.cV 0 v
theorem fW.SL {w wr w' : World} {L L1 : aH} {X : j8} {n : Nat} {G : Sv.Gr} (h : fW wr L1 X n G) (he : L.ext L1 w) (hF : Fr (L.own w) w wr) (hX : ∀ k, k ∈ X.own → w.heap.size ≤ k) (hf : Fr (X.own ++ L1.hL.fp) wr w') : Fr (L.own w) w w' :=
 hF.trans hf fun k hk => by
  rcases bl k w.heap.size with hl | hl
  ·left
   rw [aH.bI]
   refine ⟨hl, ?_⟩
   rcases aj.1 hk with h1 | h1
   ·have := hX k h1
    omega
   ·exact he.2.2 k hl (by rw [h.sv.t2 k h1]; exact he.2.1)
  ·exact .inr hl
theorem fj (T : Tr) : ∀ (f k : Nat) (l : List Int) (cO : Int), (Sv.second T f k l cO).1.length = l.length
 | 0, k, l, cO => rfl
 | f + 1, k, l, cO => by
  rw [Sv.second]
  split
  ·split
   ·rw [fj T f, eO]
   ·rw [fj T f]
  ·rfl
namespace Sv
def dF (G : Gr) (n skip : Int) : Gr := if 0 ≤ n then meets skip (G.S.rc n.toNat).lits { G with S := G.S.fV n.toNat } else G
def dA (f : Nat) (G1 : Gr) (rest : List Int) : Option (Gr × Int) :=
 match rest.dropWhile (fun x => decide (tv x ∉ G1.seen)) with
 | [] => none
 | x :: r => if G1.fg - 1 = 0 then some ({ G1 with fg := G1.fg - 1 }, x) else eZ f { G1 with fg := G1.fg - 1 } (G1.S.T.eD (tv x) - 1) x r
theorem kB (f : Nat) (G : Gr) (n skip : Int) (rest : List Int) : eZ (f + 1) G n skip rest = dA f (dF G n skip) rest := by
 rw [eZ]
 show _ = dA f (dF G n skip) rest
 unfold dA dF
 simp only
 cases List.dropWhile _ rest <;> rfl
theorem jX (G : Gr) (n skip : Int) (rest : List Int) : eZ 0 G n skip rest = none := rfl
theorem tX (f : Nat) (G : Gr) : dA f G [] = none := rfl
theorem rf {f : Nat} {G : Gr} {x : Int} {r : List Int} (h : tv x ∉ G.seen) : dA f G (x :: r) = dA f G r := by
 unfold dA
 rw [List.dropWhile_cons, if_pos (by simpa using h)]
theorem tY {f : Nat} {G : Gr} {x : Int} {r : List Int} (h : tv x ∈ G.seen) (ho : G.fg - 1 = 0) : dA f G (x :: r) = some ({ G with fg := G.fg - 1 }, x) := by
 unfold dA
 rw [List.dropWhile_cons, if_neg (by simpa using h)]
 simp only
 rw [if_pos ho]
theorem wZ {f : Nat} {G : Gr} {x : Int} {r : List Int} (h : tv x ∈ G.seen) (ho : ¬ G.fg - 1 = 0) : dA f G (x :: r) = eZ f { G with fg := G.fg - 1 } (G.S.T.eD (tv x) - 1) x r := by
 unfold dA
 rw [List.dropWhile_cons, if_neg (by simpa using h)]
 simp only
 rw [if_neg ho]
structure lK (S : Sv) (m : Nat) (G : Gr) : Prop where
 T : G.S.T = S.T
 vars : G.S.vars = S.vars
 used : G.S.used = S.used
 len : G.S.list.length = S.list.length
 ok : G.S.Ok m
 lr : ∀ x ∈ G.a8, -(S.vars : Int) ≤ x ∧ x ≤ S.vars
 l0 : 0 < G.a8.length
theorem lK.meet {S : Sv} {m : Nat} {G : Gr} (h : lK S m G) {l : Int} (hl : -(S.vars : Int) ≤ l ∧ l ≤ S.vars) : lK S m (meet G l) := by
 have hs := wW G l
 refine ⟨hs.1.trans h.T, hs.2.1.trans h.vars, hs.2.2.2.1.trans h.used, by rw [hs.2.2.1]; exact h.len, h.ok.meet l, ?_, ?_⟩
 ·by_cases h1 : tv l ∈ G.seen ∨ G.S.T.cK (tv l) ≤ 0
  ·rw [ig h1]; exact h.lr
  ·by_cases h2 : G.S.T.cK (tv l) = G.S.T.levels.length
   ·rw [fF h1 h2]; exact h.lr
   ·rw [gN h1 h2]
    intro x hx
    rcases aj.1 hx with hx | hx
    ·exact h.lr x hx
    ·simp at hx; rw [hx]; exact hl
 ·by_cases h1 : tv l ∈ G.seen ∨ G.S.T.cK (tv l) ≤ 0
  ·rw [ig h1]; exact h.l0
  ·by_cases h2 : G.S.T.cK (tv l) = G.S.T.levels.length
   ·rw [fF h1 h2]; exact h.l0
   ·rw [gN h1 h2]; simp
theorem po (S : Sv) (n j : Nat) : ((S.fV n).rc j).lits = (S.rc j).lits ∧ (S.fV n).list.length = S.list.length := by
 have : (S.fV n).rc j = if n = j ∧ n < S.list.length then { S.rc n with act := S.used } else S.rc j := du _ _ _ _
 rw [this]
 constructor
 ·split
  ·rename_i e; rw [e.1]
  ·rfl
 ·simp [fV]
theorem Ok.fV {S : Sv} {m : Nat} (ok : S.Ok m) (n : Nat) : (S.fV n).Ok m := by
 have e := fun j => (po S n j).1
 have el := (po S n n).2
 exact ⟨ok.vl, ok.tr, ok.hi, ok.hl, ok.ph, ok.wl, by rw [el]; exact ok.ll, fun c k hk => by rw [el]; exact ok.wb c k hk, by rw [el]; exact ok.wt, fun j x hx => by rw [e] at hx; exact ok.lr j x hx, fun j => by rw [e]; exact ok.ln j, fun j => by rw [e]; exact ok.lb j, ok.hd, fun v => by rw [el]; exact ok.rs v⟩
theorem lK.fV {S : Sv} {m : Nat} {G : Gr} (h : lK S m G) (n : Nat) : lK S m { G with S := G.S.fV n } :=
 ⟨h.T, h.vars, h.used, (po G.S n n).2.trans h.len, h.ok.fV n, h.lr, h.l0⟩
theorem lK.fg {S : Sv} {m : Nat} {G : Gr} (h : lK S m G) (v : Int) : lK S m { G with fg := v } := ⟨h.T, h.vars, h.used, h.len, h.ok, h.lr, h.l0⟩
end Sv
end Go.Proofs.YtpjbaobgnhjgoaaGreat
