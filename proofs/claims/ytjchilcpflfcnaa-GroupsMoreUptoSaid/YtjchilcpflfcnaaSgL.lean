/-  -/
import Derived.Test.YtjchilcpflfcnaaSgK
import Derived.Test.YtjchilcpflfcnaaSgA
set_option linter.unusedVariables false
set_option linter.unusedSimpArgs false
set_option maxRecDepth 100000
namespace Go.Proofs.Ytjchilcpflfcnaa
open Go.RowKit
theorem zc_list (z : Value) (m : Nat) : (Builtin.zeroCells #[z] m).toList = List.replicate m z := by
 apply List.ext_getElem?
 intro j
 simp only [Builtin.zeroCells, Array.toList_map, List.getElem?_map]
 by_cases h : j < m
 ·simp [h, Nat.mod_one]
 ·simp [h]
theorem zc_arr (z : Value) (m : Nat) : Builtin.zeroCells #[z] m = (List.replicate m z).toArray := by
 rw [← zc_list, Array.toArray_toList]
theorem run_append_zeros (w : World) (t ti ty e : TypeId) (z : Value) (bytes : Nat) (ht : Try.prog.underlying t = some (.slice e)) (hti : Try.prog.underlying ti = some (.int .i64)) (hi : (Try.prog.info? e).map (fun i => (i.zero, i.size, i.bytes)) = some (some z, 1, bytes)) (hzs : z.cells = #[z]) (h1z : z.oneCell' = true)
  (A : Option Addr) (c n : Nat) (xs : List Value) (hown : w.ownsRow 0 e 1 (.slice A n c) n xs) (m : Nat) (h63 : n + m ≤ maxLen) (hbytes : (n + m) * bytes ≤ 140737488355328) (hm : (m : Int) ≤ 9223372036854775807) :
  ∃ A' cap w', (Builtin.append_ #[t, ti] ty #[.slice A n c, .int .i64 m]).run Try.prog w = .ok (.slice A' (n + m) cap) w' ∧
   w'.ownsRow 0 e 1 (.slice A' (n + m) cap) (n + m) (xs ++ List.replicate m z) ∧ Fr (blks A) w w' ∧ (∀ k, k ∈ blks A' → k ∈ blks A ∨ w.heap.size ≤ k) := by
 obtain ⟨i, hi, hz, hsize, hby⟩ := info_parts hi
 have hw : IntKind.i64.wrap (m : Int) = m := IntWalk.i64_in _ (by omega)
 have hw0 : IntKind.i64.wrap 0 = 0 := by decide
 have hneg : ¬ ((m : Int) < 0) := by omega
 have hmb : (m : Int) * (bytes : Int) ≤ 281474976710656 := by
  have : m * bytes ≤ (n + m) * bytes := Nat.mul_le_mul_right _ (by omega)
  have h2 : ((m * bytes : Nat) : Int) ≤ 281474976710656 := by omega
  simpa using h2
 have hmb' : ¬ (281474976710656 < (m : Int) * (bytes : Int)) := by omega
 have hsmall : n + m ≤ 9223372036854775807 := by simp only [maxLen] at h63; omega
 have hlen : (xs ++ List.replicate m z).length = (n + m) * 1 := by rw [List.length_append, hown.1, List.length_replicate]; omega
 have grown : ∀ (old : Nat), old < n + m → ∀ (S : List Nat),
   (w.drew.alloc (.cells (xs.toArray ++ (List.replicate m z).toArray ++ Builtin.zeroCells #[z] (grownCap w (n + m) old e - (n + m))) e)).ownsRow 0 e 1
    (.slice (some ⟨w.heap.size, 0, none⟩) (n + m) (grownCap w (n + m) old e)) (n + m) (xs ++ List.replicate m z) ∧
   Fr S w (w.drew.alloc (.cells (xs.toArray ++ (List.replicate m z).toArray ++ Builtin.zeroCells #[z] (grownCap w (n + m) old e - (n + m))) e)) := by
  intro old ho S
  have hge := grownCap_ge w (n + m) old e
  have hcm : grownCap w (n + m) old e ≤ maxLen := grownCap_le_maxLen w (n + m) old e h63
  refine ⟨⟨hlen, .inr ⟨w.heap.size, _, _, rfl, Nat.zero_le _, heap_alloc_new w.drew _, hge, hcm, ?_, ?_⟩⟩, ((Fr.refl S w).drew).alloc _⟩
  ·have hx := hown.1
   simp only [Array.size_append, List.size_toArray, size_zeroCells, List.length_replicate, hx]
   simp
   omega
  ·simp only [Array.toList_append, List.append_assoc]
   rw [← List.append_assoc, ← hlen]
   exact List.take_left
 rcases hown.2 with ⟨hv, rfl⟩ | ⟨g, cap, cur, hv, hbg, hg, hnc, hcm, hcs, htake⟩
 ·simp only [Value.slice.injEq, true_and] at hv
  obtain ⟨rfl, rfl⟩ := hv
  have hx : xs = [] := List.eq_nil_of_length_eq_zero (by simpa using hown.1)
  subst hx
  by_cases hm0 : m = 0
  ·subst hm0
   refine ⟨none, 0, w, ?_, World.ownsRow_nil w 0 e 1, Fr.refl _ _, fun k hk => by simp [blks] at hk⟩
   simp [Builtin.append_, run_underlying ht, run_underlying hti, sizeOf, typeInfo, hi, asInt, asIntOf, hw0]
  ·have hgr := grown 0 (by omega) (blks none)
   simp only [Nat.zero_add, List.nil_append] at hgr ⊢
   refine ⟨_, _, _, ?_, hgr.1, hgr.2, fun k hk => .inr (by simp [blks] at hk; omega)⟩
   have h48' : ¬ (281474976710656 < Builtin.nextslicecap m 0 * bytes) := by
    rw [nextslicecap_zero (by omega)]
    have := hbytes
    simp only [Nat.zero_add] at this
    omega
   have h63' : ¬ (9223372036854775807 < (m : Int)) := by omega
   simp [Builtin.append_, run_underlying ht, run_underlying hti, sizeOf, typeInfo, zeroValue, hi, hz, asInt, asIntOf, hsize, hby, hw, hneg, hmb', hm0, h63', h48', Question.forced, run_firstCells_none, newRow, grownCap, hzs, zc_arr]
 ·simp only [Value.slice.injEq, true_and] at hv
  obtain ⟨rfl, rfl⟩ := hv
  by_cases hroom : n + m ≤ c
  ·have hfit : n * 1 + (List.replicate m z).length ≤ cur.size := by rw [hcs, List.length_replicate]; omega
   have hst := run_storeCells_at Try.prog g (n * 1) e (List.replicate m z) 0 cur w hg (by simpa using hfit) (fun u hu => by rw [List.mem_replicate] at hu; rw [hu.2]; exact h1z)
   simp only [Nat.add_zero] at hst
   refine ⟨some ⟨g, 0, none⟩, c, w.setRow g (cur.toList.take (n * 1) ++ List.replicate m z ++ cur.toList.drop (n * 1 + (List.replicate m z).length)).toArray, ?_, ⟨hlen, .inr ⟨g, c, _, rfl, hbg, setRow_heap w g cur _ e _ hg, hroom, hcm, ?_, ?_⟩⟩, ?_, fun k hk => .inl hk⟩
   ·by_cases hm0 : m = 0
    ·subst hm0
     simp only [List.replicate_zero] at hst ⊢
     have hr0 : n ≤ c := hroom
     simp [Builtin.append_, run_underlying ht, run_underlying hti, sizeOf, typeInfo, hi, asInt, asIntOf, hw0, hr0, Addr.add_lit]
     simp only [Nat.mul_one] at hst
     simp [hsize, hst]
    ·simp [Builtin.append_, run_underlying ht, run_underlying hti, sizeOf, typeInfo, zeroValue, hi, hz, asInt, asIntOf, hsize, hby, hw, hneg, hmb', hm0, hroom, Addr.add_lit, hzs, zc_list]
     simp only [Nat.mul_one] at hst
     first | exact hst | (rw [hst]; simp) | simp [hst]
   ·simp only [List.size_toArray, List.length_append, List.length_take, List.length_drop, Array.length_toList, List.length_replicate]
    omega
   ·rw [htake, ← hlen]
    exact List.take_left
   ·exact ⟨rfl, rfl, rfl, by simp, fun k _ hk => setRow_other w g k _ (fun e => hk (by simp [blks, e]))⟩
  ·have holds : ∀ j u, xs[j]? = some u → w.cell? ((⟨g, 0, none⟩ : Addr).add j) = some u := hown.cells (g := g) rfl
   have hgr := grown c (by omega) (blks (some (⟨g, 0, none⟩ : Addr)))
   refine ⟨_, _, _, ?_, hgr.1, hgr.2, fun k hk => .inr (by simp [blks] at hk; omega)⟩
   have hm0 : m ≠ 0 := by omega
   have hfo := run_firstCells_some (P := Try.prog) w.drew 1 n ⟨g, 0, none⟩ n c xs (by rw [hown.1]) (by simpa using holds)
   have h63' : ¬ (9223372036854775807 < ((n : Int) + (m : Int))) := by omega
   have h48' : ¬ (281474976710656 < Builtin.nextslicecap (n + m) c * bytes) := by
    have := growslice_fits (need := n + m) (old := c) (bytes := bytes) (by omega) hbytes
    omega
   simp [Builtin.append_, run_underlying ht, run_underlying hti, sizeOf, typeInfo, zeroValue, hi, hz, asInt, asIntOf, hsize, hby, hw, hneg, hmb', hm0, hroom, h63', h48', Question.forced, hfo, newRow, grownCap, hzs, zc_arr]
   try rw [hby] at h48'
   try simp [h48']
theorem SvAt.phrow {w w1 : World} {L : SvL} {S : Sv} (h : SvAt w L S) {A' : Option Addr} {c' : Nat} {F : List Nat} {ls : List Bool} (hi : Bools w1 A' c' ls) (hf : Fr F w w1) (hF : ∀ k, k ∈ F → k < w.heap.size → L.lab k = (L.id, 5, 0))
  (hA : ∀ k, k ∈ blks A' → (k < w.heap.size ∧ L.lab k = (L.id, 5, 0)) ∨ w.heap.size ≤ k) :
  ∃ L', SvAt (w1.setCell ⟨L.a, 5, none⟩ (.slice A' ls.length c')) L' { S with phase := ls } ∧ L.ext L' w ∧ Fr (L.own w) w (w1.setCell ⟨L.a, 5, none⟩ (.slice A' ls.length c')) := by
 have hf2 : Fr (L.a :: F) w (w1.setCell ⟨L.a, 5, none⟩ (.slice A' ls.length c')) := (hf.mono (fun k hk => .inl (by simp [hk]))).setCell (.inl (by simp)) _
 have hF2 : ∀ k, k ∈ L.a :: F → k < w.heap.size → ∃ t, (t = (5, 0) ∨ t = (0, 0)) ∧ L.lab k = (L.id, t) := by
  intro k hk hl
  rcases List.mem_cons.1 hk with rfl | hk
  ·exact ⟨_, .inr rfl, h.t0⟩
  ·exact ⟨_, .inl rfl, hF k hk hl⟩
 have o := h.off (P := fun t => t = (5, 0) ∨ t = (0, 0)) hf2 hF2
 have o1 := h.off (P := (· = (5, 0))) hf (fun k hk hl => ⟨_, rfl, hF k hk hl⟩)
 have g := h.tags (5, 0)
 have hne : L.a ∉ blks A' := fun hk => by
  rcases hA _ hk with ⟨_, h2⟩ | h2
  ·rw [h.t0] at h2; simp at h2
  ·have := h.obj.lt; omega
 refine ⟨{ L with pA := A', pC := c', lab := L.re w (5, 0) }, ⟨?_, o.tr (by simp), o.hp (by simp), h.hmade, h.ecs, h.ews, o.rcs (by simp), o.rws (by simp), ?_, o.rmo (by simp), o.rco (by simp), fun n hn => o.ech n hn (by simp), fun c hc => o.ewh c hc (by simp),
  g.t0, g.t1, g.t2, g.t3, g.t4, fun k hk => SvL.re_part (hA k hk), g.t6, g.t7, g.t8, g.t9⟩, ⟨rfl, rfl, fun k hk e => SvL.re_own hk e⟩, SvL.part_fr hf2 (fun k hk hl => by obtain ⟨t, _, e⟩ := hF2 k hk hl; rw [e])⟩
 ·have := (o1.obj (by simp)).set_ 5 (.slice A' ls.length c')
  simpa [scs] using this
 ·unfold Bools at hi ⊢
  exact wild_fr hi ((Fr.refl [L.a] w1).setCell (.inl (by simp)) _) (fun k hk hm => by simp at hm; subst hm; exact hne hk)
theorem SvAt.wgrow {w w1 : World} {L : SvL} {S : Sv} (h : SvAt w L S) {A' : Option Addr} {c' m : Nat} {F : List Nat} (hi : Wrow w1 A' c' (L.ws ++ List.replicate m ⟨none, 0, []⟩)) (hf : Fr F w w1) (hF : ∀ k, k ∈ F → k < w.heap.size → L.lab k = (L.id, 4, 0))
  (hA : ∀ k, k ∈ blks A' → (k < w.heap.size ∧ L.lab k = (L.id, 4, 0)) ∨ w.heap.size ≤ k) :
  ∃ L', SvAt (w1.setCell ⟨L.a, 4, none⟩ (.slice A' (L.ws.length + m) c')) L' { S with watch := S.watch ++ List.replicate m [] } ∧ L.ext L' w ∧ Fr (L.own w) w (w1.setCell ⟨L.a, 4, none⟩ (.slice A' (L.ws.length + m) c')) := by
 have hf2 : Fr (L.a :: F) w (w1.setCell ⟨L.a, 4, none⟩ (.slice A' (L.ws.length + m) c')) := (hf.mono (fun k hk => .inl (by simp [hk]))).setCell (.inl (by simp)) _
 have hF2 : ∀ k, k ∈ L.a :: F → k < w.heap.size → ∃ t, (t = (4, 0) ∨ t = (0, 0)) ∧ L.lab k = (L.id, t) := by
  intro k hk hl
  rcases List.mem_cons.1 hk with rfl | hk
  ·exact ⟨_, .inr rfl, h.t0⟩
  ·exact ⟨_, .inl rfl, hF k hk hl⟩
 have o := h.off (P := fun t => t = (4, 0) ∨ t = (0, 0)) hf2 hF2
 have o1 := h.off (P := (· = (4, 0))) hf (fun k hk hl => ⟨_, rfl, hF k hk hl⟩)
 have g := h.tags (4, 0)
 have hne : L.a ∉ blks A' := fun hk => by
  rcases hA _ hk with ⟨_, h2⟩ | h2
  ·rw [h.t0] at h2; simp at h2
  ·have := h.obj.lt; omega
 have hget : ∀ j : Nat, j < L.ws.length + m → (j < L.ws.length ∧ (L.ws ++ List.replicate m (⟨none, 0, []⟩ : Wl))[j]! = L.ws[j]!) ∨ (L.ws ++ List.replicate m (⟨none, 0, []⟩ : Wl))[j]! = ⟨none, 0, []⟩ := fun j hj => by
  by_cases e : j < L.ws.length
  ·left
   refine ⟨e, ?_⟩
   simp [List.getElem!_eq_getElem?_getD, List.getElem?_append_left e]
  ·right
   rw [List.getElem!_eq_getElem?_getD, List.getElem?_append_right (by omega), List.getElem?_replicate, if_pos (by omega)]
   rfl
 refine ⟨{ L with wA := A', wC := c', ws := L.ws ++ List.replicate m ⟨none, 0, []⟩, lab := L.re w (4, 0) }, ⟨?_, o.tr (by simp), o.hp (by simp), h.hmade, h.ecs, ?_, o.rcs (by simp), ?_, o.rph (by simp), o.rmo (by simp), o.rco (by simp), fun n hn => o.ech n hn (by simp), fun c hc => ?_,
  g.t0, g.t1, g.t2, g.t3, fun k hk => SvL.re_part (hA k hk), g.t5, g.t6, g.t7, g.t8, fun c hc k hk => ?_⟩, ⟨rfl, rfl, fun k hk e => SvL.re_own hk e⟩, SvL.part_fr hf2 (fun k hk hl => by obtain ⟨t, _, e⟩ := hF2 k hk hl; rw [e])⟩
 ·have := (o1.obj (by simp)).set_ 4 (.slice A' (L.ws.length + m) c')
  simpa [scs] using this
 ·simp only [List.map_append, List.map_replicate]
  rw [h.ews]
 ·unfold Wrow at hi ⊢
  exact wild_fr hi ((Fr.refl [L.a] w1).setCell (.inl (by simp)) _) (fun k hk hm => by simp at hm; subst hm; exact hne hk)
 ·simp only [List.length_append, List.length_replicate] at hc
  simp only
  rcases hget c hc with ⟨h1, h2⟩ | h2
  ·rw [h2]
   exact o.ewh c h1 (by simp)
  ·rw [h2]
   exact Ints.nil _
 ·simp only [List.length_append, List.length_replicate] at hc
  simp only at hk
  rcases hget c hc with ⟨h1, h2⟩ | h2
  ·rw [h2] at hk
   exact g.t9 c h1 k hk
  ·rw [h2] at hk
   simp [blks] at hk
namespace Sv
theorem pushes_ok : ∀ (n : Nat) (v : Int) (H : Hp), HI H → HI (pushes n v H) ∧ (pushes n v H).at_.length = H.at_.length
 | 0, v, H, h => ⟨h, rfl⟩
 | n + 1, v, H, h => by
  have h1 := h.pushC v
  have h2 := pushes_ok n (v + 1) _ h1.1
  exact ⟨h2.1, h2.2.trans h1.2⟩
theorem growF_len {H : Hp} {v n : Nat} (h : H.at_.length = v + 1) (hb : v + n ≤ 262143) : H.growF n = H.growBy n := by
 unfold Hp.growF
 have e : (growTo H.at_.length n - H.at_.length).toNat = n := by
  unfold growTo
  rw [h]
  omega
 rw [e]
theorem Ok.grow {S : Sv} (ok : S.Ok 0) (n : Nat) (hb : S.vars + n ≤ 262143) : (S.grow n).Ok 0 := by
 obtain ⟨R, hR⟩ := ok.tr
 have hg := hR.grow n (by omega)
 have hh : HI (S.H.growF n) ∧ (S.H.growF n).at_.length = S.vars + n + 1 := by
  rw [growF_len ok.hl hb]
  refine ⟨ok.hi.grow n, ?_⟩
  have := ok.hl
  simp only [Hp.growBy, List.length_append, List.length_replicate]
  omega
 have hp := pushes_ok n ((S.vars : Int) + 1) _ hh.1
 have hw : ∀ c : Nat, (S.watch ++ List.replicate (2 * n) ([] : List Nat))[c]! = S.watch[c]! := fun c => by
  simp only [List.getElem!_eq_getElem?_getD]
  by_cases e : c < S.watch.length
  ·rw [List.getElem?_append_left e]
  ·rw [List.getElem?_append_right (by omega), List.getElem?_replicate, List.getElem?_eq_none (l := S.watch) (by omega)]
   split <;> rfl
 have e0 : (S.grow n).vars = S.vars + n := rfl
 have e1 : (S.grow n).T = S.T.growF n := rfl
 have e2 : (S.grow n).H = pushes n ((S.vars : Int) + 1) (S.H.growF n) := rfl
 have e3 : (S.grow n).list = S.list := rfl
 refine ⟨by rw [e0]; exact hb, ⟨R, ?_⟩, by rw [e2]; exact hp.1, by rw [e2, e0]; exact hp.2.trans hh.2, ?_, ?_, by rw [e3]; exact ok.ll, fun c k hk => ?_, ?_, fun j x hx => ?_, fun j => ok.ln j, fun j => ok.lb j, ?_, fun v => ?_⟩
 ·rw [e0, e1]; exact hg
 ·show (S.phase ++ List.replicate n false).length = S.vars + n + 1
  have := ok.ph
  simp
  omega
 ·show (S.watch ++ List.replicate (2 * n) []).length = 2 * (S.vars + n) + 2
  have := ok.wl
  simp
  omega
 ·have e : k ∈ (S.watch ++ List.replicate (2 * n) ([] : List Nat))[c]! := hk
  rw [hw] at e
  exact ok.wb c k e
 ·show ((S.watch ++ List.replicate (2 * n) []).map List.length).sum + 0 ≤ _
  have := ok.wt
  simp
  exact this
 ·have := ok.lr j x hx
  show x ≠ 0 ∧ -((S.vars + n : Nat) : Int) ≤ x ∧ x ≤ ((S.vars + n : Nat) : Int)
  omega
 ·exact ok.hd
 ·have := ok.rs v
  rw [hR.reaB] at this
  rw [e1, e3]
  rw [hg.reaB]
  exact this
end Sv
theorem infoInts : (Try.prog.info? 24).map (fun i => (i.zero, i.size, i.bytes)) = some (some (.slice none 0 0), 1, 24) := by kernel_rfl
theorem wpList_append_zeros (w : World) {ops : Array Oper} {rest : List Oper} {o : Oper} {a : Act} {Q : Exit → Act → World → Prop} (hgd : o.guard = none) (s x : Operand) (t ti e : TypeId)
  (ho : o.op = .call { callee := .builtin .append, args := #[s, x], argTypes := #[t, ti] }) (z : Value) (bytes : Nat) (ht : Try.prog.underlying t = some (.slice e)) (hti : Try.prog.underlying ti = some (.int .i64)) (hi : (Try.prog.info? e).map (fun i => (i.zero, i.size, i.bytes)) = some (some z, 1, bytes)) (hzs : z.cells = #[z]) (h1z : z.oneCell' = true)
  (A : Option Addr) (c n : Nat) (hs : a.eval s = .slice A n c) (xs : List Value) (hown : w.ownsRow 0 e 1 (.slice A n c) n xs) (m : Nat) (v : Int) (hv : v = m) (hx : a.eval x = .int .i64 v) (h63 : n + m ≤ maxLen) (hbytes : (n + m) * bytes ≤ 140737488355328) (hm : (m : Int) ≤ 9223372036854775807)
  (h : ∀ A' cap w', w'.ownsRow 0 e 1 (.slice A' (n + m) cap) (n + m) (xs ++ List.replicate m z) → Fr (blks A) w w' → (∀ k, k ∈ blks A' → k ∈ blks A ∨ w.heap.size ≤ k) → wpList Try.prog ops Q rest (a.put o.dst (.slice A' (n + m) cap)) w') :
  wpList Try.prog ops Q (o :: rest) a w := by
 subst hv
 refine wpList_plain hgd fun K hK => ?_
 obtain ⟨A', cap, w', hr, h2, h3, h4⟩ := run_append_zeros w t ti o.type e z bytes ht hti hi hzs h1z A c n xs hown m h63 hbytes hm
 unfold Oper.wp execOp
 simp only [ho, resolve, invoke, builtin, Sem.run_bind, Sem.run_pure, Result.andThen_ok, List.map_toArray, List.map_cons, List.map_nil, hs, hx, hr]
 exact hK _ _ (h A' cap w' h2 h3 h4)
set_option maxHeartbeats 8000000 in
theorem grow_calls (w : World) (L : SvL) (S : Sv) (h : SvAt w L S) (ok : S.Ok 0) (n : Nat) (hb : S.vars + n ≤ 262143) :
  Calls Try.prog 20 #[.pointer (some ⟨L.a, 0, none⟩), .int .i64 n] w (SvP (.tuple #[]) (S.grow n) L w) := by
 have HOK := Lib.hid ok
 have HAT := Lib.hid ok.hl
 have HPH := Lib.hid ok.ph
 have HWL := Lib.hid ok.wl
 have hcl : 0 < S.T.cells.length ∧ S.T.cells.length ≤ 262145 := by
  obtain ⟨R, hR⟩ := ok.tr
  rw [hR.size]
  omega
 obtain ⟨c0, c1, -⟩ := h.cells
 have KT := Lib.hid (trail_grow w L.tL S.T h.tr hcl.1 hcl.2 (n : Int))
 have HH := Lib.hid h
 clear h ok
 go_enter Try.func20, Try.ntmps20
 go_wp2_with fail
 refine KT.out.mono ?_
 clear KT c0 c1
 rintro e w1 ⟨rfl, tL, ht, hte, htf⟩
 obtain ⟨L1, h1, he1, hf1⟩ := HH.out.trail ht hte htf
 have H1 := Lib.hid h1
 have HE1 := Lib.hid he1
 have HF1 := Lib.hid hf1
 have c1 := h1.cells.2.1
 rw [HE1.out.1] at c1
 have KH := Lib.hid (heap_grow w1 L1.hL S.H h1.hp h1.hmade (n : Int) (by have := HAT.out; omega))
 clear h1 he1 hf1 ht hte htf HH
 go_wp2_with fail
 refine KH.out.mono ?_
 clear KH c1
 rintro e w2 ⟨rfl, hL, hh, hhe, hhf⟩
 obtain ⟨L2, h2, he2, hf2⟩ := H1.out.heap hh hhe hhf
 obtain ⟨H0, hH0⟩ : ∃ H0, S.H.growF (n : Int) = H0 := ⟨_, rfl⟩
 obtain ⟨T0, hT0⟩ : ∃ T0, S.T.growF (n : Int) = T0 := ⟨_, rfl⟩
 rw [hH0] at h2
 rw [hT0] at h2
 have H2 := Lib.hid h2
 have HE2 := Lib.hid (SvL.ext_trans HE1.out he2 HF1.out.size)
 have HF2 := Lib.hid (SvL.own_then HE1.out HF1.out hf2)
 have HT0 := Lib.hid hT0
 have HH0 := Lib.hid hH0
 have c5 := h2.cells.2.2.2.2.2.1
 rw [HE2.out.1] at c5
 have HC5 := Lib.hid c5
 have f5 := h2.obj.frozen 5
 rw [HE2.out.1] at f5
 have HF5 := Lib.hid f5
 have HN5 : Hid (L.a ∉ blks L2.pA) := fun hm => by
  have e1 := H2.out.t5 _ hm
  rw [← HE2.out.1, H2.out.t0] at e1
  simp at e1
 have hpn : S.phase.length + n ≤ 262144 := by have := HPH.out; omega
 have HPN := Lib.hid hpn
 clear h2 he2 hf2 hh hhe hhf H1 HE1 HF1 hT0 hH0 hpn f5
 go_upto_region 3 with (at_builtin; (refine wpList_append_zeros _ rfl _ _ 23 3 4 rfl (.bool false) 1 Try.underlying23 Try.underlying3 infoBool rfl rfl L2.pA L2.pC S.phase.length rfl (S.phase.map Value.bool) H2.out.rph n _ rfl rfl (by have := HPN.out; unfold maxLen; omega) (by have := HPN.out; omega) (by omega) ?_; intro A5 cap5 w3 hi5 hf5 hg5; have s5 := hf5.cellN HN5.out HC5.out; have fz5 := (World.frozen?_of_block (hf5.block L.a (lt_of_cell HC5.out) HN5.out)).trans HF5.out))
 -- the phases
 obtain ⟨w4, hw4⟩ : ∃ w4, w3.setCell ⟨L.a, 5, none⟩ (.slice A5 (S.phase.length + n) cap5) = w4 := ⟨_, rfl⟩
 have hi5' : Bools w3 A5 cap5 (S.phase ++ List.replicate n false) := by
  unfold Bools
  rw [List.length_append, List.length_replicate, List.map_append, List.map_replicate]
  exact hi5
 obtain ⟨L4, h4, he4, hf4⟩ := H2.out.phrow hi5' hf5 (fun k hk _ => H2.out.t5 k hk) (fun k hk => by
  rcases hg5 k hk with h5 | h5
  ·exact .inl ⟨own_lt' H2.out.rph k h5, H2.out.t5 k h5⟩
  ·exact .inr h5)
 rw [HE2.out.1, List.length_append, List.length_replicate, hw4] at h4 hf4
 have H4 := Lib.hid h4
 have HE4 := Lib.hid (SvL.ext_trans HE2.out he4 HF2.out.size)
 have HF4 := Lib.hid (SvL.own_then HE2.out HF2.out hf4)
 have c4 := h4.cells.2.2.2.2.1
 rw [HE4.out.1] at c4
 have HC4 := Lib.hid c4
 have f4 := h4.obj.frozen 4
 rw [HE4.out.1] at f4
 have HFZ4 := Lib.hid f4
 have HN4 : Hid (L.a ∉ blks L4.wA) := fun hm => by
  have e1 := H4.out.t4 _ hm
  rw [← HE4.out.1, H4.out.t0] at e1
  simp at e1
 have hln : L4.ws.length = S.watch.length := H4.out.lenw
 have HLN := Lib.hid hln
 have hw2 : IntKind.i64.wrap (2 * (n : Int)) = 2 * (n : Int) := IntWalk.i64_in _ (by omega)
 have h2n : 2 * (n : Int) = ((2 * n : Nat) : Int) := by omega
 have H2N := Lib.hid h2n
 have hwb : L4.ws.length + 2 * n ≤ 600000 := by have := HWL.out; omega
 have HWB := Lib.hid hwb
 clear h4 he4 hf4 H2 HE2 HF2 hi5 hi5' hf5 hg5 s5 fz5 c5 f4 hln h2n hwb HC5 HF5 HN5
 rw [hw4]
 clear hw4
 go_upto_region 4 with (at_builtin; (refine wpList_append_zeros _ rfl _ _ 50 3 24 rfl (.slice none 0 0) 24 Try.underlying50 Try.underlying3 infoInts rfl rfl L4.wA L4.wC L4.ws.length rfl (L4.ws.map Wl.val) H4.out.rws (2 * n) (2 * (n : Int)) H2N.out rfl (by have := HWB.out; unfold maxLen; omega) (by have := HWB.out; omega) (by have := HWB.out; omega) ?_; intro A6 cap6 w5 hi6 hf6 hg6; have s6 := hf6.cellN HN4.out HC4.out; have fz6 := (World.frozen?_of_block (hf6.block L.a (lt_of_cell HC4.out) HN4.out)).trans HFZ4.out))
 -- the watch lists
 obtain ⟨w6, hw6⟩ : ∃ w6, w5.setCell ⟨L.a, 4, none⟩ (.slice A6 (L4.ws.length + 2 * n) cap6) = w6 := ⟨_, rfl⟩
 have hi6' : Wrow w5 A6 cap6 (L4.ws ++ List.replicate (2 * n) ⟨none, 0, []⟩) := by
  unfold Wrow
  rw [List.length_append, List.length_replicate, List.map_append, List.map_replicate]
  exact hi6
 obtain ⟨L6, h6, he6, hf6'⟩ := H4.out.wgrow hi6' hf6 (fun k hk _ => H4.out.t4 k hk) (fun k hk => by
  rcases hg6 k hk with h5 | h5
  ·exact .inl ⟨own_lt' H4.out.rws k h5, H4.out.t4 k h5⟩
  ·exact .inr h5)
 rw [HE4.out.1, hw6] at h6 hf6'
 have H6 := Lib.hid h6
 have HE6 := Lib.hid (SvL.ext_trans HE4.out he6 HF4.out.size)
 have HF6 := Lib.hid (SvL.own_then HE4.out HF4.out hf6')
 have c2 := h6.cells.2.2.1
 rw [HE6.out.1] at c2
 have hwv : IntKind.i64.wrap ((S.vars : Int) + 1) = (S.vars : Int) + 1 := IntWalk.i64_in _ (by omega)
 have hwv2 : IntKind.i64.wrap ((S.vars : Int) + (n : Int)) = (S.vars : Int) + (n : Int) := IntWalk.i64_in _ (by omega)
 have hok0 : HI H0 ∧ H0.at_.length = S.vars + n + 1 := by
  have h5 := HOK.out.hl
  rw [← HH0.out, Sv.growF_len h5 hb]
  refine ⟨HOK.out.hi.grow n, ?_⟩
  simp only [Hp.growBy, List.length_append, List.length_replicate]
  omega
 have HHI := Lib.hid hok0
 clear h6 he6 hf6' H4 HE4 HF4 hi6 hi6' hf6 hg6 s6 fz6 c4 HC4 HFZ4 HN4 hok0 hw2
 rw [hw6]
 clear hw6
 go_wp2_with fail
 clear c2
 go_loopg [4] n (fun g x4 wr => ∃ (k : Nat) (Hk : Hp) (Lk : SvL), k + g = n ∧ x4 = .int .i64 ((S.vars : Int) + 1 + k) ∧ Hid (Sv.pushes g ((S.vars : Int) + 1 + k) Hk = Sv.pushes n ((S.vars : Int) + 1) H0) ∧ Hid (HI Hk ∧ Hk.at_.length = S.vars + n + 1) ∧
   Hid (SvAt wr Lk { S with T := T0, H := Hk, phase := S.phase ++ List.replicate n false, watch := S.watch ++ List.replicate (2 * n) [] }) ∧ Hid (L.ext Lk w) ∧ Hid (Fr (L.own w) w wr))
 case atStart => exact ⟨0, H0, L6, by omega, by go_num, by show _ = _; simp, HHI.out, H6.out, HE6.out, HF6.out⟩
 case round =>
  obtain ⟨k, Hk, Lk, hk, rfl, HP, HIK, H7, HE7, HF7⟩ := hrel
  have HK := Lib.hid hk
  have hkn : k ≤ n := by omega
  obtain ⟨-, c1, c2, -⟩ := H7.out.cells
  rw [HE7.out.1] at c1 c2
  clear hk
  by_cases hlt : k < n
  ·obtain ⟨f, rfl⟩ : ∃ f, gk = f + 1 := ⟨gk - 1, by have := HK.out; omega⟩
   have hd : (S.vars : Int) + 1 + (k : Int) ≤ (S.vars : Int) + (n : Int) := by omega
   have KP := Lib.hid (heap_pushC wr Lk.hL Hk H7.out.hp HIK.out.1 (by have := HIK.out.2; omega) ((S.vars : Int) + 1 + k))
   have hwk : IntKind.i64.wrap ((S.vars : Int) + 1 + (k : Int) + 1) = (S.vars : Int) + 1 + (k : Int) + 1 := IntWalk.i64_in _ (by omega)
   have HP2 : Hid (Sv.pushes f ((S.vars : Int) + 1 + ((k + 1 : Nat) : Int)) (Sv.pushC Hk ((S.vars : Int) + 1 + k)) = Sv.pushes n ((S.vars : Int) + 1) H0) := by
    have h5 := HP.out
    rw [Sv.pushes] at h5
    rw [show (S.vars : Int) + 1 + ((k + 1 : Nat) : Int) = (S.vars : Int) + 1 + (k : Int) + 1 from by omega]
    exact h5
   have HIK2 : Hid (HI (Sv.pushC Hk ((S.vars : Int) + 1 + k)) ∧ (Sv.pushC Hk ((S.vars : Int) + 1 + k)).at_.length = S.vars + n + 1) := by
    have h5 := HIK.out.1.pushC ((S.vars : Int) + 1 + k)
    exact ⟨h5.1, h5.2.trans HIK.out.2⟩
   go_wp2_with fail
   refine KP.out.mono ?_
   clear KP c1 c2
   rintro e w8 ⟨b, rfl, hL8, hh8, he8, hf8⟩
   obtain ⟨L8, h8, he8', hf8'⟩ := H7.out.heap hh8 he8 hf8
   have H8 := Lib.hid h8
   have HE8 := Lib.hid (SvL.ext_trans HE7.out he8' HF7.out.size)
   have HF8 := Lib.hid (SvL.own_then HE7.out HF7.out hf8')
   clear h8 he8' hf8' hh8 he8 hf8
   go_wp2_with fail
   go_roundg f
   case measure => omega
   case rel => exact ⟨k + 1, Sv.pushC Hk ((S.vars : Int) + 1 + k), L8, by have := HK.out; omega, by go_num, HP2.out, HIK2.out, H8.out, HE8.out, HF8.out⟩
  ·obtain rfl : k = n := by omega
   have hg0 : gk = 0 := by have := HK.out; omega
   subst hg0
   have hHk : Hk = Sv.pushes k ((S.vars : Int) + 1) H0 := HP.out
   have hd : ¬ ((S.vars : Int) + 1 + (k : Int) ≤ (S.vars : Int) + (k : Int)) := by omega
   have hd' : (S.vars : Int) + (k : Int) < (S.vars : Int) + 1 + (k : Int) := by omega
   have f2 := H7.out.obj.frozen 2
   rw [HE7.out.1] at f2
   obtain ⟨g9, f9⟩ := H7.out.setc 2 (.int .i64 ((S.vars : Int) + (k : Int))) { S with T := T0, H := Hk, phase := S.phase ++ List.replicate k false, watch := S.watch ++ List.replicate (2 * k) [], vars := S.vars + k } (by simp [scs]) ⟨rfl, rfl, rfl, rfl, rfl, rfl, rfl⟩
   rw [HE7.out.1] at g9 f9
   have hS9 : ({ S with T := T0, H := Hk, phase := S.phase ++ List.replicate k false, watch := S.watch ++ List.replicate (2 * k) [], vars := S.vars + k } : Sv) = S.grow k := by
    unfold Sv.grow
    rw [hHk, ← HT0.out, ← HH0.out]
   rw [hS9] at g9
   have FF : Hid (SvP (.tuple #[]) (S.grow k) L w (.returned (.tuple #[])) (wr.setCell ⟨L.a, 2, none⟩ (.int .i64 ((S.vars : Int) + (k : Int))))) := ⟨rfl, Lk, g9, HE7.out, SvL.own_then HE7.out HF7.out f9⟩
   clear g9 f9 hS9 hHk HP c1
   go_wp2_with fail
   go_end0
   exact FF.out
def newL (a : Nat) (tL : TrL) (hL : HpL) (g4 g5 : Nat) : SvL where
 a := a
 tL := tL
 hL := hL
 cA := none
 cC := 0
 wA := some ⟨g4, 0, none⟩
 wC := 2
 pA := some ⟨g5, 0, none⟩
 pC := 1
 mA := none
 mC := 0
 oA := none
 oC := 0
 cs := []
 ws := [⟨none, 0, []⟩, ⟨none, 0, []⟩]
 id := 0
 lab := fun k => if k = a then (0, 0, 0) else if k ∈ tL.fp then (0, 1, 0) else if k ∈ hL.fp then (0, 2, 0) else if k = g4 then (0, 4, 0) else if k = g5 then (0, 5, 0) else (1, 0, 0)
theorem SvAt.make {w : World} {tL : TrL} {hL : HpL} {g4 g5 : Nat} (ht : TrAt w tL (Tr.fresh.growF 0)) (hh : HpAt w hL (Hp.none_.growF 1)) (hm : hL.A2.isSome = true) (hw : Wrow w (some ⟨g4, 0, none⟩) 2 [⟨none, 0, []⟩, ⟨none, 0, []⟩]) (hp : Bools w (some ⟨g5, 0, none⟩) 1 [false])
  (b : Nat) (hb : b ≤ w.heap.size) (n1 : ∀ k, k ∈ tL.fp → b ≤ k) (n2 : ∀ k, k ∈ hL.fp → b ≤ k) (n4 : b ≤ g4) (n5 : b ≤ g5) (d12 : ∀ k, k ∈ tL.fp → k ∉ hL.fp) (d14 : g4 ∉ tL.fp) (d15 : g5 ∉ tL.fp) (d24 : g4 ∉ hL.fp) (d25 : g5 ∉ hL.fp) (d45 : g4 ≠ g5) :
  ∃ L : SvL, L.a = w.heap.size ∧ SvAt (w.alloc (.cells #[.pointer (some ⟨tL.a, 0, none⟩), .pointer (some ⟨hL.a, 0, none⟩), .int .i64 0, .slice none 0 0, .slice (some ⟨g4, 0, none⟩) 2 2, .slice (some ⟨g5, 0, none⟩) 1 1, .slice none 0 0, .slice none 0 0, .int .i64 0, .int .i64 0, .int .i64 1, .int .i64 0, .int .i64 400, .bool false, .bool false] 53)) L Sv.bare ∧ (∀ k, k < b → (L.lab k).1 ≠ L.id) ∧ Fr [] w (w.alloc (.cells #[.pointer (some ⟨tL.a, 0, none⟩), .pointer (some ⟨hL.a, 0, none⟩), .int .i64 0, .slice none 0 0, .slice (some ⟨g4, 0, none⟩) 2 2, .slice (some ⟨g5, 0, none⟩) 1 1, .slice none 0 0, .slice none 0 0, .int .i64 0, .int .i64 0, .int .i64 1, .int .i64 0, .int .i64 400, .bool false, .bool false] 53)) := by
 have hl1 := ht.lt
 have hl2 := hh.lt
 have hl4 : g4 < w.heap.size := own_lt' hw g4 (by simp [blks])
 have hl5 : g5 < w.heap.size := own_lt' hp g5 (by simp [blks])
 have hf : Fr [] w (w.alloc (.cells #[.pointer (some ⟨tL.a, 0, none⟩), .pointer (some ⟨hL.a, 0, none⟩), .int .i64 0, .slice none 0 0, .slice (some ⟨g4, 0, none⟩) 2 2, .slice (some ⟨g5, 0, none⟩) 1 1, .slice none 0 0, .slice none 0 0, .int .i64 0, .int .i64 0, .int .i64 1, .int .i64 0, .int .i64 400, .bool false, .bool false] 53)) := box_fr' _ _
 refine ⟨newL w.heap.size tL hL g4 g5, rfl, ?_, ?_, hf⟩
 ·refine ⟨At.new w _ _, ht.fr hf (by simp), hh.fr hf (by simp), hm, rfl, rfl, World.ownsRow_nil _ 0 _ 3, ?_, ?_, World.ownsRow_nil _ 0 _ 1, Ints.nil _, fun n hn => absurd hn (Nat.not_lt_zero _), fun c hc => ?_, ?_, ?_, ?_, ?_, ?_, ?_, ?_, ?_, fun n hn => absurd hn (Nat.not_lt_zero _), fun c hc => ?_⟩
  ·exact wild_fr hw hf (by simp)
  ·exact wild_fr hp hf (by simp)
  ·have : c = 0 ∨ c = 1 := by simp [newL] at hc; omega
   rcases this with rfl | rfl <;> exact Ints.nil _
  ·simp [newL]
  ·intro k (hk : k ∈ tL.fp)
   have := hl1 k hk
   show (if k = w.heap.size then (0, 0, 0) else if k ∈ tL.fp then (0, 1, 0) else _) = ((0, 1, 0) : Nat × Nat × Nat)
   rw [if_neg (by omega), if_pos hk]
  ·intro k (hk : k ∈ hL.fp)
   have := hl2 k hk
   show (if k = w.heap.size then (0, 0, 0) else if k ∈ tL.fp then (0, 1, 0) else if k ∈ hL.fp then (0, 2, 0) else _) = ((0, 2, 0) : Nat × Nat × Nat)
   rw [if_neg (by omega), if_neg (fun h => d12 k h hk), if_pos hk]
  ·intro k hk
   simp [newL, blks] at hk
  ·intro k hk
   simp [newL, blks] at hk
   subst hk
   simp only [newL]
   rw [if_neg (by omega), if_neg d14, if_neg d24]; rfl
  ·intro k hk
   simp [newL, blks] at hk
   subst hk
   simp only [newL]
   rw [if_neg (by omega), if_neg d15, if_neg d25, if_neg (fun h => d45 h.symm)]; rfl
  ·intro k hk
   simp [newL, blks] at hk
  ·intro k hk
   simp [newL, blks] at hk
  ·have : c = 0 ∨ c = 1 := by simp [newL] at hc; omega
   rcases this with rfl | rfl <;> (intro k hk; simp [newL, blks] at hk)
 ·intro k hk
  simp only [newL]
  rw [if_neg (by omega), if_neg (fun h => by have := n1 k h; omega), if_neg (fun h => by have := n2 k h; omega), if_neg (by omega), if_neg (by omega)]
  simp
theorem Sv.Ok.bare : Sv.bare.Ok 0 := by
 have hT : TRep (Tr.fresh.growF 0) 0 [] 0 := by
  have := TRep.fresh.grow 0 (by omega)
  exact this
 have hH : (Hp.none_.growF 1) = Hp.none_.growBy 1 := rfl
 refine ⟨by decide, ⟨[], hT⟩, ?_, rfl, rfl, rfl, by decide, fun c k hk => ?_, by decide, fun j x hx => ?_, fun j => ?_, fun j => ?_, by decide, fun v => ?_⟩
 ·show HI (Hp.none_.growF 1)
  rw [hH]
  exact HI.none_.grow 1
 ·have : k ∈ ([[], []] : List (List Nat))[c]! := hk
  rcases c with _ | _ | c
  ·simp at this
  ·simp at this
  ·exact absurd (show k ∈ ([] : List Nat) from this) List.not_mem_nil
 ·have e : Sv.bare.rc j = ⟨[], false, 0⟩ := Sv.rc_out (Nat.zero_le j)
  rw [e] at hx
  simp at hx
 ·have e : Sv.bare.rc j = ⟨[], false, 0⟩ := Sv.rc_out (Nat.zero_le j)
  rw [e]
  simp
 ·have e : Sv.bare.rc j = ⟨[], false, 0⟩ := Sv.rc_out (Nat.zero_le j)
  rw [e]
  simp
 ·have := hT.reaB v
  show 0 ≤ (Tr.fresh.growF 0).reaB v ∧ (Tr.fresh.growF 0).reaB v ≤ _
  rw [this]
  simp [look]
theorem run_make_ints2 (W : World) (z : Int) (h0 : 0 ≤ z) (h1 : z ≤ 1099511627776) :
  (Instr.makeSlice 50 (.int .i64 z) (.int .i64 z)).run Try.prog W = .ok (.slice (some ⟨W.heap.size, 0, none⟩) z.toNat z.toNat) (W.alloc (.cells (madeCells #[.slice none 0 0] z.toNat) 24)) := by
 obtain ⟨i0, hi, hz0, hz1, hz2⟩ := info_parts infoInts
 obtain ⟨n, rfl⟩ := Int.eq_ofNat_of_zero_le h0
 have hr := run_make (P := Try.prog) W 50 24 i0 (.slice none 0 0) Try.underlying50 hi hz0 .i64 .i64 n n (by omega) (Int.le_refl _) (by rw [hz2]; omega) (by omega)
 simp only [Int.toNat_natCast] at hr ⊢
 rw [hz1, Nat.mul_one] at hr
 exact hr
theorem made_w2 (W : World) : Wrow (W.alloc (.cells (madeCells #[.slice none 0 0] 2) 24)) (some ⟨W.heap.size, 0, none⟩) 2 [⟨none, 0, []⟩, ⟨none, 0, []⟩] := by
 have := World.ownsRow_lit (base := 0) (e := 24) (size := 1) W (madeCells #[.slice none 0 0] 2) 2 (Nat.zero_le _) (by decide) (by rw [size_madeCells])
 rw [toList_madeCells_one] at this
 exact this
theorem made_p1 (W : World) : Bools (W.alloc (.cells (madeCells #[.bool false] 1) 4)) (some ⟨W.heap.size, 0, none⟩) 1 [false] := made_bools W 1 (by decide)
theorem bools_keep {w w' : World} {A : Option Addr} {c : Nat} {l : List Bool} (h : Bools w A c l) (hf : Fr [] w w') : Bools w' A c l := wild_fr h hf (by simp)
theorem wrow_keep {w w' : World} {A : Option Addr} {c : Nat} {l : List Wl} (h : Wrow w A c l) (hf : Fr [] w w') : Wrow w' A c l := wild_fr h hf (by simp)
def NewP (S : Sv) (w : World) (e : Ending) (w' : World) : Prop := ∃ L : SvL, e = .returned (.pointer (some ⟨L.a, 0, none⟩)) ∧ SvAt w' L S ∧ (∀ k, k < w.heap.size → (L.lab k).1 ≠ L.id) ∧ Fr [] w w'
theorem szal (w : World) (o : Obj) : (w.alloc o).heap.size = w.heap.size + 1 := by simp
theorem szdr (w : World) : w.drew.heap.size = w.heap.size := rfl
theorem mk2 {w cur : World} (h : (fun w' : World => Fr [] w w') cur) : Wrow (cur.alloc (.cells (madeCells #[.slice none 0 0] 2) 24)) (some ⟨cur.heap.size, 0, none⟩) 2 [⟨none, 0, []⟩, ⟨none, 0, []⟩] ∧ Fr [] cur (cur.alloc (.cells (madeCells #[.slice none 0 0] 2) 24)) := ⟨made_w2 cur, box_fr' _ _⟩
theorem mk1 {w cur : World} (h : (fun w' : World => Fr [] w w') cur) : Bools (cur.alloc (.cells (madeCells #[.bool false] 1) 4)) (some ⟨cur.heap.size, 0, none⟩) 1 [false] ∧ Fr [] cur (cur.alloc (.cells (madeCells #[.bool false] 1) 4)) := ⟨made_p1 cur, box_fr' _ _⟩
set_option maxHeartbeats 16000000 in
theorem new_calls (w : World) (vars : Int) (hv0 : -9223372036854775808 ≤ vars) (hv1 : vars ≤ 9223372036854775807) : Calls Try.prog 9 #[.int .i64 vars] w (NewP (Sv.new vars) w) := by
 have KT := Lib.hid (fun W => trail_new W 0)
 have KH := Lib.hid (fun W => heap_new W 1)
 have hm2 := fun W => run_make_ints2 W 2 (by omega) (by omega)
 have hm1 := fun W => run_make_bool W 1 (by omega) (by omega)
 simp only [show (2 : Int).toNat = 2 from rfl] at hm2
 simp only [show (1 : Int).toNat = 1 from rfl] at hm1
 obtain ⟨n, hn⟩ : ∃ n : Nat, (min (max vars 0) 262143).toNat = n := ⟨_, rfl⟩
 have hn1 : n ≤ 262143 := by omega
 have HNW : Hid (Sv.new vars = Sv.bare.grow n) := by show _ = _; unfold Sv.new; rw [hn]
 have HNN : Hid (min (max vars 0) 262143 = (n : Int)) := by show _ = _; omega
 clear hn
 go_enter Try.func9, Try.ntmps9
 go_upto_region 1 with fail
 refine wp_region_noPanic ?_
 refine wp_region_C (fun w' : World => Fr [] w w') 5 (by kernel_rfl) ((Fr.refl [] w).drew) (fun hT0 => ?_)
 have hSx := hT0.resolve_left (by decide)
 refine wpAnyC_ready (rs := [0, 2, 3]) (by kernel_rfl) (by simp) ?_
 refine ReadyC.cons (o := ?or1u1) ?hor1u1 ?hstepr1u1 ?_
 case hor1u1 => rfl
 case hstepr1u1 =>
  intro K hK
  (go_simp; refine (KT.out _).mono ?_; rintro e w5 ⟨tL, rfl, ht, hn, hf⟩; (try have HT := Lib.hid (HT.out.fr hf (by simp))); (try have HP := Lib.hid (HP.out.fr hf (by simp))); (try have HWR := Lib.hid (wrow_keep HWR.out hf)); (try have HBR := Lib.hid (bools_keep HBR.out hf)); have hzz := hf.size; have HSX := Lib.hid (hSx.then_ hf); have HTL := Lib.hid (show ∀ k, k ∈ tL.fp → _ ∧ k < w5.heap.size from fun k hk => ⟨hn k hk, ht.lt k hk⟩); have HT := Lib.hid ht; clear ht hn; dsimp only)
  refine hK.out _ _ (.inr ?_) (fun hT1 => ?_)
  ·first | exact HSX.out | exact hSx.alloc _ | exact hSx
  clear hK K
  try simp only [Act.put, q5, q6, q7]
  have hSx := hT1.resolve_left (by decide)
  refine wpAnyC_ready (rs := [1, 2, 3]) (by kernel_rfl) (by simp) ?_
  refine ReadyC.cons (o := ?or1u2) ?hor1u2 ?hstepr1u2 ?_
  case hor1u2 => rfl
  case hstepr1u2 =>
   intro K hK
   (go_simp; refine (KH.out _).mono ?_; rintro e w5 ⟨hL, rfl, ht, hm, hn, hf⟩; (try have HT := Lib.hid (HT.out.fr hf (by simp))); (try have HP := Lib.hid (HP.out.fr hf (by simp))); (try have HWR := Lib.hid (wrow_keep HWR.out hf)); (try have HBR := Lib.hid (bools_keep HBR.out hf)); have hzz := hf.size; have HSX := Lib.hid (hSx.then_ hf); have HPL := Lib.hid (show ∀ k, k ∈ hL.fp → _ ∧ k < w5.heap.size from fun k hk => ⟨hn k hk, ht.lt k hk⟩); have HP := Lib.hid ht; have HPM := Lib.hid hm; clear ht hn hm; dsimp only)
   refine hK.out _ _ (.inr ?_) (fun hT2 => ?_)
   ·first | exact HSX.out | exact hSx.alloc _ | exact hSx
   clear hK K
   try simp only [Act.put, q5, q6, q7]
   have hSx := hT2.resolve_left (by decide)
   refine wpAnyC_ready (rs := [2, 3]) (by kernel_rfl) (by simp) ?_
   refine ReadyC.cons (o := ?or1u3) ?hor1u3 ?hstepr1u3 ?_
   case hor1u3 => rfl
   case hstepr1u3 =>
    intro K hK
    (obtain ⟨hwr, hf⟩ := mk2 hSx; (try have HT := Lib.hid (HT.out.fr hf (by simp))); (try have HP := Lib.hid (HP.out.fr hf (by simp))); (try have HWR := Lib.hid (wrow_keep HWR.out hf)); (try have HBR := Lib.hid (bools_keep HBR.out hf)); have hzz := hf.size; have HWR := Lib.hid hwr; have HSX := Lib.hid (hSx.then_ hf); clear hwr; go_simp)
    refine hK.out _ _ (.inr ?_) (fun hT3 => ?_)
    ·first | exact HSX.out | exact hSx.alloc _ | exact hSx
    clear hK K
    try simp only [Act.put, q5, q6, q7]
    have hSx := hT3.resolve_left (by decide)
    refine R1 (i := 3) (o := ?or1u4) (by kernel_rfl) (by rfl) ?_
    intro K hK
    (obtain ⟨hbr, hf⟩ := mk1 hSx; (try have HT := Lib.hid (HT.out.fr hf (by simp))); (try have HP := Lib.hid (HP.out.fr hf (by simp))); (try have HWR := Lib.hid (wrow_keep HWR.out hf)); (try have HBR := Lib.hid (bools_keep HBR.out hf)); have hzz := hf.size; have HBR := Lib.hid hbr; have HSX := Lib.hid (hSx.then_ hf); clear hbr; go_simp)
    refine hK.out _ _ (.inr ?_) (fun hT4 => ?_)
    ·first | exact HSX.out | exact hSx.alloc _ | exact hSx
    clear hK K
    try simp only [Act.put, q5, q6, q7]
    refine T0 (i := 4) (oi := ?or1u5) (v := ?vr1u5) (by rfl) (by kernel_rfl) (by rfl) ?yr1u5 hT4 ?_
    case yr1u5 => (intro w; go_simp <;> with_reducible rfl)
    try simp only [Act.put, q5, q6, q7]
    have hSx := (hT4.more 4).resolve_left (by decide)
    refine R1 (i := 5) (o := ?or1u6) (by kernel_rfl) (by rfl) ?_
    intro K hK
    (go_simp)
    refine hK.out _ _ (.inl rfl) (fun hT6 => ?_)
    clear hK K
    try simp only [Act.put, q5, q6, q7]
    refine R1 (i := 6) (o := ?or1u7) (by kernel_rfl) (by rfl) ?_
    intro K hK
    go_simp
    refine hK.out _ _ (.inl rfl) (fun hT7 => ?_)
    clear hK K
    try simp only [Act.put, q5, q6, q7]
    refine wpAnyC_done (by kernel_rfl) ?_ _
    refine NoPanic.normal ?_
    have hsx := HSX.out.size
    obtain ⟨L9, hLa, hL9, hLn, hF9⟩ := SvAt.make HT.out HP.out HPM.out HWR.out HBR.out w.heap.size hsx (fun k hk => by have := HTL.out k hk; (try simp only [szal, szdr] at *); omega) (fun k hk => by have := HPL.out k hk; (try simp only [szal, szdr] at *); omega) (by (try simp only [szal, szdr] at *); omega) (by (try simp only [szal, szdr] at *); omega)
     (fun k h1 h2 => by have := HTL.out k h1; have := HPL.out k h2; (try simp only [szal, szdr] at *); omega) (fun h1 => by have := HTL.out _ h1; (try simp only [szal, szdr] at *); omega) (fun h1 => by have := HTL.out _ h1; (try simp only [szal, szdr] at *); omega) (fun h1 => by have := HPL.out _ h1; (try simp only [szal, szdr] at *); omega) (fun h1 => by have := HPL.out _ h1; (try simp only [szal, szdr] at *); omega) (by (try simp only [szal, szdr] at *); omega)
    (try simp only [szal] at hL9 hLa hF9)
    (try simp only [szdr] at hL9 hLa hF9)
    (try simp only [szal] at hL9 hLa hF9)
    have HF9 := Lib.hid (HSX.out.then_ hF9)
    have H9 := Lib.hid hL9
    have HLA := Lib.hid hLa
    have HLN := Lib.hid hLn
    clear hL9 hLa hLn hsx hF9
    have KG := Lib.hid (grow_calls _ L9 Sv.bare H9.out Sv.Ok.bare n (by show 0 + n ≤ _; omega))
    rw [HLA.out] at KG
    clear hm2 hm1
    by_cases h0 : vars < 0
    ·obtain rfl : n = 0 := by have := HNN.out; omega
     go_wp2_with fail
     refine KG.out.mono ?_
     clear KG
     rintro e w8 ⟨rfl, L8, h8, he8, hf8⟩
     have FF : Hid (NewP (Sv.new _) w (.returned (.pointer (some ⟨_, 0, none⟩))) w8) := ⟨L8, by rw [he8.1, HLA.out], by rw [HNW.out]; exact h8, fun k hk e => HLN.out k hk (he8.2.2 k (Nat.lt_of_lt_of_le hk HF9.out.size) (e.trans he8.2.1)), HF9.out.trans hf8 (fun k hk => by
      rw [SvL.mem_own] at hk
      rcases Nat.lt_or_ge k w.heap.size with hl | hl
      ·exact absurd hk.2 (HLN.out k hl)
      ·exact .inr hl)⟩
     clear h8 he8 hf8
     go_wp2_with fail
     go_ret
     exact FF.out
    ·have h0' : (0 : Int) ≤ vars := by omega
     by_cases h1 : 262143 < vars
     ·obtain rfl : n = 262143 := by have := HNN.out; omega
      go_wp2_with fail
      refine KG.out.mono ?_
      clear KG
      rintro e w8 ⟨rfl, L8, h8, he8, hf8⟩
      have FF : Hid (NewP (Sv.new _) w (.returned (.pointer (some ⟨_, 0, none⟩))) w8) := ⟨L8, by rw [he8.1, HLA.out], by rw [HNW.out]; exact h8, fun k hk e => HLN.out k hk (he8.2.2 k (Nat.lt_of_lt_of_le hk HF9.out.size) (e.trans he8.2.1)), HF9.out.trans hf8 (fun k hk => by
       rw [SvL.mem_own] at hk
       rcases Nat.lt_or_ge k w.heap.size with hl | hl
       ·exact absurd hk.2 (HLN.out k hl)
       ·exact .inr hl)⟩
      clear h8 he8 hf8
      go_wp2_with fail
      go_ret
      exact FF.out
     ·obtain rfl : vars = (n : Int) := by have := HNN.out; omega
      have h1' : (n : Int) ≤ 262143 := by omega
      go_wp2_with fail
      refine KG.out.mono ?_
      clear KG
      rintro e w8 ⟨rfl, L8, h8, he8, hf8⟩
      have FF : Hid (NewP (Sv.new _) w (.returned (.pointer (some ⟨_, 0, none⟩))) w8) := ⟨L8, by rw [he8.1, HLA.out], by rw [HNW.out]; exact h8, fun k hk e => HLN.out k hk (he8.2.2 k (Nat.lt_of_lt_of_le hk HF9.out.size) (e.trans he8.2.1)), HF9.out.trans hf8 (fun k hk => by
       rw [SvL.mem_own] at hk
       rcases Nat.lt_or_ge k w.heap.size with hl | hl
       ·exact absurd hk.2 (HLN.out k hl)
       ·exact .inr hl)⟩
      clear h8 he8 hf8
      go_wp2_with fail
      go_ret
      exact FF.out
   refine ReadyC.cons (o := ?or1u8) ?hor1u8 ?hstepr1u8 ReadyC.nil
   case hor1u8 => rfl
   intro K hK
   (obtain ⟨hbr, hf⟩ := mk1 hSx; (try have HT := Lib.hid (HT.out.fr hf (by simp))); (try have HP := Lib.hid (HP.out.fr hf (by simp))); (try have HWR := Lib.hid (wrow_keep HWR.out hf)); (try have HBR := Lib.hid (bools_keep HBR.out hf)); have hzz := hf.size; have HBR := Lib.hid hbr; have HSX := Lib.hid (hSx.then_ hf); clear hbr; go_simp)
   refine hK.out _ _ (.inr ?_) (fun hT3 => ?_)
   ·first | exact HSX.out | exact hSx.alloc _ | exact hSx
   clear hK K
   try simp only [Act.put, q5, q6, q7]
   have hSx := hT3.resolve_left (by decide)
   refine R1 (i := 2) (o := ?or1u9) (by kernel_rfl) (by rfl) ?_
   intro K hK
   (obtain ⟨hwr, hf⟩ := mk2 hSx; (try have HT := Lib.hid (HT.out.fr hf (by simp))); (try have HP := Lib.hid (HP.out.fr hf (by simp))); (try have HWR := Lib.hid (wrow_keep HWR.out hf)); (try have HBR := Lib.hid (bools_keep HBR.out hf)); have hzz := hf.size; have HWR := Lib.hid hwr; have HSX := Lib.hid (hSx.then_ hf); clear hwr; go_simp)
   refine hK.out _ _ (.inr ?_) (fun hT4 => ?_)
   ·first | exact HSX.out | exact hSx.alloc _ | exact hSx
   clear hK K
   try simp only [Act.put, q5, q6, q7]
   refine T0 (i := 4) (oi := ?or1u10) (v := ?vr1u10) (by rfl) (by kernel_rfl) (by rfl) ?yr1u10 hT4 ?_
   case yr1u10 => (intro w; go_simp <;> with_reducible rfl)
   try simp only [Act.put, q5, q6, q7]
   have hSx := (hT4.more 4).resolve_left (by decide)
   refine R1 (i := 5) (o := ?or1u11) (by kernel_rfl) (by rfl) ?_
   intro K hK
   (go_simp)
   refine hK.out _ _ (.inl rfl) (fun hT6 => ?_)
   clear hK K
   try simp only [Act.put, q5, q6, q7]
   refine R1 (i := 6) (o := ?or1u12) (by kernel_rfl) (by rfl) ?_
   intro K hK
   go_simp
   refine hK.out _ _ (.inl rfl) (fun hT7 => ?_)
   clear hK K
   try simp only [Act.put, q5, q6, q7]
   refine wpAnyC_done (by kernel_rfl) ?_ _
   refine NoPanic.normal ?_
   have hsx := HSX.out.size
   obtain ⟨L9, hLa, hL9, hLn, hF9⟩ := SvAt.make HT.out HP.out HPM.out HWR.out HBR.out w.heap.size hsx (fun k hk => by have := HTL.out k hk; (try simp only [szal, szdr] at *); omega) (fun k hk => by have := HPL.out k hk; (try simp only [szal, szdr] at *); omega) (by (try simp only [szal, szdr] at *); omega) (by (try simp only [szal, szdr] at *); omega)
    (fun k h1 h2 => by have := HTL.out k h1; have := HPL.out k h2; (try simp only [szal, szdr] at *); omega) (fun h1 => by have := HTL.out _ h1; (try simp only [szal, szdr] at *); omega) (fun h1 => by have := HTL.out _ h1; (try simp only [szal, szdr] at *); omega) (fun h1 => by have := HPL.out _ h1; (try simp only [szal, szdr] at *); omega) (fun h1 => by have := HPL.out _ h1; (try simp only [szal, szdr] at *); omega) (by (try simp only [szal, szdr] at *); omega)
   (try simp only [szal] at hL9 hLa hF9)
   (try simp only [szdr] at hL9 hLa hF9)
   (try simp only [szal] at hL9 hLa hF9)
   have HF9 := Lib.hid (HSX.out.then_ hF9)
   have H9 := Lib.hid hL9
   have HLA := Lib.hid hLa
   have HLN := Lib.hid hLn
   clear hL9 hLa hLn hsx hF9
   have KG := Lib.hid (grow_calls _ L9 Sv.bare H9.out Sv.Ok.bare n (by show 0 + n ≤ _; omega))
   rw [HLA.out] at KG
   clear hm2 hm1
   by_cases h0 : vars < 0
   ·obtain rfl : n = 0 := by have := HNN.out; omega
    go_wp2_with fail
    refine KG.out.mono ?_
    clear KG
    rintro e w8 ⟨rfl, L8, h8, he8, hf8⟩
    have FF : Hid (NewP (Sv.new _) w (.returned (.pointer (some ⟨_, 0, none⟩))) w8) := ⟨L8, by rw [he8.1, HLA.out], by rw [HNW.out]; exact h8, fun k hk e => HLN.out k hk (he8.2.2 k (Nat.lt_of_lt_of_le hk HF9.out.size) (e.trans he8.2.1)), HF9.out.trans hf8 (fun k hk => by
     rw [SvL.mem_own] at hk
     rcases Nat.lt_or_ge k w.heap.size with hl | hl
     ·exact absurd hk.2 (HLN.out k hl)
     ·exact .inr hl)⟩
    clear h8 he8 hf8
    go_wp2_with fail
    go_ret
    exact FF.out
   ·have h0' : (0 : Int) ≤ vars := by omega
    by_cases h1 : 262143 < vars
    ·obtain rfl : n = 262143 := by have := HNN.out; omega
     go_wp2_with fail
     refine KG.out.mono ?_
     clear KG
     rintro e w8 ⟨rfl, L8, h8, he8, hf8⟩
     have FF : Hid (NewP (Sv.new _) w (.returned (.pointer (some ⟨_, 0, none⟩))) w8) := ⟨L8, by rw [he8.1, HLA.out], by rw [HNW.out]; exact h8, fun k hk e => HLN.out k hk (he8.2.2 k (Nat.lt_of_lt_of_le hk HF9.out.size) (e.trans he8.2.1)), HF9.out.trans hf8 (fun k hk => by
      rw [SvL.mem_own] at hk
      rcases Nat.lt_or_ge k w.heap.size with hl | hl
      ·exact absurd hk.2 (HLN.out k hl)
      ·exact .inr hl)⟩
     clear h8 he8 hf8
     go_wp2_with fail
     go_ret
     exact FF.out
    ·obtain rfl : vars = (n : Int) := by have := HNN.out; omega
     have h1' : (n : Int) ≤ 262143 := by omega
     go_wp2_with fail
     refine KG.out.mono ?_
     clear KG
     rintro e w8 ⟨rfl, L8, h8, he8, hf8⟩
     have FF : Hid (NewP (Sv.new _) w (.returned (.pointer (some ⟨_, 0, none⟩))) w8) := ⟨L8, by rw [he8.1, HLA.out], by rw [HNW.out]; exact h8, fun k hk e => HLN.out k hk (he8.2.2 k (Nat.lt_of_lt_of_le hk HF9.out.size) (e.trans he8.2.1)), HF9.out.trans hf8 (fun k hk => by
      rw [SvL.mem_own] at hk
      rcases Nat.lt_or_ge k w.heap.size with hl | hl
      ·exact absurd hk.2 (HLN.out k hl)
      ·exact .inr hl)⟩
     clear h8 he8 hf8
     go_wp2_with fail
     go_ret
     exact FF.out
  refine ReadyC.cons (o := ?or1u13) ?hor1u13 ?hstepr1u13 ?_
  case hor1u13 => rfl
  case hstepr1u13 =>
   intro K hK
   (obtain ⟨hwr, hf⟩ := mk2 hSx; (try have HT := Lib.hid (HT.out.fr hf (by simp))); (try have HP := Lib.hid (HP.out.fr hf (by simp))); (try have HWR := Lib.hid (wrow_keep HWR.out hf)); (try have HBR := Lib.hid (bools_keep HBR.out hf)); have hzz := hf.size; have HWR := Lib.hid hwr; have HSX := Lib.hid (hSx.then_ hf); clear hwr; go_simp)
   refine hK.out _ _ (.inr ?_) (fun hT2 => ?_)
   ·first | exact HSX.out | exact hSx.alloc _ | exact hSx
   clear hK K
   try simp only [Act.put, q5, q6, q7]
   have hSx := hT2.resolve_left (by decide)
   refine wpAnyC_ready (rs := [1, 3]) (by kernel_rfl) (by simp) ?_
   refine ReadyC.cons (o := ?or1u14) ?hor1u14 ?hstepr1u14 ?_
   case hor1u14 => rfl
   case hstepr1u14 =>
    intro K hK
    (go_simp; refine (KH.out _).mono ?_; rintro e w5 ⟨hL, rfl, ht, hm, hn, hf⟩; (try have HT := Lib.hid (HT.out.fr hf (by simp))); (try have HP := Lib.hid (HP.out.fr hf (by simp))); (try have HWR := Lib.hid (wrow_keep HWR.out hf)); (try have HBR := Lib.hid (bools_keep HBR.out hf)); have hzz := hf.size; have HSX := Lib.hid (hSx.then_ hf); have HPL := Lib.hid (show ∀ k, k ∈ hL.fp → _ ∧ k < w5.heap.size from fun k hk => ⟨hn k hk, ht.lt k hk⟩); have HP := Lib.hid ht; have HPM := Lib.hid hm; clear ht hn hm; dsimp only)
    refine hK.out _ _ (.inr ?_) (fun hT3 => ?_)
    ·first | exact HSX.out | exact hSx.alloc _ | exact hSx
    clear hK K
    try simp only [Act.put, q5, q6, q7]
    have hSx := hT3.resolve_left (by decide)
    refine R1 (i := 3) (o := ?or1u15) (by kernel_rfl) (by rfl) ?_
    intro K hK
    (obtain ⟨hbr, hf⟩ := mk1 hSx; (try have HT := Lib.hid (HT.out.fr hf (by simp))); (try have HP := Lib.hid (HP.out.fr hf (by simp))); (try have HWR := Lib.hid (wrow_keep HWR.out hf)); (try have HBR := Lib.hid (bools_keep HBR.out hf)); have hzz := hf.size; have HBR := Lib.hid hbr; have HSX := Lib.hid (hSx.then_ hf); clear hbr; go_simp)
    refine hK.out _ _ (.inr ?_) (fun hT4 => ?_)
    ·first | exact HSX.out | exact hSx.alloc _ | exact hSx
    clear hK K
    try simp only [Act.put, q5, q6, q7]
    refine T0 (i := 4) (oi := ?or1u16) (v := ?vr1u16) (by rfl) (by kernel_rfl) (by rfl) ?yr1u16 hT4 ?_
    case yr1u16 => (intro w; go_simp <;> with_reducible rfl)
    try simp only [Act.put, q5, q6, q7]
    have hSx := (hT4.more 4).resolve_left (by decide)
    refine R1 (i := 5) (o := ?or1u17) (by kernel_rfl) (by rfl) ?_
    intro K hK
    (go_simp)
    refine hK.out _ _ (.inl rfl) (fun hT6 => ?_)
    clear hK K
    try simp only [Act.put, q5, q6, q7]
    refine R1 (i := 6) (o := ?or1u18) (by kernel_rfl) (by rfl) ?_
    intro K hK
    go_simp
    refine hK.out _ _ (.inl rfl) (fun hT7 => ?_)
    clear hK K
    try simp only [Act.put, q5, q6, q7]
    refine wpAnyC_done (by kernel_rfl) ?_ _
    refine NoPanic.normal ?_
    have hsx := HSX.out.size
    obtain ⟨L9, hLa, hL9, hLn, hF9⟩ := SvAt.make HT.out HP.out HPM.out HWR.out HBR.out w.heap.size hsx (fun k hk => by have := HTL.out k hk; (try simp only [szal, szdr] at *); omega) (fun k hk => by have := HPL.out k hk; (try simp only [szal, szdr] at *); omega) (by (try simp only [szal, szdr] at *); omega) (by (try simp only [szal, szdr] at *); omega)
     (fun k h1 h2 => by have := HTL.out k h1; have := HPL.out k h2; (try simp only [szal, szdr] at *); omega) (fun h1 => by have := HTL.out _ h1; (try simp only [szal, szdr] at *); omega) (fun h1 => by have := HTL.out _ h1; (try simp only [szal, szdr] at *); omega) (fun h1 => by have := HPL.out _ h1; (try simp only [szal, szdr] at *); omega) (fun h1 => by have := HPL.out _ h1; (try simp only [szal, szdr] at *); omega) (by (try simp only [szal, szdr] at *); omega)
    (try simp only [szal] at hL9 hLa hF9)
    (try simp only [szdr] at hL9 hLa hF9)
    (try simp only [szal] at hL9 hLa hF9)
    have HF9 := Lib.hid (HSX.out.then_ hF9)
    have H9 := Lib.hid hL9
    have HLA := Lib.hid hLa
    have HLN := Lib.hid hLn
    clear hL9 hLa hLn hsx hF9
    have KG := Lib.hid (grow_calls _ L9 Sv.bare H9.out Sv.Ok.bare n (by show 0 + n ≤ _; omega))
    rw [HLA.out] at KG
    clear hm2 hm1
    by_cases h0 : vars < 0
    ·obtain rfl : n = 0 := by have := HNN.out; omega
     go_wp2_with fail
     refine KG.out.mono ?_
     clear KG
     rintro e w8 ⟨rfl, L8, h8, he8, hf8⟩
     have FF : Hid (NewP (Sv.new _) w (.returned (.pointer (some ⟨_, 0, none⟩))) w8) := ⟨L8, by rw [he8.1, HLA.out], by rw [HNW.out]; exact h8, fun k hk e => HLN.out k hk (he8.2.2 k (Nat.lt_of_lt_of_le hk HF9.out.size) (e.trans he8.2.1)), HF9.out.trans hf8 (fun k hk => by
      rw [SvL.mem_own] at hk
      rcases Nat.lt_or_ge k w.heap.size with hl | hl
      ·exact absurd hk.2 (HLN.out k hl)
      ·exact .inr hl)⟩
     clear h8 he8 hf8
     go_wp2_with fail
     go_ret
     exact FF.out
    ·have h0' : (0 : Int) ≤ vars := by omega
     by_cases h1 : 262143 < vars
     ·obtain rfl : n = 262143 := by have := HNN.out; omega
      go_wp2_with fail
      refine KG.out.mono ?_
      clear KG
      rintro e w8 ⟨rfl, L8, h8, he8, hf8⟩
      have FF : Hid (NewP (Sv.new _) w (.returned (.pointer (some ⟨_, 0, none⟩))) w8) := ⟨L8, by rw [he8.1, HLA.out], by rw [HNW.out]; exact h8, fun k hk e => HLN.out k hk (he8.2.2 k (Nat.lt_of_lt_of_le hk HF9.out.size) (e.trans he8.2.1)), HF9.out.trans hf8 (fun k hk => by
       rw [SvL.mem_own] at hk
       rcases Nat.lt_or_ge k w.heap.size with hl | hl
       ·exact absurd hk.2 (HLN.out k hl)
       ·exact .inr hl)⟩
      clear h8 he8 hf8
      go_wp2_with fail
      go_ret
      exact FF.out
     ·obtain rfl : vars = (n : Int) := by have := HNN.out; omega
      have h1' : (n : Int) ≤ 262143 := by omega
      go_wp2_with fail
      refine KG.out.mono ?_
      clear KG
      rintro e w8 ⟨rfl, L8, h8, he8, hf8⟩
      have FF : Hid (NewP (Sv.new _) w (.returned (.pointer (some ⟨_, 0, none⟩))) w8) := ⟨L8, by rw [he8.1, HLA.out], by rw [HNW.out]; exact h8, fun k hk e => HLN.out k hk (he8.2.2 k (Nat.lt_of_lt_of_le hk HF9.out.size) (e.trans he8.2.1)), HF9.out.trans hf8 (fun k hk => by
       rw [SvL.mem_own] at hk
       rcases Nat.lt_or_ge k w.heap.size with hl | hl
       ·exact absurd hk.2 (HLN.out k hl)
       ·exact .inr hl)⟩
      clear h8 he8 hf8
      go_wp2_with fail
      go_ret
      exact FF.out
   refine ReadyC.cons (o := ?or1u19) ?hor1u19 ?hstepr1u19 ReadyC.nil
   case hor1u19 => rfl
   intro K hK
   (obtain ⟨hbr, hf⟩ := mk1 hSx; (try have HT := Lib.hid (HT.out.fr hf (by simp))); (try have HP := Lib.hid (HP.out.fr hf (by simp))); (try have HWR := Lib.hid (wrow_keep HWR.out hf)); (try have HBR := Lib.hid (bools_keep HBR.out hf)); have hzz := hf.size; have HBR := Lib.hid hbr; have HSX := Lib.hid (hSx.then_ hf); clear hbr; go_simp)
   refine hK.out _ _ (.inr ?_) (fun hT3 => ?_)
   ·first | exact HSX.out | exact hSx.alloc _ | exact hSx
   clear hK K
   try simp only [Act.put, q5, q6, q7]
   have hSx := hT3.resolve_left (by decide)
   refine R1 (i := 1) (o := ?or1u20) (by kernel_rfl) (by rfl) ?_
   intro K hK
   (go_simp; refine (KH.out _).mono ?_; rintro e w5 ⟨hL, rfl, ht, hm, hn, hf⟩; (try have HT := Lib.hid (HT.out.fr hf (by simp))); (try have HP := Lib.hid (HP.out.fr hf (by simp))); (try have HWR := Lib.hid (wrow_keep HWR.out hf)); (try have HBR := Lib.hid (bools_keep HBR.out hf)); have hzz := hf.size; have HSX := Lib.hid (hSx.then_ hf); have HPL := Lib.hid (show ∀ k, k ∈ hL.fp → _ ∧ k < w5.heap.size from fun k hk => ⟨hn k hk, ht.lt k hk⟩); have HP := Lib.hid ht; have HPM := Lib.hid hm; clear ht hn hm; dsimp only)
   refine hK.out _ _ (.inr ?_) (fun hT4 => ?_)
   ·first | exact HSX.out | exact hSx.alloc _ | exact hSx
   clear hK K
   try simp only [Act.put, q5, q6, q7]
   refine T0 (i := 4) (oi := ?or1u21) (v := ?vr1u21) (by rfl) (by kernel_rfl) (by rfl) ?yr1u21 hT4 ?_
   case yr1u21 => (intro w; go_simp <;> with_reducible rfl)
   try simp only [Act.put, q5, q6, q7]
   have hSx := (hT4.more 4).resolve_left (by decide)
   refine R1 (i := 5) (o := ?or1u22) (by kernel_rfl) (by rfl) ?_
   intro K hK
   (go_simp)
   refine hK.out _ _ (.inl rfl) (fun hT6 => ?_)
   clear hK K
   try simp only [Act.put, q5, q6, q7]
   refine R1 (i := 6) (o := ?or1u23) (by kernel_rfl) (by rfl) ?_
   intro K hK
   go_simp
   refine hK.out _ _ (.inl rfl) (fun hT7 => ?_)
   clear hK K
   try simp only [Act.put, q5, q6, q7]
   refine wpAnyC_done (by kernel_rfl) ?_ _
   refine NoPanic.normal ?_
   have hsx := HSX.out.size
   obtain ⟨L9, hLa, hL9, hLn, hF9⟩ := SvAt.make HT.out HP.out HPM.out HWR.out HBR.out w.heap.size hsx (fun k hk => by have := HTL.out k hk; (try simp only [szal, szdr] at *); omega) (fun k hk => by have := HPL.out k hk; (try simp only [szal, szdr] at *); omega) (by (try simp only [szal, szdr] at *); omega) (by (try simp only [szal, szdr] at *); omega)
    (fun k h1 h2 => by have := HTL.out k h1; have := HPL.out k h2; (try simp only [szal, szdr] at *); omega) (fun h1 => by have := HTL.out _ h1; (try simp only [szal, szdr] at *); omega) (fun h1 => by have := HTL.out _ h1; (try simp only [szal, szdr] at *); omega) (fun h1 => by have := HPL.out _ h1; (try simp only [szal, szdr] at *); omega) (fun h1 => by have := HPL.out _ h1; (try simp only [szal, szdr] at *); omega) (by (try simp only [szal, szdr] at *); omega)
   (try simp only [szal] at hL9 hLa hF9)
   (try simp only [szdr] at hL9 hLa hF9)
   (try simp only [szal] at hL9 hLa hF9)
   have HF9 := Lib.hid (HSX.out.then_ hF9)
   have H9 := Lib.hid hL9
   have HLA := Lib.hid hLa
   have HLN := Lib.hid hLn
   clear hL9 hLa hLn hsx hF9
   have KG := Lib.hid (grow_calls _ L9 Sv.bare H9.out Sv.Ok.bare n (by show 0 + n ≤ _; omega))
   rw [HLA.out] at KG
   clear hm2 hm1
   by_cases h0 : vars < 0
   ·obtain rfl : n = 0 := by have := HNN.out; omega
    go_wp2_with fail
    refine KG.out.mono ?_
    clear KG
    rintro e w8 ⟨rfl, L8, h8, he8, hf8⟩
    have FF : Hid (NewP (Sv.new _) w (.returned (.pointer (some ⟨_, 0, none⟩))) w8) := ⟨L8, by rw [he8.1, HLA.out], by rw [HNW.out]; exact h8, fun k hk e => HLN.out k hk (he8.2.2 k (Nat.lt_of_lt_of_le hk HF9.out.size) (e.trans he8.2.1)), HF9.out.trans hf8 (fun k hk => by
     rw [SvL.mem_own] at hk
     rcases Nat.lt_or_ge k w.heap.size with hl | hl
     ·exact absurd hk.2 (HLN.out k hl)
     ·exact .inr hl)⟩
    clear h8 he8 hf8
    go_wp2_with fail
    go_ret
    exact FF.out
   ·have h0' : (0 : Int) ≤ vars := by omega
    by_cases h1 : 262143 < vars
    ·obtain rfl : n = 262143 := by have := HNN.out; omega
     go_wp2_with fail
     refine KG.out.mono ?_
     clear KG
     rintro e w8 ⟨rfl, L8, h8, he8, hf8⟩
     have FF : Hid (NewP (Sv.new _) w (.returned (.pointer (some ⟨_, 0, none⟩))) w8) := ⟨L8, by rw [he8.1, HLA.out], by rw [HNW.out]; exact h8, fun k hk e => HLN.out k hk (he8.2.2 k (Nat.lt_of_lt_of_le hk HF9.out.size) (e.trans he8.2.1)), HF9.out.trans hf8 (fun k hk => by
      rw [SvL.mem_own] at hk
      rcases Nat.lt_or_ge k w.heap.size with hl | hl
      ·exact absurd hk.2 (HLN.out k hl)
      ·exact .inr hl)⟩
     clear h8 he8 hf8
     go_wp2_with fail
     go_ret
     exact FF.out
    ·obtain rfl : vars = (n : Int) := by have := HNN.out; omega
     have h1' : (n : Int) ≤ 262143 := by omega
     go_wp2_with fail
     refine KG.out.mono ?_
     clear KG
     rintro e w8 ⟨rfl, L8, h8, he8, hf8⟩
     have FF : Hid (NewP (Sv.new _) w (.returned (.pointer (some ⟨_, 0, none⟩))) w8) := ⟨L8, by rw [he8.1, HLA.out], by rw [HNW.out]; exact h8, fun k hk e => HLN.out k hk (he8.2.2 k (Nat.lt_of_lt_of_le hk HF9.out.size) (e.trans he8.2.1)), HF9.out.trans hf8 (fun k hk => by
      rw [SvL.mem_own] at hk
      rcases Nat.lt_or_ge k w.heap.size with hl | hl
      ·exact absurd hk.2 (HLN.out k hl)
      ·exact .inr hl)⟩
     clear h8 he8 hf8
     go_wp2_with fail
     go_ret
     exact FF.out
  refine ReadyC.cons (o := ?or1u24) ?hor1u24 ?hstepr1u24 ReadyC.nil
  case hor1u24 => rfl
  intro K hK
  (obtain ⟨hbr, hf⟩ := mk1 hSx; (try have HT := Lib.hid (HT.out.fr hf (by simp))); (try have HP := Lib.hid (HP.out.fr hf (by simp))); (try have HWR := Lib.hid (wrow_keep HWR.out hf)); (try have HBR := Lib.hid (bools_keep HBR.out hf)); have hzz := hf.size; have HBR := Lib.hid hbr; have HSX := Lib.hid (hSx.then_ hf); clear hbr; go_simp)
  refine hK.out _ _ (.inr ?_) (fun hT2 => ?_)
  ·first | exact HSX.out | exact hSx.alloc _ | exact hSx
  clear hK K
  try simp only [Act.put, q5, q6, q7]
  have hSx := hT2.resolve_left (by decide)
  refine wpAnyC_ready (rs := [1, 2]) (by kernel_rfl) (by simp) ?_
  refine ReadyC.cons (o := ?or1u25) ?hor1u25 ?hstepr1u25 ?_
  case hor1u25 => rfl
  case hstepr1u25 =>
   intro K hK
   (go_simp; refine (KH.out _).mono ?_; rintro e w5 ⟨hL, rfl, ht, hm, hn, hf⟩; (try have HT := Lib.hid (HT.out.fr hf (by simp))); (try have HP := Lib.hid (HP.out.fr hf (by simp))); (try have HWR := Lib.hid (wrow_keep HWR.out hf)); (try have HBR := Lib.hid (bools_keep HBR.out hf)); have hzz := hf.size; have HSX := Lib.hid (hSx.then_ hf); have HPL := Lib.hid (show ∀ k, k ∈ hL.fp → _ ∧ k < w5.heap.size from fun k hk => ⟨hn k hk, ht.lt k hk⟩); have HP := Lib.hid ht; have HPM := Lib.hid hm; clear ht hn hm; dsimp only)
   refine hK.out _ _ (.inr ?_) (fun hT3 => ?_)
   ·first | exact HSX.out | exact hSx.alloc _ | exact hSx
   clear hK K
   try simp only [Act.put, q5, q6, q7]
   have hSx := hT3.resolve_left (by decide)
   refine R1 (i := 2) (o := ?or1u26) (by kernel_rfl) (by rfl) ?_
   intro K hK
   (obtain ⟨hwr, hf⟩ := mk2 hSx; (try have HT := Lib.hid (HT.out.fr hf (by simp))); (try have HP := Lib.hid (HP.out.fr hf (by simp))); (try have HWR := Lib.hid (wrow_keep HWR.out hf)); (try have HBR := Lib.hid (bools_keep HBR.out hf)); have hzz := hf.size; have HWR := Lib.hid hwr; have HSX := Lib.hid (hSx.then_ hf); clear hwr; go_simp)
   refine hK.out _ _ (.inr ?_) (fun hT4 => ?_)
   ·first | exact HSX.out | exact hSx.alloc _ | exact hSx
   clear hK K
   try simp only [Act.put, q5, q6, q7]
   refine T0 (i := 4) (oi := ?or1u27) (v := ?vr1u27) (by rfl) (by kernel_rfl) (by rfl) ?yr1u27 hT4 ?_
   case yr1u27 => (intro w; go_simp <;> with_reducible rfl)
   try simp only [Act.put, q5, q6, q7]
   have hSx := (hT4.more 4).resolve_left (by decide)
   refine R1 (i := 5) (o := ?or1u28) (by kernel_rfl) (by rfl) ?_
   intro K hK
   (go_simp)
   refine hK.out _ _ (.inl rfl) (fun hT6 => ?_)
   clear hK K
   try simp only [Act.put, q5, q6, q7]
   refine R1 (i := 6) (o := ?or1u29) (by kernel_rfl) (by rfl) ?_
   intro K hK
   go_simp
   refine hK.out _ _ (.inl rfl) (fun hT7 => ?_)
   clear hK K
   try simp only [Act.put, q5, q6, q7]
   refine wpAnyC_done (by kernel_rfl) ?_ _
   refine NoPanic.normal ?_
   have hsx := HSX.out.size
   obtain ⟨L9, hLa, hL9, hLn, hF9⟩ := SvAt.make HT.out HP.out HPM.out HWR.out HBR.out w.heap.size hsx (fun k hk => by have := HTL.out k hk; (try simp only [szal, szdr] at *); omega) (fun k hk => by have := HPL.out k hk; (try simp only [szal, szdr] at *); omega) (by (try simp only [szal, szdr] at *); omega) (by (try simp only [szal, szdr] at *); omega)
    (fun k h1 h2 => by have := HTL.out k h1; have := HPL.out k h2; (try simp only [szal, szdr] at *); omega) (fun h1 => by have := HTL.out _ h1; (try simp only [szal, szdr] at *); omega) (fun h1 => by have := HTL.out _ h1; (try simp only [szal, szdr] at *); omega) (fun h1 => by have := HPL.out _ h1; (try simp only [szal, szdr] at *); omega) (fun h1 => by have := HPL.out _ h1; (try simp only [szal, szdr] at *); omega) (by (try simp only [szal, szdr] at *); omega)
   (try simp only [szal] at hL9 hLa hF9)
   (try simp only [szdr] at hL9 hLa hF9)
   (try simp only [szal] at hL9 hLa hF9)
   have HF9 := Lib.hid (HSX.out.then_ hF9)
   have H9 := Lib.hid hL9
   have HLA := Lib.hid hLa
   have HLN := Lib.hid hLn
   clear hL9 hLa hLn hsx hF9
   have KG := Lib.hid (grow_calls _ L9 Sv.bare H9.out Sv.Ok.bare n (by show 0 + n ≤ _; omega))
   rw [HLA.out] at KG
   clear hm2 hm1
   by_cases h0 : vars < 0
   ·obtain rfl : n = 0 := by have := HNN.out; omega
    go_wp2_with fail
    refine KG.out.mono ?_
    clear KG
    rintro e w8 ⟨rfl, L8, h8, he8, hf8⟩
    have FF : Hid (NewP (Sv.new _) w (.returned (.pointer (some ⟨_, 0, none⟩))) w8) := ⟨L8, by rw [he8.1, HLA.out], by rw [HNW.out]; exact h8, fun k hk e => HLN.out k hk (he8.2.2 k (Nat.lt_of_lt_of_le hk HF9.out.size) (e.trans he8.2.1)), HF9.out.trans hf8 (fun k hk => by
     rw [SvL.mem_own] at hk
     rcases Nat.lt_or_ge k w.heap.size with hl | hl
     ·exact absurd hk.2 (HLN.out k hl)
     ·exact .inr hl)⟩
    clear h8 he8 hf8
    go_wp2_with fail
    go_ret
    exact FF.out
   ·have h0' : (0 : Int) ≤ vars := by omega
    by_cases h1 : 262143 < vars
    ·obtain rfl : n = 262143 := by have := HNN.out; omega
     go_wp2_with fail
     refine KG.out.mono ?_
     clear KG
     rintro e w8 ⟨rfl, L8, h8, he8, hf8⟩
     have FF : Hid (NewP (Sv.new _) w (.returned (.pointer (some ⟨_, 0, none⟩))) w8) := ⟨L8, by rw [he8.1, HLA.out], by rw [HNW.out]; exact h8, fun k hk e => HLN.out k hk (he8.2.2 k (Nat.lt_of_lt_of_le hk HF9.out.size) (e.trans he8.2.1)), HF9.out.trans hf8 (fun k hk => by
      rw [SvL.mem_own] at hk
      rcases Nat.lt_or_ge k w.heap.size with hl | hl
      ·exact absurd hk.2 (HLN.out k hl)
      ·exact .inr hl)⟩
     clear h8 he8 hf8
     go_wp2_with fail
     go_ret
     exact FF.out
    ·obtain rfl : vars = (n : Int) := by have := HNN.out; omega
     have h1' : (n : Int) ≤ 262143 := by omega
     go_wp2_with fail
     refine KG.out.mono ?_
     clear KG
     rintro e w8 ⟨rfl, L8, h8, he8, hf8⟩
     have FF : Hid (NewP (Sv.new _) w (.returned (.pointer (some ⟨_, 0, none⟩))) w8) := ⟨L8, by rw [he8.1, HLA.out], by rw [HNW.out]; exact h8, fun k hk e => HLN.out k hk (he8.2.2 k (Nat.lt_of_lt_of_le hk HF9.out.size) (e.trans he8.2.1)), HF9.out.trans hf8 (fun k hk => by
      rw [SvL.mem_own] at hk
      rcases Nat.lt_or_ge k w.heap.size with hl | hl
      ·exact absurd hk.2 (HLN.out k hl)
      ·exact .inr hl)⟩
     clear h8 he8 hf8
     go_wp2_with fail
     go_ret
     exact FF.out
  refine ReadyC.cons (o := ?or1u30) ?hor1u30 ?hstepr1u30 ReadyC.nil
  case hor1u30 => rfl
  intro K hK
  (obtain ⟨hwr, hf⟩ := mk2 hSx; (try have HT := Lib.hid (HT.out.fr hf (by simp))); (try have HP := Lib.hid (HP.out.fr hf (by simp))); (try have HWR := Lib.hid (wrow_keep HWR.out hf)); (try have HBR := Lib.hid (bools_keep HBR.out hf)); have hzz := hf.size; have HWR := Lib.hid hwr; have HSX := Lib.hid (hSx.then_ hf); clear hwr; go_simp)
  refine hK.out _ _ (.inr ?_) (fun hT3 => ?_)
  ·first | exact HSX.out | exact hSx.alloc _ | exact hSx
  clear hK K
  try simp only [Act.put, q5, q6, q7]
  have hSx := hT3.resolve_left (by decide)
  refine R1 (i := 1) (o := ?or1u31) (by kernel_rfl) (by rfl) ?_
  intro K hK
  (go_simp; refine (KH.out _).mono ?_; rintro e w5 ⟨hL, rfl, ht, hm, hn, hf⟩; (try have HT := Lib.hid (HT.out.fr hf (by simp))); (try have HP := Lib.hid (HP.out.fr hf (by simp))); (try have HWR := Lib.hid (wrow_keep HWR.out hf)); (try have HBR := Lib.hid (bools_keep HBR.out hf)); have hzz := hf.size; have HSX := Lib.hid (hSx.then_ hf); have HPL := Lib.hid (show ∀ k, k ∈ hL.fp → _ ∧ k < w5.heap.size from fun k hk => ⟨hn k hk, ht.lt k hk⟩); have HP := Lib.hid ht; have HPM := Lib.hid hm; clear ht hn hm; dsimp only)
  refine hK.out _ _ (.inr ?_) (fun hT4 => ?_)
  ·first | exact HSX.out | exact hSx.alloc _ | exact hSx
  clear hK K
  try simp only [Act.put, q5, q6, q7]
  refine T0 (i := 4) (oi := ?or1u32) (v := ?vr1u32) (by rfl) (by kernel_rfl) (by rfl) ?yr1u32 hT4 ?_
  case yr1u32 => (intro w; go_simp <;> with_reducible rfl)
  try simp only [Act.put, q5, q6, q7]
  have hSx := (hT4.more 4).resolve_left (by decide)
  refine R1 (i := 5) (o := ?or1u33) (by kernel_rfl) (by rfl) ?_
  intro K hK
  (go_simp)
  refine hK.out _ _ (.inl rfl) (fun hT6 => ?_)
  clear hK K
  try simp only [Act.put, q5, q6, q7]
  refine R1 (i := 6) (o := ?or1u34) (by kernel_rfl) (by rfl) ?_
  intro K hK
  go_simp
  refine hK.out _ _ (.inl rfl) (fun hT7 => ?_)
  clear hK K
  try simp only [Act.put, q5, q6, q7]
  refine wpAnyC_done (by kernel_rfl) ?_ _
  refine NoPanic.normal ?_
  have hsx := HSX.out.size
  obtain ⟨L9, hLa, hL9, hLn, hF9⟩ := SvAt.make HT.out HP.out HPM.out HWR.out HBR.out w.heap.size hsx (fun k hk => by have := HTL.out k hk; (try simp only [szal, szdr] at *); omega) (fun k hk => by have := HPL.out k hk; (try simp only [szal, szdr] at *); omega) (by (try simp only [szal, szdr] at *); omega) (by (try simp only [szal, szdr] at *); omega)
   (fun k h1 h2 => by have := HTL.out k h1; have := HPL.out k h2; (try simp only [szal, szdr] at *); omega) (fun h1 => by have := HTL.out _ h1; (try simp only [szal, szdr] at *); omega) (fun h1 => by have := HTL.out _ h1; (try simp only [szal, szdr] at *); omega) (fun h1 => by have := HPL.out _ h1; (try simp only [szal, szdr] at *); omega) (fun h1 => by have := HPL.out _ h1; (try simp only [szal, szdr] at *); omega) (by (try simp only [szal, szdr] at *); omega)
  (try simp only [szal] at hL9 hLa hF9)
  (try simp only [szdr] at hL9 hLa hF9)
  (try simp only [szal] at hL9 hLa hF9)
  have HF9 := Lib.hid (HSX.out.then_ hF9)
  have H9 := Lib.hid hL9
  have HLA := Lib.hid hLa
  have HLN := Lib.hid hLn
  clear hL9 hLa hLn hsx hF9
  have KG := Lib.hid (grow_calls _ L9 Sv.bare H9.out Sv.Ok.bare n (by show 0 + n ≤ _; omega))
  rw [HLA.out] at KG
  clear hm2 hm1
  by_cases h0 : vars < 0
  ·obtain rfl : n = 0 := by have := HNN.out; omega
   go_wp2_with fail
   refine KG.out.mono ?_
   clear KG
   rintro e w8 ⟨rfl, L8, h8, he8, hf8⟩
   have FF : Hid (NewP (Sv.new _) w (.returned (.pointer (some ⟨_, 0, none⟩))) w8) := ⟨L8, by rw [he8.1, HLA.out], by rw [HNW.out]; exact h8, fun k hk e => HLN.out k hk (he8.2.2 k (Nat.lt_of_lt_of_le hk HF9.out.size) (e.trans he8.2.1)), HF9.out.trans hf8 (fun k hk => by
    rw [SvL.mem_own] at hk
    rcases Nat.lt_or_ge k w.heap.size with hl | hl
    ·exact absurd hk.2 (HLN.out k hl)
    ·exact .inr hl)⟩
   clear h8 he8 hf8
   go_wp2_with fail
   go_ret
   exact FF.out
  ·have h0' : (0 : Int) ≤ vars := by omega
   by_cases h1 : 262143 < vars
   ·obtain rfl : n = 262143 := by have := HNN.out; omega
    go_wp2_with fail
    refine KG.out.mono ?_
    clear KG
    rintro e w8 ⟨rfl, L8, h8, he8, hf8⟩
    have FF : Hid (NewP (Sv.new _) w (.returned (.pointer (some ⟨_, 0, none⟩))) w8) := ⟨L8, by rw [he8.1, HLA.out], by rw [HNW.out]; exact h8, fun k hk e => HLN.out k hk (he8.2.2 k (Nat.lt_of_lt_of_le hk HF9.out.size) (e.trans he8.2.1)), HF9.out.trans hf8 (fun k hk => by
     rw [SvL.mem_own] at hk
     rcases Nat.lt_or_ge k w.heap.size with hl | hl
     ·exact absurd hk.2 (HLN.out k hl)
     ·exact .inr hl)⟩
    clear h8 he8 hf8
    go_wp2_with fail
    go_ret
    exact FF.out
   ·obtain rfl : vars = (n : Int) := by have := HNN.out; omega
    have h1' : (n : Int) ≤ 262143 := by omega
    go_wp2_with fail
    refine KG.out.mono ?_
    clear KG
    rintro e w8 ⟨rfl, L8, h8, he8, hf8⟩
    have FF : Hid (NewP (Sv.new _) w (.returned (.pointer (some ⟨_, 0, none⟩))) w8) := ⟨L8, by rw [he8.1, HLA.out], by rw [HNW.out]; exact h8, fun k hk e => HLN.out k hk (he8.2.2 k (Nat.lt_of_lt_of_le hk HF9.out.size) (e.trans he8.2.1)), HF9.out.trans hf8 (fun k hk => by
     rw [SvL.mem_own] at hk
     rcases Nat.lt_or_ge k w.heap.size with hl | hl
     ·exact absurd hk.2 (HLN.out k hl)
     ·exact .inr hl)⟩
    clear h8 he8 hf8
    go_wp2_with fail
    go_ret
    exact FF.out
 refine ReadyC.cons (o := ?or1u35) ?hor1u35 ?hstepr1u35 ?_
 case hor1u35 => rfl
 case hstepr1u35 =>
  intro K hK
  (obtain ⟨hwr, hf⟩ := mk2 hSx; (try have HT := Lib.hid (HT.out.fr hf (by simp))); (try have HP := Lib.hid (HP.out.fr hf (by simp))); (try have HWR := Lib.hid (wrow_keep HWR.out hf)); (try have HBR := Lib.hid (bools_keep HBR.out hf)); have hzz := hf.size; have HWR := Lib.hid hwr; have HSX := Lib.hid (hSx.then_ hf); clear hwr; go_simp)
  refine hK.out _ _ (.inr ?_) (fun hT1 => ?_)
  ·first | exact HSX.out | exact hSx.alloc _ | exact hSx
  clear hK K
  try simp only [Act.put, q5, q6, q7]
  have hSx := hT1.resolve_left (by decide)
  refine wpAnyC_ready (rs := [0, 3]) (by kernel_rfl) (by simp) ?_
  refine ReadyC.cons (o := ?or1u36) ?hor1u36 ?hstepr1u36 ?_
  case hor1u36 => rfl
  case hstepr1u36 =>
   intro K hK
   (go_simp; refine (KT.out _).mono ?_; rintro e w5 ⟨tL, rfl, ht, hn, hf⟩; (try have HT := Lib.hid (HT.out.fr hf (by simp))); (try have HP := Lib.hid (HP.out.fr hf (by simp))); (try have HWR := Lib.hid (wrow_keep HWR.out hf)); (try have HBR := Lib.hid (bools_keep HBR.out hf)); have hzz := hf.size; have HSX := Lib.hid (hSx.then_ hf); have HTL := Lib.hid (show ∀ k, k ∈ tL.fp → _ ∧ k < w5.heap.size from fun k hk => ⟨hn k hk, ht.lt k hk⟩); have HT := Lib.hid ht; clear ht hn; dsimp only)
   refine hK.out _ _ (.inr ?_) (fun hT2 => ?_)
   ·first | exact HSX.out | exact hSx.alloc _ | exact hSx
   clear hK K
   try simp only [Act.put, q5, q6, q7]
   have hSx := hT2.resolve_left (by decide)
   refine wpAnyC_ready (rs := [1, 3]) (by kernel_rfl) (by simp) ?_
   refine ReadyC.cons (o := ?or1u37) ?hor1u37 ?hstepr1u37 ?_
   case hor1u37 => rfl
   case hstepr1u37 =>
    intro K hK
    (go_simp; refine (KH.out _).mono ?_; rintro e w5 ⟨hL, rfl, ht, hm, hn, hf⟩; (try have HT := Lib.hid (HT.out.fr hf (by simp))); (try have HP := Lib.hid (HP.out.fr hf (by simp))); (try have HWR := Lib.hid (wrow_keep HWR.out hf)); (try have HBR := Lib.hid (bools_keep HBR.out hf)); have hzz := hf.size; have HSX := Lib.hid (hSx.then_ hf); have HPL := Lib.hid (show ∀ k, k ∈ hL.fp → _ ∧ k < w5.heap.size from fun k hk => ⟨hn k hk, ht.lt k hk⟩); have HP := Lib.hid ht; have HPM := Lib.hid hm; clear ht hn hm; dsimp only)
    refine hK.out _ _ (.inr ?_) (fun hT3 => ?_)
    ·first | exact HSX.out | exact hSx.alloc _ | exact hSx
    clear hK K
    try simp only [Act.put, q5, q6, q7]
    have hSx := hT3.resolve_left (by decide)
    refine R1 (i := 3) (o := ?or1u38) (by kernel_rfl) (by rfl) ?_
    intro K hK
    (obtain ⟨hbr, hf⟩ := mk1 hSx; (try have HT := Lib.hid (HT.out.fr hf (by simp))); (try have HP := Lib.hid (HP.out.fr hf (by simp))); (try have HWR := Lib.hid (wrow_keep HWR.out hf)); (try have HBR := Lib.hid (bools_keep HBR.out hf)); have hzz := hf.size; have HBR := Lib.hid hbr; have HSX := Lib.hid (hSx.then_ hf); clear hbr; go_simp)
    refine hK.out _ _ (.inr ?_) (fun hT4 => ?_)
    ·first | exact HSX.out | exact hSx.alloc _ | exact hSx
    clear hK K
    try simp only [Act.put, q5, q6, q7]
    refine T0 (i := 4) (oi := ?or1u39) (v := ?vr1u39) (by rfl) (by kernel_rfl) (by rfl) ?yr1u39 hT4 ?_
    case yr1u39 => (intro w; go_simp <;> with_reducible rfl)
    try simp only [Act.put, q5, q6, q7]
    have hSx := (hT4.more 4).resolve_left (by decide)
    refine R1 (i := 5) (o := ?or1u40) (by kernel_rfl) (by rfl) ?_
    intro K hK
    (go_simp)
    refine hK.out _ _ (.inl rfl) (fun hT6 => ?_)
    clear hK K
    try simp only [Act.put, q5, q6, q7]
    refine R1 (i := 6) (o := ?or1u41) (by kernel_rfl) (by rfl) ?_
    intro K hK
    go_simp
    refine hK.out _ _ (.inl rfl) (fun hT7 => ?_)
    clear hK K
    try simp only [Act.put, q5, q6, q7]
    refine wpAnyC_done (by kernel_rfl) ?_ _
    refine NoPanic.normal ?_
    have hsx := HSX.out.size
    obtain ⟨L9, hLa, hL9, hLn, hF9⟩ := SvAt.make HT.out HP.out HPM.out HWR.out HBR.out w.heap.size hsx (fun k hk => by have := HTL.out k hk; (try simp only [szal, szdr] at *); omega) (fun k hk => by have := HPL.out k hk; (try simp only [szal, szdr] at *); omega) (by (try simp only [szal, szdr] at *); omega) (by (try simp only [szal, szdr] at *); omega)
     (fun k h1 h2 => by have := HTL.out k h1; have := HPL.out k h2; (try simp only [szal, szdr] at *); omega) (fun h1 => by have := HTL.out _ h1; (try simp only [szal, szdr] at *); omega) (fun h1 => by have := HTL.out _ h1; (try simp only [szal, szdr] at *); omega) (fun h1 => by have := HPL.out _ h1; (try simp only [szal, szdr] at *); omega) (fun h1 => by have := HPL.out _ h1; (try simp only [szal, szdr] at *); omega) (by (try simp only [szal, szdr] at *); omega)
    (try simp only [szal] at hL9 hLa hF9)
    (try simp only [szdr] at hL9 hLa hF9)
    (try simp only [szal] at hL9 hLa hF9)
    have HF9 := Lib.hid (HSX.out.then_ hF9)
    have H9 := Lib.hid hL9
    have HLA := Lib.hid hLa
    have HLN := Lib.hid hLn
    clear hL9 hLa hLn hsx hF9
    have KG := Lib.hid (grow_calls _ L9 Sv.bare H9.out Sv.Ok.bare n (by show 0 + n ≤ _; omega))
    rw [HLA.out] at KG
    clear hm2 hm1
    by_cases h0 : vars < 0
    ·obtain rfl : n = 0 := by have := HNN.out; omega
     go_wp2_with fail
     refine KG.out.mono ?_
     clear KG
     rintro e w8 ⟨rfl, L8, h8, he8, hf8⟩
     have FF : Hid (NewP (Sv.new _) w (.returned (.pointer (some ⟨_, 0, none⟩))) w8) := ⟨L8, by rw [he8.1, HLA.out], by rw [HNW.out]; exact h8, fun k hk e => HLN.out k hk (he8.2.2 k (Nat.lt_of_lt_of_le hk HF9.out.size) (e.trans he8.2.1)), HF9.out.trans hf8 (fun k hk => by
      rw [SvL.mem_own] at hk
      rcases Nat.lt_or_ge k w.heap.size with hl | hl
      ·exact absurd hk.2 (HLN.out k hl)
      ·exact .inr hl)⟩
     clear h8 he8 hf8
     go_wp2_with fail
     go_ret
     exact FF.out
    ·have h0' : (0 : Int) ≤ vars := by omega
     by_cases h1 : 262143 < vars
     ·obtain rfl : n = 262143 := by have := HNN.out; omega
      go_wp2_with fail
      refine KG.out.mono ?_
      clear KG
      rintro e w8 ⟨rfl, L8, h8, he8, hf8⟩
      have FF : Hid (NewP (Sv.new _) w (.returned (.pointer (some ⟨_, 0, none⟩))) w8) := ⟨L8, by rw [he8.1, HLA.out], by rw [HNW.out]; exact h8, fun k hk e => HLN.out k hk (he8.2.2 k (Nat.lt_of_lt_of_le hk HF9.out.size) (e.trans he8.2.1)), HF9.out.trans hf8 (fun k hk => by
       rw [SvL.mem_own] at hk
       rcases Nat.lt_or_ge k w.heap.size with hl | hl
       ·exact absurd hk.2 (HLN.out k hl)
       ·exact .inr hl)⟩
      clear h8 he8 hf8
      go_wp2_with fail
      go_ret
      exact FF.out
     ·obtain rfl : vars = (n : Int) := by have := HNN.out; omega
      have h1' : (n : Int) ≤ 262143 := by omega
      go_wp2_with fail
      refine KG.out.mono ?_
      clear KG
      rintro e w8 ⟨rfl, L8, h8, he8, hf8⟩
      have FF : Hid (NewP (Sv.new _) w (.returned (.pointer (some ⟨_, 0, none⟩))) w8) := ⟨L8, by rw [he8.1, HLA.out], by rw [HNW.out]; exact h8, fun k hk e => HLN.out k hk (he8.2.2 k (Nat.lt_of_lt_of_le hk HF9.out.size) (e.trans he8.2.1)), HF9.out.trans hf8 (fun k hk => by
       rw [SvL.mem_own] at hk
       rcases Nat.lt_or_ge k w.heap.size with hl | hl
       ·exact absurd hk.2 (HLN.out k hl)
       ·exact .inr hl)⟩
      clear h8 he8 hf8
      go_wp2_with fail
      go_ret
      exact FF.out
   refine ReadyC.cons (o := ?or1u42) ?hor1u42 ?hstepr1u42 ReadyC.nil
   case hor1u42 => rfl
   intro K hK
   (obtain ⟨hbr, hf⟩ := mk1 hSx; (try have HT := Lib.hid (HT.out.fr hf (by simp))); (try have HP := Lib.hid (HP.out.fr hf (by simp))); (try have HWR := Lib.hid (wrow_keep HWR.out hf)); (try have HBR := Lib.hid (bools_keep HBR.out hf)); have hzz := hf.size; have HBR := Lib.hid hbr; have HSX := Lib.hid (hSx.then_ hf); clear hbr; go_simp)
   refine hK.out _ _ (.inr ?_) (fun hT3 => ?_)
   ·first | exact HSX.out | exact hSx.alloc _ | exact hSx
   clear hK K
   try simp only [Act.put, q5, q6, q7]
   have hSx := hT3.resolve_left (by decide)
   refine R1 (i := 1) (o := ?or1u43) (by kernel_rfl) (by rfl) ?_
   intro K hK
   (go_simp; refine (KH.out _).mono ?_; rintro e w5 ⟨hL, rfl, ht, hm, hn, hf⟩; (try have HT := Lib.hid (HT.out.fr hf (by simp))); (try have HP := Lib.hid (HP.out.fr hf (by simp))); (try have HWR := Lib.hid (wrow_keep HWR.out hf)); (try have HBR := Lib.hid (bools_keep HBR.out hf)); have hzz := hf.size; have HSX := Lib.hid (hSx.then_ hf); have HPL := Lib.hid (show ∀ k, k ∈ hL.fp → _ ∧ k < w5.heap.size from fun k hk => ⟨hn k hk, ht.lt k hk⟩); have HP := Lib.hid ht; have HPM := Lib.hid hm; clear ht hn hm; dsimp only)
   refine hK.out _ _ (.inr ?_) (fun hT4 => ?_)
   ·first | exact HSX.out | exact hSx.alloc _ | exact hSx
   clear hK K
   try simp only [Act.put, q5, q6, q7]
   refine T0 (i := 4) (oi := ?or1u44) (v := ?vr1u44) (by rfl) (by kernel_rfl) (by rfl) ?yr1u44 hT4 ?_
   case yr1u44 => (intro w; go_simp <;> with_reducible rfl)
   try simp only [Act.put, q5, q6, q7]
   have hSx := (hT4.more 4).resolve_left (by decide)
   refine R1 (i := 5) (o := ?or1u45) (by kernel_rfl) (by rfl) ?_
   intro K hK
   (go_simp)
   refine hK.out _ _ (.inl rfl) (fun hT6 => ?_)
   clear hK K
   try simp only [Act.put, q5, q6, q7]
   refine R1 (i := 6) (o := ?or1u46) (by kernel_rfl) (by rfl) ?_
   intro K hK
   go_simp
   refine hK.out _ _ (.inl rfl) (fun hT7 => ?_)
   clear hK K
   try simp only [Act.put, q5, q6, q7]
   refine wpAnyC_done (by kernel_rfl) ?_ _
   refine NoPanic.normal ?_
   have hsx := HSX.out.size
   obtain ⟨L9, hLa, hL9, hLn, hF9⟩ := SvAt.make HT.out HP.out HPM.out HWR.out HBR.out w.heap.size hsx (fun k hk => by have := HTL.out k hk; (try simp only [szal, szdr] at *); omega) (fun k hk => by have := HPL.out k hk; (try simp only [szal, szdr] at *); omega) (by (try simp only [szal, szdr] at *); omega) (by (try simp only [szal, szdr] at *); omega)
    (fun k h1 h2 => by have := HTL.out k h1; have := HPL.out k h2; (try simp only [szal, szdr] at *); omega) (fun h1 => by have := HTL.out _ h1; (try simp only [szal, szdr] at *); omega) (fun h1 => by have := HTL.out _ h1; (try simp only [szal, szdr] at *); omega) (fun h1 => by have := HPL.out _ h1; (try simp only [szal, szdr] at *); omega) (fun h1 => by have := HPL.out _ h1; (try simp only [szal, szdr] at *); omega) (by (try simp only [szal, szdr] at *); omega)
   (try simp only [szal] at hL9 hLa hF9)
   (try simp only [szdr] at hL9 hLa hF9)
   (try simp only [szal] at hL9 hLa hF9)
   have HF9 := Lib.hid (HSX.out.then_ hF9)
   have H9 := Lib.hid hL9
   have HLA := Lib.hid hLa
   have HLN := Lib.hid hLn
   clear hL9 hLa hLn hsx hF9
   have KG := Lib.hid (grow_calls _ L9 Sv.bare H9.out Sv.Ok.bare n (by show 0 + n ≤ _; omega))
   rw [HLA.out] at KG
   clear hm2 hm1
   by_cases h0 : vars < 0
   ·obtain rfl : n = 0 := by have := HNN.out; omega
    go_wp2_with fail
    refine KG.out.mono ?_
    clear KG
    rintro e w8 ⟨rfl, L8, h8, he8, hf8⟩
    have FF : Hid (NewP (Sv.new _) w (.returned (.pointer (some ⟨_, 0, none⟩))) w8) := ⟨L8, by rw [he8.1, HLA.out], by rw [HNW.out]; exact h8, fun k hk e => HLN.out k hk (he8.2.2 k (Nat.lt_of_lt_of_le hk HF9.out.size) (e.trans he8.2.1)), HF9.out.trans hf8 (fun k hk => by
     rw [SvL.mem_own] at hk
     rcases Nat.lt_or_ge k w.heap.size with hl | hl
     ·exact absurd hk.2 (HLN.out k hl)
     ·exact .inr hl)⟩
    clear h8 he8 hf8
    go_wp2_with fail
    go_ret
    exact FF.out
   ·have h0' : (0 : Int) ≤ vars := by omega
    by_cases h1 : 262143 < vars
    ·obtain rfl : n = 262143 := by have := HNN.out; omega
     go_wp2_with fail
     refine KG.out.mono ?_
     clear KG
     rintro e w8 ⟨rfl, L8, h8, he8, hf8⟩
     have FF : Hid (NewP (Sv.new _) w (.returned (.pointer (some ⟨_, 0, none⟩))) w8) := ⟨L8, by rw [he8.1, HLA.out], by rw [HNW.out]; exact h8, fun k hk e => HLN.out k hk (he8.2.2 k (Nat.lt_of_lt_of_le hk HF9.out.size) (e.trans he8.2.1)), HF9.out.trans hf8 (fun k hk => by
      rw [SvL.mem_own] at hk
      rcases Nat.lt_or_ge k w.heap.size with hl | hl
      ·exact absurd hk.2 (HLN.out k hl)
      ·exact .inr hl)⟩
     clear h8 he8 hf8
     go_wp2_with fail
     go_ret
     exact FF.out
    ·obtain rfl : vars = (n : Int) := by have := HNN.out; omega
     have h1' : (n : Int) ≤ 262143 := by omega
     go_wp2_with fail
     refine KG.out.mono ?_
     clear KG
     rintro e w8 ⟨rfl, L8, h8, he8, hf8⟩
     have FF : Hid (NewP (Sv.new _) w (.returned (.pointer (some ⟨_, 0, none⟩))) w8) := ⟨L8, by rw [he8.1, HLA.out], by rw [HNW.out]; exact h8, fun k hk e => HLN.out k hk (he8.2.2 k (Nat.lt_of_lt_of_le hk HF9.out.size) (e.trans he8.2.1)), HF9.out.trans hf8 (fun k hk => by
      rw [SvL.mem_own] at hk
      rcases Nat.lt_or_ge k w.heap.size with hl | hl
      ·exact absurd hk.2 (HLN.out k hl)
      ·exact .inr hl)⟩
     clear h8 he8 hf8
     go_wp2_with fail
     go_ret
     exact FF.out
  refine ReadyC.cons (o := ?or1u47) ?hor1u47 ?hstepr1u47 ReadyC.nil
  case hor1u47 => rfl
  intro K hK
  (obtain ⟨hbr, hf⟩ := mk1 hSx; (try have HT := Lib.hid (HT.out.fr hf (by simp))); (try have HP := Lib.hid (HP.out.fr hf (by simp))); (try have HWR := Lib.hid (wrow_keep HWR.out hf)); (try have HBR := Lib.hid (bools_keep HBR.out hf)); have hzz := hf.size; have HBR := Lib.hid hbr; have HSX := Lib.hid (hSx.then_ hf); clear hbr; go_simp)
  refine hK.out _ _ (.inr ?_) (fun hT2 => ?_)
  ·first | exact HSX.out | exact hSx.alloc _ | exact hSx
  clear hK K
  try simp only [Act.put, q5, q6, q7]
  have hSx := hT2.resolve_left (by decide)
  refine R1 (i := 0) (o := ?or1u48) (by kernel_rfl) (by rfl) ?_
  intro K hK
  (go_simp; refine (KT.out _).mono ?_; rintro e w5 ⟨tL, rfl, ht, hn, hf⟩; (try have HT := Lib.hid (HT.out.fr hf (by simp))); (try have HP := Lib.hid (HP.out.fr hf (by simp))); (try have HWR := Lib.hid (wrow_keep HWR.out hf)); (try have HBR := Lib.hid (bools_keep HBR.out hf)); have hzz := hf.size; have HSX := Lib.hid (hSx.then_ hf); have HTL := Lib.hid (show ∀ k, k ∈ tL.fp → _ ∧ k < w5.heap.size from fun k hk => ⟨hn k hk, ht.lt k hk⟩); have HT := Lib.hid ht; clear ht hn; dsimp only)
  refine hK.out _ _ (.inr ?_) (fun hT3 => ?_)
  ·first | exact HSX.out | exact hSx.alloc _ | exact hSx
  clear hK K
  try simp only [Act.put, q5, q6, q7]
  have hSx := hT3.resolve_left (by decide)
  refine R1 (i := 1) (o := ?or1u49) (by kernel_rfl) (by rfl) ?_
  intro K hK
  (go_simp; refine (KH.out _).mono ?_; rintro e w5 ⟨hL, rfl, ht, hm, hn, hf⟩; (try have HT := Lib.hid (HT.out.fr hf (by simp))); (try have HP := Lib.hid (HP.out.fr hf (by simp))); (try have HWR := Lib.hid (wrow_keep HWR.out hf)); (try have HBR := Lib.hid (bools_keep HBR.out hf)); have hzz := hf.size; have HSX := Lib.hid (hSx.then_ hf); have HPL := Lib.hid (show ∀ k, k ∈ hL.fp → _ ∧ k < w5.heap.size from fun k hk => ⟨hn k hk, ht.lt k hk⟩); have HP := Lib.hid ht; have HPM := Lib.hid hm; clear ht hn hm; dsimp only)
  refine hK.out _ _ (.inr ?_) (fun hT4 => ?_)
  ·first | exact HSX.out | exact hSx.alloc _ | exact hSx
  clear hK K
  try simp only [Act.put, q5, q6, q7]
  refine T0 (i := 4) (oi := ?or1u50) (v := ?vr1u50) (by rfl) (by kernel_rfl) (by rfl) ?yr1u50 hT4 ?_
  case yr1u50 => (intro w; go_simp <;> with_reducible rfl)
  try simp only [Act.put, q5, q6, q7]
  have hSx := (hT4.more 4).resolve_left (by decide)
  refine R1 (i := 5) (o := ?or1u51) (by kernel_rfl) (by rfl) ?_
  intro K hK
  (go_simp)
  refine hK.out _ _ (.inl rfl) (fun hT6 => ?_)
  clear hK K
  try simp only [Act.put, q5, q6, q7]
  refine R1 (i := 6) (o := ?or1u52) (by kernel_rfl) (by rfl) ?_
  intro K hK
  go_simp
  refine hK.out _ _ (.inl rfl) (fun hT7 => ?_)
  clear hK K
  try simp only [Act.put, q5, q6, q7]
  refine wpAnyC_done (by kernel_rfl) ?_ _
  refine NoPanic.normal ?_
  have hsx := HSX.out.size
  obtain ⟨L9, hLa, hL9, hLn, hF9⟩ := SvAt.make HT.out HP.out HPM.out HWR.out HBR.out w.heap.size hsx (fun k hk => by have := HTL.out k hk; (try simp only [szal, szdr] at *); omega) (fun k hk => by have := HPL.out k hk; (try simp only [szal, szdr] at *); omega) (by (try simp only [szal, szdr] at *); omega) (by (try simp only [szal, szdr] at *); omega)
   (fun k h1 h2 => by have := HTL.out k h1; have := HPL.out k h2; (try simp only [szal, szdr] at *); omega) (fun h1 => by have := HTL.out _ h1; (try simp only [szal, szdr] at *); omega) (fun h1 => by have := HTL.out _ h1; (try simp only [szal, szdr] at *); omega) (fun h1 => by have := HPL.out _ h1; (try simp only [szal, szdr] at *); omega) (fun h1 => by have := HPL.out _ h1; (try simp only [szal, szdr] at *); omega) (by (try simp only [szal, szdr] at *); omega)
  (try simp only [szal] at hL9 hLa hF9)
  (try simp only [szdr] at hL9 hLa hF9)
  (try simp only [szal] at hL9 hLa hF9)
  have HF9 := Lib.hid (HSX.out.then_ hF9)
  have H9 := Lib.hid hL9
  have HLA := Lib.hid hLa
  have HLN := Lib.hid hLn
  clear hL9 hLa hLn hsx hF9
  have KG := Lib.hid (grow_calls _ L9 Sv.bare H9.out Sv.Ok.bare n (by show 0 + n ≤ _; omega))
  rw [HLA.out] at KG
  clear hm2 hm1
  by_cases h0 : vars < 0
  ·obtain rfl : n = 0 := by have := HNN.out; omega
   go_wp2_with fail
   refine KG.out.mono ?_
   clear KG
   rintro e w8 ⟨rfl, L8, h8, he8, hf8⟩
   have FF : Hid (NewP (Sv.new _) w (.returned (.pointer (some ⟨_, 0, none⟩))) w8) := ⟨L8, by rw [he8.1, HLA.out], by rw [HNW.out]; exact h8, fun k hk e => HLN.out k hk (he8.2.2 k (Nat.lt_of_lt_of_le hk HF9.out.size) (e.trans he8.2.1)), HF9.out.trans hf8 (fun k hk => by
    rw [SvL.mem_own] at hk
    rcases Nat.lt_or_ge k w.heap.size with hl | hl
    ·exact absurd hk.2 (HLN.out k hl)
    ·exact .inr hl)⟩
   clear h8 he8 hf8
   go_wp2_with fail
   go_ret
   exact FF.out
  ·have h0' : (0 : Int) ≤ vars := by omega
   by_cases h1 : 262143 < vars
   ·obtain rfl : n = 262143 := by have := HNN.out; omega
    go_wp2_with fail
    refine KG.out.mono ?_
    clear KG
    rintro e w8 ⟨rfl, L8, h8, he8, hf8⟩
    have FF : Hid (NewP (Sv.new _) w (.returned (.pointer (some ⟨_, 0, none⟩))) w8) := ⟨L8, by rw [he8.1, HLA.out], by rw [HNW.out]; exact h8, fun k hk e => HLN.out k hk (he8.2.2 k (Nat.lt_of_lt_of_le hk HF9.out.size) (e.trans he8.2.1)), HF9.out.trans hf8 (fun k hk => by
     rw [SvL.mem_own] at hk
     rcases Nat.lt_or_ge k w.heap.size with hl | hl
     ·exact absurd hk.2 (HLN.out k hl)
     ·exact .inr hl)⟩
    clear h8 he8 hf8
    go_wp2_with fail
    go_ret
    exact FF.out
   ·obtain rfl : vars = (n : Int) := by have := HNN.out; omega
    have h1' : (n : Int) ≤ 262143 := by omega
    go_wp2_with fail
    refine KG.out.mono ?_
    clear KG
    rintro e w8 ⟨rfl, L8, h8, he8, hf8⟩
    have FF : Hid (NewP (Sv.new _) w (.returned (.pointer (some ⟨_, 0, none⟩))) w8) := ⟨L8, by rw [he8.1, HLA.out], by rw [HNW.out]; exact h8, fun k hk e => HLN.out k hk (he8.2.2 k (Nat.lt_of_lt_of_le hk HF9.out.size) (e.trans he8.2.1)), HF9.out.trans hf8 (fun k hk => by
     rw [SvL.mem_own] at hk
     rcases Nat.lt_or_ge k w.heap.size with hl | hl
     ·exact absurd hk.2 (HLN.out k hl)
     ·exact .inr hl)⟩
    clear h8 he8 hf8
    go_wp2_with fail
    go_ret
    exact FF.out
 refine ReadyC.cons (o := ?or1u53) ?hor1u53 ?hstepr1u53 ReadyC.nil
 case hor1u53 => rfl
 intro K hK
 (obtain ⟨hbr, hf⟩ := mk1 hSx; (try have HT := Lib.hid (HT.out.fr hf (by simp))); (try have HP := Lib.hid (HP.out.fr hf (by simp))); (try have HWR := Lib.hid (wrow_keep HWR.out hf)); (try have HBR := Lib.hid (bools_keep HBR.out hf)); have hzz := hf.size; have HBR := Lib.hid hbr; have HSX := Lib.hid (hSx.then_ hf); clear hbr; go_simp)
 refine hK.out _ _ (.inr ?_) (fun hT1 => ?_)
 ·first | exact HSX.out | exact hSx.alloc _ | exact hSx
 clear hK K
 try simp only [Act.put, q5, q6, q7]
 have hSx := hT1.resolve_left (by decide)
 refine wpAnyC_ready (rs := [0, 2]) (by kernel_rfl) (by simp) ?_
 refine ReadyC.cons (o := ?or1u54) ?hor1u54 ?hstepr1u54 ?_
 case hor1u54 => rfl
 case hstepr1u54 =>
  intro K hK
  (go_simp; refine (KT.out _).mono ?_; rintro e w5 ⟨tL, rfl, ht, hn, hf⟩; (try have HT := Lib.hid (HT.out.fr hf (by simp))); (try have HP := Lib.hid (HP.out.fr hf (by simp))); (try have HWR := Lib.hid (wrow_keep HWR.out hf)); (try have HBR := Lib.hid (bools_keep HBR.out hf)); have hzz := hf.size; have HSX := Lib.hid (hSx.then_ hf); have HTL := Lib.hid (show ∀ k, k ∈ tL.fp → _ ∧ k < w5.heap.size from fun k hk => ⟨hn k hk, ht.lt k hk⟩); have HT := Lib.hid ht; clear ht hn; dsimp only)
  refine hK.out _ _ (.inr ?_) (fun hT2 => ?_)
  ·first | exact HSX.out | exact hSx.alloc _ | exact hSx
  clear hK K
  try simp only [Act.put, q5, q6, q7]
  have hSx := hT2.resolve_left (by decide)
  refine wpAnyC_ready (rs := [1, 2]) (by kernel_rfl) (by simp) ?_
  refine ReadyC.cons (o := ?or1u55) ?hor1u55 ?hstepr1u55 ?_
  case hor1u55 => rfl
  case hstepr1u55 =>
   intro K hK
   (go_simp; refine (KH.out _).mono ?_; rintro e w5 ⟨hL, rfl, ht, hm, hn, hf⟩; (try have HT := Lib.hid (HT.out.fr hf (by simp))); (try have HP := Lib.hid (HP.out.fr hf (by simp))); (try have HWR := Lib.hid (wrow_keep HWR.out hf)); (try have HBR := Lib.hid (bools_keep HBR.out hf)); have hzz := hf.size; have HSX := Lib.hid (hSx.then_ hf); have HPL := Lib.hid (show ∀ k, k ∈ hL.fp → _ ∧ k < w5.heap.size from fun k hk => ⟨hn k hk, ht.lt k hk⟩); have HP := Lib.hid ht; have HPM := Lib.hid hm; clear ht hn hm; dsimp only)
   refine hK.out _ _ (.inr ?_) (fun hT3 => ?_)
   ·first | exact HSX.out | exact hSx.alloc _ | exact hSx
   clear hK K
   try simp only [Act.put, q5, q6, q7]
   have hSx := hT3.resolve_left (by decide)
   refine R1 (i := 2) (o := ?or1u56) (by kernel_rfl) (by rfl) ?_
   intro K hK
   (obtain ⟨hwr, hf⟩ := mk2 hSx; (try have HT := Lib.hid (HT.out.fr hf (by simp))); (try have HP := Lib.hid (HP.out.fr hf (by simp))); (try have HWR := Lib.hid (wrow_keep HWR.out hf)); (try have HBR := Lib.hid (bools_keep HBR.out hf)); have hzz := hf.size; have HWR := Lib.hid hwr; have HSX := Lib.hid (hSx.then_ hf); clear hwr; go_simp)
   refine hK.out _ _ (.inr ?_) (fun hT4 => ?_)
   ·first | exact HSX.out | exact hSx.alloc _ | exact hSx
   clear hK K
   try simp only [Act.put, q5, q6, q7]
   refine T0 (i := 4) (oi := ?or1u57) (v := ?vr1u57) (by rfl) (by kernel_rfl) (by rfl) ?yr1u57 hT4 ?_
   case yr1u57 => (intro w; go_simp <;> with_reducible rfl)
   try simp only [Act.put, q5, q6, q7]
   have hSx := (hT4.more 4).resolve_left (by decide)
   refine R1 (i := 5) (o := ?or1u58) (by kernel_rfl) (by rfl) ?_
   intro K hK
   (go_simp)
   refine hK.out _ _ (.inl rfl) (fun hT6 => ?_)
   clear hK K
   try simp only [Act.put, q5, q6, q7]
   refine R1 (i := 6) (o := ?or1u59) (by kernel_rfl) (by rfl) ?_
   intro K hK
   go_simp
   refine hK.out _ _ (.inl rfl) (fun hT7 => ?_)
   clear hK K
   try simp only [Act.put, q5, q6, q7]
   refine wpAnyC_done (by kernel_rfl) ?_ _
   refine NoPanic.normal ?_
   have hsx := HSX.out.size
   obtain ⟨L9, hLa, hL9, hLn, hF9⟩ := SvAt.make HT.out HP.out HPM.out HWR.out HBR.out w.heap.size hsx (fun k hk => by have := HTL.out k hk; (try simp only [szal, szdr] at *); omega) (fun k hk => by have := HPL.out k hk; (try simp only [szal, szdr] at *); omega) (by (try simp only [szal, szdr] at *); omega) (by (try simp only [szal, szdr] at *); omega)
    (fun k h1 h2 => by have := HTL.out k h1; have := HPL.out k h2; (try simp only [szal, szdr] at *); omega) (fun h1 => by have := HTL.out _ h1; (try simp only [szal, szdr] at *); omega) (fun h1 => by have := HTL.out _ h1; (try simp only [szal, szdr] at *); omega) (fun h1 => by have := HPL.out _ h1; (try simp only [szal, szdr] at *); omega) (fun h1 => by have := HPL.out _ h1; (try simp only [szal, szdr] at *); omega) (by (try simp only [szal, szdr] at *); omega)
   (try simp only [szal] at hL9 hLa hF9)
   (try simp only [szdr] at hL9 hLa hF9)
   (try simp only [szal] at hL9 hLa hF9)
   have HF9 := Lib.hid (HSX.out.then_ hF9)
   have H9 := Lib.hid hL9
   have HLA := Lib.hid hLa
   have HLN := Lib.hid hLn
   clear hL9 hLa hLn hsx hF9
   have KG := Lib.hid (grow_calls _ L9 Sv.bare H9.out Sv.Ok.bare n (by show 0 + n ≤ _; omega))
   rw [HLA.out] at KG
   clear hm2 hm1
   by_cases h0 : vars < 0
   ·obtain rfl : n = 0 := by have := HNN.out; omega
    go_wp2_with fail
    refine KG.out.mono ?_
    clear KG
    rintro e w8 ⟨rfl, L8, h8, he8, hf8⟩
    have FF : Hid (NewP (Sv.new _) w (.returned (.pointer (some ⟨_, 0, none⟩))) w8) := ⟨L8, by rw [he8.1, HLA.out], by rw [HNW.out]; exact h8, fun k hk e => HLN.out k hk (he8.2.2 k (Nat.lt_of_lt_of_le hk HF9.out.size) (e.trans he8.2.1)), HF9.out.trans hf8 (fun k hk => by
     rw [SvL.mem_own] at hk
     rcases Nat.lt_or_ge k w.heap.size with hl | hl
     ·exact absurd hk.2 (HLN.out k hl)
     ·exact .inr hl)⟩
    clear h8 he8 hf8
    go_wp2_with fail
    go_ret
    exact FF.out
   ·have h0' : (0 : Int) ≤ vars := by omega
    by_cases h1 : 262143 < vars
    ·obtain rfl : n = 262143 := by have := HNN.out; omega
     go_wp2_with fail
     refine KG.out.mono ?_
     clear KG
     rintro e w8 ⟨rfl, L8, h8, he8, hf8⟩
     have FF : Hid (NewP (Sv.new _) w (.returned (.pointer (some ⟨_, 0, none⟩))) w8) := ⟨L8, by rw [he8.1, HLA.out], by rw [HNW.out]; exact h8, fun k hk e => HLN.out k hk (he8.2.2 k (Nat.lt_of_lt_of_le hk HF9.out.size) (e.trans he8.2.1)), HF9.out.trans hf8 (fun k hk => by
      rw [SvL.mem_own] at hk
      rcases Nat.lt_or_ge k w.heap.size with hl | hl
      ·exact absurd hk.2 (HLN.out k hl)
      ·exact .inr hl)⟩
     clear h8 he8 hf8
     go_wp2_with fail
     go_ret
     exact FF.out
    ·obtain rfl : vars = (n : Int) := by have := HNN.out; omega
     have h1' : (n : Int) ≤ 262143 := by omega
     go_wp2_with fail
     refine KG.out.mono ?_
     clear KG
     rintro e w8 ⟨rfl, L8, h8, he8, hf8⟩
     have FF : Hid (NewP (Sv.new _) w (.returned (.pointer (some ⟨_, 0, none⟩))) w8) := ⟨L8, by rw [he8.1, HLA.out], by rw [HNW.out]; exact h8, fun k hk e => HLN.out k hk (he8.2.2 k (Nat.lt_of_lt_of_le hk HF9.out.size) (e.trans he8.2.1)), HF9.out.trans hf8 (fun k hk => by
      rw [SvL.mem_own] at hk
      rcases Nat.lt_or_ge k w.heap.size with hl | hl
      ·exact absurd hk.2 (HLN.out k hl)
      ·exact .inr hl)⟩
     clear h8 he8 hf8
     go_wp2_with fail
     go_ret
     exact FF.out
  refine ReadyC.cons (o := ?or1u60) ?hor1u60 ?hstepr1u60 ReadyC.nil
  case hor1u60 => rfl
  intro K hK
  (obtain ⟨hwr, hf⟩ := mk2 hSx; (try have HT := Lib.hid (HT.out.fr hf (by simp))); (try have HP := Lib.hid (HP.out.fr hf (by simp))); (try have HWR := Lib.hid (wrow_keep HWR.out hf)); (try have HBR := Lib.hid (bools_keep HBR.out hf)); have hzz := hf.size; have HWR := Lib.hid hwr; have HSX := Lib.hid (hSx.then_ hf); clear hwr; go_simp)
  refine hK.out _ _ (.inr ?_) (fun hT3 => ?_)
  ·first | exact HSX.out | exact hSx.alloc _ | exact hSx
  clear hK K
  try simp only [Act.put, q5, q6, q7]
  have hSx := hT3.resolve_left (by decide)
  refine R1 (i := 1) (o := ?or1u61) (by kernel_rfl) (by rfl) ?_
  intro K hK
  (go_simp; refine (KH.out _).mono ?_; rintro e w5 ⟨hL, rfl, ht, hm, hn, hf⟩; (try have HT := Lib.hid (HT.out.fr hf (by simp))); (try have HP := Lib.hid (HP.out.fr hf (by simp))); (try have HWR := Lib.hid (wrow_keep HWR.out hf)); (try have HBR := Lib.hid (bools_keep HBR.out hf)); have hzz := hf.size; have HSX := Lib.hid (hSx.then_ hf); have HPL := Lib.hid (show ∀ k, k ∈ hL.fp → _ ∧ k < w5.heap.size from fun k hk => ⟨hn k hk, ht.lt k hk⟩); have HP := Lib.hid ht; have HPM := Lib.hid hm; clear ht hn hm; dsimp only)
  refine hK.out _ _ (.inr ?_) (fun hT4 => ?_)
  ·first | exact HSX.out | exact hSx.alloc _ | exact hSx
  clear hK K
  try simp only [Act.put, q5, q6, q7]
  refine T0 (i := 4) (oi := ?or1u62) (v := ?vr1u62) (by rfl) (by kernel_rfl) (by rfl) ?yr1u62 hT4 ?_
  case yr1u62 => (intro w; go_simp <;> with_reducible rfl)
  try simp only [Act.put, q5, q6, q7]
  have hSx := (hT4.more 4).resolve_left (by decide)
  refine R1 (i := 5) (o := ?or1u63) (by kernel_rfl) (by rfl) ?_
  intro K hK
  (go_simp)
  refine hK.out _ _ (.inl rfl) (fun hT6 => ?_)
  clear hK K
  try simp only [Act.put, q5, q6, q7]
  refine R1 (i := 6) (o := ?or1u64) (by kernel_rfl) (by rfl) ?_
  intro K hK
  go_simp
  refine hK.out _ _ (.inl rfl) (fun hT7 => ?_)
  clear hK K
  try simp only [Act.put, q5, q6, q7]
  refine wpAnyC_done (by kernel_rfl) ?_ _
  refine NoPanic.normal ?_
  have hsx := HSX.out.size
  obtain ⟨L9, hLa, hL9, hLn, hF9⟩ := SvAt.make HT.out HP.out HPM.out HWR.out HBR.out w.heap.size hsx (fun k hk => by have := HTL.out k hk; (try simp only [szal, szdr] at *); omega) (fun k hk => by have := HPL.out k hk; (try simp only [szal, szdr] at *); omega) (by (try simp only [szal, szdr] at *); omega) (by (try simp only [szal, szdr] at *); omega)
   (fun k h1 h2 => by have := HTL.out k h1; have := HPL.out k h2; (try simp only [szal, szdr] at *); omega) (fun h1 => by have := HTL.out _ h1; (try simp only [szal, szdr] at *); omega) (fun h1 => by have := HTL.out _ h1; (try simp only [szal, szdr] at *); omega) (fun h1 => by have := HPL.out _ h1; (try simp only [szal, szdr] at *); omega) (fun h1 => by have := HPL.out _ h1; (try simp only [szal, szdr] at *); omega) (by (try simp only [szal, szdr] at *); omega)
  (try simp only [szal] at hL9 hLa hF9)
  (try simp only [szdr] at hL9 hLa hF9)
  (try simp only [szal] at hL9 hLa hF9)
  have HF9 := Lib.hid (HSX.out.then_ hF9)
  have H9 := Lib.hid hL9
  have HLA := Lib.hid hLa
  have HLN := Lib.hid hLn
  clear hL9 hLa hLn hsx hF9
  have KG := Lib.hid (grow_calls _ L9 Sv.bare H9.out Sv.Ok.bare n (by show 0 + n ≤ _; omega))
  rw [HLA.out] at KG
  clear hm2 hm1
  by_cases h0 : vars < 0
  ·obtain rfl : n = 0 := by have := HNN.out; omega
   go_wp2_with fail
   refine KG.out.mono ?_
   clear KG
   rintro e w8 ⟨rfl, L8, h8, he8, hf8⟩
   have FF : Hid (NewP (Sv.new _) w (.returned (.pointer (some ⟨_, 0, none⟩))) w8) := ⟨L8, by rw [he8.1, HLA.out], by rw [HNW.out]; exact h8, fun k hk e => HLN.out k hk (he8.2.2 k (Nat.lt_of_lt_of_le hk HF9.out.size) (e.trans he8.2.1)), HF9.out.trans hf8 (fun k hk => by
    rw [SvL.mem_own] at hk
    rcases Nat.lt_or_ge k w.heap.size with hl | hl
    ·exact absurd hk.2 (HLN.out k hl)
    ·exact .inr hl)⟩
   clear h8 he8 hf8
   go_wp2_with fail
   go_ret
   exact FF.out
  ·have h0' : (0 : Int) ≤ vars := by omega
   by_cases h1 : 262143 < vars
   ·obtain rfl : n = 262143 := by have := HNN.out; omega
    go_wp2_with fail
    refine KG.out.mono ?_
    clear KG
    rintro e w8 ⟨rfl, L8, h8, he8, hf8⟩
    have FF : Hid (NewP (Sv.new _) w (.returned (.pointer (some ⟨_, 0, none⟩))) w8) := ⟨L8, by rw [he8.1, HLA.out], by rw [HNW.out]; exact h8, fun k hk e => HLN.out k hk (he8.2.2 k (Nat.lt_of_lt_of_le hk HF9.out.size) (e.trans he8.2.1)), HF9.out.trans hf8 (fun k hk => by
     rw [SvL.mem_own] at hk
     rcases Nat.lt_or_ge k w.heap.size with hl | hl
     ·exact absurd hk.2 (HLN.out k hl)
     ·exact .inr hl)⟩
    clear h8 he8 hf8
    go_wp2_with fail
    go_ret
    exact FF.out
   ·obtain rfl : vars = (n : Int) := by have := HNN.out; omega
    have h1' : (n : Int) ≤ 262143 := by omega
    go_wp2_with fail
    refine KG.out.mono ?_
    clear KG
    rintro e w8 ⟨rfl, L8, h8, he8, hf8⟩
    have FF : Hid (NewP (Sv.new _) w (.returned (.pointer (some ⟨_, 0, none⟩))) w8) := ⟨L8, by rw [he8.1, HLA.out], by rw [HNW.out]; exact h8, fun k hk e => HLN.out k hk (he8.2.2 k (Nat.lt_of_lt_of_le hk HF9.out.size) (e.trans he8.2.1)), HF9.out.trans hf8 (fun k hk => by
     rw [SvL.mem_own] at hk
     rcases Nat.lt_or_ge k w.heap.size with hl | hl
     ·exact absurd hk.2 (HLN.out k hl)
     ·exact .inr hl)⟩
    clear h8 he8 hf8
    go_wp2_with fail
    go_ret
    exact FF.out
 refine ReadyC.cons (o := ?or1u65) ?hor1u65 ?hstepr1u65 ReadyC.nil
 case hor1u65 => rfl
 intro K hK
 (obtain ⟨hwr, hf⟩ := mk2 hSx; (try have HT := Lib.hid (HT.out.fr hf (by simp))); (try have HP := Lib.hid (HP.out.fr hf (by simp))); (try have HWR := Lib.hid (wrow_keep HWR.out hf)); (try have HBR := Lib.hid (bools_keep HBR.out hf)); have hzz := hf.size; have HWR := Lib.hid hwr; have HSX := Lib.hid (hSx.then_ hf); clear hwr; go_simp)
 refine hK.out _ _ (.inr ?_) (fun hT2 => ?_)
 ·first | exact HSX.out | exact hSx.alloc _ | exact hSx
 clear hK K
 try simp only [Act.put, q5, q6, q7]
 have hSx := hT2.resolve_left (by decide)
 refine R1 (i := 0) (o := ?or1u66) (by kernel_rfl) (by rfl) ?_
 intro K hK
 (go_simp; refine (KT.out _).mono ?_; rintro e w5 ⟨tL, rfl, ht, hn, hf⟩; (try have HT := Lib.hid (HT.out.fr hf (by simp))); (try have HP := Lib.hid (HP.out.fr hf (by simp))); (try have HWR := Lib.hid (wrow_keep HWR.out hf)); (try have HBR := Lib.hid (bools_keep HBR.out hf)); have hzz := hf.size; have HSX := Lib.hid (hSx.then_ hf); have HTL := Lib.hid (show ∀ k, k ∈ tL.fp → _ ∧ k < w5.heap.size from fun k hk => ⟨hn k hk, ht.lt k hk⟩); have HT := Lib.hid ht; clear ht hn; dsimp only)
 refine hK.out _ _ (.inr ?_) (fun hT3 => ?_)
 ·first | exact HSX.out | exact hSx.alloc _ | exact hSx
 clear hK K
 try simp only [Act.put, q5, q6, q7]
 have hSx := hT3.resolve_left (by decide)
 refine R1 (i := 1) (o := ?or1u67) (by kernel_rfl) (by rfl) ?_
 intro K hK
 (go_simp; refine (KH.out _).mono ?_; rintro e w5 ⟨hL, rfl, ht, hm, hn, hf⟩; (try have HT := Lib.hid (HT.out.fr hf (by simp))); (try have HP := Lib.hid (HP.out.fr hf (by simp))); (try have HWR := Lib.hid (wrow_keep HWR.out hf)); (try have HBR := Lib.hid (bools_keep HBR.out hf)); have hzz := hf.size; have HSX := Lib.hid (hSx.then_ hf); have HPL := Lib.hid (show ∀ k, k ∈ hL.fp → _ ∧ k < w5.heap.size from fun k hk => ⟨hn k hk, ht.lt k hk⟩); have HP := Lib.hid ht; have HPM := Lib.hid hm; clear ht hn hm; dsimp only)
 refine hK.out _ _ (.inr ?_) (fun hT4 => ?_)
 ·first | exact HSX.out | exact hSx.alloc _ | exact hSx
 clear hK K
 try simp only [Act.put, q5, q6, q7]
 refine T0 (i := 4) (oi := ?or1u68) (v := ?vr1u68) (by rfl) (by kernel_rfl) (by rfl) ?yr1u68 hT4 ?_
 case yr1u68 => (intro w; go_simp <;> with_reducible rfl)
 try simp only [Act.put, q5, q6, q7]
 have hSx := (hT4.more 4).resolve_left (by decide)
 refine R1 (i := 5) (o := ?or1u69) (by kernel_rfl) (by rfl) ?_
 intro K hK
 (go_simp)
 refine hK.out _ _ (.inl rfl) (fun hT6 => ?_)
 clear hK K
 try simp only [Act.put, q5, q6, q7]
 refine R1 (i := 6) (o := ?or1u70) (by kernel_rfl) (by rfl) ?_
 intro K hK
 go_simp
 refine hK.out _ _ (.inl rfl) (fun hT7 => ?_)
 clear hK K
 try simp only [Act.put, q5, q6, q7]
 refine wpAnyC_done (by kernel_rfl) ?_ _
 refine NoPanic.normal ?_
 have hsx := HSX.out.size
 obtain ⟨L9, hLa, hL9, hLn, hF9⟩ := SvAt.make HT.out HP.out HPM.out HWR.out HBR.out w.heap.size hsx (fun k hk => by have := HTL.out k hk; (try simp only [szal, szdr] at *); omega) (fun k hk => by have := HPL.out k hk; (try simp only [szal, szdr] at *); omega) (by (try simp only [szal, szdr] at *); omega) (by (try simp only [szal, szdr] at *); omega)
  (fun k h1 h2 => by have := HTL.out k h1; have := HPL.out k h2; (try simp only [szal, szdr] at *); omega) (fun h1 => by have := HTL.out _ h1; (try simp only [szal, szdr] at *); omega) (fun h1 => by have := HTL.out _ h1; (try simp only [szal, szdr] at *); omega) (fun h1 => by have := HPL.out _ h1; (try simp only [szal, szdr] at *); omega) (fun h1 => by have := HPL.out _ h1; (try simp only [szal, szdr] at *); omega) (by (try simp only [szal, szdr] at *); omega)
 (try simp only [szal] at hL9 hLa hF9)
 (try simp only [szdr] at hL9 hLa hF9)
 (try simp only [szal] at hL9 hLa hF9)
 have HF9 := Lib.hid (HSX.out.then_ hF9)
 have H9 := Lib.hid hL9
 have HLA := Lib.hid hLa
 have HLN := Lib.hid hLn
 clear hL9 hLa hLn hsx hF9
 have KG := Lib.hid (grow_calls _ L9 Sv.bare H9.out Sv.Ok.bare n (by show 0 + n ≤ _; omega))
 rw [HLA.out] at KG
 clear hm2 hm1
 by_cases h0 : vars < 0
 ·obtain rfl : n = 0 := by have := HNN.out; omega
  go_wp2_with fail
  refine KG.out.mono ?_
  clear KG
  rintro e w8 ⟨rfl, L8, h8, he8, hf8⟩
  have FF : Hid (NewP (Sv.new _) w (.returned (.pointer (some ⟨_, 0, none⟩))) w8) := ⟨L8, by rw [he8.1, HLA.out], by rw [HNW.out]; exact h8, fun k hk e => HLN.out k hk (he8.2.2 k (Nat.lt_of_lt_of_le hk HF9.out.size) (e.trans he8.2.1)), HF9.out.trans hf8 (fun k hk => by
   rw [SvL.mem_own] at hk
   rcases Nat.lt_or_ge k w.heap.size with hl | hl
   ·exact absurd hk.2 (HLN.out k hl)
   ·exact .inr hl)⟩
  clear h8 he8 hf8
  go_wp2_with fail
  go_ret
  exact FF.out
 ·have h0' : (0 : Int) ≤ vars := by omega
  by_cases h1 : 262143 < vars
  ·obtain rfl : n = 262143 := by have := HNN.out; omega
   go_wp2_with fail
   refine KG.out.mono ?_
   clear KG
   rintro e w8 ⟨rfl, L8, h8, he8, hf8⟩
   have FF : Hid (NewP (Sv.new _) w (.returned (.pointer (some ⟨_, 0, none⟩))) w8) := ⟨L8, by rw [he8.1, HLA.out], by rw [HNW.out]; exact h8, fun k hk e => HLN.out k hk (he8.2.2 k (Nat.lt_of_lt_of_le hk HF9.out.size) (e.trans he8.2.1)), HF9.out.trans hf8 (fun k hk => by
    rw [SvL.mem_own] at hk
    rcases Nat.lt_or_ge k w.heap.size with hl | hl
    ·exact absurd hk.2 (HLN.out k hl)
    ·exact .inr hl)⟩
   clear h8 he8 hf8
   go_wp2_with fail
   go_ret
   exact FF.out
  ·obtain rfl : vars = (n : Int) := by have := HNN.out; omega
   have h1' : (n : Int) ≤ 262143 := by omega
   go_wp2_with fail
   refine KG.out.mono ?_
   clear KG
   rintro e w8 ⟨rfl, L8, h8, he8, hf8⟩
   have FF : Hid (NewP (Sv.new _) w (.returned (.pointer (some ⟨_, 0, none⟩))) w8) := ⟨L8, by rw [he8.1, HLA.out], by rw [HNW.out]; exact h8, fun k hk e => HLN.out k hk (he8.2.2 k (Nat.lt_of_lt_of_le hk HF9.out.size) (e.trans he8.2.1)), HF9.out.trans hf8 (fun k hk => by
    rw [SvL.mem_own] at hk
    rcases Nat.lt_or_ge k w.heap.size with hl | hl
    ·exact absurd hk.2 (HLN.out k hl)
    ·exact .inr hl)⟩
   clear h8 he8 hf8
   go_wp2_with fail
   go_ret
   exact FF.out
end Go.Proofs.Ytjchilcpflfcnaa
