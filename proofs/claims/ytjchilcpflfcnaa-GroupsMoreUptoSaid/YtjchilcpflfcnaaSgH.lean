/-  -/
import Derived.Test.YtjchilcpflfcnaaSgA
import Derived.Test.YtjchilcpflfcnaaSgG
set_option linter.unusedVariables false
set_option linter.unusedSimpArgs false
namespace Go.Proofs.Ytjchilcpflfcnaa
open Go.RowKit
theorem step_append_one {w : World} {ops : Array Oper} {o : Oper} {a : Act} {K : Act → World → Prop} {Q : Exit → Act → World → Prop} {E : Prop} (hgd : o.guard = none) (s x : Operand) (t : TypeId)
  (ho : o.op = .call { callee := .builtin .append, args := #[s, x], argTypes := #[t, t] }) (e : TypeId) (z : Value) (size bytes : Nat) (ht : Try.prog.underlying t = some (.slice e)) (hi : (Try.prog.info? e).map (fun i => (i.zero, i.size, i.bytes)) = some (some z, size, bytes)) (hzs : z.cells.size = size) (hsz : 0 < size)
  (A : Option Addr) (c n : Nat) (hs : a.eval s = .slice A n c) (xs : List Value) (hown : w.ownsRow 0 e size (.slice A n c) n xs) (ad : Addr) (c' : Nat) (hx : a.eval x = .slice (some ad) 1 c') (news : List Value) (hl : news.length = size)
  (hnews : ∀ j u, news[j]? = some u → w.cell? (ad.add j) = some u) (h1 : ∀ u ∈ news, u.oneCell' = true) (h63 : n + 1 ≤ maxLen) (hbytes : (n + 1) * bytes ≤ 140737488355328)
  (h : ∀ g cap w', w'.ownsRow 0 e size (.slice (some ⟨g, 0, none⟩) (n + 1) cap) (n + 1) (xs ++ news) → Fr (blks A) w w' → (g ∈ blks A ∨ g = w.heap.size) → K (a.put o.dst (.slice (some ⟨g, 0, none⟩) (n + 1) cap)) w') :
  if Region.wanted o (yielded ops a.tmps) = true then Oper.wp Try.prog o a w K Q else E := by
 have hw : Region.wanted o (yielded ops a.tmps) = true := by simp [Region.wanted, hgd]
 rw [if_pos hw]
 obtain ⟨A', cap, w', hr, h2, h3, h4, h5, h6, h7⟩ := run_append_row w t o.type e z size bytes ht hi hzs hsz A c n xs hown ad 1 c' news (by omega) hnews h1 h63 hbytes
 cases A' with
 | none => exact absurd (h6 rfl).1 (by decide)
 | some a' =>
  obtain ⟨g, rfl⟩ := h7 a' rfl
  unfold Oper.wp execOp
  simp only [ho, resolve, invoke, builtin, Sem.run_bind, Sem.run_pure, Result.andThen_ok, List.map_toArray, List.map_cons, List.map_nil, hs, hx, hr]
  exact h g cap w' h2 h3 (h4 g (by simp [blks]))
theorem SvAt.newc {w w1 : World} {L : SvL} {S : Sv} (h : SvAt w L S) {A' : Option Addr} {c' : Nat} {F : List Nat} {x : Cw} (hi : Recs w1 A' c' (L.cs ++ [x])) (hf : Fr F w w1) (hF : ∀ k, k ∈ F → k < w.heap.size → L.lab k = (L.id, 3, 0))
  (hA : ∀ k, k ∈ blks A' → (k < w.heap.size ∧ L.lab k = (L.id, 3, 0)) ∨ w.heap.size ≤ k) (hx : Ints w x.A x.c x.lits) (hxl : ∀ k, k ∈ blks x.A → L.lab k = (L.id, 8, L.cs.length)) :
  ∃ L', SvAt (w1.setCell ⟨L.a, 3, none⟩ (.slice A' (L.cs.length + 1) c')) L' { S with list := S.list ++ [x.rc] } ∧ L.ext L' w ∧ Fr (L.own w) w (w1.setCell ⟨L.a, 3, none⟩ (.slice A' (L.cs.length + 1) c')) ∧ L' = { L with cA := A', cC := c', cs := L.cs ++ [x], lab := L.re w (3, 0) } := by
 have hf2 : Fr (L.a :: F) w (w1.setCell ⟨L.a, 3, none⟩ (.slice A' (L.cs.length + 1) c')) := (hf.mono (fun k hk => .inl (by simp [hk]))).setCell (.inl (by simp)) _
 have hF2 : ∀ k, k ∈ L.a :: F → k < w.heap.size → ∃ t, (t = (3, 0) ∨ t = (0, 0)) ∧ L.lab k = (L.id, t) := by
  intro k hk hl
  rcases List.mem_cons.1 hk with rfl | hk
  ·exact ⟨_, .inr rfl, h.t0⟩
  ·exact ⟨_, .inl rfl, hF k hk hl⟩
 have o := h.off (P := fun t => t = (3, 0) ∨ t = (0, 0)) hf2 hF2
 have o1 := h.off (P := (· = (3, 0))) hf (fun k hk hl => ⟨_, rfl, hF k hk hl⟩)
 have g := h.tags (3, 0)
 have hne : L.a ∉ blks A' := fun hk => by
  rcases hA _ hk with ⟨_, h2⟩ | h2
  ·rw [h.t0] at h2; simp at h2
  ·have := h.obj.lt; omega
 have hget : ∀ j : Nat, (L.cs ++ [x])[j]! = if j = L.cs.length then x else L.cs[j]! := fun j => by
  simp only [List.getElem!_eq_getElem?_getD, List.getElem?_append]
  split
  ·rw [if_neg (by omega)]
  ·rename_i hj
   split
   ·rename_i e; subst e; simp
   ·rw [List.getElem?_eq_none (by simp; omega), List.getElem?_eq_none (by omega)]
 have hxw : Ints (w1.setCell ⟨L.a, 3, none⟩ (.slice A' (L.cs.length + 1) c')) x.A x.c x.lits := hx.fr hf2 (fun k hk hm => by
  obtain ⟨t, ht, hl⟩ := hF2 k hm (hx.lt k hk)
  rw [hxl k hk] at hl
  simp only [Prod.mk.injEq, true_and] at hl
  rcases ht with rfl | rfl <;> simp at hl)
 refine ⟨{ L with cA := A', cC := c', cs := L.cs ++ [x], lab := L.re w (3, 0) }, ⟨?_, o.tr (by simp), o.hp (by simp), h.hmade, ?_, h.ews, ?_, o.rws (by simp), o.rph (by simp), o.rmo (by simp), o.rco (by simp), ?_, fun c hc => o.ewh c hc (by simp),
  g.t0, g.t1, g.t2, fun k hk => SvL.re_part (hA k hk), g.t4, g.t5, g.t6, g.t7, ?_, g.t9⟩, ⟨rfl, rfl, fun k hk e => SvL.re_own hk e⟩, SvL.part_fr hf2 (fun k hk hl => by obtain ⟨t, _, e⟩ := hF2 k hk hl; rw [e]), rfl⟩
 ·have := (o1.obj (by simp)).set_ 3 (.slice A' (L.cs.length + 1) c')
  simpa [scs] using this
 ·simp only [List.map_append, List.map_cons, List.map_nil, h.ecs]
 ·unfold Recs at hi ⊢
  have hf3 : Fr [L.a] w1 (w1.setCell ⟨L.a, 3, none⟩ (.slice A' (L.cs.length + 1) c')) := (Fr.refl _ w1).setCell (.inl (by simp)) _
  exact wild_fr hi hf3 (fun k hk hm => hne (by simp at hm; subst hm; exact hk))
 ·intro j hj
  simp only [List.length_append, List.length_singleton] at hj
  simp only
  rw [hget]
  split
  ·exact hxw
  ·exact o.ech j (by omega) (by simp)
 ·intro j hj k hk
  simp only [List.length_append, List.length_singleton] at hj
  simp only at hk
  rw [hget] at hk
  split at hk
  ·rename_i e
   subst e
   show L.re w (3, 0) k = _
   rw [SvL.re_old (hx.lt k hk)]
   exact hxl k hk
  ·exact g.t8 j (by omega) k hk
namespace Sv
def newc (S : Sv) (ls : List Int) (b : Bool) : Sv := { S with list := S.list ++ [⟨ls, b, S.used⟩] }
theorem rc_newc (S : Sv) (ls : List Int) (b : Bool) (n : Nat) : (S.newc ls b).rc n = if n = S.list.length then ⟨ls, b, S.used⟩ else S.rc n := by
 simp only [rc, newc, List.getElem!_eq_getElem?_getD, List.getElem?_append]
 split
 ·rw [if_neg (by omega)]
 ·rename_i hj
  split
  ·rename_i e; subst e; simp
  ·rw [List.getElem?_eq_none (by simp; omega), List.getElem?_eq_none (by omega)]
structure Fits (S : Sv) (ls : List Int) : Prop where
 two : 2 ≤ ls.length
 top : ls.length ≤ 1048576
 lit : ∀ x ∈ ls, x ≠ 0 ∧ -(S.vars : Int) ≤ x ∧ x ≤ S.vars
theorem Ok.newc {S : Sv} {m : Nat} (ok : S.Ok m) {ls : List Int} (hl : S.Fits ls) (b : Bool) (hr : S.list.length < 1099511627776) : (S.newc ls b).Ok (m + 2) := by
 have hlen : (S.newc ls b).list.length = S.list.length + 1 := by simp [Sv.newc]
 refine ⟨ok.vl, ok.tr, ok.hi, ok.hl, ok.ph, ok.wl, by rw [hlen]; omega, fun c n hn => ?_, ?_, fun n x hx => ?_, fun n => ?_, fun n => ?_, ok.hd, fun v => ?_⟩
 ·have := ok.wb c n hn
  omega
 ·rw [hlen]
  have := ok.wt
  show (S.watch.map List.length).sum + (m + 2) ≤ _
  omega
 ·rw [rc_newc] at hx
  split at hx
  ·exact hl.lit x hx
  ·exact ok.lr n x hx
 ·rw [rc_newc]
  split
  ·have := hl.two
   show ls.length ≠ 1
   omega
  ·exact ok.ln n
 ·rw [rc_newc]
  split
  ·exact hl.top
  ·exact ok.lb n
 ·rw [hlen]
  have := ok.rs v
  show 0 ≤ S.T.reaB v ∧ S.T.reaB v ≤ _
  omega
theorem Ok.attach1 {S : Sv} {m : Nat} (ok : S.Ok m) {ls : List Int} (hl : S.Fits ls) (b : Bool) (hr : S.list.length < 1099511627776) : ((S.newc ls b).wput (lcode ls[0]!) S.list.length).Ok (m + 1) := by
 have h := ok.newc hl b hr
 have h2 := hl.two
 have hw : (S.newc ls b).watch.length = 2 * S.vars + 2 := ok.wl
 have hlen : (S.newc ls b).list.length = S.list.length + 1 := by simp [Sv.newc]
 have b0 := hl.lit _ (get_mem (l := ls) (i := 0) (by omega))
 exact Ok.wput (S := S.newc ls b) (m := m + 1) h (c := lcode ls[0]!) (n := S.list.length) (by rw [hw]; exact code_lt b0.2.1 b0.2.2) (by omega)
theorem Ok.attach {S : Sv} {m : Nat} (ok : S.Ok m) {ls : List Int} (hl : S.Fits ls) (b : Bool) (hr : S.list.length < 1099511627776) : (S.attach ls b).Ok m := by
 have h := ok.newc hl b hr
 have h2 := hl.two
 have hw : (S.newc ls b).watch.length = 2 * S.vars + 2 := ok.wl
 have hlen : (S.newc ls b).list.length = S.list.length + 1 := by simp [Sv.newc]
 have b0 := hl.lit _ (get_mem (l := ls) (i := 0) (by omega))
 have b1 := hl.lit _ (get_mem (l := ls) (i := 1) (by omega))
 have k1 := Ok.wput (S := S.newc ls b) (m := m + 1) h (c := lcode ls[0]!) (n := S.list.length) (by rw [hw]; exact code_lt b0.2.1 b0.2.2) (by omega)
 exact Ok.wput k1 (c := lcode ls[1]!) (n := S.list.length) (by show lcode ls[1]! < ((S.newc ls b).watch.set _ _).length; rw [List.length_set, hw]; exact code_lt b1.2.1 b1.2.2) (by show _ < (S.newc ls b).list.length; omega)
theorem attach_same (S : Sv) (ls : List Int) (b : Bool) : (S.attach ls b).T = S.T ∧ (S.attach ls b).vars = S.vars ∧ (S.attach ls b).list.length = S.list.length + 1 ∧ (S.attach ls b).head = S.head ∧ (S.attach ls b).used = S.used ∧ (S.attach ls b).H = S.H := by simp [attach, wput, wset]
end Sv
theorem infoRec : (Try.prog.info? 75).map (fun i => (i.zero, i.size, i.bytes)) = some (some (.agg #[.slice none 0 0, .bool false, .int .i64 0]), 3, 40) := by kernel_rfl
theorem three_cells {w : World} {g : Nat} {t : TypeId} {a b c : Value} (h : At w g t #[a, b, c]) : ∀ j u, [a, b, c][j]? = some u → w.cell? ((Addr.mk g 0 none).add j) = some u := fun j u hu => by
 rw [addr_add, Nat.zero_add, h.cell]
 simpa using hu
theorem flatC_one (cs : List Cw) (x : Cw) : flatC cs ++ [.slice x.A x.lits.length x.c, .bool x.lrn, .int .i64 x.act] = flatC (cs ++ [x]) := by rw [flatC_app]; rfl
def AtP (n : Nat) (S' : Sv) (A : Option Addr) (c : Nat) (ls : List Int) (L : SvL) (w : World) (e : Ending) (w' : World) : Prop :=
 e = .returned (.int .i64 (n : Nat)) ∧ ∃ L', SvAt w' L' S' ∧ L'.a = L.a ∧ L'.id = L.id ∧ (∀ k, k < w.heap.size → (L'.lab k).1 = L.id → (L.lab k).1 = L.id ∨ k ∈ blks A) ∧ Fr (blks A ++ L.own w) w w' ∧ Ints w' A c ls ∧ L'.tL = L.tL
set_option maxRecDepth 100000 in
set_option maxHeartbeats 8000000 in
theorem attach_calls (w : World) (L : SvL) (S : Sv) (h : SvAt w L S) (m : Nat) (ok : S.Ok m) (A : Option Addr) (c : Nat) (ls : List Int) (b : Bool) (hi : Ints w A c ls) (hfit : S.Fits ls) (hA : ∀ k, k ∈ blks A → (L.lab k).1 ≠ L.id) (hr : S.list.length < 1099511627776) (hu : S.used ≤ 1099511627776) :
  Calls Try.prog 29 #[.pointer (some ⟨L.a, 0, none⟩), .slice A ls.length c, .bool b] w (AtP S.list.length (S.attach ls b) A c ls L w) := by
 obtain ⟨ga, hga, hgal⟩ := hi.pos (i := 0) (by have := hfit.two; omega)
 subst hga
 have hlenc := h.lenc
 have hwl := h.lenw.trans ok.wl
 have hno : ∀ k, L.has k → k ∉ blks (some (⟨ga, 0, none⟩ : Addr)) := fun k hk hm => hA k hm (h.has_own hk)
 have h0 := h.relab (fun k => if k ∈ blks (some (⟨ga, 0, none⟩ : Addr)) then (L.id, 8, L.cs.length) else L.lab k) (fun k hk => if_neg (hno k hk))
 obtain ⟨L0, hL0⟩ : ∃ L0, ({ L with lab := fun k => if k ∈ blks (some (⟨ga, 0, none⟩ : Addr)) then (L.id, 8, L.cs.length) else L.lab k } : SvL) = L0 := ⟨_, rfl⟩
 rw [hL0] at h0
 have ea0 : L0.a = L.a := by rw [← hL0]
 have ecs0 : L0.cs = L.cs := by rw [← hL0]
 have ews0 : L0.ws = L.ws := by rw [← hL0]
 have eid0 : L0.id = L.id := by rw [← hL0]
 have hlga : L0.lab ga = (L0.id, 8, L0.cs.length) := by rw [← hL0]; simp [blks]
 have hbk : Hid (∀ W L', SvAt W L' (S.attach ls b) → L0.ext L' w → Fr (L0.own w) w W → Ints W (some ⟨ga, 0, none⟩) c ls → L'.tL = L0.tL → AtP S.list.length (S.attach ls b) (some ⟨ga, 0, none⟩) c ls L w (.returned (.int .i64 (S.list.length : Nat))) W) := fun W L' g1 g2 g3 g4 g5 => by
  refine ⟨rfl, L', g1, g2.1.trans ea0, g2.2.1.trans eid0, fun k hk e => ?_, ?_, g4, by rw [g5, ← hL0]⟩
  ·have e2 := g2.2.2 k hk (e.trans eid0.symm)
   rw [← hL0] at e2
   simp only at e2
   by_cases hm : k ∈ blks (some (⟨ga, 0, none⟩ : Addr))
   ·exact .inr hm
   ·rw [if_neg hm] at e2
    exact .inl e2
  ·refine g3.mono (fun k hk => ?_)
   rw [SvL.mem_own] at hk
   left
   by_cases hm : k ∈ blks (some (⟨ga, 0, none⟩ : Addr))
   ·exact List.mem_append_left _ hm
   ·refine List.mem_append_right _ (SvL.mem_own.2 ⟨hk.1, ?_⟩)
    have e2 := hk.2
    rw [← hL0] at e2
    simp only [if_neg hm] at e2
    exact e2
 have hlC : L0.cs.length = S.list.length := h0.lenc
 have hwl0 : L0.ws.length = 2 * S.vars + 2 := by rw [ews0]; exact hwl
 have hrow0 := hi.cell (i := 0) (by have := hfit.two; omega)
 have hrow1 := hi.cell (i := 1) (by have := hfit.two; omega)
 obtain ⟨-, -, -, c3, c4, -, -, -, -, c9, -⟩ := h0.cells
 have f3 := h0.obj.frozen 3
 rw [ea0] at c3 c4 c9 f3
 have HC3 := Lib.hid c3
 have HC4 := Lib.hid c4
 have HC9 := Lib.hid c9
 have HF3 := Lib.hid f3
 have HFIT := Lib.hid hfit
 have hcb : Recs w L0.cA L0.cC L0.cs := h0.rcs
 have HN3 : Hid (L.a ∉ blks L0.cA) := fun hm => by
  have e1 := h0.t3 _ hm
  rw [← ea0, h0.t0] at e1
  simp at e1
 have hlt3 : ∀ k, k ∈ blks L0.cA → k < w.heap.size := own_lt' hcb
 have hown3 : ∀ k, k ∈ blks L0.cA → L0.lab k = (L0.id, 3, 0) := h0.t3
 have HLT3 := Lib.hid hlt3
 have HOWN3 := Lib.hid hown3
 have H0 := Lib.hid h0
 have HI := Lib.hid hi
 have HLG := Lib.hid hlga
 have HEA0 := Lib.hid ea0
 have HOK := Lib.hid (ok.newc hfit b hr)
 have HOK1 := Lib.hid (ok.attach1 hfit b hr)
 have HLC := Lib.hid hlC
 have HWL0 := Lib.hid hwl0
 have HR0 := Lib.hid hrow0
 have HR1 := Lib.hid hrow1
 have hn40 : L0.cs.length < 1099511627776 := by omega
 obtain ⟨n, hn⟩ : ∃ n, L0.cs.length = n := ⟨_, rfl⟩
 have hnS : S.list.length = n := by omega
 rw [hnS] at hbk ⊢
 rw [hn] at c3 hn40
 have HN := Lib.hid hn
 unfold Recs at hcb
 rw [hn] at hcb
 have HREC := Lib.hid hcb
 have hl2 : 2 ≤ ls.length := hfit.two
 have HNS := Lib.hid hnS
 have hlt : ls.length ≤ 1048576 := hfit.top
 have HVL := Lib.hid ok.vl
 clear f3 c4 c9 hcb hlt3 hown3 h0 hi hlga ea0 h ok hfit hA hno hL0 ecs0 ews0 eid0 hlenc hwl hlC hwl0 hrow0 hrow1 hn hnS hr
 go_enter Try.func29, Try.ntmps29
 go_wp2_with fail
 clear c3
 go_upto_region 2 with fail
 refine wp_region_noPanic ?_
 refine wp_region_C (fun w' : World => Fr (blks L0.cA) w w') 16 (by kernel_rfl) ((Fr.refl _ w).drew) (fun hT0 => ?_)
 refine T0 (i := 0) (oi := ?or2u1) (v := ?vr2u1) (by rfl) (by kernel_rfl) (by rfl) ?yr2u1 hT0 ?_
 case yr2u1 => (intro w; go_simp <;> with_reducible rfl)
 try simp only [Act.put, q5, q6, q7]
 refine T0 (i := 1) (oi := ?or2u2) (v := ?vr2u2) (by rfl) (by kernel_rfl) (by rfl) ?yr2u2 (hT0.more 0) ?_
 case yr2u2 => (intro w; go_simp <;> with_reducible rfl)
 try simp only [Act.put, q5, q6, q7]
 refine T0 (i := 2) (oi := ?or2u3) (v := ?vr2u3) (by rfl) (by kernel_rfl) (by rfl) ?yr2u3 ((hT0.more 0).more 1) ?_
 case yr2u3 => (intro w; go_simp <;> with_reducible rfl)
 try simp only [Act.put, q5, q6, q7]
 refine T0 (i := 3) (oi := ?or2u4) (v := ?vr2u4) (by rfl) (by kernel_rfl) (by rfl) ?yr2u4 (((hT0.more 0).more 1).more 2) ?_
 case yr2u4 => (intro w; go_simp <;> with_reducible rfl)
 try simp only [Act.put, q5, q6, q7]
 refine T1 (i := 4) (oi := ?or2u5) (v := ?vr2u5) [4, 16] (by rfl) (by kernel_rfl) (by rfl) ?yr2u5 (((((hT0.more 0).more 1).more 2).more 3).resolve_left (by decide)) ?_
 case yr2u5 => (intro w hSw; (have s3 := hSw.cellN HN3.out HC3.out; have s9 := hSw.cellN HN3.out HC9.out; rw [HN.out] at s3); go_simp <;> with_reducible rfl)
 try simp only [Act.put, q5, q6, q7]
 refine T0 (i := 5) (oi := ?or2u6) (v := ?vr2u6) (by rfl) (by kernel_rfl) (by rfl) ?yr2u6 (((((hT0.more 0).more 1).more 2).more 3).more 4) ?_
 case yr2u6 => (intro w; go_simp <;> with_reducible rfl)
 try simp only [Act.put, q5, q6, q7]
 refine T0 (i := 6) (oi := ?or2u7) (v := ?vr2u7) (by rfl) (by kernel_rfl) (by rfl) ?yr2u7 ((((((hT0.more 0).more 1).more 2).more 3).more 4).more 5) ?_
 case yr2u7 => (intro w; go_simp <;> with_reducible rfl)
 try simp only [Act.put, q5, q6, q7]
 refine T0 (i := 7) (oi := ?or2u8) (v := ?vr2u8) (by rfl) (by kernel_rfl) (by rfl) ?yr2u8 (((((((hT0.more 0).more 1).more 2).more 3).more 4).more 5).more 6) ?_
 case yr2u8 => (intro w; go_simp <;> with_reducible rfl)
 try simp only [Act.put, q5, q6, q7]
 refine T0 (i := 8) (oi := ?or2u9) (v := ?vr2u9) (by rfl) (by kernel_rfl) (by rfl) ?yr2u9 ((((((((hT0.more 0).more 1).more 2).more 3).more 4).more 5).more 6).more 7) ?_
 case yr2u9 => (intro w; go_simp <;> with_reducible rfl)
 try simp only [Act.put, q5, q6, q7]
 refine T0 (i := 9) (oi := ?or2u10) (v := ?vr2u10) (by rfl) (by kernel_rfl) (by rfl) ?yr2u10 (((((((((hT0.more 0).more 1).more 2).more 3).more 4).more 5).more 6).more 7).more 8) ?_
 case yr2u10 => (intro w; go_simp <;> with_reducible rfl)
 try simp only [Act.put, q5, q6, q7]
 refine T1 (i := 10) (oi := ?or2u11) (v := ?vr2u11) [10, 16] (by rfl) (by kernel_rfl) (by rfl) ?yr2u11 (((((((((((hT0.more 0).more 1).more 2).more 3).more 4).more 5).more 6).more 7).more 8).more 9).resolve_left (by decide)) ?_
 case yr2u11 => (intro w hSw; (have s3 := hSw.cellN HN3.out HC3.out; have s9 := hSw.cellN HN3.out HC9.out; rw [HN.out] at s3); go_simp <;> with_reducible rfl)
 try simp only [Act.put, q5, q6, q7]
 refine T0 (i := 11) (oi := ?or2u12) (v := ?vr2u12) (by rfl) (by kernel_rfl) (by rfl) ?yr2u12 (((((((((((hT0.more 0).more 1).more 2).more 3).more 4).more 5).more 6).more 7).more 8).more 9).more 10) ?_
 case yr2u12 => (intro w; go_simp <;> with_reducible rfl)
 try simp only [Act.put, q5, q6, q7]
 have hSx := ((((((((((((hT0.more 0).more 1).more 2).more 3).more 4).more 5).more 6).more 7).more 8).more 9).more 10).more 11).resolve_left (by decide)
 refine R1 (i := 12) (o := ?or2u13) (by kernel_rfl) (by rfl) ?_
 intro K hK
 go_simp
 refine hK.out _ _ (.inr ?_) (fun hT13 => ?_)
 ·first | exact hSx.then_ hf3 | exact hSx.alloc _ | exact hSx
 clear hK K
 try simp only [Act.put, q5, q6, q7]
 have hSx := hT13.resolve_left (by decide)
 refine R1 (i := 13) (o := ?or2u14) (by kernel_rfl) (by rfl) ?_
 intro K hK
 (refine step_append_one rfl _ _ 51 rfl 75 (.agg #[.slice none 0 0, .bool false, .int .i64 0]) 3 40 Try.underlying51 infoRec rfl (by decide) L0.cA L0.cC n rfl (flatC L0.cs) ?hownr2u14 _ 1 rfl [.slice (some ⟨ga, 0, none⟩) ls.length c, .bool b, .int .i64 S.used] rfl ?hnewsr2u14 (by simp [Value.oneCell']) (by unfold maxLen; omega) (by omega) ?_; (case hownr2u14 => exact wild_fr HREC.out ((Fr.refl [] w).alloc _).drew (fun k hk hm => by cases hm)); (case hnewsr2u14 => exact three_cells (At.new _ _ _)); intro g3 cap3 w3 hi3 hf3 hg3)
 refine hK.out _ _ (.inr ?_) (fun hT14 => ?_)
 ·first | exact hSx.then_ hf3 | exact hSx.alloc _ | exact hSx
 clear hK K
 try simp only [Act.put, q5, q6, q7]
 refine T0 (i := 14) (oi := ?or2u15) (v := ?vr2u15) (by rfl) (by kernel_rfl) (by rfl) ?yr2u15 hT14 ?_
 case yr2u15 => (intro w; go_simp <;> with_reducible rfl)
 try simp only [Act.put, q5, q6, q7]
 refine T0 (i := 15) (oi := ?or2u16) (v := ?vr2u16) (by rfl) (by kernel_rfl) (by rfl) ?yr2u16 (hT14.more 14) ?_
 case yr2u16 => (intro w; go_simp <;> with_reducible rfl)
 try simp only [Act.put, q5, q6, q7]
 have hSx := ((hT14.more 14).more 15).resolve_left (by decide)
 refine R1 (i := 16) (o := ?or2u17) (by kernel_rfl) (by rfl) ?_
 intro K hK
 (have sb := hSx.cellN HN3.out HC3.out; have fb : World.frozen? _ _ = _ := (World.frozen?_of_block (hSx.block L.a (lt_of_cell HC3.out) HN3.out)).trans HF3.out; go_simp)
 refine hK.out _ _ (.inl rfl) (fun hT17 => ?_)
 clear hK K
 try simp only [Act.put, q5, q6, q7]
 refine wpAnyC_done (by kernel_rfl) ?_ _
 refine NoPanic.normal ?_
 have hi4 : Recs w3 (some ⟨g3, 0, none⟩) cap3 (L0.cs ++ [⟨some ⟨ga, 0, none⟩, c, ls, b, S.used⟩]) := by
  unfold Recs
  rw [← flatC_one, List.length_append, List.length_singleton, HN.out]
  exact hi3
 obtain ⟨L1, h1, he1, hf1, hL1⟩ := H0.out.newc (x := ⟨some ⟨ga, 0, none⟩, c, ls, b, S.used⟩) hi4 hSx (fun k hk _ => HOWN3.out k hk) (fun k hk => by
  simp [blks] at hk
  subst hk
  rcases hg3 with h5 | h5
  ·exact .inl ⟨HLT3.out _ h5, HOWN3.out _ h5⟩
  ·right
   rw [h5]
   simp) HI.out (fun k hk => by simp [blks] at hk; subst hk; exact HLG.out)
 rw [HEA0.out, HN.out] at h1 hf1
 obtain ⟨W1, hW1⟩ : ∃ W, w3.setCell ⟨L.a, 3, none⟩ (.slice (some ⟨g3, 0, none⟩) (n + 1) cap3) = W := ⟨_, rfl⟩
 rw [hW1] at h1 hf1 ⊢
 have H1 : Hid (SvAt W1 L1 (S.newc ls b)) := h1
 have hcs1 : L1.cs = L0.cs ++ [⟨some ⟨ga, 0, none⟩, c, ls, b, S.used⟩] := by rw [hL1]
 have HCS1 := Lib.hid hcs1
 have HTL1 : Hid (L1.tL = L0.tL) := (by rw [hL1] : L1.tL = L0.tL)
 have HXN : Hid (L1.cs[n]! = ⟨some ⟨ga, 0, none⟩, c, ls, b, S.used⟩) := by
  show _ = _
  rw [hcs1, ← HN.out]
  simp
 have HEA0' : Hid (L1.a = L.a) := (he1.1.trans HEA0.out : L1.a = L.a)
 have HIW0 : Hid (Ints W1 (some ⟨ga, 0, none⟩) c ls) := by
  have := h1.ech n (by rw [hcs1, List.length_append, HN.out]; simp)
  rw [HXN.out] at this
  exact this
 have HLG0 : Hid (L1.lab ga = (L1.id, 8, n)) := h1.t8 n (by rw [hcs1, List.length_append, HN.out]; simp) ga (by rw [HXN.out]; simp [blks])
 have HE1 := Lib.hid he1
 have HF1 := Lib.hid hf1
 clear hW1 h1 hf1 he1 hL1 hcs1 hSx hi3 hi4 hf3 hg3 HREC HC3 HC4 HC9 HF3 HN3 HLT3 HOWN3
 go_wp2_with fail
 obtain ⟨y0, hy0⟩ : ∃ y, ls[0]! = y := ⟨_, rfl⟩
 have hyb0 := HFIT.out.lit _ (get_mem (l := ls) (i := 0) (by omega))
 rw [hy0] at hyb0
 obtain ⟨-, hya0, hyz0⟩ := hyb0
 have hcy0 : lcode y0 < L1.ws.length := by
  rw [H1.out.lenw, HOK.out.wl]
  exact code_lt (v := S.vars) hya0 hyz0
 obtain ⟨cy0, hcz0⟩ : ∃ c, lcode y0 = c := ⟨_, rfl⟩
 have hvl0 := HVL.out
 have KC0 := Lib.hid (fun W' => code_calls W' y0 (by omega) (by omega))
 have HCY0 := Lib.hid hcz0
 simp only [hcz0] at KC0
 rw [hcz0] at hcy0
 obtain ⟨gw0, hgw0, sw0, fw0⟩ := H1.out.whd hcy0
 have hr90 := H1.out.ewh cy0 hcy0
 have hl90 := HOK.out.room cy0
 have hw90 := H1.out.wat_eq hcy0
 unfold Sv.wat at hw90
 rw [hw90] at hl90
 have hn90 : ∀ j, j ∈ blks (L1.ws[cy0]!).A → L1.lab j = (L1.id, 9, cy0) := H1.out.t9 cy0 hcy0
 obtain ⟨⟨A90, c90, l90⟩, hx90⟩ : ∃ x, L1.ws[cy0]! = x := ⟨_, rfl⟩
 rw [hx90] at sw0 hr90 hl90 hw90 hn90
 simp only at sw0 hr90 hl90 hw90 hn90
 obtain ⟨-, -, -, -, s40, -⟩ := H1.out.cells
 rw [hgw0, HEA0'.out] at s40
 have HN00 : Hid (L.a ∉ blks A90) := fun hm => by
  have e1 := hn90 _ hm
  rw [← HEA0'.out, H1.out.t0] at e1
  simp at e1
 have HN10 : Hid (ga ∉ blks A90) := fun hm => by
  have e1 := hn90 _ hm
  rw [HLG0.out] at e1
  simp at e1
 have HN20 : Hid (gw0 ∉ blks A90) := fun hm => by
  have e1 := hn90 _ hm
  rw [H1.out.t4 gw0 (by rw [hgw0]; simp [blks])] at e1
  simp at e1
 have s10 : W1.cell? ⟨ga, 0, none⟩ = some (.int .i64 y0) := by rw [HIW0.out.cell (i := 0) (by omega), hy0]
 have HS40 := Lib.hid s40
 have HS10 := Lib.hid s10
 have HSW0 := Lib.hid sw0
 have HFW90 := Lib.hid fw0
 have HR90 := Lib.hid hr90
 have HN90 := Lib.hid hn90
 have HW90 := Lib.hid hw90
 have HGW0 := Lib.hid hgw0
 have HCYL0 := Lib.hid hcy0
 have hcyi0 : cy0 < L1.ws.length := hcy0
 have hcyj0 : (cy0 : Int) < (L1.ws.length : Int) := by omega
 have hls0 : (0 : Int) < (ls.length : Int) := by omega
 have hlsn0 : 0 < ls.length := by omega
 have HLL90 : Hid (l90.length < 17592186044416) := (by omega : l90.length < 17592186044416)
 have HFRW0 : Hid (Fr (blks A90) W1 W1) := Fr.refl _ _
 have HY0 := Lib.hid hy0
 clear hgw0 hcy0 hr90 hl90 hw90 hn90 hx90 s40 s10 sw0 fw0 hcz0 hy0
 go_upto_region 3 with fail
 refine wp_region_noPanic ?_
 refine wp_region_C (fun w' : World => Fr (blks A90) W1 w') 22 (by kernel_rfl) (HFRW0.out.drew) (fun hT0 => ?_)
 refine T0 (i := 0) (oi := ?or3u1) (v := ?vr3u1) (by rfl) (by kernel_rfl) (by rfl) ?yr3u1 hT0 ?_
 case yr3u1 => (intro w; go_simp <;> with_reducible rfl)
 try simp only [Act.put, q5, q6, q7]
 refine T0 (i := 1) (oi := ?or3u2) (v := ?vr3u2) (by rfl) (by kernel_rfl) (by rfl) ?yr3u2 (hT0.more 0) ?_
 case yr3u2 => (intro w; go_simp <;> with_reducible rfl)
 try simp only [Act.put, q5, q6, q7]
 refine T0 (i := 2) (oi := ?or3u3) (v := ?vr3u3) (by rfl) (by kernel_rfl) (by rfl) ?yr3u3 ((hT0.more 0).more 1) ?_
 case yr3u3 => (intro w; go_simp <;> with_reducible rfl)
 try simp only [Act.put, q5, q6, q7]
 refine T1 (i := 3) (oi := ?or3u4) (v := ?vr3u4) [3, 22] (by rfl) (by kernel_rfl) (by rfl) ?yr3u4 ((((hT0.more 0).more 1).more 2).resolve_left (by decide)) ?_
 case yr3u4 => (intro w hSw; (have s4 := hSw.cellN HN00.out HS40.out; have s1 := hSw.cellN HN10.out HS10.out; have sw := hSw.cellN HN20.out HSW0.out); go_simp <;> with_reducible rfl)
 try simp only [Act.put, q5, q6, q7]
 refine T0 (i := 4) (oi := ?or3u5) (v := ?vr3u5) (by rfl) (by kernel_rfl) (by rfl) ?yr3u5 ((((hT0.more 0).more 1).more 2).more 3) ?_
 case yr3u5 => (intro w; go_simp <;> with_reducible rfl)
 try simp only [Act.put, q5, q6, q7]
 refine T0 (i := 5) (oi := ?or3u6) (v := ?vr3u6) (by rfl) (by kernel_rfl) (by rfl) ?yr3u6 (((((hT0.more 0).more 1).more 2).more 3).more 4) ?_
 case yr3u6 => (intro w; go_simp <;> with_reducible rfl)
 try simp only [Act.put, q5, q6, q7]
 refine T1 (i := 6) (oi := ?or3u7) (v := ?vr3u7) [6, 22] (by rfl) (by kernel_rfl) (by rfl) ?yr3u7 (((((((hT0.more 0).more 1).more 2).more 3).more 4).more 5).resolve_left (by decide)) ?_
 case yr3u7 => (intro w hSw; (have s4 := hSw.cellN HN00.out HS40.out; have s1 := hSw.cellN HN10.out HS10.out; have sw := hSw.cellN HN20.out HSW0.out); go_simp <;> with_reducible rfl)
 try simp only [Act.put, q5, q6, q7]
 refine T0 (i := 8) (oi := ?or3u8) (v := ?vr3u8) (by rfl) (by kernel_rfl) (by rfl) ?yr3u8 (((((((hT0.more 0).more 1).more 2).more 3).more 4).more 5).more 6) ?_
 case yr3u8 => (intro w; go_simp <;> with_reducible rfl)
 try simp only [Act.put, q5, q6, q7]
 refine T0 (i := 9) (oi := ?or3u9) (v := ?vr3u9) (by rfl) (by kernel_rfl) (by rfl) ?yr3u9 ((((((((hT0.more 0).more 1).more 2).more 3).more 4).more 5).more 6).more 8) ?_
 case yr3u9 => (intro w; go_simp <;> with_reducible rfl)
 try simp only [Act.put, q5, q6, q7]
 refine T0 (i := 10) (oi := ?or3u10) (v := ?vr3u10) (by rfl) (by kernel_rfl) (by rfl) ?yr3u10 (((((((((hT0.more 0).more 1).more 2).more 3).more 4).more 5).more 6).more 8).more 9) ?_
 case yr3u10 => (intro w; go_simp <;> with_reducible rfl)
 try simp only [Act.put, q5, q6, q7]
 refine T1 (i := 11) (oi := ?or3u11) (v := ?vr3u11) [11, 22] (by rfl) (by kernel_rfl) (by rfl) ?yr3u11 (((((((((((hT0.more 0).more 1).more 2).more 3).more 4).more 5).more 6).more 8).more 9).more 10).resolve_left (by decide)) ?_
 case yr3u11 => (intro w hSw; (have s4 := hSw.cellN HN00.out HS40.out; have s1 := hSw.cellN HN10.out HS10.out; have sw := hSw.cellN HN20.out HSW0.out); go_simp <;> with_reducible rfl)
 try simp only [Act.put, q5, q6, q7]
 refine T0 (i := 12) (oi := ?or3u12) (v := ?vr3u12) (by rfl) (by kernel_rfl) (by rfl) ?yr3u12 (((((((((((hT0.more 0).more 1).more 2).more 3).more 4).more 5).more 6).more 8).more 9).more 10).more 11) ?_
 case yr3u12 => (intro w; go_simp <;> with_reducible rfl)
 try simp only [Act.put, q5, q6, q7]
 refine T0 (i := 13) (oi := ?or3u13) (v := ?vr3u13) (by rfl) (by kernel_rfl) (by rfl) ?yr3u13 ((((((((((((hT0.more 0).more 1).more 2).more 3).more 4).more 5).more 6).more 8).more 9).more 10).more 11).more 12) ?_
 case yr3u13 => (intro w; go_simp <;> with_reducible rfl)
 try simp only [Act.put, q5, q6, q7]
 refine T1 (i := 14) (oi := ?or3u14) (v := ?vr3u14) [14, 22] (by rfl) (by kernel_rfl) (by rfl) ?yr3u14 ((((((((((((((hT0.more 0).more 1).more 2).more 3).more 4).more 5).more 6).more 8).more 9).more 10).more 11).more 12).more 13).resolve_left (by decide)) ?_
 case yr3u14 => (intro w hSw; (have s4 := hSw.cellN HN00.out HS40.out; have s1 := hSw.cellN HN10.out HS10.out; have sw := hSw.cellN HN20.out HSW0.out); go_simp <;> with_reducible rfl)
 try simp only [Act.put, q5, q6, q7]
 refine T0 (i := 18) (oi := ?or3u15) (v := ?vr3u15) (by rfl) (by kernel_rfl) (by rfl) ?yr3u15 ((((((((((((((hT0.more 0).more 1).more 2).more 3).more 4).more 5).more 6).more 8).more 9).more 10).more 11).more 12).more 13).more 14) ?_
 case yr3u15 => (intro w; go_simp <;> with_reducible rfl)
 try simp only [Act.put, q5, q6, q7]
 have hSx := (((((((((((((((hT0.more 0).more 1).more 2).more 3).more 4).more 5).more 6).more 8).more 9).more 10).more 11).more 12).more 13).more 14).more 18).resolve_left (by decide)
 refine wpAnyC_ready (rs := [7, 19]) (by kernel_rfl) (by simp) ?_
 refine ReadyC.cons (o := ?or3u16) ?hor3u16 ?hstepr3u16 ?_
 case hor3u16 => rfl
 case hstepr3u16 =>
  intro K hK
  (go_simp; refine (KC0.out _).mono ?_; rintro e w5 ⟨rfl, rfl⟩; dsimp only)
  refine hK.out _ _ (.inr ?_) (fun hT16 => ?_)
  ·first | exact hSx.then_ hfA0 | exact hSx.alloc _ | exact hSx
  clear hK K
  try simp only [Act.put, q5, q6, q7]
  have hSx := hT16.resolve_left (by decide)
  refine wpAnyC_ready (rs := [15, 19]) (by kernel_rfl) (by simp) ?_
  refine ReadyC.cons (o := ?or3u17) ?hor3u17 ?hstepr3u17 ?_
  case hor3u17 => rfl
  case hstepr3u17 =>
   intro K hK
   (go_simp; refine (KC0.out _).mono ?_; rintro e w5 ⟨rfl, rfl⟩; dsimp only)
   refine hK.out _ _ (.inr ?_) (fun hT17 => ?_)
   ·first | exact hSx.then_ hfA0 | exact hSx.alloc _ | exact hSx
   clear hK K
   try simp only [Act.put, q5, q6, q7]
   refine T0 (i := 16) (oi := ?or3u18) (v := ?vr3u18) (by rfl) (by kernel_rfl) (by rfl) ?yr3u18 hT17 ?_
   case yr3u18 => (intro w; go_simp <;> with_reducible rfl)
   try simp only [Act.put, q5, q6, q7]
   refine T1 (i := 17) (oi := ?or3u19) (v := ?vr3u19) [17, 22] (by rfl) (by kernel_rfl) (by rfl) ?yr3u19 ((hT17.more 16).resolve_left (by decide)) ?_
   case yr3u19 => (intro w hSw; (have s4 := hSw.cellN HN00.out HS40.out; have s1 := hSw.cellN HN10.out HS10.out; have sw := hSw.cellN HN20.out HSW0.out); go_simp <;> with_reducible rfl)
   try simp only [Act.put, q5, q6, q7]
   have hSx := ((hT17.more 16).more 17).resolve_left (by decide)
   refine R1 (i := 19) (o := ?or3u20) (by kernel_rfl) (by rfl) ?_
   intro K hK
   go_simp
   refine hK.out _ _ (.inr ?_) (fun hT20 => ?_)
   ·first | exact hSx.then_ hfA0 | exact hSx.alloc _ | exact hSx
   clear hK K
   try simp only [Act.put, q5, q6, q7]
   have hSx := hT20.resolve_left (by decide)
   refine R1 (i := 20) (o := ?or3u21) (by kernel_rfl) (by rfl) ?_
   intro K hK
   (refine step_append_int rfl _ _ rfl A90 c90 (casts l90) _ rfl (casts_len l90).symm ?hownr3u21 _ 1 n rfl ?hcellr3u21 (by rw [casts_len]; exact HLL90.out) ?_; (case hownr3u21 => first | exact HR90.out.drew.alloc _ | exact HR90.out.alloc _ | exact HR90.out); (case hcellr3u21 => simp); intro gA0 cA0 wA0 hiA0 hfA0 hgA0 hsA0)
   refine hK.out _ _ (.inr ?_) (fun hT21 => ?_)
   ·first | exact hSx.then_ hfA0 | exact hSx.alloc _ | exact hSx
   clear hK K
   try simp only [Act.put, q5, q6, q7]
   refine T0 (i := 21) (oi := ?or3u22) (v := ?vr3u22) (by rfl) (by kernel_rfl) (by rfl) ?yr3u22 hT21 ?_
   case yr3u22 => (intro w; go_simp <;> with_reducible rfl)
   try simp only [Act.put, q5, q6, q7]
   have hSx := (hT21.more 21).resolve_left (by decide)
   refine R1 (i := 22) (o := ?or3u23) (by kernel_rfl) (by rfl) ?_
   intro K hK
   (have sb := hSx.cellN HN20.out HSW0.out; have fb : World.frozen? _ _ = _ := (World.frozen?_of_block (hSx.block gw0 (lt_of_cell HSW0.out) HN20.out)).trans HFW90.out; go_simp)
   refine hK.out _ _ (.inl rfl) (fun hT23 => ?_)
   clear hK K
   try simp only [Act.put, q5, q6, q7]
   refine wpAnyC_done (by kernel_rfl) ?_ _
   refine NoPanic.normal ?_
   have hiB0 : Ints wA0 (some ⟨gA0, 0, none⟩) cA0 (casts (l90 ++ [n])) := by rw [← casts_app]; exact hiA0
   obtain ⟨gv0, hg20, _, _, L2, h20, he20, hf20, hL20⟩ := H1.out.wset HCYL0.out hiB0 hSx (fun j hj _ => HN90.out j hj) (fun j hj => by
    simp [blks] at hj
    subst hj
    rcases hgA0 with h5 | h5
    ·exact .inl ⟨(HR90.out.lt _ h5), HN90.out _ h5⟩
    ·right
     rw [h5]
     first | exact Nat.le_refl _ | (simp))
   obtain rfl : gw0 = gv0 := by rw [HGW0.out] at hg20; simpa using hg20
   simp only [List.length_append, List.length_singleton] at h20 hf20
   obtain ⟨W2, hW2⟩ : ∃ W, wA0.setCell ⟨gw0, cy0, none⟩ (.slice (some ⟨gA0, 0, none⟩) (l90.length + 1) cA0) = W := ⟨_, rfl⟩
   rw [hW2] at h20 hf20 ⊢
   have hS2 : (S.newc ls b).wset cy0 (l90 ++ [n]) = (S.newc ls b).wput (lcode ls[0]!) S.list.length := by
    unfold Sv.wput Sv.wat
    rw [HY0.out, HCY0.out, HW90.out, HNS.out]
   rw [hS2] at h20
   have hcs2 : L2.cs = L1.cs := by rw [hL20]
   have HTL2 : Hid (L2.tL = L0.tL) := (by rw [hL20] : L2.tL = L1.tL).trans HTL1.out
   have HCS2 : Hid (L2.cs = L0.cs ++ [⟨some ⟨ga, 0, none⟩, c, ls, b, S.used⟩]) := hcs2.trans HCS1.out
   have HEA1 : Hid (L2.a = L.a) := (he20.1.trans HEA0'.out : L2.a = L.a)
   have HIW1 : Hid (Ints W2 (some ⟨ga, 0, none⟩) c ls) := by
    have := h20.ech n (by rw [hcs2, HCS1.out, List.length_append, HN.out]; simp)
    rw [hcs2, HXN.out] at this
    exact this
   have HLG1 : Hid (L2.lab ga = (L2.id, 8, n)) := h20.t8 n (by rw [hcs2, HCS1.out, List.length_append, HN.out]; simp) ga (by rw [hcs2, HXN.out]; simp [blks])
   have HE2 := Lib.hid (SvL.ext_trans HE1.out he20 HF1.out.size)
   have HF2 := Lib.hid (SvL.own_then HE1.out HF1.out hf20)
   have H2 := Lib.hid h20
   clear hW2 h20 hf20 he20 hL20 hcs2 hSx hiA0 hiB0 hfA0 hgA0 hsA0 hg20
   clear HFRW0 HS40 HS10 HSW0 HFW90 HR90 HN90 HN00 HN10 HN20
   go_wp2_with fail
   clear KC0
   obtain ⟨y1, hy1⟩ : ∃ y, ls[1]! = y := ⟨_, rfl⟩
   have hyb1 := HFIT.out.lit _ (get_mem (l := ls) (i := 1) (by omega))
   rw [hy1] at hyb1
   obtain ⟨-, hya1, hyz1⟩ := hyb1
   have hcy1 : lcode y1 < L2.ws.length := by
    rw [H2.out.lenw, HOK1.out.wl]
    exact code_lt (v := S.vars) hya1 hyz1
   obtain ⟨cy1, hcz1⟩ : ∃ c, lcode y1 = c := ⟨_, rfl⟩
   have hvl1 := HVL.out
   have KC1 := Lib.hid (fun W' => code_calls W' y1 (by omega) (by omega))
   have HCY1 := Lib.hid hcz1
   simp only [hcz1] at KC1
   rw [hcz1] at hcy1
   obtain ⟨gw1, hgw1, sw1, fw1⟩ := H2.out.whd hcy1
   have hr91 := H2.out.ewh cy1 hcy1
   have hl91 := HOK1.out.room cy1
   have hw91 := H2.out.wat_eq hcy1
   unfold Sv.wat at hw91
   rw [hw91] at hl91
   have hn91 : ∀ j, j ∈ blks (L2.ws[cy1]!).A → L2.lab j = (L2.id, 9, cy1) := H2.out.t9 cy1 hcy1
   obtain ⟨⟨A91, c91, l91⟩, hx91⟩ : ∃ x, L2.ws[cy1]! = x := ⟨_, rfl⟩
   rw [hx91] at sw1 hr91 hl91 hw91 hn91
   simp only at sw1 hr91 hl91 hw91 hn91
   obtain ⟨-, -, -, -, s41, -⟩ := H2.out.cells
   rw [hgw1, HEA1.out] at s41
   have HN01 : Hid (L.a ∉ blks A91) := fun hm => by
    have e1 := hn91 _ hm
    rw [← HEA1.out, H2.out.t0] at e1
    simp at e1
   have HN11 : Hid (ga ∉ blks A91) := fun hm => by
    have e1 := hn91 _ hm
    rw [HLG1.out] at e1
    simp at e1
   have HN21 : Hid (gw1 ∉ blks A91) := fun hm => by
    have e1 := hn91 _ hm
    rw [H2.out.t4 gw1 (by rw [hgw1]; simp [blks])] at e1
    simp at e1
   have s11 : W2.cell? ⟨ga, 1, none⟩ = some (.int .i64 y1) := by rw [HIW1.out.cell (i := 1) (by omega), hy1]
   have HS41 := Lib.hid s41
   have HS11 := Lib.hid s11
   have HSW1 := Lib.hid sw1
   have HFW91 := Lib.hid fw1
   have HR91 := Lib.hid hr91
   have HN91 := Lib.hid hn91
   have HW91 := Lib.hid hw91
   have HGW1 := Lib.hid hgw1
   have HCYL1 := Lib.hid hcy1
   have hcyi1 : cy1 < L2.ws.length := hcy1
   have hcyj1 : (cy1 : Int) < (L2.ws.length : Int) := by omega
   have hls1 : (1 : Int) < (ls.length : Int) := by omega
   have hlsn1 : 1 < ls.length := by omega
   have HLL91 : Hid (l91.length < 17592186044416) := (by omega : l91.length < 17592186044416)
   have HFRW1 : Hid (Fr (blks A91) W2 W2) := Fr.refl _ _
   have HY1 := Lib.hid hy1
   clear hgw1 hcy1 hr91 hl91 hw91 hn91 hx91 s41 s11 sw1 fw1 hcz1 hy1
   go_upto_region 4 with fail
   refine wp_region_noPanic ?_
   refine wp_region_C (fun w' : World => Fr (blks A91) W2 w') 22 (by kernel_rfl) (HFRW1.out.drew) (fun hT0 => ?_)
   refine T0 (i := 0) (oi := ?or4x1u1) (v := ?vr4x1u1) (by rfl) (by kernel_rfl) (by rfl) ?yr4x1u1 hT0 ?_
   case yr4x1u1 => (intro w; go_simp <;> with_reducible rfl)
   try simp only [Act.put, q5, q6, q7]
   refine T0 (i := 1) (oi := ?or4x1u2) (v := ?vr4x1u2) (by rfl) (by kernel_rfl) (by rfl) ?yr4x1u2 (hT0.more 0) ?_
   case yr4x1u2 => (intro w; go_simp <;> with_reducible rfl)
   try simp only [Act.put, q5, q6, q7]
   refine T0 (i := 2) (oi := ?or4x1u3) (v := ?vr4x1u3) (by rfl) (by kernel_rfl) (by rfl) ?yr4x1u3 ((hT0.more 0).more 1) ?_
   case yr4x1u3 => (intro w; go_simp <;> with_reducible rfl)
   try simp only [Act.put, q5, q6, q7]
   refine T1 (i := 3) (oi := ?or4x1u4) (v := ?vr4x1u4) [3, 22] (by rfl) (by kernel_rfl) (by rfl) ?yr4x1u4 ((((hT0.more 0).more 1).more 2).resolve_left (by decide)) ?_
   case yr4x1u4 => (intro w hSw; (have s4 := hSw.cellN HN01.out HS41.out; have s1 := hSw.cellN HN11.out HS11.out; have sw := hSw.cellN HN21.out HSW1.out); go_simp <;> with_reducible rfl)
   try simp only [Act.put, q5, q6, q7]
   refine T0 (i := 4) (oi := ?or4x1u5) (v := ?vr4x1u5) (by rfl) (by kernel_rfl) (by rfl) ?yr4x1u5 ((((hT0.more 0).more 1).more 2).more 3) ?_
   case yr4x1u5 => (intro w; go_simp <;> with_reducible rfl)
   try simp only [Act.put, q5, q6, q7]
   refine T0 (i := 5) (oi := ?or4x1u6) (v := ?vr4x1u6) (by rfl) (by kernel_rfl) (by rfl) ?yr4x1u6 (((((hT0.more 0).more 1).more 2).more 3).more 4) ?_
   case yr4x1u6 => (intro w; go_simp <;> with_reducible rfl)
   try simp only [Act.put, q5, q6, q7]
   refine T1 (i := 6) (oi := ?or4x1u7) (v := ?vr4x1u7) [6, 22] (by rfl) (by kernel_rfl) (by rfl) ?yr4x1u7 (((((((hT0.more 0).more 1).more 2).more 3).more 4).more 5).resolve_left (by decide)) ?_
   case yr4x1u7 => (intro w hSw; (have s4 := hSw.cellN HN01.out HS41.out; have s1 := hSw.cellN HN11.out HS11.out; have sw := hSw.cellN HN21.out HSW1.out); go_simp <;> with_reducible rfl)
   try simp only [Act.put, q5, q6, q7]
   refine T0 (i := 8) (oi := ?or4x1u8) (v := ?vr4x1u8) (by rfl) (by kernel_rfl) (by rfl) ?yr4x1u8 (((((((hT0.more 0).more 1).more 2).more 3).more 4).more 5).more 6) ?_
   case yr4x1u8 => (intro w; go_simp <;> with_reducible rfl)
   try simp only [Act.put, q5, q6, q7]
   refine T0 (i := 9) (oi := ?or4x1u9) (v := ?vr4x1u9) (by rfl) (by kernel_rfl) (by rfl) ?yr4x1u9 ((((((((hT0.more 0).more 1).more 2).more 3).more 4).more 5).more 6).more 8) ?_
   case yr4x1u9 => (intro w; go_simp <;> with_reducible rfl)
   try simp only [Act.put, q5, q6, q7]
   refine T0 (i := 10) (oi := ?or4x1u10) (v := ?vr4x1u10) (by rfl) (by kernel_rfl) (by rfl) ?yr4x1u10 (((((((((hT0.more 0).more 1).more 2).more 3).more 4).more 5).more 6).more 8).more 9) ?_
   case yr4x1u10 => (intro w; go_simp <;> with_reducible rfl)
   try simp only [Act.put, q5, q6, q7]
   refine T1 (i := 11) (oi := ?or4x1u11) (v := ?vr4x1u11) [11, 22] (by rfl) (by kernel_rfl) (by rfl) ?yr4x1u11 (((((((((((hT0.more 0).more 1).more 2).more 3).more 4).more 5).more 6).more 8).more 9).more 10).resolve_left (by decide)) ?_
   case yr4x1u11 => (intro w hSw; (have s4 := hSw.cellN HN01.out HS41.out; have s1 := hSw.cellN HN11.out HS11.out; have sw := hSw.cellN HN21.out HSW1.out); go_simp <;> with_reducible rfl)
   try simp only [Act.put, q5, q6, q7]
   refine T0 (i := 12) (oi := ?or4x1u12) (v := ?vr4x1u12) (by rfl) (by kernel_rfl) (by rfl) ?yr4x1u12 (((((((((((hT0.more 0).more 1).more 2).more 3).more 4).more 5).more 6).more 8).more 9).more 10).more 11) ?_
   case yr4x1u12 => (intro w; go_simp <;> with_reducible rfl)
   try simp only [Act.put, q5, q6, q7]
   refine T0 (i := 13) (oi := ?or4x1u13) (v := ?vr4x1u13) (by rfl) (by kernel_rfl) (by rfl) ?yr4x1u13 ((((((((((((hT0.more 0).more 1).more 2).more 3).more 4).more 5).more 6).more 8).more 9).more 10).more 11).more 12) ?_
   case yr4x1u13 => (intro w; go_simp <;> with_reducible rfl)
   try simp only [Act.put, q5, q6, q7]
   refine T1 (i := 14) (oi := ?or4x1u14) (v := ?vr4x1u14) [14, 22] (by rfl) (by kernel_rfl) (by rfl) ?yr4x1u14 ((((((((((((((hT0.more 0).more 1).more 2).more 3).more 4).more 5).more 6).more 8).more 9).more 10).more 11).more 12).more 13).resolve_left (by decide)) ?_
   case yr4x1u14 => (intro w hSw; (have s4 := hSw.cellN HN01.out HS41.out; have s1 := hSw.cellN HN11.out HS11.out; have sw := hSw.cellN HN21.out HSW1.out); go_simp <;> with_reducible rfl)
   try simp only [Act.put, q5, q6, q7]
   refine T0 (i := 18) (oi := ?or4x1u15) (v := ?vr4x1u15) (by rfl) (by kernel_rfl) (by rfl) ?yr4x1u15 ((((((((((((((hT0.more 0).more 1).more 2).more 3).more 4).more 5).more 6).more 8).more 9).more 10).more 11).more 12).more 13).more 14) ?_
   case yr4x1u15 => (intro w; go_simp <;> with_reducible rfl)
   try simp only [Act.put, q5, q6, q7]
   have hSx := (((((((((((((((hT0.more 0).more 1).more 2).more 3).more 4).more 5).more 6).more 8).more 9).more 10).more 11).more 12).more 13).more 14).more 18).resolve_left (by decide)
   refine wpAnyC_ready (rs := [7, 19]) (by kernel_rfl) (by simp) ?_
   refine ReadyC.cons (o := ?or4x1u16) ?hor4x1u16 ?hstepr4x1u16 ?_
   case hor4x1u16 => rfl
   case hstepr4x1u16 =>
    intro K hK
    (go_simp; refine (KC1.out _).mono ?_; rintro e w5 ⟨rfl, rfl⟩; dsimp only)
    refine hK.out _ _ (.inr ?_) (fun hT16 => ?_)
    ·first | exact hSx.then_ hfA1 | exact hSx.alloc _ | exact hSx
    clear hK K
    try simp only [Act.put, q5, q6, q7]
    have hSx := hT16.resolve_left (by decide)
    refine wpAnyC_ready (rs := [15, 19]) (by kernel_rfl) (by simp) ?_
    refine ReadyC.cons (o := ?or4x1u17) ?hor4x1u17 ?hstepr4x1u17 ?_
    case hor4x1u17 => rfl
    case hstepr4x1u17 =>
     intro K hK
     (go_simp; refine (KC1.out _).mono ?_; rintro e w5 ⟨rfl, rfl⟩; dsimp only)
     refine hK.out _ _ (.inr ?_) (fun hT17 => ?_)
     ·first | exact hSx.then_ hfA1 | exact hSx.alloc _ | exact hSx
     clear hK K
     try simp only [Act.put, q5, q6, q7]
     refine T0 (i := 16) (oi := ?or4x1u18) (v := ?vr4x1u18) (by rfl) (by kernel_rfl) (by rfl) ?yr4x1u18 hT17 ?_
     case yr4x1u18 => (intro w; go_simp <;> with_reducible rfl)
     try simp only [Act.put, q5, q6, q7]
     refine T1 (i := 17) (oi := ?or4x1u19) (v := ?vr4x1u19) [17, 22] (by rfl) (by kernel_rfl) (by rfl) ?yr4x1u19 ((hT17.more 16).resolve_left (by decide)) ?_
     case yr4x1u19 => (intro w hSw; (have s4 := hSw.cellN HN01.out HS41.out; have s1 := hSw.cellN HN11.out HS11.out; have sw := hSw.cellN HN21.out HSW1.out); go_simp <;> with_reducible rfl)
     try simp only [Act.put, q5, q6, q7]
     have hSx := ((hT17.more 16).more 17).resolve_left (by decide)
     refine R1 (i := 19) (o := ?or4x1u20) (by kernel_rfl) (by rfl) ?_
     intro K hK
     go_simp
     refine hK.out _ _ (.inr ?_) (fun hT20 => ?_)
     ·first | exact hSx.then_ hfA1 | exact hSx.alloc _ | exact hSx
     clear hK K
     try simp only [Act.put, q5, q6, q7]
     have hSx := hT20.resolve_left (by decide)
     refine R1 (i := 20) (o := ?or4x1u21) (by kernel_rfl) (by rfl) ?_
     intro K hK
     (refine step_append_int rfl _ _ rfl A91 c91 (casts l91) _ rfl (casts_len l91).symm ?hownr4x1u21 _ 1 n rfl ?hcellr4x1u21 (by rw [casts_len]; exact HLL91.out) ?_; (case hownr4x1u21 => first | exact HR91.out.drew.alloc _ | exact HR91.out.alloc _ | exact HR91.out); (case hcellr4x1u21 => simp); intro gA1 cA1 wA1 hiA1 hfA1 hgA1 hsA1)
     refine hK.out _ _ (.inr ?_) (fun hT21 => ?_)
     ·first | exact hSx.then_ hfA1 | exact hSx.alloc _ | exact hSx
     clear hK K
     try simp only [Act.put, q5, q6, q7]
     refine T0 (i := 21) (oi := ?or4x1u22) (v := ?vr4x1u22) (by rfl) (by kernel_rfl) (by rfl) ?yr4x1u22 hT21 ?_
     case yr4x1u22 => (intro w; go_simp <;> with_reducible rfl)
     try simp only [Act.put, q5, q6, q7]
     have hSx := (hT21.more 21).resolve_left (by decide)
     refine R1 (i := 22) (o := ?or4x1u23) (by kernel_rfl) (by rfl) ?_
     intro K hK
     (have sb := hSx.cellN HN21.out HSW1.out; have fb : World.frozen? _ _ = _ := (World.frozen?_of_block (hSx.block gw1 (lt_of_cell HSW1.out) HN21.out)).trans HFW91.out; go_simp)
     refine hK.out _ _ (.inl rfl) (fun hT23 => ?_)
     clear hK K
     try simp only [Act.put, q5, q6, q7]
     refine wpAnyC_done (by kernel_rfl) ?_ _
     refine NoPanic.normal ?_
     have hiB1 : Ints wA1 (some ⟨gA1, 0, none⟩) cA1 (casts (l91 ++ [n])) := by rw [← casts_app]; exact hiA1
     obtain ⟨gv1, hg21, _, _, L3, h21, he21, hf21, hL21⟩ := H2.out.wset HCYL1.out hiB1 hSx (fun j hj _ => HN91.out j hj) (fun j hj => by
      simp [blks] at hj
      subst hj
      rcases hgA1 with h5 | h5
      ·exact .inl ⟨(HR91.out.lt _ h5), HN91.out _ h5⟩
      ·right
       rw [h5]
       first | exact Nat.le_refl _ | (simp))
     obtain rfl : gw1 = gv1 := by rw [HGW1.out] at hg21; simpa using hg21
     simp only [List.length_append, List.length_singleton] at h21 hf21
     have hS3 : ((S.newc ls b).wput (lcode ls[0]!) S.list.length).wset cy1 (l91 ++ [n]) = S.attach ls b := by
      show _ = ((S.newc ls b).wput (lcode ls[0]!) S.list.length).wput (lcode ls[1]!) S.list.length
      have hw := HW91.out
      revert hw
      generalize (S.newc ls b).wput (lcode ls[0]!) S.list.length = T
      intro hw
      unfold Sv.wput Sv.wat
      rw [HY1.out, HCY1.out, hw, HNS.out]
     rw [hS3] at h21
     have hcs3 : L3.cs = L0.cs ++ [⟨some ⟨ga, 0, none⟩, c, ls, b, S.used⟩] := by rw [hL21]; exact HCS2.out
     have hI3 := h21.ech n (by rw [hcs3, List.length_append, HN.out]; simp)
     rw [hcs3, show (L0.cs ++ [(⟨some ⟨ga, 0, none⟩, c, ls, b, S.used⟩ : Cw)])[n]! = ⟨some ⟨ga, 0, none⟩, c, ls, b, S.used⟩ from by rw [← HN.out]; simp] at hI3
     have FIN := Lib.hid (hbk.out _ L3 h21 (SvL.ext_trans HE2.out he21 HF2.out.size) (SvL.own_then HE2.out HF2.out hf21) hI3 ((by rw [hL21] : L3.tL = L2.tL).trans HTL2.out))
     clear hcs3 hI3
     clear h21 hf21 he21 hL21 hS3 hSx hiA1 hiB1 hfA1 hgA1 hsA1 hg21 hbk
     go_wp2_with fail
     go_ret
     exact FIN.out
    refine ReadyC.cons (o := ?or4x1u24) ?hor4x1u24 ?hstepr4x1u24 ReadyC.nil
    case hor4x1u24 => rfl
    intro K hK
    go_simp
    refine hK.out _ _ (.inr ?_) (fun hT17 => ?_)
    ·first | exact hSx.then_ hfA1 | exact hSx.alloc _ | exact hSx
    clear hK K
    try simp only [Act.put, q5, q6, q7]
    have hSx := hT17.resolve_left (by decide)
    refine R1 (i := 15) (o := ?or4x1u25) (by kernel_rfl) (by rfl) ?_
    intro K hK
    (go_simp; refine (KC1.out _).mono ?_; rintro e w5 ⟨rfl, rfl⟩; dsimp only)
    refine hK.out _ _ (.inr ?_) (fun hT18 => ?_)
    ·first | exact hSx.then_ hfA1 | exact hSx.alloc _ | exact hSx
    clear hK K
    try simp only [Act.put, q5, q6, q7]
    refine T0 (i := 16) (oi := ?or4x1u26) (v := ?vr4x1u26) (by rfl) (by kernel_rfl) (by rfl) ?yr4x1u26 hT18 ?_
    case yr4x1u26 => (intro w; go_simp <;> with_reducible rfl)
    try simp only [Act.put, q5, q6, q7]
    refine T1 (i := 17) (oi := ?or4x1u27) (v := ?vr4x1u27) [17, 22] (by rfl) (by kernel_rfl) (by rfl) ?yr4x1u27 ((hT18.more 16).resolve_left (by decide)) ?_
    case yr4x1u27 => (intro w hSw; (have s4 := hSw.cellN HN01.out HS41.out; have s1 := hSw.cellN HN11.out HS11.out; have sw := hSw.cellN HN21.out HSW1.out); go_simp <;> with_reducible rfl)
    try simp only [Act.put, q5, q6, q7]
    have hSx := ((hT18.more 16).more 17).resolve_left (by decide)
    refine R1 (i := 20) (o := ?or4x1u28) (by kernel_rfl) (by rfl) ?_
    intro K hK
    (refine step_append_int rfl _ _ rfl A91 c91 (casts l91) _ rfl (casts_len l91).symm ?hownr4x1u28 _ 1 n rfl ?hcellr4x1u28 (by rw [casts_len]; exact HLL91.out) ?_; (case hownr4x1u28 => first | exact HR91.out.drew.alloc _ | exact HR91.out.alloc _ | exact HR91.out); (case hcellr4x1u28 => simp); intro gA1 cA1 wA1 hiA1 hfA1 hgA1 hsA1)
    refine hK.out _ _ (.inr ?_) (fun hT21 => ?_)
    ·first | exact hSx.then_ hfA1 | exact hSx.alloc _ | exact hSx
    clear hK K
    try simp only [Act.put, q5, q6, q7]
    refine T0 (i := 21) (oi := ?or4x1u29) (v := ?vr4x1u29) (by rfl) (by kernel_rfl) (by rfl) ?yr4x1u29 hT21 ?_
    case yr4x1u29 => (intro w; go_simp <;> with_reducible rfl)
    try simp only [Act.put, q5, q6, q7]
    have hSx := (hT21.more 21).resolve_left (by decide)
    refine R1 (i := 22) (o := ?or4x1u30) (by kernel_rfl) (by rfl) ?_
    intro K hK
    (have sb := hSx.cellN HN21.out HSW1.out; have fb : World.frozen? _ _ = _ := (World.frozen?_of_block (hSx.block gw1 (lt_of_cell HSW1.out) HN21.out)).trans HFW91.out; go_simp)
    refine hK.out _ _ (.inl rfl) (fun hT23 => ?_)
    clear hK K
    try simp only [Act.put, q5, q6, q7]
    refine wpAnyC_done (by kernel_rfl) ?_ _
    refine NoPanic.normal ?_
    have hiB1 : Ints wA1 (some ⟨gA1, 0, none⟩) cA1 (casts (l91 ++ [n])) := by rw [← casts_app]; exact hiA1
    obtain ⟨gv1, hg21, _, _, L3, h21, he21, hf21, hL21⟩ := H2.out.wset HCYL1.out hiB1 hSx (fun j hj _ => HN91.out j hj) (fun j hj => by
     simp [blks] at hj
     subst hj
     rcases hgA1 with h5 | h5
     ·exact .inl ⟨(HR91.out.lt _ h5), HN91.out _ h5⟩
     ·right
      rw [h5]
      first | exact Nat.le_refl _ | (simp))
    obtain rfl : gw1 = gv1 := by rw [HGW1.out] at hg21; simpa using hg21
    simp only [List.length_append, List.length_singleton] at h21 hf21
    have hS3 : ((S.newc ls b).wput (lcode ls[0]!) S.list.length).wset cy1 (l91 ++ [n]) = S.attach ls b := by
     show _ = ((S.newc ls b).wput (lcode ls[0]!) S.list.length).wput (lcode ls[1]!) S.list.length
     have hw := HW91.out
     revert hw
     generalize (S.newc ls b).wput (lcode ls[0]!) S.list.length = T
     intro hw
     unfold Sv.wput Sv.wat
     rw [HY1.out, HCY1.out, hw, HNS.out]
    rw [hS3] at h21
    have hcs3 : L3.cs = L0.cs ++ [⟨some ⟨ga, 0, none⟩, c, ls, b, S.used⟩] := by rw [hL21]; exact HCS2.out
    have hI3 := h21.ech n (by rw [hcs3, List.length_append, HN.out]; simp)
    rw [hcs3, show (L0.cs ++ [(⟨some ⟨ga, 0, none⟩, c, ls, b, S.used⟩ : Cw)])[n]! = ⟨some ⟨ga, 0, none⟩, c, ls, b, S.used⟩ from by rw [← HN.out]; simp] at hI3
    have FIN := Lib.hid (hbk.out _ L3 h21 (SvL.ext_trans HE2.out he21 HF2.out.size) (SvL.own_then HE2.out HF2.out hf21) hI3 ((by rw [hL21] : L3.tL = L2.tL).trans HTL2.out))
    clear hcs3 hI3
    clear h21 hf21 he21 hL21 hS3 hSx hiA1 hiB1 hfA1 hgA1 hsA1 hg21 hbk
    go_wp2_with fail
    go_ret
    exact FIN.out
   refine ReadyC.cons (o := ?or4x1u31) ?hor4x1u31 ?hstepr4x1u31 ReadyC.nil
   case hor4x1u31 => rfl
   intro K hK
   go_simp
   refine hK.out _ _ (.inr ?_) (fun hT16 => ?_)
   ·first | exact hSx.then_ hfA1 | exact hSx.alloc _ | exact hSx
   clear hK K
   try simp only [Act.put, q5, q6, q7]
   have hSx := hT16.resolve_left (by decide)
   refine R1 (i := 7) (o := ?or4x1u32) (by kernel_rfl) (by rfl) ?_
   intro K hK
   (go_simp; refine (KC1.out _).mono ?_; rintro e w5 ⟨rfl, rfl⟩; dsimp only)
   refine hK.out _ _ (.inr ?_) (fun hT17 => ?_)
   ·first | exact hSx.then_ hfA1 | exact hSx.alloc _ | exact hSx
   clear hK K
   try simp only [Act.put, q5, q6, q7]
   have hSx := hT17.resolve_left (by decide)
   refine R1 (i := 15) (o := ?or4x1u33) (by kernel_rfl) (by rfl) ?_
   intro K hK
   (go_simp; refine (KC1.out _).mono ?_; rintro e w5 ⟨rfl, rfl⟩; dsimp only)
   refine hK.out _ _ (.inr ?_) (fun hT18 => ?_)
   ·first | exact hSx.then_ hfA1 | exact hSx.alloc _ | exact hSx
   clear hK K
   try simp only [Act.put, q5, q6, q7]
   refine T0 (i := 16) (oi := ?or4x1u34) (v := ?vr4x1u34) (by rfl) (by kernel_rfl) (by rfl) ?yr4x1u34 hT18 ?_
   case yr4x1u34 => (intro w; go_simp <;> with_reducible rfl)
   try simp only [Act.put, q5, q6, q7]
   refine T1 (i := 17) (oi := ?or4x1u35) (v := ?vr4x1u35) [17, 22] (by rfl) (by kernel_rfl) (by rfl) ?yr4x1u35 ((hT18.more 16).resolve_left (by decide)) ?_
   case yr4x1u35 => (intro w hSw; (have s4 := hSw.cellN HN01.out HS41.out; have s1 := hSw.cellN HN11.out HS11.out; have sw := hSw.cellN HN21.out HSW1.out); go_simp <;> with_reducible rfl)
   try simp only [Act.put, q5, q6, q7]
   have hSx := ((hT18.more 16).more 17).resolve_left (by decide)
   refine R1 (i := 20) (o := ?or4x1u36) (by kernel_rfl) (by rfl) ?_
   intro K hK
   (refine step_append_int rfl _ _ rfl A91 c91 (casts l91) _ rfl (casts_len l91).symm ?hownr4x1u36 _ 1 n rfl ?hcellr4x1u36 (by rw [casts_len]; exact HLL91.out) ?_; (case hownr4x1u36 => first | exact HR91.out.drew.alloc _ | exact HR91.out.alloc _ | exact HR91.out); (case hcellr4x1u36 => simp); intro gA1 cA1 wA1 hiA1 hfA1 hgA1 hsA1)
   refine hK.out _ _ (.inr ?_) (fun hT21 => ?_)
   ·first | exact hSx.then_ hfA1 | exact hSx.alloc _ | exact hSx
   clear hK K
   try simp only [Act.put, q5, q6, q7]
   refine T0 (i := 21) (oi := ?or4x1u37) (v := ?vr4x1u37) (by rfl) (by kernel_rfl) (by rfl) ?yr4x1u37 hT21 ?_
   case yr4x1u37 => (intro w; go_simp <;> with_reducible rfl)
   try simp only [Act.put, q5, q6, q7]
   have hSx := (hT21.more 21).resolve_left (by decide)
   refine R1 (i := 22) (o := ?or4x1u38) (by kernel_rfl) (by rfl) ?_
   intro K hK
   (have sb := hSx.cellN HN21.out HSW1.out; have fb : World.frozen? _ _ = _ := (World.frozen?_of_block (hSx.block gw1 (lt_of_cell HSW1.out) HN21.out)).trans HFW91.out; go_simp)
   refine hK.out _ _ (.inl rfl) (fun hT23 => ?_)
   clear hK K
   try simp only [Act.put, q5, q6, q7]
   refine wpAnyC_done (by kernel_rfl) ?_ _
   refine NoPanic.normal ?_
   have hiB1 : Ints wA1 (some ⟨gA1, 0, none⟩) cA1 (casts (l91 ++ [n])) := by rw [← casts_app]; exact hiA1
   obtain ⟨gv1, hg21, _, _, L3, h21, he21, hf21, hL21⟩ := H2.out.wset HCYL1.out hiB1 hSx (fun j hj _ => HN91.out j hj) (fun j hj => by
    simp [blks] at hj
    subst hj
    rcases hgA1 with h5 | h5
    ·exact .inl ⟨(HR91.out.lt _ h5), HN91.out _ h5⟩
    ·right
     rw [h5]
     first | exact Nat.le_refl _ | (simp))
   obtain rfl : gw1 = gv1 := by rw [HGW1.out] at hg21; simpa using hg21
   simp only [List.length_append, List.length_singleton] at h21 hf21
   have hS3 : ((S.newc ls b).wput (lcode ls[0]!) S.list.length).wset cy1 (l91 ++ [n]) = S.attach ls b := by
    show _ = ((S.newc ls b).wput (lcode ls[0]!) S.list.length).wput (lcode ls[1]!) S.list.length
    have hw := HW91.out
    revert hw
    generalize (S.newc ls b).wput (lcode ls[0]!) S.list.length = T
    intro hw
    unfold Sv.wput Sv.wat
    rw [HY1.out, HCY1.out, hw, HNS.out]
   rw [hS3] at h21
   have hcs3 : L3.cs = L0.cs ++ [⟨some ⟨ga, 0, none⟩, c, ls, b, S.used⟩] := by rw [hL21]; exact HCS2.out
   have hI3 := h21.ech n (by rw [hcs3, List.length_append, HN.out]; simp)
   rw [hcs3, show (L0.cs ++ [(⟨some ⟨ga, 0, none⟩, c, ls, b, S.used⟩ : Cw)])[n]! = ⟨some ⟨ga, 0, none⟩, c, ls, b, S.used⟩ from by rw [← HN.out]; simp] at hI3
   have FIN := Lib.hid (hbk.out _ L3 h21 (SvL.ext_trans HE2.out he21 HF2.out.size) (SvL.own_then HE2.out HF2.out hf21) hI3 ((by rw [hL21] : L3.tL = L2.tL).trans HTL2.out))
   clear hcs3 hI3
   clear h21 hf21 he21 hL21 hS3 hSx hiA1 hiB1 hfA1 hgA1 hsA1 hg21 hbk
   go_wp2_with fail
   go_ret
   exact FIN.out
  refine ReadyC.cons (o := ?or3u24) ?hor3u24 ?hstepr3u24 ReadyC.nil
  case hor3u24 => rfl
  intro K hK
  go_simp
  refine hK.out _ _ (.inr ?_) (fun hT17 => ?_)
  ·first | exact hSx.then_ hfA0 | exact hSx.alloc _ | exact hSx
  clear hK K
  try simp only [Act.put, q5, q6, q7]
  have hSx := hT17.resolve_left (by decide)
  refine R1 (i := 15) (o := ?or3u25) (by kernel_rfl) (by rfl) ?_
  intro K hK
  (go_simp; refine (KC0.out _).mono ?_; rintro e w5 ⟨rfl, rfl⟩; dsimp only)
  refine hK.out _ _ (.inr ?_) (fun hT18 => ?_)
  ·first | exact hSx.then_ hfA0 | exact hSx.alloc _ | exact hSx
  clear hK K
  try simp only [Act.put, q5, q6, q7]
  refine T0 (i := 16) (oi := ?or3u26) (v := ?vr3u26) (by rfl) (by kernel_rfl) (by rfl) ?yr3u26 hT18 ?_
  case yr3u26 => (intro w; go_simp <;> with_reducible rfl)
  try simp only [Act.put, q5, q6, q7]
  refine T1 (i := 17) (oi := ?or3u27) (v := ?vr3u27) [17, 22] (by rfl) (by kernel_rfl) (by rfl) ?yr3u27 ((hT18.more 16).resolve_left (by decide)) ?_
  case yr3u27 => (intro w hSw; (have s4 := hSw.cellN HN00.out HS40.out; have s1 := hSw.cellN HN10.out HS10.out; have sw := hSw.cellN HN20.out HSW0.out); go_simp <;> with_reducible rfl)
  try simp only [Act.put, q5, q6, q7]
  have hSx := ((hT18.more 16).more 17).resolve_left (by decide)
  refine R1 (i := 20) (o := ?or3u28) (by kernel_rfl) (by rfl) ?_
  intro K hK
  (refine step_append_int rfl _ _ rfl A90 c90 (casts l90) _ rfl (casts_len l90).symm ?hownr3u28 _ 1 n rfl ?hcellr3u28 (by rw [casts_len]; exact HLL90.out) ?_; (case hownr3u28 => first | exact HR90.out.drew.alloc _ | exact HR90.out.alloc _ | exact HR90.out); (case hcellr3u28 => simp); intro gA0 cA0 wA0 hiA0 hfA0 hgA0 hsA0)
  refine hK.out _ _ (.inr ?_) (fun hT21 => ?_)
  ·first | exact hSx.then_ hfA0 | exact hSx.alloc _ | exact hSx
  clear hK K
  try simp only [Act.put, q5, q6, q7]
  refine T0 (i := 21) (oi := ?or3u29) (v := ?vr3u29) (by rfl) (by kernel_rfl) (by rfl) ?yr3u29 hT21 ?_
  case yr3u29 => (intro w; go_simp <;> with_reducible rfl)
  try simp only [Act.put, q5, q6, q7]
  have hSx := (hT21.more 21).resolve_left (by decide)
  refine R1 (i := 22) (o := ?or3u30) (by kernel_rfl) (by rfl) ?_
  intro K hK
  (have sb := hSx.cellN HN20.out HSW0.out; have fb : World.frozen? _ _ = _ := (World.frozen?_of_block (hSx.block gw0 (lt_of_cell HSW0.out) HN20.out)).trans HFW90.out; go_simp)
  refine hK.out _ _ (.inl rfl) (fun hT23 => ?_)
  clear hK K
  try simp only [Act.put, q5, q6, q7]
  refine wpAnyC_done (by kernel_rfl) ?_ _
  refine NoPanic.normal ?_
  have hiB0 : Ints wA0 (some ⟨gA0, 0, none⟩) cA0 (casts (l90 ++ [n])) := by rw [← casts_app]; exact hiA0
  obtain ⟨gv0, hg20, _, _, L2, h20, he20, hf20, hL20⟩ := H1.out.wset HCYL0.out hiB0 hSx (fun j hj _ => HN90.out j hj) (fun j hj => by
   simp [blks] at hj
   subst hj
   rcases hgA0 with h5 | h5
   ·exact .inl ⟨(HR90.out.lt _ h5), HN90.out _ h5⟩
   ·right
    rw [h5]
    first | exact Nat.le_refl _ | (simp))
  obtain rfl : gw0 = gv0 := by rw [HGW0.out] at hg20; simpa using hg20
  simp only [List.length_append, List.length_singleton] at h20 hf20
  obtain ⟨W2, hW2⟩ : ∃ W, wA0.setCell ⟨gw0, cy0, none⟩ (.slice (some ⟨gA0, 0, none⟩) (l90.length + 1) cA0) = W := ⟨_, rfl⟩
  rw [hW2] at h20 hf20 ⊢
  have hS2 : (S.newc ls b).wset cy0 (l90 ++ [n]) = (S.newc ls b).wput (lcode ls[0]!) S.list.length := by
   unfold Sv.wput Sv.wat
   rw [HY0.out, HCY0.out, HW90.out, HNS.out]
  rw [hS2] at h20
  have hcs2 : L2.cs = L1.cs := by rw [hL20]
  have HTL2 : Hid (L2.tL = L0.tL) := (by rw [hL20] : L2.tL = L1.tL).trans HTL1.out
  have HCS2 : Hid (L2.cs = L0.cs ++ [⟨some ⟨ga, 0, none⟩, c, ls, b, S.used⟩]) := hcs2.trans HCS1.out
  have HEA1 : Hid (L2.a = L.a) := (he20.1.trans HEA0'.out : L2.a = L.a)
  have HIW1 : Hid (Ints W2 (some ⟨ga, 0, none⟩) c ls) := by
   have := h20.ech n (by rw [hcs2, HCS1.out, List.length_append, HN.out]; simp)
   rw [hcs2, HXN.out] at this
   exact this
  have HLG1 : Hid (L2.lab ga = (L2.id, 8, n)) := h20.t8 n (by rw [hcs2, HCS1.out, List.length_append, HN.out]; simp) ga (by rw [hcs2, HXN.out]; simp [blks])
  have HE2 := Lib.hid (SvL.ext_trans HE1.out he20 HF1.out.size)
  have HF2 := Lib.hid (SvL.own_then HE1.out HF1.out hf20)
  have H2 := Lib.hid h20
  clear hW2 h20 hf20 he20 hL20 hcs2 hSx hiA0 hiB0 hfA0 hgA0 hsA0 hg20
  clear HFRW0 HS40 HS10 HSW0 HFW90 HR90 HN90 HN00 HN10 HN20
  go_wp2_with fail
  clear KC0
  obtain ⟨y1, hy1⟩ : ∃ y, ls[1]! = y := ⟨_, rfl⟩
  have hyb1 := HFIT.out.lit _ (get_mem (l := ls) (i := 1) (by omega))
  rw [hy1] at hyb1
  obtain ⟨-, hya1, hyz1⟩ := hyb1
  have hcy1 : lcode y1 < L2.ws.length := by
   rw [H2.out.lenw, HOK1.out.wl]
   exact code_lt (v := S.vars) hya1 hyz1
  obtain ⟨cy1, hcz1⟩ : ∃ c, lcode y1 = c := ⟨_, rfl⟩
  have hvl1 := HVL.out
  have KC1 := Lib.hid (fun W' => code_calls W' y1 (by omega) (by omega))
  have HCY1 := Lib.hid hcz1
  simp only [hcz1] at KC1
  rw [hcz1] at hcy1
  obtain ⟨gw1, hgw1, sw1, fw1⟩ := H2.out.whd hcy1
  have hr91 := H2.out.ewh cy1 hcy1
  have hl91 := HOK1.out.room cy1
  have hw91 := H2.out.wat_eq hcy1
  unfold Sv.wat at hw91
  rw [hw91] at hl91
  have hn91 : ∀ j, j ∈ blks (L2.ws[cy1]!).A → L2.lab j = (L2.id, 9, cy1) := H2.out.t9 cy1 hcy1
  obtain ⟨⟨A91, c91, l91⟩, hx91⟩ : ∃ x, L2.ws[cy1]! = x := ⟨_, rfl⟩
  rw [hx91] at sw1 hr91 hl91 hw91 hn91
  simp only at sw1 hr91 hl91 hw91 hn91
  obtain ⟨-, -, -, -, s41, -⟩ := H2.out.cells
  rw [hgw1, HEA1.out] at s41
  have HN01 : Hid (L.a ∉ blks A91) := fun hm => by
   have e1 := hn91 _ hm
   rw [← HEA1.out, H2.out.t0] at e1
   simp at e1
  have HN11 : Hid (ga ∉ blks A91) := fun hm => by
   have e1 := hn91 _ hm
   rw [HLG1.out] at e1
   simp at e1
  have HN21 : Hid (gw1 ∉ blks A91) := fun hm => by
   have e1 := hn91 _ hm
   rw [H2.out.t4 gw1 (by rw [hgw1]; simp [blks])] at e1
   simp at e1
  have s11 : W2.cell? ⟨ga, 1, none⟩ = some (.int .i64 y1) := by rw [HIW1.out.cell (i := 1) (by omega), hy1]
  have HS41 := Lib.hid s41
  have HS11 := Lib.hid s11
  have HSW1 := Lib.hid sw1
  have HFW91 := Lib.hid fw1
  have HR91 := Lib.hid hr91
  have HN91 := Lib.hid hn91
  have HW91 := Lib.hid hw91
  have HGW1 := Lib.hid hgw1
  have HCYL1 := Lib.hid hcy1
  have hcyi1 : cy1 < L2.ws.length := hcy1
  have hcyj1 : (cy1 : Int) < (L2.ws.length : Int) := by omega
  have hls1 : (1 : Int) < (ls.length : Int) := by omega
  have hlsn1 : 1 < ls.length := by omega
  have HLL91 : Hid (l91.length < 17592186044416) := (by omega : l91.length < 17592186044416)
  have HFRW1 : Hid (Fr (blks A91) W2 W2) := Fr.refl _ _
  have HY1 := Lib.hid hy1
  clear hgw1 hcy1 hr91 hl91 hw91 hn91 hx91 s41 s11 sw1 fw1 hcz1 hy1
  go_upto_region 4 with fail
  refine wp_region_noPanic ?_
  refine wp_region_C (fun w' : World => Fr (blks A91) W2 w') 22 (by kernel_rfl) (HFRW1.out.drew) (fun hT0 => ?_)
  refine T0 (i := 0) (oi := ?or4x2u1) (v := ?vr4x2u1) (by rfl) (by kernel_rfl) (by rfl) ?yr4x2u1 hT0 ?_
  case yr4x2u1 => (intro w; go_simp <;> with_reducible rfl)
  try simp only [Act.put, q5, q6, q7]
  refine T0 (i := 1) (oi := ?or4x2u2) (v := ?vr4x2u2) (by rfl) (by kernel_rfl) (by rfl) ?yr4x2u2 (hT0.more 0) ?_
  case yr4x2u2 => (intro w; go_simp <;> with_reducible rfl)
  try simp only [Act.put, q5, q6, q7]
  refine T0 (i := 2) (oi := ?or4x2u3) (v := ?vr4x2u3) (by rfl) (by kernel_rfl) (by rfl) ?yr4x2u3 ((hT0.more 0).more 1) ?_
  case yr4x2u3 => (intro w; go_simp <;> with_reducible rfl)
  try simp only [Act.put, q5, q6, q7]
  refine T1 (i := 3) (oi := ?or4x2u4) (v := ?vr4x2u4) [3, 22] (by rfl) (by kernel_rfl) (by rfl) ?yr4x2u4 ((((hT0.more 0).more 1).more 2).resolve_left (by decide)) ?_
  case yr4x2u4 => (intro w hSw; (have s4 := hSw.cellN HN01.out HS41.out; have s1 := hSw.cellN HN11.out HS11.out; have sw := hSw.cellN HN21.out HSW1.out); go_simp <;> with_reducible rfl)
  try simp only [Act.put, q5, q6, q7]
  refine T0 (i := 4) (oi := ?or4x2u5) (v := ?vr4x2u5) (by rfl) (by kernel_rfl) (by rfl) ?yr4x2u5 ((((hT0.more 0).more 1).more 2).more 3) ?_
  case yr4x2u5 => (intro w; go_simp <;> with_reducible rfl)
  try simp only [Act.put, q5, q6, q7]
  refine T0 (i := 5) (oi := ?or4x2u6) (v := ?vr4x2u6) (by rfl) (by kernel_rfl) (by rfl) ?yr4x2u6 (((((hT0.more 0).more 1).more 2).more 3).more 4) ?_
  case yr4x2u6 => (intro w; go_simp <;> with_reducible rfl)
  try simp only [Act.put, q5, q6, q7]
  refine T1 (i := 6) (oi := ?or4x2u7) (v := ?vr4x2u7) [6, 22] (by rfl) (by kernel_rfl) (by rfl) ?yr4x2u7 (((((((hT0.more 0).more 1).more 2).more 3).more 4).more 5).resolve_left (by decide)) ?_
  case yr4x2u7 => (intro w hSw; (have s4 := hSw.cellN HN01.out HS41.out; have s1 := hSw.cellN HN11.out HS11.out; have sw := hSw.cellN HN21.out HSW1.out); go_simp <;> with_reducible rfl)
  try simp only [Act.put, q5, q6, q7]
  refine T0 (i := 8) (oi := ?or4x2u8) (v := ?vr4x2u8) (by rfl) (by kernel_rfl) (by rfl) ?yr4x2u8 (((((((hT0.more 0).more 1).more 2).more 3).more 4).more 5).more 6) ?_
  case yr4x2u8 => (intro w; go_simp <;> with_reducible rfl)
  try simp only [Act.put, q5, q6, q7]
  refine T0 (i := 9) (oi := ?or4x2u9) (v := ?vr4x2u9) (by rfl) (by kernel_rfl) (by rfl) ?yr4x2u9 ((((((((hT0.more 0).more 1).more 2).more 3).more 4).more 5).more 6).more 8) ?_
  case yr4x2u9 => (intro w; go_simp <;> with_reducible rfl)
  try simp only [Act.put, q5, q6, q7]
  refine T0 (i := 10) (oi := ?or4x2u10) (v := ?vr4x2u10) (by rfl) (by kernel_rfl) (by rfl) ?yr4x2u10 (((((((((hT0.more 0).more 1).more 2).more 3).more 4).more 5).more 6).more 8).more 9) ?_
  case yr4x2u10 => (intro w; go_simp <;> with_reducible rfl)
  try simp only [Act.put, q5, q6, q7]
  refine T1 (i := 11) (oi := ?or4x2u11) (v := ?vr4x2u11) [11, 22] (by rfl) (by kernel_rfl) (by rfl) ?yr4x2u11 (((((((((((hT0.more 0).more 1).more 2).more 3).more 4).more 5).more 6).more 8).more 9).more 10).resolve_left (by decide)) ?_
  case yr4x2u11 => (intro w hSw; (have s4 := hSw.cellN HN01.out HS41.out; have s1 := hSw.cellN HN11.out HS11.out; have sw := hSw.cellN HN21.out HSW1.out); go_simp <;> with_reducible rfl)
  try simp only [Act.put, q5, q6, q7]
  refine T0 (i := 12) (oi := ?or4x2u12) (v := ?vr4x2u12) (by rfl) (by kernel_rfl) (by rfl) ?yr4x2u12 (((((((((((hT0.more 0).more 1).more 2).more 3).more 4).more 5).more 6).more 8).more 9).more 10).more 11) ?_
  case yr4x2u12 => (intro w; go_simp <;> with_reducible rfl)
  try simp only [Act.put, q5, q6, q7]
  refine T0 (i := 13) (oi := ?or4x2u13) (v := ?vr4x2u13) (by rfl) (by kernel_rfl) (by rfl) ?yr4x2u13 ((((((((((((hT0.more 0).more 1).more 2).more 3).more 4).more 5).more 6).more 8).more 9).more 10).more 11).more 12) ?_
  case yr4x2u13 => (intro w; go_simp <;> with_reducible rfl)
  try simp only [Act.put, q5, q6, q7]
  refine T1 (i := 14) (oi := ?or4x2u14) (v := ?vr4x2u14) [14, 22] (by rfl) (by kernel_rfl) (by rfl) ?yr4x2u14 ((((((((((((((hT0.more 0).more 1).more 2).more 3).more 4).more 5).more 6).more 8).more 9).more 10).more 11).more 12).more 13).resolve_left (by decide)) ?_
  case yr4x2u14 => (intro w hSw; (have s4 := hSw.cellN HN01.out HS41.out; have s1 := hSw.cellN HN11.out HS11.out; have sw := hSw.cellN HN21.out HSW1.out); go_simp <;> with_reducible rfl)
  try simp only [Act.put, q5, q6, q7]
  refine T0 (i := 18) (oi := ?or4x2u15) (v := ?vr4x2u15) (by rfl) (by kernel_rfl) (by rfl) ?yr4x2u15 ((((((((((((((hT0.more 0).more 1).more 2).more 3).more 4).more 5).more 6).more 8).more 9).more 10).more 11).more 12).more 13).more 14) ?_
  case yr4x2u15 => (intro w; go_simp <;> with_reducible rfl)
  try simp only [Act.put, q5, q6, q7]
  have hSx := (((((((((((((((hT0.more 0).more 1).more 2).more 3).more 4).more 5).more 6).more 8).more 9).more 10).more 11).more 12).more 13).more 14).more 18).resolve_left (by decide)
  refine wpAnyC_ready (rs := [7, 19]) (by kernel_rfl) (by simp) ?_
  refine ReadyC.cons (o := ?or4x2u16) ?hor4x2u16 ?hstepr4x2u16 ?_
  case hor4x2u16 => rfl
  case hstepr4x2u16 =>
   intro K hK
   (go_simp; refine (KC1.out _).mono ?_; rintro e w5 ⟨rfl, rfl⟩; dsimp only)
   refine hK.out _ _ (.inr ?_) (fun hT16 => ?_)
   ·first | exact hSx.then_ hfA1 | exact hSx.alloc _ | exact hSx
   clear hK K
   try simp only [Act.put, q5, q6, q7]
   have hSx := hT16.resolve_left (by decide)
   refine wpAnyC_ready (rs := [15, 19]) (by kernel_rfl) (by simp) ?_
   refine ReadyC.cons (o := ?or4x2u17) ?hor4x2u17 ?hstepr4x2u17 ?_
   case hor4x2u17 => rfl
   case hstepr4x2u17 =>
    intro K hK
    (go_simp; refine (KC1.out _).mono ?_; rintro e w5 ⟨rfl, rfl⟩; dsimp only)
    refine hK.out _ _ (.inr ?_) (fun hT17 => ?_)
    ·first | exact hSx.then_ hfA1 | exact hSx.alloc _ | exact hSx
    clear hK K
    try simp only [Act.put, q5, q6, q7]
    refine T0 (i := 16) (oi := ?or4x2u18) (v := ?vr4x2u18) (by rfl) (by kernel_rfl) (by rfl) ?yr4x2u18 hT17 ?_
    case yr4x2u18 => (intro w; go_simp <;> with_reducible rfl)
    try simp only [Act.put, q5, q6, q7]
    refine T1 (i := 17) (oi := ?or4x2u19) (v := ?vr4x2u19) [17, 22] (by rfl) (by kernel_rfl) (by rfl) ?yr4x2u19 ((hT17.more 16).resolve_left (by decide)) ?_
    case yr4x2u19 => (intro w hSw; (have s4 := hSw.cellN HN01.out HS41.out; have s1 := hSw.cellN HN11.out HS11.out; have sw := hSw.cellN HN21.out HSW1.out); go_simp <;> with_reducible rfl)
    try simp only [Act.put, q5, q6, q7]
    have hSx := ((hT17.more 16).more 17).resolve_left (by decide)
    refine R1 (i := 19) (o := ?or4x2u20) (by kernel_rfl) (by rfl) ?_
    intro K hK
    go_simp
    refine hK.out _ _ (.inr ?_) (fun hT20 => ?_)
    ·first | exact hSx.then_ hfA1 | exact hSx.alloc _ | exact hSx
    clear hK K
    try simp only [Act.put, q5, q6, q7]
    have hSx := hT20.resolve_left (by decide)
    refine R1 (i := 20) (o := ?or4x2u21) (by kernel_rfl) (by rfl) ?_
    intro K hK
    (refine step_append_int rfl _ _ rfl A91 c91 (casts l91) _ rfl (casts_len l91).symm ?hownr4x2u21 _ 1 n rfl ?hcellr4x2u21 (by rw [casts_len]; exact HLL91.out) ?_; (case hownr4x2u21 => first | exact HR91.out.drew.alloc _ | exact HR91.out.alloc _ | exact HR91.out); (case hcellr4x2u21 => simp); intro gA1 cA1 wA1 hiA1 hfA1 hgA1 hsA1)
    refine hK.out _ _ (.inr ?_) (fun hT21 => ?_)
    ·first | exact hSx.then_ hfA1 | exact hSx.alloc _ | exact hSx
    clear hK K
    try simp only [Act.put, q5, q6, q7]
    refine T0 (i := 21) (oi := ?or4x2u22) (v := ?vr4x2u22) (by rfl) (by kernel_rfl) (by rfl) ?yr4x2u22 hT21 ?_
    case yr4x2u22 => (intro w; go_simp <;> with_reducible rfl)
    try simp only [Act.put, q5, q6, q7]
    have hSx := (hT21.more 21).resolve_left (by decide)
    refine R1 (i := 22) (o := ?or4x2u23) (by kernel_rfl) (by rfl) ?_
    intro K hK
    (have sb := hSx.cellN HN21.out HSW1.out; have fb : World.frozen? _ _ = _ := (World.frozen?_of_block (hSx.block gw1 (lt_of_cell HSW1.out) HN21.out)).trans HFW91.out; go_simp)
    refine hK.out _ _ (.inl rfl) (fun hT23 => ?_)
    clear hK K
    try simp only [Act.put, q5, q6, q7]
    refine wpAnyC_done (by kernel_rfl) ?_ _
    refine NoPanic.normal ?_
    have hiB1 : Ints wA1 (some ⟨gA1, 0, none⟩) cA1 (casts (l91 ++ [n])) := by rw [← casts_app]; exact hiA1
    obtain ⟨gv1, hg21, _, _, L3, h21, he21, hf21, hL21⟩ := H2.out.wset HCYL1.out hiB1 hSx (fun j hj _ => HN91.out j hj) (fun j hj => by
     simp [blks] at hj
     subst hj
     rcases hgA1 with h5 | h5
     ·exact .inl ⟨(HR91.out.lt _ h5), HN91.out _ h5⟩
     ·right
      rw [h5]
      first | exact Nat.le_refl _ | (simp))
    obtain rfl : gw1 = gv1 := by rw [HGW1.out] at hg21; simpa using hg21
    simp only [List.length_append, List.length_singleton] at h21 hf21
    have hS3 : ((S.newc ls b).wput (lcode ls[0]!) S.list.length).wset cy1 (l91 ++ [n]) = S.attach ls b := by
     show _ = ((S.newc ls b).wput (lcode ls[0]!) S.list.length).wput (lcode ls[1]!) S.list.length
     have hw := HW91.out
     revert hw
     generalize (S.newc ls b).wput (lcode ls[0]!) S.list.length = T
     intro hw
     unfold Sv.wput Sv.wat
     rw [HY1.out, HCY1.out, hw, HNS.out]
    rw [hS3] at h21
    have hcs3 : L3.cs = L0.cs ++ [⟨some ⟨ga, 0, none⟩, c, ls, b, S.used⟩] := by rw [hL21]; exact HCS2.out
    have hI3 := h21.ech n (by rw [hcs3, List.length_append, HN.out]; simp)
    rw [hcs3, show (L0.cs ++ [(⟨some ⟨ga, 0, none⟩, c, ls, b, S.used⟩ : Cw)])[n]! = ⟨some ⟨ga, 0, none⟩, c, ls, b, S.used⟩ from by rw [← HN.out]; simp] at hI3
    have FIN := Lib.hid (hbk.out _ L3 h21 (SvL.ext_trans HE2.out he21 HF2.out.size) (SvL.own_then HE2.out HF2.out hf21) hI3 ((by rw [hL21] : L3.tL = L2.tL).trans HTL2.out))
    clear hcs3 hI3
    clear h21 hf21 he21 hL21 hS3 hSx hiA1 hiB1 hfA1 hgA1 hsA1 hg21 hbk
    go_wp2_with fail
    go_ret
    exact FIN.out
   refine ReadyC.cons (o := ?or4x2u24) ?hor4x2u24 ?hstepr4x2u24 ReadyC.nil
   case hor4x2u24 => rfl
   intro K hK
   go_simp
   refine hK.out _ _ (.inr ?_) (fun hT17 => ?_)
   ·first | exact hSx.then_ hfA1 | exact hSx.alloc _ | exact hSx
   clear hK K
   try simp only [Act.put, q5, q6, q7]
   have hSx := hT17.resolve_left (by decide)
   refine R1 (i := 15) (o := ?or4x2u25) (by kernel_rfl) (by rfl) ?_
   intro K hK
   (go_simp; refine (KC1.out _).mono ?_; rintro e w5 ⟨rfl, rfl⟩; dsimp only)
   refine hK.out _ _ (.inr ?_) (fun hT18 => ?_)
   ·first | exact hSx.then_ hfA1 | exact hSx.alloc _ | exact hSx
   clear hK K
   try simp only [Act.put, q5, q6, q7]
   refine T0 (i := 16) (oi := ?or4x2u26) (v := ?vr4x2u26) (by rfl) (by kernel_rfl) (by rfl) ?yr4x2u26 hT18 ?_
   case yr4x2u26 => (intro w; go_simp <;> with_reducible rfl)
   try simp only [Act.put, q5, q6, q7]
   refine T1 (i := 17) (oi := ?or4x2u27) (v := ?vr4x2u27) [17, 22] (by rfl) (by kernel_rfl) (by rfl) ?yr4x2u27 ((hT18.more 16).resolve_left (by decide)) ?_
   case yr4x2u27 => (intro w hSw; (have s4 := hSw.cellN HN01.out HS41.out; have s1 := hSw.cellN HN11.out HS11.out; have sw := hSw.cellN HN21.out HSW1.out); go_simp <;> with_reducible rfl)
   try simp only [Act.put, q5, q6, q7]
   have hSx := ((hT18.more 16).more 17).resolve_left (by decide)
   refine R1 (i := 20) (o := ?or4x2u28) (by kernel_rfl) (by rfl) ?_
   intro K hK
   (refine step_append_int rfl _ _ rfl A91 c91 (casts l91) _ rfl (casts_len l91).symm ?hownr4x2u28 _ 1 n rfl ?hcellr4x2u28 (by rw [casts_len]; exact HLL91.out) ?_; (case hownr4x2u28 => first | exact HR91.out.drew.alloc _ | exact HR91.out.alloc _ | exact HR91.out); (case hcellr4x2u28 => simp); intro gA1 cA1 wA1 hiA1 hfA1 hgA1 hsA1)
   refine hK.out _ _ (.inr ?_) (fun hT21 => ?_)
   ·first | exact hSx.then_ hfA1 | exact hSx.alloc _ | exact hSx
   clear hK K
   try simp only [Act.put, q5, q6, q7]
   refine T0 (i := 21) (oi := ?or4x2u29) (v := ?vr4x2u29) (by rfl) (by kernel_rfl) (by rfl) ?yr4x2u29 hT21 ?_
   case yr4x2u29 => (intro w; go_simp <;> with_reducible rfl)
   try simp only [Act.put, q5, q6, q7]
   have hSx := (hT21.more 21).resolve_left (by decide)
   refine R1 (i := 22) (o := ?or4x2u30) (by kernel_rfl) (by rfl) ?_
   intro K hK
   (have sb := hSx.cellN HN21.out HSW1.out; have fb : World.frozen? _ _ = _ := (World.frozen?_of_block (hSx.block gw1 (lt_of_cell HSW1.out) HN21.out)).trans HFW91.out; go_simp)
   refine hK.out _ _ (.inl rfl) (fun hT23 => ?_)
   clear hK K
   try simp only [Act.put, q5, q6, q7]
   refine wpAnyC_done (by kernel_rfl) ?_ _
   refine NoPanic.normal ?_
   have hiB1 : Ints wA1 (some ⟨gA1, 0, none⟩) cA1 (casts (l91 ++ [n])) := by rw [← casts_app]; exact hiA1
   obtain ⟨gv1, hg21, _, _, L3, h21, he21, hf21, hL21⟩ := H2.out.wset HCYL1.out hiB1 hSx (fun j hj _ => HN91.out j hj) (fun j hj => by
    simp [blks] at hj
    subst hj
    rcases hgA1 with h5 | h5
    ·exact .inl ⟨(HR91.out.lt _ h5), HN91.out _ h5⟩
    ·right
     rw [h5]
     first | exact Nat.le_refl _ | (simp))
   obtain rfl : gw1 = gv1 := by rw [HGW1.out] at hg21; simpa using hg21
   simp only [List.length_append, List.length_singleton] at h21 hf21
   have hS3 : ((S.newc ls b).wput (lcode ls[0]!) S.list.length).wset cy1 (l91 ++ [n]) = S.attach ls b := by
    show _ = ((S.newc ls b).wput (lcode ls[0]!) S.list.length).wput (lcode ls[1]!) S.list.length
    have hw := HW91.out
    revert hw
    generalize (S.newc ls b).wput (lcode ls[0]!) S.list.length = T
    intro hw
    unfold Sv.wput Sv.wat
    rw [HY1.out, HCY1.out, hw, HNS.out]
   rw [hS3] at h21
   have hcs3 : L3.cs = L0.cs ++ [⟨some ⟨ga, 0, none⟩, c, ls, b, S.used⟩] := by rw [hL21]; exact HCS2.out
   have hI3 := h21.ech n (by rw [hcs3, List.length_append, HN.out]; simp)
   rw [hcs3, show (L0.cs ++ [(⟨some ⟨ga, 0, none⟩, c, ls, b, S.used⟩ : Cw)])[n]! = ⟨some ⟨ga, 0, none⟩, c, ls, b, S.used⟩ from by rw [← HN.out]; simp] at hI3
   have FIN := Lib.hid (hbk.out _ L3 h21 (SvL.ext_trans HE2.out he21 HF2.out.size) (SvL.own_then HE2.out HF2.out hf21) hI3 ((by rw [hL21] : L3.tL = L2.tL).trans HTL2.out))
   clear hcs3 hI3
   clear h21 hf21 he21 hL21 hS3 hSx hiA1 hiB1 hfA1 hgA1 hsA1 hg21 hbk
   go_wp2_with fail
   go_ret
   exact FIN.out
  refine ReadyC.cons (o := ?or4x2u31) ?hor4x2u31 ?hstepr4x2u31 ReadyC.nil
  case hor4x2u31 => rfl
  intro K hK
  go_simp
  refine hK.out _ _ (.inr ?_) (fun hT16 => ?_)
  ·first | exact hSx.then_ hfA1 | exact hSx.alloc _ | exact hSx
  clear hK K
  try simp only [Act.put, q5, q6, q7]
  have hSx := hT16.resolve_left (by decide)
  refine R1 (i := 7) (o := ?or4x2u32) (by kernel_rfl) (by rfl) ?_
  intro K hK
  (go_simp; refine (KC1.out _).mono ?_; rintro e w5 ⟨rfl, rfl⟩; dsimp only)
  refine hK.out _ _ (.inr ?_) (fun hT17 => ?_)
  ·first | exact hSx.then_ hfA1 | exact hSx.alloc _ | exact hSx
  clear hK K
  try simp only [Act.put, q5, q6, q7]
  have hSx := hT17.resolve_left (by decide)
  refine R1 (i := 15) (o := ?or4x2u33) (by kernel_rfl) (by rfl) ?_
  intro K hK
  (go_simp; refine (KC1.out _).mono ?_; rintro e w5 ⟨rfl, rfl⟩; dsimp only)
  refine hK.out _ _ (.inr ?_) (fun hT18 => ?_)
  ·first | exact hSx.then_ hfA1 | exact hSx.alloc _ | exact hSx
  clear hK K
  try simp only [Act.put, q5, q6, q7]
  refine T0 (i := 16) (oi := ?or4x2u34) (v := ?vr4x2u34) (by rfl) (by kernel_rfl) (by rfl) ?yr4x2u34 hT18 ?_
  case yr4x2u34 => (intro w; go_simp <;> with_reducible rfl)
  try simp only [Act.put, q5, q6, q7]
  refine T1 (i := 17) (oi := ?or4x2u35) (v := ?vr4x2u35) [17, 22] (by rfl) (by kernel_rfl) (by rfl) ?yr4x2u35 ((hT18.more 16).resolve_left (by decide)) ?_
  case yr4x2u35 => (intro w hSw; (have s4 := hSw.cellN HN01.out HS41.out; have s1 := hSw.cellN HN11.out HS11.out; have sw := hSw.cellN HN21.out HSW1.out); go_simp <;> with_reducible rfl)
  try simp only [Act.put, q5, q6, q7]
  have hSx := ((hT18.more 16).more 17).resolve_left (by decide)
  refine R1 (i := 20) (o := ?or4x2u36) (by kernel_rfl) (by rfl) ?_
  intro K hK
  (refine step_append_int rfl _ _ rfl A91 c91 (casts l91) _ rfl (casts_len l91).symm ?hownr4x2u36 _ 1 n rfl ?hcellr4x2u36 (by rw [casts_len]; exact HLL91.out) ?_; (case hownr4x2u36 => first | exact HR91.out.drew.alloc _ | exact HR91.out.alloc _ | exact HR91.out); (case hcellr4x2u36 => simp); intro gA1 cA1 wA1 hiA1 hfA1 hgA1 hsA1)
  refine hK.out _ _ (.inr ?_) (fun hT21 => ?_)
  ·first | exact hSx.then_ hfA1 | exact hSx.alloc _ | exact hSx
  clear hK K
  try simp only [Act.put, q5, q6, q7]
  refine T0 (i := 21) (oi := ?or4x2u37) (v := ?vr4x2u37) (by rfl) (by kernel_rfl) (by rfl) ?yr4x2u37 hT21 ?_
  case yr4x2u37 => (intro w; go_simp <;> with_reducible rfl)
  try simp only [Act.put, q5, q6, q7]
  have hSx := (hT21.more 21).resolve_left (by decide)
  refine R1 (i := 22) (o := ?or4x2u38) (by kernel_rfl) (by rfl) ?_
  intro K hK
  (have sb := hSx.cellN HN21.out HSW1.out; have fb : World.frozen? _ _ = _ := (World.frozen?_of_block (hSx.block gw1 (lt_of_cell HSW1.out) HN21.out)).trans HFW91.out; go_simp)
  refine hK.out _ _ (.inl rfl) (fun hT23 => ?_)
  clear hK K
  try simp only [Act.put, q5, q6, q7]
  refine wpAnyC_done (by kernel_rfl) ?_ _
  refine NoPanic.normal ?_
  have hiB1 : Ints wA1 (some ⟨gA1, 0, none⟩) cA1 (casts (l91 ++ [n])) := by rw [← casts_app]; exact hiA1
  obtain ⟨gv1, hg21, _, _, L3, h21, he21, hf21, hL21⟩ := H2.out.wset HCYL1.out hiB1 hSx (fun j hj _ => HN91.out j hj) (fun j hj => by
   simp [blks] at hj
   subst hj
   rcases hgA1 with h5 | h5
   ·exact .inl ⟨(HR91.out.lt _ h5), HN91.out _ h5⟩
   ·right
    rw [h5]
    first | exact Nat.le_refl _ | (simp))
  obtain rfl : gw1 = gv1 := by rw [HGW1.out] at hg21; simpa using hg21
  simp only [List.length_append, List.length_singleton] at h21 hf21
  have hS3 : ((S.newc ls b).wput (lcode ls[0]!) S.list.length).wset cy1 (l91 ++ [n]) = S.attach ls b := by
   show _ = ((S.newc ls b).wput (lcode ls[0]!) S.list.length).wput (lcode ls[1]!) S.list.length
   have hw := HW91.out
   revert hw
   generalize (S.newc ls b).wput (lcode ls[0]!) S.list.length = T
   intro hw
   unfold Sv.wput Sv.wat
   rw [HY1.out, HCY1.out, hw, HNS.out]
  rw [hS3] at h21
  have hcs3 : L3.cs = L0.cs ++ [⟨some ⟨ga, 0, none⟩, c, ls, b, S.used⟩] := by rw [hL21]; exact HCS2.out
  have hI3 := h21.ech n (by rw [hcs3, List.length_append, HN.out]; simp)
  rw [hcs3, show (L0.cs ++ [(⟨some ⟨ga, 0, none⟩, c, ls, b, S.used⟩ : Cw)])[n]! = ⟨some ⟨ga, 0, none⟩, c, ls, b, S.used⟩ from by rw [← HN.out]; simp] at hI3
  have FIN := Lib.hid (hbk.out _ L3 h21 (SvL.ext_trans HE2.out he21 HF2.out.size) (SvL.own_then HE2.out HF2.out hf21) hI3 ((by rw [hL21] : L3.tL = L2.tL).trans HTL2.out))
  clear hcs3 hI3
  clear h21 hf21 he21 hL21 hS3 hSx hiA1 hiB1 hfA1 hgA1 hsA1 hg21 hbk
  go_wp2_with fail
  go_ret
  exact FIN.out
 refine ReadyC.cons (o := ?or3u31) ?hor3u31 ?hstepr3u31 ReadyC.nil
 case hor3u31 => rfl
 intro K hK
 go_simp
 refine hK.out _ _ (.inr ?_) (fun hT16 => ?_)
 ·first | exact hSx.then_ hfA0 | exact hSx.alloc _ | exact hSx
 clear hK K
 try simp only [Act.put, q5, q6, q7]
 have hSx := hT16.resolve_left (by decide)
 refine R1 (i := 7) (o := ?or3u32) (by kernel_rfl) (by rfl) ?_
 intro K hK
 (go_simp; refine (KC0.out _).mono ?_; rintro e w5 ⟨rfl, rfl⟩; dsimp only)
 refine hK.out _ _ (.inr ?_) (fun hT17 => ?_)
 ·first | exact hSx.then_ hfA0 | exact hSx.alloc _ | exact hSx
 clear hK K
 try simp only [Act.put, q5, q6, q7]
 have hSx := hT17.resolve_left (by decide)
 refine R1 (i := 15) (o := ?or3u33) (by kernel_rfl) (by rfl) ?_
 intro K hK
 (go_simp; refine (KC0.out _).mono ?_; rintro e w5 ⟨rfl, rfl⟩; dsimp only)
 refine hK.out _ _ (.inr ?_) (fun hT18 => ?_)
 ·first | exact hSx.then_ hfA0 | exact hSx.alloc _ | exact hSx
 clear hK K
 try simp only [Act.put, q5, q6, q7]
 refine T0 (i := 16) (oi := ?or3u34) (v := ?vr3u34) (by rfl) (by kernel_rfl) (by rfl) ?yr3u34 hT18 ?_
 case yr3u34 => (intro w; go_simp <;> with_reducible rfl)
 try simp only [Act.put, q5, q6, q7]
 refine T1 (i := 17) (oi := ?or3u35) (v := ?vr3u35) [17, 22] (by rfl) (by kernel_rfl) (by rfl) ?yr3u35 ((hT18.more 16).resolve_left (by decide)) ?_
 case yr3u35 => (intro w hSw; (have s4 := hSw.cellN HN00.out HS40.out; have s1 := hSw.cellN HN10.out HS10.out; have sw := hSw.cellN HN20.out HSW0.out); go_simp <;> with_reducible rfl)
 try simp only [Act.put, q5, q6, q7]
 have hSx := ((hT18.more 16).more 17).resolve_left (by decide)
 refine R1 (i := 20) (o := ?or3u36) (by kernel_rfl) (by rfl) ?_
 intro K hK
 (refine step_append_int rfl _ _ rfl A90 c90 (casts l90) _ rfl (casts_len l90).symm ?hownr3u36 _ 1 n rfl ?hcellr3u36 (by rw [casts_len]; exact HLL90.out) ?_; (case hownr3u36 => first | exact HR90.out.drew.alloc _ | exact HR90.out.alloc _ | exact HR90.out); (case hcellr3u36 => simp); intro gA0 cA0 wA0 hiA0 hfA0 hgA0 hsA0)
 refine hK.out _ _ (.inr ?_) (fun hT21 => ?_)
 ·first | exact hSx.then_ hfA0 | exact hSx.alloc _ | exact hSx
 clear hK K
 try simp only [Act.put, q5, q6, q7]
 refine T0 (i := 21) (oi := ?or3u37) (v := ?vr3u37) (by rfl) (by kernel_rfl) (by rfl) ?yr3u37 hT21 ?_
 case yr3u37 => (intro w; go_simp <;> with_reducible rfl)
 try simp only [Act.put, q5, q6, q7]
 have hSx := (hT21.more 21).resolve_left (by decide)
 refine R1 (i := 22) (o := ?or3u38) (by kernel_rfl) (by rfl) ?_
 intro K hK
 (have sb := hSx.cellN HN20.out HSW0.out; have fb : World.frozen? _ _ = _ := (World.frozen?_of_block (hSx.block gw0 (lt_of_cell HSW0.out) HN20.out)).trans HFW90.out; go_simp)
 refine hK.out _ _ (.inl rfl) (fun hT23 => ?_)
 clear hK K
 try simp only [Act.put, q5, q6, q7]
 refine wpAnyC_done (by kernel_rfl) ?_ _
 refine NoPanic.normal ?_
 have hiB0 : Ints wA0 (some ⟨gA0, 0, none⟩) cA0 (casts (l90 ++ [n])) := by rw [← casts_app]; exact hiA0
 obtain ⟨gv0, hg20, _, _, L2, h20, he20, hf20, hL20⟩ := H1.out.wset HCYL0.out hiB0 hSx (fun j hj _ => HN90.out j hj) (fun j hj => by
  simp [blks] at hj
  subst hj
  rcases hgA0 with h5 | h5
  ·exact .inl ⟨(HR90.out.lt _ h5), HN90.out _ h5⟩
  ·right
   rw [h5]
   first | exact Nat.le_refl _ | (simp))
 obtain rfl : gw0 = gv0 := by rw [HGW0.out] at hg20; simpa using hg20
 simp only [List.length_append, List.length_singleton] at h20 hf20
 obtain ⟨W2, hW2⟩ : ∃ W, wA0.setCell ⟨gw0, cy0, none⟩ (.slice (some ⟨gA0, 0, none⟩) (l90.length + 1) cA0) = W := ⟨_, rfl⟩
 rw [hW2] at h20 hf20 ⊢
 have hS2 : (S.newc ls b).wset cy0 (l90 ++ [n]) = (S.newc ls b).wput (lcode ls[0]!) S.list.length := by
  unfold Sv.wput Sv.wat
  rw [HY0.out, HCY0.out, HW90.out, HNS.out]
 rw [hS2] at h20
 have hcs2 : L2.cs = L1.cs := by rw [hL20]
 have HTL2 : Hid (L2.tL = L0.tL) := (by rw [hL20] : L2.tL = L1.tL).trans HTL1.out
 have HCS2 : Hid (L2.cs = L0.cs ++ [⟨some ⟨ga, 0, none⟩, c, ls, b, S.used⟩]) := hcs2.trans HCS1.out
 have HEA1 : Hid (L2.a = L.a) := (he20.1.trans HEA0'.out : L2.a = L.a)
 have HIW1 : Hid (Ints W2 (some ⟨ga, 0, none⟩) c ls) := by
  have := h20.ech n (by rw [hcs2, HCS1.out, List.length_append, HN.out]; simp)
  rw [hcs2, HXN.out] at this
  exact this
 have HLG1 : Hid (L2.lab ga = (L2.id, 8, n)) := h20.t8 n (by rw [hcs2, HCS1.out, List.length_append, HN.out]; simp) ga (by rw [hcs2, HXN.out]; simp [blks])
 have HE2 := Lib.hid (SvL.ext_trans HE1.out he20 HF1.out.size)
 have HF2 := Lib.hid (SvL.own_then HE1.out HF1.out hf20)
 have H2 := Lib.hid h20
 clear hW2 h20 hf20 he20 hL20 hcs2 hSx hiA0 hiB0 hfA0 hgA0 hsA0 hg20
 clear HFRW0 HS40 HS10 HSW0 HFW90 HR90 HN90 HN00 HN10 HN20
 go_wp2_with fail
 clear KC0
 obtain ⟨y1, hy1⟩ : ∃ y, ls[1]! = y := ⟨_, rfl⟩
 have hyb1 := HFIT.out.lit _ (get_mem (l := ls) (i := 1) (by omega))
 rw [hy1] at hyb1
 obtain ⟨-, hya1, hyz1⟩ := hyb1
 have hcy1 : lcode y1 < L2.ws.length := by
  rw [H2.out.lenw, HOK1.out.wl]
  exact code_lt (v := S.vars) hya1 hyz1
 obtain ⟨cy1, hcz1⟩ : ∃ c, lcode y1 = c := ⟨_, rfl⟩
 have hvl1 := HVL.out
 have KC1 := Lib.hid (fun W' => code_calls W' y1 (by omega) (by omega))
 have HCY1 := Lib.hid hcz1
 simp only [hcz1] at KC1
 rw [hcz1] at hcy1
 obtain ⟨gw1, hgw1, sw1, fw1⟩ := H2.out.whd hcy1
 have hr91 := H2.out.ewh cy1 hcy1
 have hl91 := HOK1.out.room cy1
 have hw91 := H2.out.wat_eq hcy1
 unfold Sv.wat at hw91
 rw [hw91] at hl91
 have hn91 : ∀ j, j ∈ blks (L2.ws[cy1]!).A → L2.lab j = (L2.id, 9, cy1) := H2.out.t9 cy1 hcy1
 obtain ⟨⟨A91, c91, l91⟩, hx91⟩ : ∃ x, L2.ws[cy1]! = x := ⟨_, rfl⟩
 rw [hx91] at sw1 hr91 hl91 hw91 hn91
 simp only at sw1 hr91 hl91 hw91 hn91
 obtain ⟨-, -, -, -, s41, -⟩ := H2.out.cells
 rw [hgw1, HEA1.out] at s41
 have HN01 : Hid (L.a ∉ blks A91) := fun hm => by
  have e1 := hn91 _ hm
  rw [← HEA1.out, H2.out.t0] at e1
  simp at e1
 have HN11 : Hid (ga ∉ blks A91) := fun hm => by
  have e1 := hn91 _ hm
  rw [HLG1.out] at e1
  simp at e1
 have HN21 : Hid (gw1 ∉ blks A91) := fun hm => by
  have e1 := hn91 _ hm
  rw [H2.out.t4 gw1 (by rw [hgw1]; simp [blks])] at e1
  simp at e1
 have s11 : W2.cell? ⟨ga, 1, none⟩ = some (.int .i64 y1) := by rw [HIW1.out.cell (i := 1) (by omega), hy1]
 have HS41 := Lib.hid s41
 have HS11 := Lib.hid s11
 have HSW1 := Lib.hid sw1
 have HFW91 := Lib.hid fw1
 have HR91 := Lib.hid hr91
 have HN91 := Lib.hid hn91
 have HW91 := Lib.hid hw91
 have HGW1 := Lib.hid hgw1
 have HCYL1 := Lib.hid hcy1
 have hcyi1 : cy1 < L2.ws.length := hcy1
 have hcyj1 : (cy1 : Int) < (L2.ws.length : Int) := by omega
 have hls1 : (1 : Int) < (ls.length : Int) := by omega
 have hlsn1 : 1 < ls.length := by omega
 have HLL91 : Hid (l91.length < 17592186044416) := (by omega : l91.length < 17592186044416)
 have HFRW1 : Hid (Fr (blks A91) W2 W2) := Fr.refl _ _
 have HY1 := Lib.hid hy1
 clear hgw1 hcy1 hr91 hl91 hw91 hn91 hx91 s41 s11 sw1 fw1 hcz1 hy1
 go_upto_region 4 with fail
 refine wp_region_noPanic ?_
 refine wp_region_C (fun w' : World => Fr (blks A91) W2 w') 22 (by kernel_rfl) (HFRW1.out.drew) (fun hT0 => ?_)
 refine T0 (i := 0) (oi := ?or4x3u1) (v := ?vr4x3u1) (by rfl) (by kernel_rfl) (by rfl) ?yr4x3u1 hT0 ?_
 case yr4x3u1 => (intro w; go_simp <;> with_reducible rfl)
 try simp only [Act.put, q5, q6, q7]
 refine T0 (i := 1) (oi := ?or4x3u2) (v := ?vr4x3u2) (by rfl) (by kernel_rfl) (by rfl) ?yr4x3u2 (hT0.more 0) ?_
 case yr4x3u2 => (intro w; go_simp <;> with_reducible rfl)
 try simp only [Act.put, q5, q6, q7]
 refine T0 (i := 2) (oi := ?or4x3u3) (v := ?vr4x3u3) (by rfl) (by kernel_rfl) (by rfl) ?yr4x3u3 ((hT0.more 0).more 1) ?_
 case yr4x3u3 => (intro w; go_simp <;> with_reducible rfl)
 try simp only [Act.put, q5, q6, q7]
 refine T1 (i := 3) (oi := ?or4x3u4) (v := ?vr4x3u4) [3, 22] (by rfl) (by kernel_rfl) (by rfl) ?yr4x3u4 ((((hT0.more 0).more 1).more 2).resolve_left (by decide)) ?_
 case yr4x3u4 => (intro w hSw; (have s4 := hSw.cellN HN01.out HS41.out; have s1 := hSw.cellN HN11.out HS11.out; have sw := hSw.cellN HN21.out HSW1.out); go_simp <;> with_reducible rfl)
 try simp only [Act.put, q5, q6, q7]
 refine T0 (i := 4) (oi := ?or4x3u5) (v := ?vr4x3u5) (by rfl) (by kernel_rfl) (by rfl) ?yr4x3u5 ((((hT0.more 0).more 1).more 2).more 3) ?_
 case yr4x3u5 => (intro w; go_simp <;> with_reducible rfl)
 try simp only [Act.put, q5, q6, q7]
 refine T0 (i := 5) (oi := ?or4x3u6) (v := ?vr4x3u6) (by rfl) (by kernel_rfl) (by rfl) ?yr4x3u6 (((((hT0.more 0).more 1).more 2).more 3).more 4) ?_
 case yr4x3u6 => (intro w; go_simp <;> with_reducible rfl)
 try simp only [Act.put, q5, q6, q7]
 refine T1 (i := 6) (oi := ?or4x3u7) (v := ?vr4x3u7) [6, 22] (by rfl) (by kernel_rfl) (by rfl) ?yr4x3u7 (((((((hT0.more 0).more 1).more 2).more 3).more 4).more 5).resolve_left (by decide)) ?_
 case yr4x3u7 => (intro w hSw; (have s4 := hSw.cellN HN01.out HS41.out; have s1 := hSw.cellN HN11.out HS11.out; have sw := hSw.cellN HN21.out HSW1.out); go_simp <;> with_reducible rfl)
 try simp only [Act.put, q5, q6, q7]
 refine T0 (i := 8) (oi := ?or4x3u8) (v := ?vr4x3u8) (by rfl) (by kernel_rfl) (by rfl) ?yr4x3u8 (((((((hT0.more 0).more 1).more 2).more 3).more 4).more 5).more 6) ?_
 case yr4x3u8 => (intro w; go_simp <;> with_reducible rfl)
 try simp only [Act.put, q5, q6, q7]
 refine T0 (i := 9) (oi := ?or4x3u9) (v := ?vr4x3u9) (by rfl) (by kernel_rfl) (by rfl) ?yr4x3u9 ((((((((hT0.more 0).more 1).more 2).more 3).more 4).more 5).more 6).more 8) ?_
 case yr4x3u9 => (intro w; go_simp <;> with_reducible rfl)
 try simp only [Act.put, q5, q6, q7]
 refine T0 (i := 10) (oi := ?or4x3u10) (v := ?vr4x3u10) (by rfl) (by kernel_rfl) (by rfl) ?yr4x3u10 (((((((((hT0.more 0).more 1).more 2).more 3).more 4).more 5).more 6).more 8).more 9) ?_
 case yr4x3u10 => (intro w; go_simp <;> with_reducible rfl)
 try simp only [Act.put, q5, q6, q7]
 refine T1 (i := 11) (oi := ?or4x3u11) (v := ?vr4x3u11) [11, 22] (by rfl) (by kernel_rfl) (by rfl) ?yr4x3u11 (((((((((((hT0.more 0).more 1).more 2).more 3).more 4).more 5).more 6).more 8).more 9).more 10).resolve_left (by decide)) ?_
 case yr4x3u11 => (intro w hSw; (have s4 := hSw.cellN HN01.out HS41.out; have s1 := hSw.cellN HN11.out HS11.out; have sw := hSw.cellN HN21.out HSW1.out); go_simp <;> with_reducible rfl)
 try simp only [Act.put, q5, q6, q7]
 refine T0 (i := 12) (oi := ?or4x3u12) (v := ?vr4x3u12) (by rfl) (by kernel_rfl) (by rfl) ?yr4x3u12 (((((((((((hT0.more 0).more 1).more 2).more 3).more 4).more 5).more 6).more 8).more 9).more 10).more 11) ?_
 case yr4x3u12 => (intro w; go_simp <;> with_reducible rfl)
 try simp only [Act.put, q5, q6, q7]
 refine T0 (i := 13) (oi := ?or4x3u13) (v := ?vr4x3u13) (by rfl) (by kernel_rfl) (by rfl) ?yr4x3u13 ((((((((((((hT0.more 0).more 1).more 2).more 3).more 4).more 5).more 6).more 8).more 9).more 10).more 11).more 12) ?_
 case yr4x3u13 => (intro w; go_simp <;> with_reducible rfl)
 try simp only [Act.put, q5, q6, q7]
 refine T1 (i := 14) (oi := ?or4x3u14) (v := ?vr4x3u14) [14, 22] (by rfl) (by kernel_rfl) (by rfl) ?yr4x3u14 ((((((((((((((hT0.more 0).more 1).more 2).more 3).more 4).more 5).more 6).more 8).more 9).more 10).more 11).more 12).more 13).resolve_left (by decide)) ?_
 case yr4x3u14 => (intro w hSw; (have s4 := hSw.cellN HN01.out HS41.out; have s1 := hSw.cellN HN11.out HS11.out; have sw := hSw.cellN HN21.out HSW1.out); go_simp <;> with_reducible rfl)
 try simp only [Act.put, q5, q6, q7]
 refine T0 (i := 18) (oi := ?or4x3u15) (v := ?vr4x3u15) (by rfl) (by kernel_rfl) (by rfl) ?yr4x3u15 ((((((((((((((hT0.more 0).more 1).more 2).more 3).more 4).more 5).more 6).more 8).more 9).more 10).more 11).more 12).more 13).more 14) ?_
 case yr4x3u15 => (intro w; go_simp <;> with_reducible rfl)
 try simp only [Act.put, q5, q6, q7]
 have hSx := (((((((((((((((hT0.more 0).more 1).more 2).more 3).more 4).more 5).more 6).more 8).more 9).more 10).more 11).more 12).more 13).more 14).more 18).resolve_left (by decide)
 refine wpAnyC_ready (rs := [7, 19]) (by kernel_rfl) (by simp) ?_
 refine ReadyC.cons (o := ?or4x3u16) ?hor4x3u16 ?hstepr4x3u16 ?_
 case hor4x3u16 => rfl
 case hstepr4x3u16 =>
  intro K hK
  (go_simp; refine (KC1.out _).mono ?_; rintro e w5 ⟨rfl, rfl⟩; dsimp only)
  refine hK.out _ _ (.inr ?_) (fun hT16 => ?_)
  ·first | exact hSx.then_ hfA1 | exact hSx.alloc _ | exact hSx
  clear hK K
  try simp only [Act.put, q5, q6, q7]
  have hSx := hT16.resolve_left (by decide)
  refine wpAnyC_ready (rs := [15, 19]) (by kernel_rfl) (by simp) ?_
  refine ReadyC.cons (o := ?or4x3u17) ?hor4x3u17 ?hstepr4x3u17 ?_
  case hor4x3u17 => rfl
  case hstepr4x3u17 =>
   intro K hK
   (go_simp; refine (KC1.out _).mono ?_; rintro e w5 ⟨rfl, rfl⟩; dsimp only)
   refine hK.out _ _ (.inr ?_) (fun hT17 => ?_)
   ·first | exact hSx.then_ hfA1 | exact hSx.alloc _ | exact hSx
   clear hK K
   try simp only [Act.put, q5, q6, q7]
   refine T0 (i := 16) (oi := ?or4x3u18) (v := ?vr4x3u18) (by rfl) (by kernel_rfl) (by rfl) ?yr4x3u18 hT17 ?_
   case yr4x3u18 => (intro w; go_simp <;> with_reducible rfl)
   try simp only [Act.put, q5, q6, q7]
   refine T1 (i := 17) (oi := ?or4x3u19) (v := ?vr4x3u19) [17, 22] (by rfl) (by kernel_rfl) (by rfl) ?yr4x3u19 ((hT17.more 16).resolve_left (by decide)) ?_
   case yr4x3u19 => (intro w hSw; (have s4 := hSw.cellN HN01.out HS41.out; have s1 := hSw.cellN HN11.out HS11.out; have sw := hSw.cellN HN21.out HSW1.out); go_simp <;> with_reducible rfl)
   try simp only [Act.put, q5, q6, q7]
   have hSx := ((hT17.more 16).more 17).resolve_left (by decide)
   refine R1 (i := 19) (o := ?or4x3u20) (by kernel_rfl) (by rfl) ?_
   intro K hK
   go_simp
   refine hK.out _ _ (.inr ?_) (fun hT20 => ?_)
   ·first | exact hSx.then_ hfA1 | exact hSx.alloc _ | exact hSx
   clear hK K
   try simp only [Act.put, q5, q6, q7]
   have hSx := hT20.resolve_left (by decide)
   refine R1 (i := 20) (o := ?or4x3u21) (by kernel_rfl) (by rfl) ?_
   intro K hK
   (refine step_append_int rfl _ _ rfl A91 c91 (casts l91) _ rfl (casts_len l91).symm ?hownr4x3u21 _ 1 n rfl ?hcellr4x3u21 (by rw [casts_len]; exact HLL91.out) ?_; (case hownr4x3u21 => first | exact HR91.out.drew.alloc _ | exact HR91.out.alloc _ | exact HR91.out); (case hcellr4x3u21 => simp); intro gA1 cA1 wA1 hiA1 hfA1 hgA1 hsA1)
   refine hK.out _ _ (.inr ?_) (fun hT21 => ?_)
   ·first | exact hSx.then_ hfA1 | exact hSx.alloc _ | exact hSx
   clear hK K
   try simp only [Act.put, q5, q6, q7]
   refine T0 (i := 21) (oi := ?or4x3u22) (v := ?vr4x3u22) (by rfl) (by kernel_rfl) (by rfl) ?yr4x3u22 hT21 ?_
   case yr4x3u22 => (intro w; go_simp <;> with_reducible rfl)
   try simp only [Act.put, q5, q6, q7]
   have hSx := (hT21.more 21).resolve_left (by decide)
   refine R1 (i := 22) (o := ?or4x3u23) (by kernel_rfl) (by rfl) ?_
   intro K hK
   (have sb := hSx.cellN HN21.out HSW1.out; have fb : World.frozen? _ _ = _ := (World.frozen?_of_block (hSx.block gw1 (lt_of_cell HSW1.out) HN21.out)).trans HFW91.out; go_simp)
   refine hK.out _ _ (.inl rfl) (fun hT23 => ?_)
   clear hK K
   try simp only [Act.put, q5, q6, q7]
   refine wpAnyC_done (by kernel_rfl) ?_ _
   refine NoPanic.normal ?_
   have hiB1 : Ints wA1 (some ⟨gA1, 0, none⟩) cA1 (casts (l91 ++ [n])) := by rw [← casts_app]; exact hiA1
   obtain ⟨gv1, hg21, _, _, L3, h21, he21, hf21, hL21⟩ := H2.out.wset HCYL1.out hiB1 hSx (fun j hj _ => HN91.out j hj) (fun j hj => by
    simp [blks] at hj
    subst hj
    rcases hgA1 with h5 | h5
    ·exact .inl ⟨(HR91.out.lt _ h5), HN91.out _ h5⟩
    ·right
     rw [h5]
     first | exact Nat.le_refl _ | (simp))
   obtain rfl : gw1 = gv1 := by rw [HGW1.out] at hg21; simpa using hg21
   simp only [List.length_append, List.length_singleton] at h21 hf21
   have hS3 : ((S.newc ls b).wput (lcode ls[0]!) S.list.length).wset cy1 (l91 ++ [n]) = S.attach ls b := by
    show _ = ((S.newc ls b).wput (lcode ls[0]!) S.list.length).wput (lcode ls[1]!) S.list.length
    have hw := HW91.out
    revert hw
    generalize (S.newc ls b).wput (lcode ls[0]!) S.list.length = T
    intro hw
    unfold Sv.wput Sv.wat
    rw [HY1.out, HCY1.out, hw, HNS.out]
   rw [hS3] at h21
   have hcs3 : L3.cs = L0.cs ++ [⟨some ⟨ga, 0, none⟩, c, ls, b, S.used⟩] := by rw [hL21]; exact HCS2.out
   have hI3 := h21.ech n (by rw [hcs3, List.length_append, HN.out]; simp)
   rw [hcs3, show (L0.cs ++ [(⟨some ⟨ga, 0, none⟩, c, ls, b, S.used⟩ : Cw)])[n]! = ⟨some ⟨ga, 0, none⟩, c, ls, b, S.used⟩ from by rw [← HN.out]; simp] at hI3
   have FIN := Lib.hid (hbk.out _ L3 h21 (SvL.ext_trans HE2.out he21 HF2.out.size) (SvL.own_then HE2.out HF2.out hf21) hI3 ((by rw [hL21] : L3.tL = L2.tL).trans HTL2.out))
   clear hcs3 hI3
   clear h21 hf21 he21 hL21 hS3 hSx hiA1 hiB1 hfA1 hgA1 hsA1 hg21 hbk
   go_wp2_with fail
   go_ret
   exact FIN.out
  refine ReadyC.cons (o := ?or4x3u24) ?hor4x3u24 ?hstepr4x3u24 ReadyC.nil
  case hor4x3u24 => rfl
  intro K hK
  go_simp
  refine hK.out _ _ (.inr ?_) (fun hT17 => ?_)
  ·first | exact hSx.then_ hfA1 | exact hSx.alloc _ | exact hSx
  clear hK K
  try simp only [Act.put, q5, q6, q7]
  have hSx := hT17.resolve_left (by decide)
  refine R1 (i := 15) (o := ?or4x3u25) (by kernel_rfl) (by rfl) ?_
  intro K hK
  (go_simp; refine (KC1.out _).mono ?_; rintro e w5 ⟨rfl, rfl⟩; dsimp only)
  refine hK.out _ _ (.inr ?_) (fun hT18 => ?_)
  ·first | exact hSx.then_ hfA1 | exact hSx.alloc _ | exact hSx
  clear hK K
  try simp only [Act.put, q5, q6, q7]
  refine T0 (i := 16) (oi := ?or4x3u26) (v := ?vr4x3u26) (by rfl) (by kernel_rfl) (by rfl) ?yr4x3u26 hT18 ?_
  case yr4x3u26 => (intro w; go_simp <;> with_reducible rfl)
  try simp only [Act.put, q5, q6, q7]
  refine T1 (i := 17) (oi := ?or4x3u27) (v := ?vr4x3u27) [17, 22] (by rfl) (by kernel_rfl) (by rfl) ?yr4x3u27 ((hT18.more 16).resolve_left (by decide)) ?_
  case yr4x3u27 => (intro w hSw; (have s4 := hSw.cellN HN01.out HS41.out; have s1 := hSw.cellN HN11.out HS11.out; have sw := hSw.cellN HN21.out HSW1.out); go_simp <;> with_reducible rfl)
  try simp only [Act.put, q5, q6, q7]
  have hSx := ((hT18.more 16).more 17).resolve_left (by decide)
  refine R1 (i := 20) (o := ?or4x3u28) (by kernel_rfl) (by rfl) ?_
  intro K hK
  (refine step_append_int rfl _ _ rfl A91 c91 (casts l91) _ rfl (casts_len l91).symm ?hownr4x3u28 _ 1 n rfl ?hcellr4x3u28 (by rw [casts_len]; exact HLL91.out) ?_; (case hownr4x3u28 => first | exact HR91.out.drew.alloc _ | exact HR91.out.alloc _ | exact HR91.out); (case hcellr4x3u28 => simp); intro gA1 cA1 wA1 hiA1 hfA1 hgA1 hsA1)
  refine hK.out _ _ (.inr ?_) (fun hT21 => ?_)
  ·first | exact hSx.then_ hfA1 | exact hSx.alloc _ | exact hSx
  clear hK K
  try simp only [Act.put, q5, q6, q7]
  refine T0 (i := 21) (oi := ?or4x3u29) (v := ?vr4x3u29) (by rfl) (by kernel_rfl) (by rfl) ?yr4x3u29 hT21 ?_
  case yr4x3u29 => (intro w; go_simp <;> with_reducible rfl)
  try simp only [Act.put, q5, q6, q7]
  have hSx := (hT21.more 21).resolve_left (by decide)
  refine R1 (i := 22) (o := ?or4x3u30) (by kernel_rfl) (by rfl) ?_
  intro K hK
  (have sb := hSx.cellN HN21.out HSW1.out; have fb : World.frozen? _ _ = _ := (World.frozen?_of_block (hSx.block gw1 (lt_of_cell HSW1.out) HN21.out)).trans HFW91.out; go_simp)
  refine hK.out _ _ (.inl rfl) (fun hT23 => ?_)
  clear hK K
  try simp only [Act.put, q5, q6, q7]
  refine wpAnyC_done (by kernel_rfl) ?_ _
  refine NoPanic.normal ?_
  have hiB1 : Ints wA1 (some ⟨gA1, 0, none⟩) cA1 (casts (l91 ++ [n])) := by rw [← casts_app]; exact hiA1
  obtain ⟨gv1, hg21, _, _, L3, h21, he21, hf21, hL21⟩ := H2.out.wset HCYL1.out hiB1 hSx (fun j hj _ => HN91.out j hj) (fun j hj => by
   simp [blks] at hj
   subst hj
   rcases hgA1 with h5 | h5
   ·exact .inl ⟨(HR91.out.lt _ h5), HN91.out _ h5⟩
   ·right
    rw [h5]
    first | exact Nat.le_refl _ | (simp))
  obtain rfl : gw1 = gv1 := by rw [HGW1.out] at hg21; simpa using hg21
  simp only [List.length_append, List.length_singleton] at h21 hf21
  have hS3 : ((S.newc ls b).wput (lcode ls[0]!) S.list.length).wset cy1 (l91 ++ [n]) = S.attach ls b := by
   show _ = ((S.newc ls b).wput (lcode ls[0]!) S.list.length).wput (lcode ls[1]!) S.list.length
   have hw := HW91.out
   revert hw
   generalize (S.newc ls b).wput (lcode ls[0]!) S.list.length = T
   intro hw
   unfold Sv.wput Sv.wat
   rw [HY1.out, HCY1.out, hw, HNS.out]
  rw [hS3] at h21
  have hcs3 : L3.cs = L0.cs ++ [⟨some ⟨ga, 0, none⟩, c, ls, b, S.used⟩] := by rw [hL21]; exact HCS2.out
  have hI3 := h21.ech n (by rw [hcs3, List.length_append, HN.out]; simp)
  rw [hcs3, show (L0.cs ++ [(⟨some ⟨ga, 0, none⟩, c, ls, b, S.used⟩ : Cw)])[n]! = ⟨some ⟨ga, 0, none⟩, c, ls, b, S.used⟩ from by rw [← HN.out]; simp] at hI3
  have FIN := Lib.hid (hbk.out _ L3 h21 (SvL.ext_trans HE2.out he21 HF2.out.size) (SvL.own_then HE2.out HF2.out hf21) hI3 ((by rw [hL21] : L3.tL = L2.tL).trans HTL2.out))
  clear hcs3 hI3
  clear h21 hf21 he21 hL21 hS3 hSx hiA1 hiB1 hfA1 hgA1 hsA1 hg21 hbk
  go_wp2_with fail
  go_ret
  exact FIN.out
 refine ReadyC.cons (o := ?or4x3u31) ?hor4x3u31 ?hstepr4x3u31 ReadyC.nil
 case hor4x3u31 => rfl
 intro K hK
 go_simp
 refine hK.out _ _ (.inr ?_) (fun hT16 => ?_)
 ·first | exact hSx.then_ hfA1 | exact hSx.alloc _ | exact hSx
 clear hK K
 try simp only [Act.put, q5, q6, q7]
 have hSx := hT16.resolve_left (by decide)
 refine R1 (i := 7) (o := ?or4x3u32) (by kernel_rfl) (by rfl) ?_
 intro K hK
 (go_simp; refine (KC1.out _).mono ?_; rintro e w5 ⟨rfl, rfl⟩; dsimp only)
 refine hK.out _ _ (.inr ?_) (fun hT17 => ?_)
 ·first | exact hSx.then_ hfA1 | exact hSx.alloc _ | exact hSx
 clear hK K
 try simp only [Act.put, q5, q6, q7]
 have hSx := hT17.resolve_left (by decide)
 refine R1 (i := 15) (o := ?or4x3u33) (by kernel_rfl) (by rfl) ?_
 intro K hK
 (go_simp; refine (KC1.out _).mono ?_; rintro e w5 ⟨rfl, rfl⟩; dsimp only)
 refine hK.out _ _ (.inr ?_) (fun hT18 => ?_)
 ·first | exact hSx.then_ hfA1 | exact hSx.alloc _ | exact hSx
 clear hK K
 try simp only [Act.put, q5, q6, q7]
 refine T0 (i := 16) (oi := ?or4x3u34) (v := ?vr4x3u34) (by rfl) (by kernel_rfl) (by rfl) ?yr4x3u34 hT18 ?_
 case yr4x3u34 => (intro w; go_simp <;> with_reducible rfl)
 try simp only [Act.put, q5, q6, q7]
 refine T1 (i := 17) (oi := ?or4x3u35) (v := ?vr4x3u35) [17, 22] (by rfl) (by kernel_rfl) (by rfl) ?yr4x3u35 ((hT18.more 16).resolve_left (by decide)) ?_
 case yr4x3u35 => (intro w hSw; (have s4 := hSw.cellN HN01.out HS41.out; have s1 := hSw.cellN HN11.out HS11.out; have sw := hSw.cellN HN21.out HSW1.out); go_simp <;> with_reducible rfl)
 try simp only [Act.put, q5, q6, q7]
 have hSx := ((hT18.more 16).more 17).resolve_left (by decide)
 refine R1 (i := 20) (o := ?or4x3u36) (by kernel_rfl) (by rfl) ?_
 intro K hK
 (refine step_append_int rfl _ _ rfl A91 c91 (casts l91) _ rfl (casts_len l91).symm ?hownr4x3u36 _ 1 n rfl ?hcellr4x3u36 (by rw [casts_len]; exact HLL91.out) ?_; (case hownr4x3u36 => first | exact HR91.out.drew.alloc _ | exact HR91.out.alloc _ | exact HR91.out); (case hcellr4x3u36 => simp); intro gA1 cA1 wA1 hiA1 hfA1 hgA1 hsA1)
 refine hK.out _ _ (.inr ?_) (fun hT21 => ?_)
 ·first | exact hSx.then_ hfA1 | exact hSx.alloc _ | exact hSx
 clear hK K
 try simp only [Act.put, q5, q6, q7]
 refine T0 (i := 21) (oi := ?or4x3u37) (v := ?vr4x3u37) (by rfl) (by kernel_rfl) (by rfl) ?yr4x3u37 hT21 ?_
 case yr4x3u37 => (intro w; go_simp <;> with_reducible rfl)
 try simp only [Act.put, q5, q6, q7]
 have hSx := (hT21.more 21).resolve_left (by decide)
 refine R1 (i := 22) (o := ?or4x3u38) (by kernel_rfl) (by rfl) ?_
 intro K hK
 (have sb := hSx.cellN HN21.out HSW1.out; have fb : World.frozen? _ _ = _ := (World.frozen?_of_block (hSx.block gw1 (lt_of_cell HSW1.out) HN21.out)).trans HFW91.out; go_simp)
 refine hK.out _ _ (.inl rfl) (fun hT23 => ?_)
 clear hK K
 try simp only [Act.put, q5, q6, q7]
 refine wpAnyC_done (by kernel_rfl) ?_ _
 refine NoPanic.normal ?_
 have hiB1 : Ints wA1 (some ⟨gA1, 0, none⟩) cA1 (casts (l91 ++ [n])) := by rw [← casts_app]; exact hiA1
 obtain ⟨gv1, hg21, _, _, L3, h21, he21, hf21, hL21⟩ := H2.out.wset HCYL1.out hiB1 hSx (fun j hj _ => HN91.out j hj) (fun j hj => by
  simp [blks] at hj
  subst hj
  rcases hgA1 with h5 | h5
  ·exact .inl ⟨(HR91.out.lt _ h5), HN91.out _ h5⟩
  ·right
   rw [h5]
   first | exact Nat.le_refl _ | (simp))
 obtain rfl : gw1 = gv1 := by rw [HGW1.out] at hg21; simpa using hg21
 simp only [List.length_append, List.length_singleton] at h21 hf21
 have hS3 : ((S.newc ls b).wput (lcode ls[0]!) S.list.length).wset cy1 (l91 ++ [n]) = S.attach ls b := by
  show _ = ((S.newc ls b).wput (lcode ls[0]!) S.list.length).wput (lcode ls[1]!) S.list.length
  have hw := HW91.out
  revert hw
  generalize (S.newc ls b).wput (lcode ls[0]!) S.list.length = T
  intro hw
  unfold Sv.wput Sv.wat
  rw [HY1.out, HCY1.out, hw, HNS.out]
 rw [hS3] at h21
 have hcs3 : L3.cs = L0.cs ++ [⟨some ⟨ga, 0, none⟩, c, ls, b, S.used⟩] := by rw [hL21]; exact HCS2.out
 have hI3 := h21.ech n (by rw [hcs3, List.length_append, HN.out]; simp)
 rw [hcs3, show (L0.cs ++ [(⟨some ⟨ga, 0, none⟩, c, ls, b, S.used⟩ : Cw)])[n]! = ⟨some ⟨ga, 0, none⟩, c, ls, b, S.used⟩ from by rw [← HN.out]; simp] at hI3
 have FIN := Lib.hid (hbk.out _ L3 h21 (SvL.ext_trans HE2.out he21 HF2.out.size) (SvL.own_then HE2.out HF2.out hf21) hI3 ((by rw [hL21] : L3.tL = L2.tL).trans HTL2.out))
 clear hcs3 hI3
 clear h21 hf21 he21 hL21 hS3 hSx hiA1 hiB1 hfA1 hgA1 hsA1 hg21 hbk
 go_wp2_with fail
 go_ret
 exact FIN.out
end Go.Proofs.Ytjchilcpflfcnaa
