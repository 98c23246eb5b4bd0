/- Lists that are alike are told alike; is a number one of some: walked. Lists of lists: read; told alike where they are. facts.Clauses walked. facts.Clauses and facts.Active walked. facts.Active walked. slices.Contains at ints, keep.beyond walked. The order of clauses' literals walked. -/
import Derived.Test.YtbjccgahmgpkjaaLwA
namespace Go.Proofs.Ytbjccgahmgpkjaa
open Go.RowKit
set_option linter.unusedVariables false

set_option maxHeartbeats 1000000 in
theorem pints_eq (w : World) (A B : Option Addr) (c d : Nat) (xs : List Int) (ha : Rd w A xs) (hb : Rd w B xs) (hr : Ra xs) (hl : xs.length ≤ 17592186044416) :
    Calls Try.prog 36 #[.slice A xs.length c, .slice B xs.length d] w fun e w' => e = .returned (.bool true) ∧ Fr [] w w' := by
  have HA := Lib.hid ha
  have HB := Lib.hid hb
  have HR := Lib.hid hr
  clear ha hb hr
  go_enter Try.func36, Try.ntmps36
  go_wp2_with fail
  go_loopg [5] xs.length (fun g i wr => ∃ k : Nat, k + g = xs.length ∧ i = .int .i64 k ∧ Fr [] w wr)
  case atStart => exact ⟨0, by omega, rfl, Fr.refl _ _⟩
  case round =>
    obtain ⟨k, hk, rfl, hf⟩ := hrel
    have HK := Lib.hid hk
    have HF := Lib.hid hf
    have hkn : k ≤ xs.length := by omega
    clear hk hf
    by_cases hlt : k < xs.length
    · obtain ⟨b, o, x, hA, he, cx, hx1, hx2⟩ := (HA.out.keep HF.out).one HR.out hlt
      obtain ⟨b', o', x', hB, he', cx', _, _⟩ := (HB.out.keep HF.out).one HR.out hlt
      have hxx : x' = x := by rw [← he.out, ← he'.out]
      subst hA hB hxx
      have e1 := Ext.cell cx
      have e2 := Ext.cell cx'
      have hne : (x' != x') = false := by simp
      go_wp2_with fail
      refine wp_region_ext (by kernel_rfl) (by kernel_rfl) ?_
      repeat (go_big_quiet_step (fail))
      refine wpQuiet_nil ?_
      rintro w2 ⟨u2, hu2⟩
      have HF_w2 : Hid (Fr [] wr w2) := hu2 ▸ u2.fr
      clear hu2 u2
      clear cx cx' e1 e2
      go_wp2_with fail
      go_roundg (gk - 1)
      case measure => have := HK.out; omega
      case rel => exact ⟨k + 1, by have := HK.out; omega, by go_num, HF.out.then_ HF_w2.out⟩
    · clear HK
      go_wp2_with fail
      go_ret
      exact ⟨rfl, HF.out⟩

set_option maxHeartbeats 1000000 in
theorem sints_eq (w : World) (A B : Option Addr) (c d : Nat) (xs : List Int) (ha : Rd w A xs) (hb : Rd w B xs) (hr : Ra xs) (hl : xs.length ≤ 17592186044416) :
    Calls Try.prog 35 #[.slice A xs.length c, .slice B xs.length d] w fun e w' => e = .returned (.bool true) ∧ Fr [] w w' := by
  have HA := Lib.hid ha
  have HB := Lib.hid hb
  have HR := Lib.hid hr
  clear ha hb hr
  go_enter Try.func35, Try.ntmps35
  go_wp2_with fail
  go_loopg [5] xs.length (fun g i wr => ∃ k : Nat, k + g = xs.length ∧ i = .int .i64 k ∧ Fr [] w wr)
  case atStart => exact ⟨0, by omega, rfl, Fr.refl _ _⟩
  case round =>
    obtain ⟨k, hk, rfl, hf⟩ := hrel
    have HK := Lib.hid hk
    have HF := Lib.hid hf
    have hkn : k ≤ xs.length := by omega
    clear hk hf
    by_cases hlt : k < xs.length
    · obtain ⟨b, o, x, hA, he, cx, hx1, hx2⟩ := (HA.out.keep HF.out).one HR.out hlt
      obtain ⟨b', o', x', hB, he', cx', _, _⟩ := (HB.out.keep HF.out).one HR.out hlt
      have hxx : x' = x := by rw [← he.out, ← he'.out]
      subst hA hB hxx
      have e1 := Ext.cell cx
      have e2 := Ext.cell cx'
      have hne : (x' != x') = false := by simp
      go_wp2_with fail
      refine wp_region_ext (by kernel_rfl) (by kernel_rfl) ?_
      repeat (go_big_quiet_step (fail))
      refine wpQuiet_nil ?_
      rintro w2 ⟨u2, hu2⟩
      have HF_w2 : Hid (Fr [] wr w2) := hu2 ▸ u2.fr
      clear hu2 u2
      clear cx cx' e1 e2
      go_wp2_with fail
      go_roundg (gk - 1)
      case measure => have := HK.out; omega
      case rel => exact ⟨k + 1, by have := HK.out; omega, by go_num, HF.out.then_ HF_w2.out⟩
    · clear HK
      go_wp2_with fail
      go_ret
      exact ⟨rfl, HF.out⟩

set_option maxHeartbeats 1000000 in
theorem rhas_calls (w : World) (A : Option Addr) (c : Nat) (xs : List Int) (n : Int) (ha : Rd w A xs) (hr : Ra xs) (hl : xs.length ≤ 17592186044416) :
    Calls Try.prog 16 #[.slice A xs.length c, .int .i64 n] w fun e w' => e = .returned (.bool (xs.any (· == n))) ∧ Fr [] w w' := by
  have hK : Hid (∀ s, xs.any (· == n) = s → Ending.returned (.bool s) = .returned (.bool (xs.any (· == n)))) := fun s h => by rw [h]
  have HA := Lib.hid ha
  have HR := Lib.hid hr
  clear ha hr
  go_enter Try.func16, Try.ntmps16
  go_wp2_with fail
  go_loopg [5] xs.length (fun g i wr => ∃ k : Nat, k + g = xs.length ∧ i = .int .i64 k ∧ Fr [] w wr ∧ NoneTo xs (· == n) k)
  case atStart => exact ⟨0, by omega, rfl, Fr.refl _ _, NoneTo.zero _ _⟩
  case round =>
    obtain ⟨k, hk, rfl, hf, hn⟩ := hrel
    have HK := Lib.hid hk
    have HF := Lib.hid hf
    have HN := Lib.hid hn
    have hkn : k ≤ xs.length := by omega
    clear hk hf hn
    by_cases hlt : k < xs.length
    · obtain ⟨b, o, x, hA, he, cx, hx1, hx2⟩ := (HA.out.keep HF.out).one HR.out hlt
      subst hA
      obtain ⟨q, HQ⟩ : ∃ q : Bool, Hid ((x == n) = q) := ⟨(x == n), Lib.hid rfl⟩
      have hq := HQ.out
      cases q with
      | true =>
        go_wp2_with fail
        go_ret
        exact ⟨hK.out _ (any_yes _ _ k hlt (by rw [he.out]; exact HQ.out)), HF.out⟩
      | false =>
        go_wp2_with fail
        go_roundg (gk - 1)
        case measure => have := HK.out; omega
        case rel => exact ⟨k + 1, by have := HK.out; omega, by go_num, HF.out, HN.out.step (by rw [he.out]; exact HQ.out)⟩
    · have HT : Hid (xs.any (· == n) = false) := HN.out.all hlt
      clear HK HN
      go_wp2_with fail
      go_ret
      exact ⟨hK.out _ HT.out, HF.out⟩

end Go.Proofs.Ytbjccgahmgpkjaa
namespace Go.Proofs.Ytbjccgahmgpkjaa
open Go.RowKit
set_option linter.unusedVariables false

/-- A list of numbers, and where it lies. -/
structure Ls where
  A : Option Addr
  c : Nat
  l : List Int
instance : Inhabited Ls := ⟨⟨none, 0, []⟩⟩
def Ls.val (h : Ls) : Value := .slice h.A h.l.length h.c
/-- It can be read. -/
def OkL (w : World) (h : Ls) : Prop := Rd w h.A h.l ∧ Ra h.l ∧ h.l.length ≤ 17592186044416 ∧ (h.A = none → h.l.length = 0 ∧ h.c = 0)
theorem OkL.keep {w w' : World} {h : Ls} (k : OkL w h) (hf : Fr [] w w') : OkL w' h := ⟨k.1.keep hf, k.2⟩
/-- The lists lie there. -/
def RdL (w : World) (A : Option Addr) (hs : List Ls) : Prop := (0 < hs.length → ∃ b o, A = some ⟨b, o, none⟩ ∧ ∀ j : Nat, j < hs.length → w.cell? ⟨b, o + j, none⟩ = some (hs[j]!).val) ∧ ∀ j : Nat, j < hs.length → OkL w hs[j]!
theorem RdL.keep {w w' : World} {A : Option Addr} {hs : List Ls} (k : RdL w A hs) (hf : Fr [] w w') : RdL w' A hs := by
  refine ⟨fun h0 => ?_, fun j hj => (k.2 j hj).keep hf⟩
  obtain ⟨b, o, hA, hx⟩ := k.1 h0
  exact ⟨b, o, hA, fun j hj => hf.cellS (hx j hj)⟩
theorem RdL.one {w : World} {A : Option Addr} {hs : List Ls} (k : RdL w A hs) {j : Nat} (hj : j < hs.length) : ∃ b o B d l, A = some ⟨b, o, none⟩ ∧ Hid (hs[j]! = ⟨B, d, l⟩) ∧ w.cell? ⟨b, o + j, none⟩ = some (.slice B l.length d) ∧ OkL w ⟨B, d, l⟩ := by
  obtain ⟨b, o, hA, hx⟩ := k.1 (by omega)
  exact ⟨b, o, _, _, _, hA, rfl, hx j hj, k.2 j hj⟩

set_option maxHeartbeats 1000000 in
theorem lists_eq (w : World) (A B : Option Addr) (c d : Nat) (hs ks : List Ls) (ha : RdL w A hs) (hb : RdL w B ks) (he : hs.map (·.l) = ks.map (·.l)) (hl : hs.length ≤ 17592186044416) :
    Calls Try.prog 18 #[.slice A hs.length c, .slice B ks.length d] w fun e w' => e = .returned (.bool true) ∧ Fr [] w w' := by
  have HA := Lib.hid ha
  have HB := Lib.hid hb
  have hlen : ks.length = hs.length := by have := congrArg List.length he; simpa using this.symm
  have HE : Hid (∀ j : Nat, j < hs.length → (ks[j]!).l = (hs[j]!).l) := fun j hj => by
    have := congrArg (fun l => l[j]?) he
    simp only [List.getElem?_map] at this
    simp only [List.getElem!_eq_getElem?_getD, List.getElem?_eq_getElem hj, List.getElem?_eq_getElem (show j < ks.length by omega)] at this ⊢
    simpa using this.symm
  rw [hlen]
  have KI := Lib.hid pints_eq
  clear ha hb he
  go_enter Try.func18, Try.ntmps18
  go_wp2_with fail
  go_loopg [5] hs.length (fun g i wr => ∃ k : Nat, k + g = hs.length ∧ i = .int .i64 k ∧ Fr [] w wr)
  case atStart => exact ⟨0, by omega, rfl, Fr.refl _ _⟩
  case round =>
    obtain ⟨k, hk, rfl, hf⟩ := hrel
    have HK := Lib.hid hk
    have HF := Lib.hid hf
    have hkn : k ≤ hs.length := by omega
    clear hk hf
    by_cases hlt : k < hs.length
    · obtain ⟨b, o, B1, d1, l1, hA, he, cx, ok⟩ := (HA.out.keep HF.out).one hlt
      obtain ⟨b', o', B2, d2, l2, hB, he', cx', ok'⟩ := (HB.out.keep HF.out).one (j := k) (by omega)
      have hll : l2 = l1 := by
        have := HE.out k hlt
        rw [he.out, he'.out] at this
        exact this
      subst hA hB hll
      have KQ := Lib.hid (fun W (hf : Fr [] wr W) => KI.out W B1 B2 d1 d2 l2 (ok.1.keep hf) (ok'.1.keep hf) ok.2.1 ok.2.2.1)
      have e1 := Ext.cell cx
      have e2 := Ext.cell cx'
      clear ok ok'
      go_wp2_with fail
      refine wp_region_ext (by kernel_rfl) (by kernel_rfl) ?_
      repeat (go_big_quiet_step (exact call_ext (KQ.out _ (Ext.fr _))))
      refine wpQuiet_nil ?_
      rintro w2 ⟨u2, hu2⟩
      have HF_w2 : Hid (Fr [] wr w2) := hu2 ▸ u2.fr
      clear hu2 u2
      clear cx cx' e1 e2
      go_wp2_with fail
      go_roundg (gk - 1)
      case measure => have := HK.out; omega
      case rel => exact ⟨k + 1, by have := HK.out; omega, by go_num, HF.out.then_ HF_w2.out⟩
    · clear HK
      go_wp2_with fail
      go_ret
      exact ⟨rfl, HF.out⟩

end Go.Proofs.Ytbjccgahmgpkjaa
namespace Go.Proofs.Ytbjccgahmgpkjaa
open Go.RowKit
set_option linter.unusedVariables false

theorem infoInts : (Try.prog.info? 22).map (fun i => (i.zero, i.size, i.bytes)) = some (some (.slice none 0 0), 1, 24) := by kernel_rfl

/-- A fact of a table. -/
structure Fa where
  id : Int
  kind : Int
  dep : Int
  L : Ls
  T : Ls
instance : Inhabited Fa := ⟨⟨0, 0, 0, default, default⟩⟩
def RdF (w : World) (A : Option Addr) (fs : List Fa) : Prop := (0 < fs.length → ∃ b o, A = some ⟨b, o, none⟩ ∧ ∀ j : Nat, j < fs.length →
  w.cell? ⟨b, o + j * 5, none⟩ = some (.int .i64 (fs[j]!).id) ∧ w.cell? ⟨b, o + j * 5 + 1, none⟩ = some (.int .i64 (fs[j]!).kind) ∧ w.cell? ⟨b, o + j * 5 + 2, none⟩ = some (.int .i64 (fs[j]!).dep) ∧
  w.cell? ⟨b, o + j * 5 + 3, none⟩ = some ((fs[j]!).L.val) ∧ w.cell? ⟨b, o + j * 5 + 4, none⟩ = some ((fs[j]!).T.val)) ∧ ∀ j : Nat, j < fs.length → OkL w (fs[j]!).L ∧ R64 (fs[j]!).id ∧ R64 (fs[j]!).kind
theorem RdF.keep {w w' : World} {A : Option Addr} {fs : List Fa} (k : RdF w A fs) (hf : Fr [] w w') : RdF w' A fs := by
  refine ⟨fun h0 => ?_, fun j hj => ⟨(k.2 j hj).1.keep hf, (k.2 j hj).2⟩⟩
  obtain ⟨b, o, hA, hx⟩ := k.1 h0
  refine ⟨b, o, hA, fun j hj => ?_⟩
  obtain ⟨h0, h1, h2, h3, h4⟩ := hx j hj
  exact ⟨hf.cellS h0, hf.cellS h1, hf.cellS h2, hf.cellS h3, hf.cellS h4⟩
theorem RdF.one {w : World} {A : Option Addr} {fs : List Fa} (k : RdF w A fs) {j : Nat} (hj : j < fs.length) : ∃ b o id kd dp B1 d1 l1 B2 d2 l2, A = some ⟨b, o, none⟩ ∧ Hid (fs[j]! = ⟨id, kd, dp, ⟨B1, d1, l1⟩, ⟨B2, d2, l2⟩⟩) ∧
    w.cell? ⟨b, o + j * 5, none⟩ = some (.int .i64 id) ∧ w.cell? ⟨b, o + j * 5 + 1, none⟩ = some (.int .i64 kd) ∧ w.cell? ⟨b, o + j * 5 + 2, none⟩ = some (.int .i64 dp) ∧ w.cell? ⟨b, o + j * 5 + 3, none⟩ = some (.slice B1 l1.length d1) ∧ w.cell? ⟨b, o + j * 5 + 4, none⟩ = some (.slice B2 l2.length d2) ∧ OkL w ⟨B1, d1, l1⟩ ∧ R64 id ∧ R64 kd := by
  obtain ⟨b, o, hA, hx⟩ := k.1 (by omega)
  obtain ⟨h0, h1, h2, h3, h4⟩ := hx j hj
  obtain ⟨k1, k2, k3⟩ := k.2 j hj
  exact ⟨b, o, _, _, _, _, _, _, _, _, _, hA, rfl, h0, h1, h2, h3, h4, k1, k2, k3⟩

/-- A list in a row of the call's own. -/
def OwL (w : World) (h : Ls) : Prop := w.ownsRow 0 3 1 (.slice h.A h.l.length h.c) h.l.length (h.l.map (Value.int .i64)) ∧ Ra h.l ∧ h.l.length ≤ 17592186044416
theorem OwL.ok {w : World} {h : Ls} (k : OwL w h) : OkL w h := ⟨(own_rs k.1 (by simp)).rd, k.2.1, k.2.2, fun e => by
  rcases own_slot k.1 with ⟨_, h1, h2⟩ | ⟨g, h1, _⟩
  · exact ⟨h2, h1⟩
  · rw [h1] at e; cases e⟩
theorem OwL.keep {w w' : World} {h : Ls} (k : OwL w h) (hf : Fr [] w w') : OwL w' h := ⟨hf.own k.1 (by simp), k.2⟩
/-- A row of list headers of the call's own, and their lists. -/
structure OwLs (w : World) (B : Nat) (A : Option Addr) (c : Nat) (hs : List Ls) : Prop where
  row : w.ownsRow 0 22 1 (.slice A hs.length c) hs.length (hs.map Ls.val)
  new : ∀ k, k ∈ blks A → B ≤ k
  each : ∀ h ∈ hs, OwL w h
theorem OwLs.keep {w w' : World} {B : Nat} {A : Option Addr} {c : Nat} {hs : List Ls} (k : OwLs w B A c hs) (hf : Fr [] w w') : OwLs w' B A c hs := ⟨hf.own k.row (by simp), k.new, fun h hh => (k.each h hh).keep hf⟩
theorem OwLs.nil (w : World) (B : Nat) : OwLs w B none 0 [] := ⟨World.ownsRow_nil _ 0 _ 1, by simp [blks], fun h hh => by cases hh⟩
theorem OwLs.rd {w : World} {B : Nat} {A : Option Addr} {c : Nat} {hs : List Ls} (k : OwLs w B A c hs) : RdL w A hs := by
  refine ⟨fun h0 => ?_, (mem_idx (p := OkL w)).2 (fun h hh => (k.each h hh).ok)⟩
  obtain ⟨b, o, hA, hx⟩ := own_rs k.row (by simp) (by simpa using h0)
  refine ⟨b, o, hA, fun j hj => hx j _ ?_⟩
  simp [List.getElem?_map, List.getElem!_eq_getElem?_getD, List.getElem?_eq_getElem hj]
theorem OwLs.more {w wa w' : World} {B : Nat} {A A' : Option Addr} {c c' : Nat} {hs : List Ls} {h : Ls} (k : OwLs w B A c hs) (hwa : Fr [] w wa) (hh : OwL wa h) (hf : Fr (blks A) wa w') (hrow : w'.ownsRow 0 22 1 (.slice A' (hs.length + 1) c') (hs.length + 1) (hs.map Ls.val ++ [h.val])) (hnew : ∀ k, k ∈ blks A' → k ∈ blks A ∨ k = wa.heap.size) (hB : B ≤ wa.heap.size) : OwLs w' B A' c' (hs ++ [h]) := by
  have ka := k.keep hwa
  have far : ∀ x : Ls, OwL wa x → OwL w' x := fun x hx => ⟨hf.own hx.1 (fun j hj hm => own_far hx.1 ka.row (by decide) j ((blks_own j).1 hj) hm), hx.2⟩
  refine ⟨by simpa using hrow, fun j hj => ?_, fun x hx => ?_⟩
  · rcases hnew j hj with h1 | h1
    · exact k.new j h1
    · omega
  · rcases List.mem_append.1 hx with h1 | h1
    · exact far x (ka.each x h1)
    · simp at h1
      subst h1
      exact far _ hh

end Go.Proofs.Ytbjccgahmgpkjaa
namespace Go.Proofs.Ytbjccgahmgpkjaa
open Go.RowKit
set_option linter.unusedVariables false

/-- The clauses of a kind. -/
def cls (fs : List Fa) (kd : Int) : List (List Int) := (fs.filter fun x => x.kind == kd).map fun x => x.L.l
theorem cls_take (fs : List Fa) (kd : Int) (k : Nat) (hk : k < fs.length) : cls (fs.take (k + 1)) kd = cls (fs.take k) kd ++ (if (fs[k]!).kind == kd then [(fs[k]!).L.l] else []) := by
  rw [take_snoc fs k hk, cls, List.filter_append, List.map_append, cls]
  congr 1
  generalize fs[k]! = x
  cases h : (x.kind == kd) with
  | false => rw [List.filter_cons, h]; rfl
  | true => rw [List.filter_cons, h]; rfl
theorem cls_len (fs : List Fa) (kd : Int) : (cls fs kd).length ≤ fs.length := by rw [cls, List.length_map]; exact List.length_filter_le _ _
def tvs (nx dp : Int) (A : Option Addr) (c : Nat) (fs : List Fa) : Array Value := #[.int .i64 nx, .int .i64 dp, .slice A fs.length c]
def ClsP (fs : List Fa) (kd : Int) (w : World) (e : Ending) (w' : World) : Prop := ∃ A' c' hs, e = .returned (.slice A' hs.length c') ∧ OwLs w' w.heap.size A' c' hs ∧ hs.map (·.l) = cls fs kd ∧ Fr [] w w'

set_option maxRecDepth 100000 in
set_option maxHeartbeats 4000000 in
theorem clauses_calls (w : World) (nx dp : Int) (A : Option Addr) (c : Nat) (fs : List Fa) (kd : Int) (h : RdF w A fs) (hl : fs.length ≤ 1048576) (hm : ∀ j : Nat, j < fs.length → (fs[j]!).L.l.length ≤ 1048576) :
    Calls Try.prog 19 #[.agg (tvs nx dp A c fs), .int .i64 kd] w (ClsP fs kd w) := by
  have HH := Lib.hid h
  have HM := Lib.hid hm
  have HCL := Lib.hid clone_ints
  have YES : Hid (∀ A' c' hs W, OwLs W w.heap.size A' c' hs → hs.map (·.l) = cls (fs.take fs.length) kd → Fr [] w W → ClsP fs kd w (.returned (.slice A' hs.length c')) W) := fun A' c' hs W h1 h2 h3 => ⟨A', c', hs, rfl, h1, by rw [h2, List.take_length], h3⟩
  have HS : Hid (At (w.alloc (.cells (tvs nx dp A c fs) 42)) w.heap.size 42 (tvs nx dp A c fs)) := At.new _ _ _
  have HF0 : Hid (Fr [] w (w.alloc (.cells (tvs nx dp A c fs) 42))) := box_fr _ _
  simp only [tvs] at HS HF0 ⊢
  have c2 := HS.out.cell 2
  simp at c2
  clear h hm
  go_enter Try.func19, Try.ntmps19
  go_wp2_with fail
  clear c2
  go_loopg [5, 11] fs.length (fun g x5 x11 wr => ∃ (k : Nat) (A' : Option Addr) (c' : Nat) (hs : List Ls), k + g = fs.length ∧ x5 = .slice A' hs.length c' ∧ x11 = .int .i64 k ∧ OwLs wr w.heap.size A' c' hs ∧ hs.map (·.l) = cls (fs.take k) kd ∧ Fr [] w wr)
  case atStart => exact ⟨0, none, 0, [], by omega, rfl, rfl, OwLs.nil _ _, by simp [cls], HF0.out⟩
  case round =>
    obtain ⟨k, A', c', hs, hk, rfl, rfl, ho, he, hf⟩ := hrel
    have HK := Lib.hid hk
    have HO := Lib.hid ho
    have HE := Lib.hid he
    have HF := Lib.hid hf
    have hkn : k ≤ fs.length := by omega
    have hhl : hs.length ≤ k := by
      have := congrArg List.length he
      rw [List.length_map] at this
      have h2 := cls_len (fs.take k) kd
      rw [List.length_take] at h2
      omega
    clear hk ho he hf HF0 HS
    by_cases hlt : k < fs.length
    · obtain ⟨b, o, id, kk, dd, B1, d1, l1, B2, d2, l2, hA, hx, x0, x1, x2, x3, x4, ok, r1, r2⟩ := (HH.out.keep HF.out).one hlt
      subst hA
      have hml : l1.length ≤ 1048576 := by have := HM.out k hlt; rw [hx.out] at this; exact this
      have hcl := cls_take fs kd k hlt
      rw [hx.out] at hcl
      simp only at hcl
      have HC := Lib.hid hcl
      clear hcl
      obtain ⟨q, HQ⟩ : ∃ q : Bool, Hid ((kk == kd) = q) := ⟨(kk == kd), Lib.hid rfl⟩
      have hq := HQ.out
      rw [HQ.out] at HC
      cases q with
      | false =>
        simp only [Bool.false_eq_true, if_false, List.append_nil] at HC
        go_wp2_with fail
        go_roundg (gk - 1)
        case measure => have := HK.out; omega
        case rel => exact ⟨k + 1, A', c', hs, by have := HK.out; omega, rfl, by go_num, HO.out.keep (box_fr _ _), by rw [HC.out]; exact HE.out, HF.out.then_ (box_fr _ _)⟩
      | true =>
        simp only [if_true] at HC
        have HFB : Hid (Fr [] wr (wr.alloc (.cells #[.int .i64 id, .int .i64 kk, .int .i64 dd, .slice B1 l1.length d1, .slice B2 l2.length d2] 78))) := box_fr _ _
        have HCC := Lib.hid (HCL.out (wr.alloc (.cells #[.int .i64 id, .int .i64 kk, .int .i64 dd, .slice B1 l1.length d1, .slice B2 l2.length d2] 78)) B1 l1.length d1 (l1.map (Value.int .i64)) ok.2.2.2 (ok.1.keep HFB.out).rs (by simp) (by simp [Value.oneCell']) (by omega))
        have HOK := Lib.hid ok
        clear ok
        go_wp2_with fail
        refine HCC.out.mono ?_
        clear HCC x0 x1 x2 x3 x4
        rintro e w2 ⟨A2, c2, rfl, ho2, hb2, hf2⟩
        have HF2 := Lib.hid (HFB.out.then_ hf2)
        have HL2 : Hid (OwL w2 ⟨A2, c2, l1⟩) := ⟨ho2, HOK.out.2.1, HOK.out.2.2.1⟩
        clear ho2 hb2 hf2 HFB HOK
        have HO2 := Lib.hid (HO.out.keep HF2.out)
        have HFA : Hid (Fr [] w2 (w2.alloc (.cells #[.slice A2 l1.length c2] 22))) := box_fr _ _
        have hcell : ∀ (j : Nat) (u : Value), [Value.slice A2 l1.length c2][j]? = some u → (w2.alloc (.cells #[.slice A2 l1.length c2] 22)).cell? ((Addr.mk w2.heap.size 0 none).add j) = some u := fun j u hu => by
          rw [adr_add, Nat.zero_add]
          refine Eq.trans ((At.new w2 22 #[.slice A2 l1.length c2]).cell j) ?_
          simpa using hu
        go_wp2_with (at_builtin; (refine wpList_append_one _ rfl _ _ 44 rfl 22 (.slice none 0 0) 1 24 Try.underlying44 infoInts rfl (by decide) A' c' hs.length rfl (hs.map Ls.val) (HO2.out.keep HFA.out).row ⟨w2.heap.size, 0, none⟩ 1 rfl [.slice A2 l1.length c2] rfl hcell (by simp [Value.oneCell']) (by unfold maxLen; omega) (by omega) ?_; intro g cap w3 hrow hfr hg hs3))
        have HM3 : Hid (OwLs w3 w.heap.size (some ⟨g, 0, none⟩) cap (hs ++ [⟨A2, c2, l1⟩])) := HO2.out.more HFA.out (HL2.out.keep HFA.out) hfr hrow (fun j hj => by simp [blks] at hj; subst hj; exact hg) (by have := HF.out.size; have := HF2.out.size; have := HFA.out.size; omega)
        have HF3 : Hid (Fr [] w w3) := ((HF.out.then_ HF2.out).then_ HFA.out).trans hfr (fun x hx => .inr (HO2.out.new x hx))
        clear hcell hrow hfr hg hs3
        go_roundg (gk - 1)
        case measure => have := HK.out; omega
        case rel => exact ⟨k + 1, some ⟨g, 0, none⟩, cap, hs ++ [⟨A2, c2, l1⟩], by have := HK.out; omega, by simp, by go_num, HM3.out, by rw [HC.out, List.map_append, HE.out]; rfl, HF3.out⟩
    · obtain rfl : k = fs.length := by omega
      clear HK
      go_wp2_with fail
      go_ret
      exact YES.out _ _ _ _ HO.out HE.out HF.out

end Go.Proofs.Ytbjccgahmgpkjaa
namespace Go.Proofs.Ytbjccgahmgpkjaa
open Go.RowKit
set_option linter.unusedVariables false

/-- The numbers of what is assumed. -/
def act (fs : List Fa) : List Int := (fs.filter fun x => x.kind == 1).map fun x => x.id
theorem act_take (fs : List Fa) (k : Nat) (hk : k < fs.length) : act (fs.take (k + 1)) = act (fs.take k) ++ (if (fs[k]!).kind == 1 then [(fs[k]!).id] else []) := by
  rw [take_snoc fs k hk, act, List.filter_append, List.map_append, act]
  congr 1
  generalize fs[k]! = x
  cases h : (x.kind == 1) with
  | false => rw [List.filter_cons, h]; rfl
  | true => rw [List.filter_cons, h]; rfl
theorem act_len (fs : List Fa) : (act fs).length ≤ fs.length := by rw [act, List.length_map]; exact List.length_filter_le _ _
def ActP (fs : List Fa) (w : World) (e : Ending) (w' : World) : Prop := ∃ A' c', e = .returned (.slice A' (act fs).length c') ∧ Ints w' A' c' (act fs) ∧ (∀ k, k ∈ blks A' → w.heap.size ≤ k) ∧ Fr [] w w'
theorem act_r {fs : List Fa} (h : ∀ j : Nat, j < fs.length → R64 (fs[j]!).id) : Ra (act fs) := by
  refine (mem_idx (p := R64)).2 fun x hx => ?_
  obtain ⟨f, hf, rfl⟩ := List.mem_map.1 hx
  exact (mem_idx (p := fun x : Fa => R64 x.id)).1 h f (List.mem_filter.1 hf).1

set_option maxRecDepth 100000 in
set_option maxHeartbeats 4000000 in
theorem active_calls (w : World) (nx dp : Int) (A : Option Addr) (c : Nat) (fs : List Fa) (h : RdF w A fs) (hl : fs.length ≤ 1048576) :
    Calls Try.prog 15 #[.agg (tvs nx dp A c fs)] w (ActP fs w) := by
  have HH := Lib.hid h
  have YES : Hid (∀ A' c' xs W, Ints W A' c' xs → xs = act (fs.take fs.length) → (∀ k, k ∈ blks A' → w.heap.size ≤ k) → Fr [] w W → ActP fs w (.returned (.slice A' xs.length c')) W) := fun A' c' xs W h1 h2 h3 h4 => by
    rw [List.take_length] at h2
    subst h2
    exact ⟨A', c', rfl, h1, h3, h4⟩
  have HS : Hid (At (w.alloc (.cells (tvs nx dp A c fs) 42)) w.heap.size 42 (tvs nx dp A c fs)) := At.new _ _ _
  have HF0 : Hid (Fr [] w (w.alloc (.cells (tvs nx dp A c fs) 42))) := box_fr _ _
  simp only [tvs] at HS HF0 ⊢
  have c2 := HS.out.cell 2
  simp at c2
  clear h
  go_enter Try.func15, Try.ntmps15
  go_wp2_with fail
  clear c2
  go_loopg [3, 9] fs.length (fun g x5 x11 wr => ∃ (k : Nat) (A' : Option Addr) (c' : Nat) (xs : List Int), k + g = fs.length ∧ x5 = .slice A' xs.length c' ∧ x11 = .int .i64 k ∧ Ints wr A' c' xs ∧ xs = act (fs.take k) ∧ (∀ k, k ∈ blks A' → w.heap.size ≤ k) ∧ Fr [] w wr)
  case atStart => exact ⟨0, none, 0, [], by omega, rfl, rfl, World.ownsRow_nil _ 0 _ 1, by simp [act], by simp [blks], HF0.out⟩
  case round =>
    obtain ⟨k, A', c', xs, hk, rfl, rfl, ho, he, hnw, hf⟩ := hrel
    have HK := Lib.hid hk
    have HO := Lib.hid ho
    have HE := Lib.hid he
    have HF := Lib.hid hf
    have HNW := Lib.hid hnw
    have hkn : k ≤ fs.length := by omega
    have hhl : xs.length ≤ k := by
      rw [he]
      have h2 := act_len (fs.take k)
      rw [List.length_take] at h2
      omega
    clear hk ho he hf HF0 HS hnw
    by_cases hlt : k < fs.length
    · obtain ⟨b, o, id, kk, dd, B1, d1, l1, B2, d2, l2, hA, hx, x0, x1, x2, x3, x4, ok, r1, r2⟩ := (HH.out.keep HF.out).one hlt
      subst hA
      have hcl := act_take fs k hlt
      rw [hx.out] at hcl
      simp only at hcl
      have HC := Lib.hid hcl
      clear hcl
      obtain ⟨q, HQ⟩ : ∃ q : Bool, Hid ((kk == 1) = q) := ⟨(kk == 1), Lib.hid rfl⟩
      have hq := HQ.out
      rw [HQ.out] at HC
      clear ok
      cases q with
      | false =>
        simp only [Bool.false_eq_true, if_false, List.append_nil] at HC
        go_wp2_with fail
        go_roundg (gk - 1)
        case measure => have := HK.out; omega
        case rel => exact ⟨k + 1, A', c', xs, by have := HK.out; omega, rfl, by go_num, HO.out.fr (box_fr _ _) (by simp), by rw [HC.out]; exact HE.out, HNW.out, HF.out.then_ (box_fr _ _)⟩
      | true =>
        simp only [if_true] at HC
        obtain ⟨wb, hwb⟩ : ∃ W, (wr.alloc (.cells #[.int .i64 id, .int .i64 kk, .int .i64 dd, .slice B1 l1.length d1, .slice B2 l2.length d2] 78)).alloc (.cells #[.int .i64 id] 3) = W := ⟨_, rfl⟩
        have HFB : Hid (Fr [] wr wb) := hwb ▸ ((box_fr _ _).then_ (box_fr _ _))
        have hcell : wb.cell? ⟨wr.heap.size + 1, 0, none⟩ = some (.int .i64 id) := by
          have := (At.new (wr.alloc (.cells #[.int .i64 id, .int .i64 kk, .int .i64 dd, .slice B1 l1.length d1, .slice B2 l2.length d2] 78)) 3 #[.int .i64 id]).cell 0
          rw [hwb] at this
          simpa using this
        go_wp2_with (at_builtin; (refine wpList_append_int _ rfl _ _ rfl A' c' xs xs.length rfl rfl (HO.out.fr HFB.out (by simp)) ⟨wr.heap.size + 1, 0, none⟩ 1 id rfl hcell (by omega) ?_; intro g cap w3 hrow hfr hg hs3))
        have HR3 := Lib.hid hrow
        have HG3 : Hid (w.heap.size ≤ g) := (by
          rcases hg with h1 | h1
          · exact HNW.out g h1
          · have := HF.out.size; have := HFB.out.size; omega : w.heap.size ≤ g)
        have HF3 : Hid (Fr [] w w3) := (HF.out.then_ HFB.out).trans hfr (fun x hx => .inr (HNW.out x hx))
        clear hcell hrow hfr hg hs3 hwb
        go_roundg (gk - 1)
        case measure => have := HK.out; omega
        case rel => exact ⟨k + 1, some ⟨g, 0, none⟩, cap, xs ++ [id], by have := HK.out; omega, by simp, by go_num, HR3.out, by rw [HC.out, HE.out], fun j hj => by simp [blks] at hj; subst hj; exact HG3.out, HF3.out⟩
    · obtain rfl : k = fs.length := by omega
      clear HK
      go_wp2_with fail
      go_ret
      exact YES.out _ _ _ _ HO.out HE.out HNW.out HF.out

end Go.Proofs.Ytbjccgahmgpkjaa
namespace Go.Proofs.Ytbjccgahmgpkjaa
open Go.RowKit
set_option linter.unusedVariables false

set_option maxHeartbeats 1000000 in
theorem sindex_ints (w : World) (A : Option Addr) (c : Nat) (xs : List Int) (n : Int) (h : Rd w A xs) (hr : Ra xs) (hl : xs.length ≤ 17592186044416) :
    Calls Try.prog 73 #[.slice A xs.length c, .int .i64 n] w (IxP (xs.any (n == ·)) w) := by
  have HH := Lib.hid h
  have HR := Lib.hid hr
  have YES : Hid (∀ (k : Nat) W, k ≤ 17592186044416 → xs.any (n == ·) = true → Fr [] w W → IxP (xs.any (n == ·)) w (.returned (.int .i64 (k : Int))) W) := fun k W h1 h2 h3 => ⟨k, rfl, by omega, by omega, by rw [h2]; exact decide_eq_true (by omega), h3⟩
  have NO : Hid (∀ W, xs.any (n == ·) = false → Fr [] w W → IxP (xs.any (n == ·)) w (.returned (.int .i64 (-1))) W) := fun W h2 h3 => ⟨-1, rfl, by omega, by omega, by rw [h2]; rfl, h3⟩
  clear h hr
  go_enter Try.func73, Try.ntmps73
  go_wp2_with fail
  go_loopg [8] xs.length (fun g i wr => ∃ k : Nat, k + g = xs.length ∧ i = .int .i64 k ∧ Fr [] w wr ∧ NoneTo xs (n == ·) k)
  case atStart => exact ⟨0, by omega, rfl, Fr.refl _ _, NoneTo.zero _ _⟩
  case round =>
    obtain ⟨k, hk, rfl, hx, hn⟩ := hrel
    have HK := Lib.hid hk
    have HX := Lib.hid hx
    have HN := Lib.hid hn
    have hkn : k ≤ xs.length := by omega
    clear hk hx hn
    by_cases hlt : k < xs.length
    · obtain ⟨b, o, x, hA, he, cx, hx1, hx2⟩ := (HH.out.keep HX.out).one HR.out hlt
      subst hA
      obtain ⟨q, HQ⟩ : ∃ q : Bool, Hid ((n == x) = q) := ⟨(n == x), Lib.hid rfl⟩
      have hq := HQ.out
      cases q with
      | true =>
        go_wp2_with fail
        go_ret
        exact YES.out k _ (by omega) (any_yes _ _ k hlt (by rw [he.out]; exact HQ.out)) HX.out
      | false =>
        go_wp2_with fail
        go_roundg (gk - 1)
        case measure => have := HK.out; omega
        case rel => exact ⟨k + 1, by have := HK.out; omega, by go_num, HX.out, HN.out.step (by rw [he.out]; exact HQ.out)⟩
    · have HT := Lib.hid (HN.out.all hlt)
      clear HN HK
      go_wp2_with fail
      go_ret
      exact NO.out _ HT.out HX.out
theorem scontains_ints (w : World) (A : Option Addr) (c : Nat) (xs : List Int) (n : Int) (h : Rd w A xs) (hr : Ra xs) (hl : xs.length ≤ 17592186044416) :
    Calls Try.prog 65 #[.slice A xs.length c, .int .i64 n] w fun e w' => e = .returned (.bool (xs.any (n == ·))) ∧ Fr [] w w' := by
  have HC := Lib.hid (sindex_ints w A c xs n h hr hl)
  clear h hr
  go_enter Try.func65, Try.ntmps65
  go_wp2_with fail
  refine HC.out.mono ?_
  rintro e w2 ⟨n, rfl, h1, h2, h3, hf⟩
  have H3 := Lib.hid h3
  have HF := Lib.hid hf
  clear h3 hf
  go_wp2_with fail
  go_ret
  exact ⟨by rw [← H3.out]; rfl, HF.out⟩

/-- Is a number none of some? -/
def lackB (s : List Int) (n : Int) : Bool := !s.any (n == ·)
theorem beyond1 (w : World) (g : Nat) (B : Option Addr) (d : Nat) (s : List Int) (n : Int) (hc : w.cell? ⟨g, 0, none⟩ = some (.slice B s.length d)) (h : Rd w B s) (hr : Ra s) (hl : s.length ≤ 17592186044416) :
    Calls Try.prog 64 #[.int .i64 n, .pointer (some ⟨g, 0, none⟩)] w fun e w' => e = .returned (.bool (lackB s n)) ∧ Fr [] w w' := by
  have HC := Lib.hid (scontains_ints w B d s n h hr hl)
  obtain ⟨q, HQ⟩ : ∃ q : Bool, Hid (s.any (n == ·) = q) := ⟨s.any (n == ·), Lib.hid rfl⟩
  have HB : Hid (lackB s n = !q) := (by rw [lackB, HQ.out] : lackB s n = !q)
  rw [HQ.out] at HC
  rw [HB.out]
  clear h hr
  go_enter Try.func64, Try.ntmps64
  go_wp2_with fail
  refine HC.out.mono ?_
  rintro e w2 ⟨rfl, hf⟩
  have HF := Lib.hid hf
  clear hf
  go_wp2_with fail
  go_ret
  exact ⟨rfl, HF.out⟩
theorem enters64 : ∀ args w, (callFunc 64 args).run Try.prog w = .ok (.enter 64 args) w := enters_of Try.func64 (by kernel_rfl) rfl

set_option maxHeartbeats 1000000 in
theorem beyond_calls (w : World) (A B : Option Addr) (c d : Nat) (xs s : List Int) (hx : Rd w A xs) (hxr : Ra xs) (hxl : xs.length ≤ 17592186044416) (h : Rd w B s) (hr : Ra s) (hl : s.length ≤ 17592186044416) :
    Calls Try.prog 55 #[.slice A xs.length c, .slice B s.length d] w fun e w' => e = .returned (.bool (xs.any (lackB s))) ∧ Fr [] w w' := by
  have hmf : ∀ (fn : Fn) (first cap : Array Value) (w : World), (Instr.makeFunc fn first cap).run Try.prog w = .ok (.func fn first cap) w := fun _ _ _ _ => rfl
  obtain ⟨W0, hW0⟩ : ∃ W, w.alloc (.cells #[.slice B s.length d] 22) = W := ⟨_, rfl⟩
  have HF0 : Hid (Fr [] w W0) := hW0 ▸ box_fr _ _
  have hb : At W0 w.heap.size 22 #[.slice B s.length d] := hW0 ▸ At.new w _ _
  have KC := Lib.hid (contains_ints W0 A c xs 64 #[.pointer (some ⟨w.heap.size, 0, none⟩)] (lackB s) enters64 (hx.keep HF0.out) hxr hxl
    (fun W hW x _ hx => beyond1 W _ B d s x (hW.cellS (by rw [hb.cell]; rfl)) ((h.keep HF0.out).keep hW) hr hl))
  clear hx hxr h hr hb
  go_enter Try.func55, Try.ntmps55
  go_wp2_with fail
  refine KC.out.mono ?_
  rintro e w2 ⟨rfl, hf⟩
  have HF := Lib.hid (HF0.out.then_ hf)
  clear hf
  go_wp2_with fail
  go_ret
  exact ⟨rfl, HF.out⟩

end Go.Proofs.Ytbjccgahmgpkjaa
namespace Go.Proofs.Ytbjccgahmgpkjaa
open Go.RowKit
set_option linter.unusedVariables false

theorem nan_calls (w : World) (a : Int) : Calls Try.prog 105 #[.int .i64 a] w fun e w' => e = .returned (.bool false) ∧ w = w' := by
  have h : (a != a) = false := by simp
  go_enter Try.func105, Try.ntmps105
  go_wp2_with fail
  go_ret
  exact ⟨by simp, rfl⟩
def cmpI (a b : Int) : Int := if a < b then -1 else if b < a then 1 else 0
theorem compare_calls (w : World) (a b : Int) : Calls Try.prog 91 #[.int .i64 a, .int .i64 b] w fun e w' => e = .returned (.int .i64 (cmpI a b)) ∧ w = w' := by
  have KN := Lib.hid (fun x => nan_calls w x)
  have hK : Hid (∀ s, cmpI a b = s → Ending.returned (.int .i64 s) = .returned (.int .i64 (cmpI a b))) := fun s h => by rw [h]
  go_enter Try.func91, Try.ntmps91
  go_wp2_with fail
  refine (KN.out _).mono ?_
  rintro e w1 ⟨rfl, rfl⟩
  go_wp2_with fail
  refine (KN.out _).mono ?_
  rintro e w1 ⟨rfl, rfl⟩
  by_cases h1 : a < b
  · have d1 : decide (a < b) = true := decide_eq_true h1
    have HV : Hid (cmpI a b = -1) := (by rw [cmpI, if_pos h1] : cmpI a b = -1)
    go_wp2_with fail
    go_ret
    exact ⟨hK.out _ HV.out, rfl⟩
  · have d1 : decide (a < b) = false := decide_eq_false h1
    by_cases h2 : b < a
    · have d2 : decide (b < a) = true := decide_eq_true h2
      have HV : Hid (cmpI a b = 1) := (by rw [cmpI, if_neg h1, if_pos h2] : cmpI a b = 1)
      go_wp2_with fail
      go_ret
      exact ⟨hK.out _ HV.out, rfl⟩
    · have d2 : decide (b < a) = false := decide_eq_false h2
      have HV : Hid (cmpI a b = 0) := (by rw [cmpI, if_neg h1, if_neg h2] : cmpI a b = 0)
      go_wp2_with fail
      go_ret
      exact ⟨hK.out _ HV.out, rfl⟩
def absF (a : Int) : Int := if a < wrap64 (-a) then wrap64 (-a) else a
theorem abs_calls (w : World) (a : Int) : Calls Try.prog 92 #[.int .i64 a] w fun e w' => e = .returned (.int .i64 (absF a)) ∧ w = w' := by
  go_enter Try.func92, Try.ntmps92
  go_wp2_with fail
  all_goals (go_ret; first | exact ⟨by rw [absF, if_pos (by assumption)]; rfl, rfl⟩ | exact ⟨by rw [absF, if_neg (by omega)]; rfl, rfl⟩)
def orI (a b : Int) : Int := if a = 0 then b else a

set_option maxHeartbeats 1000000 in
theorem or_calls (w : World) (g : Nat) (a b : Int) (h0 : w.cell? ⟨g, 0, none⟩ = some (.int .i64 a)) (h1 : w.cell? ⟨g, 1, none⟩ = some (.int .i64 b)) :
    Calls Try.prog 90 #[.slice (some ⟨g, 0, none⟩) 2 2] w fun e w' => e = .returned (.int .i64 (orI a b)) ∧ w = w' := by
  have hK : Hid (∀ s, orI a b = s → Ending.returned (.int .i64 s) = .returned (.int .i64 (orI a b))) := fun s h => by rw [h]
  have H0 := Lib.hid h0
  have H1 := Lib.hid h1
  clear h0 h1
  go_enter Try.func90, Try.ntmps90
  go_wp2_with fail
  go_loopg [8] 2 (fun gk i wr => wr = w ∧ ((gk = 2 ∧ i = .int .i64 0) ∨ (gk = 1 ∧ i = .int .i64 1 ∧ a = 0) ∨ (gk = 0 ∧ i = .int .i64 2 ∧ a = 0 ∧ b = 0)))
  case atStart => exact ⟨rfl, .inl ⟨rfl, rfl⟩⟩
  case round =>
    obtain ⟨rfl, hc⟩ := hrel
    rcases hc with ⟨rfl, rfl⟩ | ⟨rfl, rfl, rfl⟩ | ⟨rfl, rfl, rfl, rfl⟩
    · have h0 := H0.out
      by_cases ha : a = 0
      · have hb : (a != 0) = false := by simp [ha]
        go_wp2_with fail
        go_roundg 1
        case measure => decide
        case rel => exact ⟨rfl, .inr (.inl ⟨rfl, rfl, ha⟩)⟩
      · have hb : (a != 0) = true := by simp [ha]
        have HV : Hid (orI a b = a) := (by rw [orI, if_neg ha] : orI a b = a)
        go_wp2_with fail
        go_ret
        exact ⟨hK.out _ HV.out, rfl⟩
    · have h1 := H1.out
      by_cases ha : b = 0
      · have hb : (b != 0) = false := by simp [ha]
        go_wp2_with fail
        go_roundg 0
        case measure => decide
        case rel => exact ⟨rfl, .inr (.inr ⟨by first | rfl | trivial, by first | rfl | trivial, by first | rfl | trivial, ha⟩)⟩
      · have hb : (b != 0) = true := by simp [ha]
        have HV : Hid (orI 0 b = b) := (by rw [orI, if_pos rfl] : orI 0 b = b)
        go_wp2_with fail
        go_ret
        exact ⟨hK.out _ HV.out, rfl⟩
    · go_wp2_with fail
      go_ret
      exact ⟨rfl, rfl⟩

/-- The order. -/
def ordF (a b : Int) : Int := orI (cmpI (absF a) (absF b)) (cmpI a b)
set_option maxHeartbeats 1000000 in
theorem order_calls (w : World) (a b : Int) : Calls Try.prog 82 #[.int .i64 a, .int .i64 b] w fun e w' => e = .returned (.int .i64 (ordF a b)) ∧ w' = w.alloc (.cells #[.int .i64 (cmpI (absF a) (absF b)), .int .i64 (cmpI a b)] 3) := by
  have KA := Lib.hid (fun x => abs_calls w x)
  have KC := Lib.hid (fun x y => compare_calls w x y)
  have hn := At.new w 3 #[.int .i64 (cmpI (absF a) (absF b)), .int .i64 (cmpI a b)]
  have KO := Lib.hid (or_calls (w.alloc (.cells #[.int .i64 (cmpI (absF a) (absF b)), .int .i64 (cmpI a b)] 3)) w.heap.size (cmpI (absF a) (absF b)) (cmpI a b) (by rw [hn.cell]; rfl) (by rw [hn.cell]; rfl))
  have hK : Hid (Ending.returned (.int .i64 (orI (cmpI (absF a) (absF b)) (cmpI a b))) = .returned (.int .i64 (ordF a b))) := rfl
  clear hn
  go_enter Try.func82, Try.ntmps82
  go_wp2_with fail
  refine (KA.out _).mono ?_
  rintro e w1 ⟨rfl, rfl⟩
  go_wp2_with fail
  refine (KA.out _).mono ?_
  rintro e w1 ⟨rfl, rfl⟩
  go_wp2_with fail
  refine (KC.out _ _).mono ?_
  rintro e w1 ⟨rfl, rfl⟩
  go_wp2_with fail
  refine (KC.out _ _).mono ?_
  rintro e w1 ⟨rfl, rfl⟩
  go_wp2_with fail
  refine KO.out.mono ?_
  rintro e w1 ⟨rfl, rfl⟩
  go_wp2_with fail
  go_ret
  exact ⟨hK.out, rfl⟩
theorem enters82 : ∀ args w, (callFunc 82 args).run Try.prog w = .ok (.enter 82 args) w := enters_of Try.func82 (by kernel_rfl) rfl

end Go.Proofs.Ytbjccgahmgpkjaa
