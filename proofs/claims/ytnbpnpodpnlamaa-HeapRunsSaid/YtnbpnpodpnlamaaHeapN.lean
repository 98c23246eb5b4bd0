/- The heap's law: best and without walked. -/
import Derived.Test.YtnbpnpodpnlamaaRead
namespace Go.Proofs.Ytnbpnpodpnlamaa
open Go.RowKit

def better (sc : List Int) (b x : Int) : Bool := decide (b < 0) || decide (sc[b.toNat]! < sc[x.toNat]!) || (decide (sc[x.toNat]! = sc[b.toNat]!) && decide (x < b))
def bestF (sc : List Int) (l : List Int) : Int := l.foldl (fun b x => if better sc b x = true then x else b) (-1)

theorem bestF_snoc (sc l : List Int) (x : Int) : bestF sc (l ++ [x]) = if better sc (bestF sc l) x = true then x else bestF sc l := by
  unfold bestF
  rw [List.foldl_append]
  rfl

theorem bestF_mem (sc l : List Int) : bestF sc l = -1 ∨ bestF sc l ∈ l := by
  have gen : ∀ (l : List Int) (b : Int), l.foldl (fun b x => if better sc b x = true then x else b) b = b ∨ l.foldl (fun b x => if better sc b x = true then x else b) b ∈ l := by
    intro l
    induction l with
    | nil => intro b; exact .inl rfl
    | cons x l ih =>
      intro b
      rw [List.foldl_cons]
      rcases ih (if better sc b x = true then x else b) with h | h
      · rw [h]
        split
        · exact .inr (by simp)
        · exact .inl rfl
      · exact .inr (List.mem_cons_of_mem _ h)
  exact gen l (-1)

theorem take_snoc_i (l : List Int) {k : Nat} (h : k < l.length) : l.take (k + 1) = l.take k ++ [l[k]!] := by
  rw [List.take_succ_eq_append_getElem h]; simp [h]

set_option maxRecDepth 100000 in
set_option maxHeartbeats 2000000 in
theorem best_any (w : World) (A B : Option Addr) (c d : Nat) (xs sc : List Int) (h : Rd w A xs) (hs : Rd w B sc) (hr : ∀ x, x ∈ xs → 0 ≤ x ∧ x < sc.length) (hl : xs.length ≤ 1048576) :
    Calls Try.prog 30 #[.slice A xs.length c, .slice B sc.length d] w fun e w' => e = .returned (.int .i64 (bestF sc xs)) ∧ ∃ n, w.drewN n = w' := by
  go_enter Try.func30, Try.ntmps30
  go_wp2_with fail
  have H := Lib.hid h
  have HS := Lib.hid hs
  have HR := Lib.hid hr
  clear h hs hr
  go_loopg [5, 6] xs.length (fun g bv i wr => ∃ (k n : Nat), k + g = xs.length ∧ i = .int .i64 k ∧ w.drewN n = wr ∧ bv = .int .i64 (bestF sc (xs.take k)))
  case atStart => exact ⟨0, 0, by omega, rfl, rfl, rfl⟩
  case round =>
    obtain ⟨k, n, hk, rfl, rfl, rfl⟩ := hrel
    have HK := Lib.hid hk
    have hk2 : k ≤ xs.length := by omega
    have hm := bestF_mem sc (xs.take k)
    by_cases hlt : k < xs.length
    · have hts := bestF_snoc sc (xs.take k) xs[k]!
      rw [← take_snoc_i xs hlt] at hts
      have hxm : xs[k]! ∈ xs := by rw [List.getElem!_eq_getElem?_getD, List.getElem?_eq_getElem hlt]; exact List.getElem_mem hlt
      obtain ⟨rx0, rx1⟩ := HR.out _ hxm
      have hsl : 0 < sc.length := by omega
      obtain ⟨b1, o1, rfl, cx0⟩ := H.out (by omega)
      obtain ⟨b2, o2, rfl, cs⟩ := HS.out hsl
      have cx := cx0 k hlt
      clear cx0
      obtain ⟨x, hx⟩ : ∃ x, xs[k]! = x := ⟨_, rfl⟩
      rw [hx] at cx rx0 rx1 hts
      have csx := cs x.toNat (by omega)
      obtain ⟨b, hb⟩ : ∃ b, bestF sc (xs.take k) = b := ⟨_, rfl⟩
      rw [hb] at hm hts ⊢
      obtain ⟨sx, hsx⟩ : ∃ sx, sc[x.toNat]! = sx := ⟨_, rfl⟩
      rw [hsx] at csx
      by_cases hb0 : b < 0
      · have hts' : Hid (bestF sc (xs.take (k + 1)) = x) := by show _ = _; rw [hts]; simp [better, hb0]
        clear hts hm hb cs hx hsx hk hxm
        go_wp2_with fail
        go_quiet (fail)
        go_wp2_with fail
        go_roundg (gk - 1)
        case measure => have := HK.out; omega
        case rel => exact ⟨k + 1, _, by have := HK.out; omega, by go_num, rfl, by rw [hts'.out]⟩
      · have hbm : b ∈ xs := by
          rcases hm with h | h
          · omega
          · exact List.mem_of_mem_take h
        obtain ⟨rb0, rb1⟩ := HR.out _ hbm
        have csb := cs b.toNat (by omega)
        obtain ⟨sb, hsb⟩ : ∃ sb, sc[b.toNat]! = sb := ⟨_, rfl⟩
        rw [hsb] at csb
        have hb0' : decide (b < 0) = false := decide_eq_false hb0
        have HB0 := Lib.hid hb0
        by_cases h1 : sb < sx
        · have hts' : Hid (bestF sc (xs.take (k + 1)) = x) := by show _ = _; rw [hts]; simp [better, hsx, hsb, h1]
          clear hts hm hb cs hx hsx hk hxm hsb hbm hb0
          go_wp2_with fail
          go_quiet (fail)
          go_wp2_with fail
          go_roundg (gk - 1)
          case measure => have := HK.out; omega
          case rel => exact ⟨k + 1, _, by have := HK.out; omega, by go_num, rfl, by rw [hts'.out]⟩
        · have h1' : decide (sb < sx) = false := decide_eq_false h1
          by_cases h2 : sx = sb
          · have h2' : (sx == sb) = true := beq_iff_eq.2 h2
            by_cases h3 : x < b
            · have hts' : Hid (bestF sc (xs.take (k + 1)) = x) := by show _ = _; rw [hts]; simp [better, hsx, hsb, h2, h3]
              subst h2
              clear hts hm hb cs hx hsx hk hxm hsb hbm hb0 h2' h1
              go_wp2_with fail
              go_quiet (fail)
              go_wp2_with fail
              go_roundg (gk - 1)
              case measure => have := HK.out; omega
              case rel => exact ⟨k + 1, _, by have := HK.out; omega, by go_num, rfl, by rw [hts'.out]⟩
            · have h3' : decide (x < b) = false := decide_eq_false h3
              have hts' : Hid (bestF sc (xs.take (k + 1)) = b) := by show _ = _; rw [hts]; simp [better, hsx, hsb, h2, h3, hb0]
              subst h2
              clear hts hm hb cs hx hsx hk hxm hsb hbm hb0 h2' h1 h3
              go_wp2_with fail
              go_quiet (fail)
              go_wp2_with fail
              go_roundg (gk - 1)
              case measure => have := HK.out; omega
              case rel => exact ⟨k + 1, _, by have := HK.out; omega, by go_num, rfl, by rw [hts'.out]⟩
          · have h2' : (sx == sb) = false := beq_eq_false_iff_ne.2 h2
            have hts' : Hid (bestF sc (xs.take (k + 1)) = b) := by show _ = _; rw [hts]; simp [better, hsx, hsb, h2, h1, hb0]
            clear hts hm hb cs hx hsx hk hxm hsb hbm hb0 h2 h1
            go_wp2_with fail
            go_quiet (fail)
            go_wp2_with fail
            go_roundg (gk - 1)
            case measure => have := HK.out; omega
            case rel => exact ⟨k + 1, _, by have := HK.out; omega, by go_num, rfl, by rw [hts'.out]⟩
    · have hz : k = xs.length := by omega
      subst hz
      clear hk hm
      go_wp2_with fail
      go_ret
      exact ⟨by simp, _, rfl⟩

set_option maxRecDepth 100000 in
set_option maxHeartbeats 2000000 in
theorem without_any (w : World) (A : Option Addr) (c : Nat) (xs : List Int) (n : Int) (h : Rd w A xs) (hlt : ∀ ad, A = some ad → ad.block < w.heap.size) (hl : xs.length ≤ 1048576) :
    Calls Try.prog 32 #[.slice A xs.length c, .int .i64 n] w fun e w' => ∃ B d, e = .returned (.slice B (xs.filter (· != n)).length d) ∧ Ints w' B d (xs.filter (· != n)) ∧ (∀ k, k ∈ blks B → w.heap.size ≤ k) ∧ Fr [] w w' := by
  go_enter Try.func32, Try.ntmps32
  go_wp2_with fail
  have H := Lib.hid h
  have HL := Lib.hid hlt
  clear h hlt
  go_loopg [5, 6] xs.length (fun g ov i wr => ∃ (k : Nat) (B : Option Addr) (d : Nat) (ys : List Int), k + g = xs.length ∧ i = .int .i64 k ∧ ov = .slice B ys.length d ∧ Hid (ys = (xs.take k).filter (· != n)) ∧ Ints wr B d ys ∧ Hid (∀ k, k ∈ blks B → w.heap.size ≤ k) ∧ Fr [] w wr)
  case atStart => exact ⟨0, none, 0, [], by omega, rfl, rfl, rfl, Ints.nil _, by simp [blks, Hid], Fr.refl _ _⟩
  case round =>
    obtain ⟨k, B, d, ys, hk, rfl, rfl, hy, hi, hb, hf⟩ := hrel
    have HK := Lib.hid hk
    have hk2 : k ≤ xs.length := by omega
    have HI := Lib.hid hi
    have HF := Lib.hid hf
    clear hk hi hf
    by_cases hlt : k < xs.length
    · obtain ⟨b1, o1, rfl, cx0⟩ := H.out (by omega)
      have cx1 := cx0 k hlt
      have hbl := HL.out _ rfl
      have cx : wr.cell? ⟨b1, o1 + k, none⟩ = some (.int .i64 xs[k]!) := (World.cell?_of_block (HF.out.block b1 hbl (by simp))).trans cx1
      clear cx0 cx1
      have hts := take_snoc_i xs hlt
      obtain ⟨x, hx⟩ : ∃ x, xs[k]! = x := ⟨_, rfl⟩
      rw [hx] at cx hts
      have hyl : ys.length ≤ k := by
        rw [hy.out]
        exact Nat.le_trans (List.length_filter_le _ _) (List.length_take_le _ _)
      by_cases he : x = n
      · have HS : Hid (ys = (xs.take (k + 1)).filter (· != n)) := by
          show _ = _
          rw [hts, List.filter_append, ← hy.out, he]; simp
        have he' : (x == n) = true := beq_iff_eq.2 he
        have he'' : (x != n) = false := by simp [he]
        clear he hts hx
        go_wp2_with fail
        go_roundg (gk - 1)
        case measure => have := HK.out; omega
        case rel => exact ⟨k + 1, B, d, ys, by have := HK.out; omega, by go_num, rfl, HS, HI.out, hb, HF.out⟩
      · have HS : Hid (ys ++ [x] = (xs.take (k + 1)).filter (· != n)) := by
          show _ = _
          rw [hts, List.filter_append, ← hy.out]; simp [he]
        have he' : (x != n) = true := by simpa using he
        clear he hts hx
        go_wp2_with (at_builtin; refine wpList_append_int _ rfl _ _ rfl B d ys _ rfl rfl (HI.out.alloc _) ⟨wr.heap.size, 0, none⟩ 1 x rfl (by simp) (by omega) ?_; intro g cap w2 hi2 hf2 hg2 hs2; have HI2 := Lib.hid hi2; have HF2 := Lib.hid hf2; have HG2 := Lib.hid hg2; clear hi2 hf2 hg2 hs2)
        go_roundg (gk - 1)
        case measure => have := HK.out; omega
        case rel =>
          have hsz := HF.out.size
          refine ⟨k + 1, some ⟨g, 0, none⟩, cap, ys ++ [x], by have := HK.out; omega, by go_num, by simp, HS, HI2.out, ?_, (HF.out.alloc _).trans HF2.out (fun j hj => .inr (hb.out j hj))⟩
          intro j hj
          simp only [blks, Option.map_some, Option.toList_some, List.mem_singleton] at hj
          subst hj
          rcases HG2.out with h | h
          · exact hb.out _ h
          · rw [h]; simp; omega
    · have hz : k = xs.length := by omega
      subst hz
      have hy2 : ys = xs.filter (· != n) := by rw [hy.out]; simp
      subst hy2
      go_wp2_with fail
      go_ret
      exact ⟨B, d, rfl, HI.out, hb.out, HF.out⟩

end Go.Proofs.Ytnbpnpodpnlamaa
