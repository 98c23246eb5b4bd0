/-  -/
import Derived.Test.YtdpigdlknmcmlaaGreatShD
import Derived.Test.YtdpigdlknmcmlaaGreatShB
set_option linter.unusedVariables false
namespace Go.Proofs.YtdpigdlknmcmlaaGreat
open Go.RowKit
namespace Sv
end Sv
theorem EndQ_rt {us : List Int} {cls : List (List Int)} {V U W u0 : Nat} {S : Sv} {r : Int} (h8 : V ≤ 8) (hc : ∀ c ∈ cls, InR V c) (hu : InR V us) (h : Sv.EndQ us (FC cls) V U W u0 S r) : Rt V cls us S r := ⟨h8, hc, hu, h.1.vars, h.2.2⟩
theorem Own.tells {w0 w : World} {L : SvL} {S : Sv} (h : Own w0 w L S) {F : (Nat → Bool) → Prop} {V U W : Nat} (k : Sv.Kept F V U W S) (h8 : V ≤ 8) (hU : U ≤ 137438953472) (hW : W ≤ 137438953472) (A : Option Addr) (c : Nat) (us : List Int) (hrd : Rdx w L A us) (hra : Ra us) (hcap : us.length ≤ c) (hul : us.length ≤ 1048576) (hu : InR V us) :
  Calls Tryz.prog 10 #[.pointer (some ⟨L.a, 0, none⟩), .int .i64 1099511627776, .slice A us.length c] w (OsP (Sv.EndQ us F V (U + 2) W (S.used + 1)) L.a w0) :=
 h.solve true (fun _ => reduce_calls) k.inv.ok A c us hrd hra hcap (by omega) 1099511627776 19 68722098185 _ (by have := k.used; omega) (Sv.solve_told k h8 (by omega) (by omega) hu (by omega))
end Go.Proofs.YtdpigdlknmcmlaaGreat
