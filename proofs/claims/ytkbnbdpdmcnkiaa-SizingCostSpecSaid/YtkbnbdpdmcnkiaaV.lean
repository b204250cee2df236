/- SizingCostSpec. -/
import Derived.Test.YtkbnbdpdmcnkiaaU
namespace Go.Proofs.Ytkbnbdpdmcnkiaa
open Go.RowKit

set_option maxHeartbeats 1000000 in
theorem sizingCostSpec_any (n c n' c' : Nat) (A A' : Option Addr) (xs ls : List Int) (s h : Int) (w : World) (hx : SI w w.heap.size A n xs) (hy : SI w w.heap.size A' n' ls) (hn : n ≤ 9223372036854775807) (hn' : n' ≤ 9223372036854775807) :
    Calls Try.prog 4 #[.slice A n c, .slice A' n' c', .int .i64 s, .int .i64 h] w fun e w' => e = .returned (.bool true) ∧ Below w.heap.size w w' := by
  by_cases a1 : (40 : Int) < n
  · go_enter Try.func4, Try.ntmps4
    go_wp2_with fail
    refine (sane22_any w).mono ?_
    rintro e w1 ⟨rfl, hb1⟩
    go_wp2_with fail
    go_ret
    exact ⟨rfl, hb1⟩
  by_cases a2 : (40 : Int) < n'
  · go_enter Try.func4, Try.ntmps4
    go_wp2_with fail
    refine (sane22_any w).mono ?_
    rintro e w1 ⟨rfl, hb1⟩
    go_wp2_with fail
    go_ret
    exact ⟨rfl, hb1⟩
  go_enter Try.func4, Try.ntmps4
  go_wp2_with fail
  refine (sane22_any w).mono ?_
  rintro e w1 ⟨rfl, hb1⟩
  go_wp2_with fail
  refine (Covers_any w.heap.size _ _ _ _ _ _ xs ls w1 (hx.below hb1) (hy.below hb1) hn hn').mono ?_
  rintro e w' ⟨rfl, rfl⟩
  go_wp2_with fail
  refine (rCovers_any w.heap.size _ _ _ _ _ _ xs ls w1 (hx.below hb1) (hy.below hb1) hn hn').mono ?_
  rintro e w' ⟨rfl, q, rfl⟩
  go_wp2_with fail
  refine (Cost_any w.heap.size _ _ _ _ _ _ xs ls s h _ ((hx.below hb1).drewN q) ((hy.below hb1).drewN q) hb1.size hn hn').mono ?_
  rintro e w2 ⟨rfl, hb2⟩
  replace hb2 := (below_drewN hb1 q).trans (hb2.mono hb1.size)
  clear hb1
  go_wp2_with fail
  refine (rCost_any w.heap.size _ _ _ _ _ _ xs ls s h _ (hx.below hb2) (hy.below hb2) hn hn').mono ?_
  rintro e w' ⟨rfl, q2, rfl⟩
  go_wp2_with fail
  go_ret
  exact ⟨rfl, below_drewN hb2 q2⟩
end Go.Proofs.Ytkbnbdpdmcnkiaa
