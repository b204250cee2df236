/- prices.sums.add. -/
import Derived.Test.YtkbnbdpdmcnkiaaBA
import Derived.Test.YtkbnbdpdmcnkiaaJ
namespace Go.Proofs.Ytkbnbdpdmcnkiaa
open Go.RowKit

set_option maxHeartbeats 2000000 in
theorem add_any (gs : Nat) (m nd hl y : Int) (w : World) (hb : Blk w gs 83 #[.int .i64 m, .int .i64 nd, .int .i64 hl]) (m0 : 0 ≤ m) (m1 : m ≤ 16) (n0 : 0 ≤ nd) (n1 : nd ≤ 16777216) (h0 : 0 ≤ hl) (h1 : hl ≤ 268435456) (y0 : 0 ≤ y) (y1 : y ≤ 1048576) :
    Calls Try.prog 67 #[.pointer (some ⟨gs, 0, none⟩), .int .i64 y] w fun e w' =>
      (∃ v, e = .returned v) ∧ w' = (((w.setCell ⟨gs, 1, none⟩ (.int .i64 (nd + y))).setCell ⟨gs, 2, none⟩ (.int .i64 (hl + m * y))).setCell ⟨gs, 0, none⟩ (.int .i64 (m + 1))).drew := by
  have b1 := hb.set_ 1 (.int .i64 (nd + y))
  have b2 := b1.set_ 2 (.int .i64 (hl + m * y))
  simp only [List.setIfInBounds_toArray, List.set_cons_succ, List.set_cons_zero] at b1 b2
  obtain ⟨hm1, hm2⟩ := mul_bd m0 m1 y0 y1
  have c1 := hb.cell 1
  have f1 := hb.frozen 1
  go_enter Try.func67, Try.ntmps67
  go_wp2
  have c0 := b1.cell 0
  have c2 := b1.cell 2
  have f2 := b1.frozen 2
  clear c1 f1
  have d0 := b2.cell 0
  have g0 := b2.frozen 0
  generalize hw1 : w.setCell ⟨gs, 1, none⟩ (.int .i64 (nd + y)) = w1 at *
  have HW1 := Lib.hid hw1
  clear hw1
  have cc0 : w1.cell? ⟨gs, 0, none⟩ = some (.int .i64 m) := c0
  have cc2 : w1.cell? ⟨gs, 2, none⟩ = some (.int .i64 hl) := c2
  have dd0 : (w1.setCell ⟨gs, 2, none⟩ (.int .i64 (hl + m * y))).cell? ⟨gs, 0, none⟩ = some (.int .i64 m) := d0
  clear c0 c2 d0 b1 b2 hb
  go_region
  all_goals (clear cc0 cc2 f2)
  all_goals generalize hw2 : w1.setCell ⟨gs, 2, none⟩ (.int .i64 (hl + m * y)) = w2 at *
  all_goals have HW2 := Lib.hid hw2
  all_goals clear hw2
  all_goals go_wp2
  all_goals go_end0
  all_goals exact ⟨⟨_, rfl⟩, by rw [HW1.out, HW2.out]⟩
end Go.Proofs.Ytkbnbdpdmcnkiaa
