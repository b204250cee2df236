/- sizing.last's closure cost. -/
import Derived.Test.YtkbnbdpdmcnkiaaI
import Derived.RegionTactic
import Derived.ChangeAlike
namespace Go.Proofs.Ytkbnbdpdmcnkiaa
open Go.RowKit

set_option maxHeartbeats 400000 in
theorem cost1_any (bh bs bn bu bo B n cap : Nat) (A : Option Addr) (xs : List Int) (Hd Sm st h a : Int) (s : Nat) (w : World) (hx : SI w B A n xs) (hs : s < n) (ha : a = (s : Int))
    (h1 : Blk w bh 3 #[.int .i64 Hd]) (h2 : Blk w bs 3 #[.int .i64 Sm]) (h3 : Blk w bn 22 #[.slice A n cap]) (h4 : Blk w bu 3 #[.int .i64 st]) (h5 : Blk w bo 3 #[.int .i64 h])
    (hB1 : B ≤ bh) (hne : bh ≠ bs) (hne1 : bh ≠ bn) (hne3 : bh ≠ bu) (hne4 : bs ≠ bu) (hne5 : bh ≠ bo) (hne6 : bs ≠ bo)
    (g1 : 0 ≤ Hd) (g2 : Hd ≤ 268435456) (g3 : 0 ≤ Sm) (g4 : Sm ≤ 16777216) (g5 : 0 ≤ st) (g6 : st ≤ 1048576) (g7 : 0 ≤ h) (g8 : h ≤ 1048576) (g9 : 0 ≤ g xs s) (g10 : g xs s ≤ 1048576) :
    Calls Try.prog 62 #[.int .i64 a, .pointer (some ⟨bh, 0, none⟩), .pointer (some ⟨bs, 0, none⟩), .pointer (some ⟨bn, 0, none⟩), .pointer (some ⟨bu, 0, none⟩), .pointer (some ⟨bo, 0, none⟩)] w fun e w' =>
      e = .returned (.int .i64 (c1V st h Hd Sm (g xs s))) ∧ w' = ((w.setCell ⟨bh, 0, none⟩ (.int .i64 (Hd + Sm))).setCell ⟨bs, 0, none⟩ (.int .i64 (Sm + g xs s))).drew := by
  subst ha
  obtain ⟨b, off, x, rfl, hb, hx1, hc⟩ := hx.look hs
  rw [hx1.out] at g9 g10
  rw [hx1.out]
  have c1 := h1.cell 0
  have c2 := h2.cell 0
  have c3 := h3.cell 0
  have c4 := h4.cell 0
  have c5 := h5.cell 0
  have f1 := h1.frozen 0
  have f2 := h2.frozen 0
  have cx : (w.setCell ⟨bh, 0, none⟩ (.int .i64 (Hd + Sm))).cell? ⟨b, off + s, none⟩ = some (.int .i64 x) := by
    rw [World.cell?_setCell_other _ _ _ _ (by intro e; have := congrArg Addr.block e; simp at this; omega)]; exact hc
  have k1 := (h1.set_ 0 (.int .i64 (Hd + Sm)))
  have k2 := h2.far (p := ⟨bh, 0, none⟩) (Ne.symm hne) (.int .i64 (Hd + Sm))
  have k3 := h3.far (p := ⟨bh, 0, none⟩) (Ne.symm hne1) (.int .i64 (Hd + Sm))
  have k4 := h4.far (p := ⟨bh, 0, none⟩) (Ne.symm hne3) (.int .i64 (Hd + Sm))
  have k5 := h5.far (p := ⟨bh, 0, none⟩) (Ne.symm hne5) (.int .i64 (Hd + Sm))
  have m1 := k1.far (p := ⟨bs, 0, none⟩) hne (.int .i64 (Sm + x))
  have m2 := k2.set_ 0 (.int .i64 (Sm + x))
  have m4 := k4.far (p := ⟨bs, 0, none⟩) (Ne.symm hne4) (.int .i64 (Sm + x))
  have m5 := k5.far (p := ⟨bs, 0, none⟩) (Ne.symm hne6) (.int .i64 (Sm + x))
  have hm := mul_bd g7 g8 (show 0 ≤ Hd + Sm by omega) (show Hd + Sm ≤ 301989888 by omega)
  obtain ⟨hm1, hm2⟩ := hm
  have hkn : (s : Int) < (n : Int) := by omega
  have hk0 : (0 : Int) ≤ (s : Int) := by omega
  by_cases hz : Sm + x = 0
  · have hzb : (Sm + x == 0) = true := by simp [hz]
    have HZ := Lib.hid hz
    clear hz
    go_enter Try.func62, Try.ntmps62
    go_wp2
    clear c1 c2 c3 c4 c5 f1 f2 hc
    have c2 := k2.cell 0
    have c3 := k3.cell 0
    have f2 := k2.frozen 0
    have cm2 := m2.cell 0
    generalize hw1 : w.setCell ⟨bh, 0, none⟩ (.int .i64 (Hd + Sm)) = w1 at *
    have HW1 := Lib.hid hw1
    clear hw1
    go_region
    all_goals (clear c2 c3 f2 cx)
    all_goals generalize hw2 : w1.setCell ⟨bs, 0, none⟩ (.int .i64 (Sm + x)) = w2 at *
    all_goals have HW2 := Lib.hid hw2
    all_goals clear hw2
    all_goals go_wp2
    all_goals go_ret
    all_goals exact ⟨ret_int (by unfold c1V; rw [if_pos HZ.out]), by rw [HW1.out, HW2.out]⟩
  · have hzb : (Sm + x == 0) = false := by simp [hz]
    have HZ := Lib.hid hz
    clear hz
    go_enter Try.func62, Try.ntmps62
    go_wp2
    clear c1 c2 c3 c4 c5 f1 f2 hc
    have c2 := k2.cell 0
    have c3 := k3.cell 0
    have f2 := k2.frozen 0
    have cm1 := m1.cell 0
    have cm2 := m2.cell 0
    have cm4 := m4.cell 0
    have cm5 := m5.cell 0
    generalize hw1 : w.setCell ⟨bh, 0, none⟩ (.int .i64 (Hd + Sm)) = w1 at *
    have HW1 := Lib.hid hw1
    clear hw1
    go_region
    all_goals (clear c2 c3 f2 cx)
    all_goals generalize hw2 : w1.setCell ⟨bs, 0, none⟩ (.int .i64 (Sm + x)) = w2 at *
    all_goals have HW2 := Lib.hid hw2
    all_goals clear hw2
    all_goals go_wp2
    all_goals go_ret
    all_goals exact ⟨ret_int (by unfold c1V; rw [if_neg HZ.out]), by rw [HW1.out, HW2.out]⟩

end Go.Proofs.Ytkbnbdpdmcnkiaa
