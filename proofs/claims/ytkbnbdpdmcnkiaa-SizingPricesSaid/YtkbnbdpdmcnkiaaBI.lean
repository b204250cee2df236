/- sane of layer 23. -/
import Derived.Test.YtkbnbdpdmcnkiaaBH
import Derived.Test.YtkbnbdpdmcnkiaaU
namespace Go.Proofs.Ytkbnbdpdmcnkiaa
open Go.RowKit

theorem Bound_at {n cap np capp : Nat} {A A' : Option Addr} {xs ps : List Int} {st h : Int} {w : World} (C : Int) (B : Bool) (E : Int) (hx : SI w w.heap.size A n xs) (hp : SI w w.heap.size A' np ps) (hn : n ≤ 1000) (hnp : np ≤ 1000)
    (e : bndC xs st h ps = C ∧ bndB xs st h ps = B ∧ errP (okB xs st h ps) = E) :
    Calls Try.prog 34 #[.slice A n cap, .int .i64 st, .int .i64 h, .slice A' np capp] w fun e w' => e = .returned (.tuple #[.int .i64 C, .bool B, .int .i64 E]) ∧ Below w.heap.size w w' := by
  obtain ⟨rfl, rfl, rfl⟩ := e
  exact Bound_any n cap np capp A A' xs ps st h w hx hp (by omega) (by omega)
theorem Tight_at {n cap np capp : Nat} {A A' : Option Addr} {xs ps : List Int} {st h : Int} {w : World} (L : List Int) (m : Nat) (E : Int) (hx : SI w w.heap.size A n xs) (hp : SI w w.heap.size A' np ps) (hn : n ≤ 1000) (hnp : np ≤ 1000)
    (e : tigL xs st h ps = L ∧ errP (okB xs st h ps) = E) (hm : L.length = m) :
    Calls Try.prog 32 #[.slice A n cap, .int .i64 st, .int .i64 h, .slice A' np capp] w fun e w' => ∃ B c, e = .returned (.tuple #[.slice B m c, .int .i64 E]) ∧ SI w' w'.heap.size B m L ∧ Below w.heap.size w w' := by
  obtain ⟨rfl, rfl⟩ := e
  subst hm
  exact Tight_any n cap np capp A A' xs ps st h w hx hp (by omega) (by omega)
theorem Check_at {n cap nl cl np cp : Nat} {A L P : Option Addr} {xs ls ps : List Int} {st h z : Int} {w : World} (B : Bool) (E : Int) (hx : SI w w.heap.size A n xs) (hy : SI w w.heap.size L nl ls) (hp : SI w w.heap.size P np ps) (hn : n ≤ 1000) (hnl : nl ≤ 1000) (hnp : np ≤ 1000)
    (e : chkB xs st h ls z ps = B ∧ errP (vA xs st h) = E) :
    Calls Try.prog 31 #[.slice A n cap, .int .i64 st, .int .i64 h, .agg #[.slice L nl cl, .int .i64 z, .slice P np cp]] w fun e w' => e = .returned (.tuple #[.bool B, .int .i64 E]) ∧ Below w.heap.size w w' := by
  obtain ⟨rfl, rfl⟩ := e
  exact Check_any n cap nl cl np cp A L P xs ls ps st h z w hx hy hp (by omega) (by omega) (by omega)

theorem v1 : bndC [] 5 1 [] = 0 ∧ bndB [] 5 1 [] = true ∧ errP (okB [] 5 1 []) = 0 := by decide
theorem v2 : bndC [3] 5 1 [5] = 5 ∧ bndB [3] 5 1 [5] = true ∧ errP (okB [3] 5 1 [5]) = 0 := by decide
theorem v3 : bndC [3] 5 1 [6] = 0 ∧ bndB [3] 5 1 [6] = false ∧ errP (okB [3] 5 1 [6]) = 0 := by decide
theorem v4 : bndC [3, 4] 5 1 [0, 0] = 0 ∧ bndB [3, 4] 5 1 [0, 0] = true ∧ errP (okB [3, 4] 5 1 [0, 0]) = 0 := by decide
theorem v5 : chkB [3] 5 1 [] 0 [] = false ∧ errP (vA [3] 5 1) = 0 := by decide
theorem v6 : bndC [-1] 5 1 [0] = 0 ∧ bndB [-1] 5 1 [0] = false ∧ errP (okB [-1] 5 1 [0]) = 230 := by decide
theorem v7 : chkB [3, 4, 2] 5 1 [3, 6, 0] 12 [5, 9, 12] = true ∧ errP (vA [3, 4, 2] 5 1) = 0 := by decide
theorem v8 : tigL [3, 4, 2] 5 1 [5, 9, 12] = [0, 1] ∧ errP (okB [3, 4, 2] 5 1 [5, 9, 12]) = 0 := by decide

theorem SameInts_at {n c n' c' : Nat} {A A' : Option Addr} {xs : List Int} {w : World} (h : SI w w.heap.size A n xs) (h' : SI w w.heap.size A' n' xs) (hn : n ≤ 1000) :
    Calls Try.prog 28 #[.slice A n c, .slice A' n' c'] w fun e w' => e = .returned (.bool true) ∧ ∃ q, w.drewN q = w' := by
  have := sameInts_any w.heap.size n c n' c' A A' xs xs w h h' (by omega)
  rwa [decide_eq_true (rfl : xs = xs)] at this

set_option maxRecDepth 100000 in
set_option maxHeartbeats 2000000 in
theorem sane23_any (w : World) : Calls Try.prog 30 #[] w fun e w' => e = .returned (.bool true) ∧ Below w.heap.size w w' := by
  go_enter Try.func30, Try.ntmps30
  go_wp2_with fail
  refine (Bound_at 0 true 0 SI.nil SI.nil (by simp) (by simp) v1).mono ?_
  rintro e w1 ⟨rfl, hb1⟩
  go_wp2_with fail
  refine (Bound_at 5 true 0 (SI.up (SI.l1 3 (by simp)) _) (SI.l1 5 (by simp)) (by simp) (by simp) v2).mono ?_
  rintro e w2 ⟨rfl, hb2⟩
  have t2 := hb1.trans ((((Below.refl _ w1).alloc (Nat.le_refl _) _).alloc (by simp) _).trans (hb2.mono (by simp; omega)) |>.mono hb1.size)
  clear hb1 hb2
  go_wp2_with fail
  refine (Bound_at 0 false 0 (SI.up (SI.l1 3 (by simp)) _) (SI.l1 6 (by simp)) (by simp) (by simp) v3).mono ?_
  rintro e w3 ⟨rfl, hb3⟩
  have t3 := t2.trans ((((Below.refl _ w2).alloc (Nat.le_refl _) _).alloc (by simp) _).trans (hb3.mono (by simp; omega)) |>.mono t2.size)
  clear t2 hb3
  go_wp2_with fail
  refine (Bound_at 0 true 0 (SI.up (SI.l2 3 4 (by simp)) _) (SI.l2 0 0 (by simp)) (by simp) (by simp) v4).mono ?_
  rintro e w4 ⟨rfl, hb4⟩
  have t4 := t3.trans ((((Below.refl _ w3).alloc (Nat.le_refl _) _).alloc (by simp) _).trans (hb4.mono (by simp; omega)) |>.mono t3.size)
  clear t3 hb4
  go_wp2_with fail
  refine (Check_at false 0 (SI.l1 3 (by simp)) SI.nil SI.nil (by simp) (by simp) (by simp) v5).mono ?_
  rintro e w5 ⟨rfl, hb5⟩
  have t5 := t4.trans (((Below.refl _ w4).alloc (Nat.le_refl _) _).trans (hb5.mono (by simp)) |>.mono t4.size)
  clear t4 hb5
  go_wp2_with fail
  refine (Bound_at 0 false 230 (SI.up (SI.l1 (-1) (by simp)) _) (SI.l1 0 (by simp)) (by simp) (by simp) v6).mono ?_
  rintro e w6 ⟨rfl, hb6⟩
  have t6 := t5.trans ((((Below.refl _ w5).alloc (Nat.le_refl _) _).alloc (by simp) _).trans (hb6.mono (by simp; omega)) |>.mono t5.size)
  clear t5 hb6
  go_wp2_with fail
  refine (Check_at true 0 (SI.l3 3 4 2 (by simp)) (SI.up (SI.up (SI.up (SI.l3 3 6 0 (by simp)) _) _) _) (SI.up (SI.up (SI.l3 5 9 12 (by simp)) _) _) (by simp) (by simp) (by simp) v7).mono ?_
  rintro e w7 ⟨rfl, hb7⟩
  have hP : SI w7 w7.heap.size (some ⟨w6.heap.size + 1, 0, none⟩) 3 [5, 9, 12] := SI.step (SI.up (SI.up (SI.l3 5 9 12 (by simp)) _) _) hb7
  have bx : Blk w7 (w6.heap.size + 1 + 1) 26 #[.slice (some ⟨w6.heap.size, 0, none⟩) 3 3, .int .i64 12, .slice (some ⟨w6.heap.size + 1, 0, none⟩) 3 3] := Blk.below (Blk.alloc (Blk.at_ (Blk.new _ _ _) rfl (by simp)) _) hb7 (by simp)
  have t7 := t6.trans ((((((Below.refl _ w6).alloc (Nat.le_refl _) _).alloc (by simp) _).alloc (by simp; omega) _).alloc (by simp; omega) _).trans (hb7.mono (by simp; omega)) |>.mono t6.size)
  clear t6 hb7
  have k2 : w7.cell? ⟨w6.heap.size + 1 + 1, 2, none⟩ = some (.slice (some ⟨w6.heap.size + 1, 0, none⟩) 3 3) := bx.cell 2
  have kl := bx.lt
  go_wp2_with fail
  refine (Tight_at [0, 1] 2 0 (SI.l3 3 4 2 (by simp)) (SI.up hP _) (by simp) (by simp) v8 rfl).mono ?_
  rintro e w8 ⟨B8, c8, rfl, hL, hb8⟩
  have t8 := t7.trans (((Below.refl _ w7).alloc (Nat.le_refl _) _).trans (hb8.mono (by simp)) |>.mono t7.size)
  clear t7 hb8 k2 kl bx hP
  go_wp2_with fail
  refine (SameInts_at (SI.up hL _) (SI.l2 0 1 (by simp)) (by simp)).mono ?_
  rintro e w9 ⟨rfl, q, rfl⟩
  go_wp2_with fail
  go_ret
  exact ⟨rfl, below_drewN (t8.alloc t8.size _) q⟩
end Go.Proofs.Ytkbnbdpdmcnkiaa
