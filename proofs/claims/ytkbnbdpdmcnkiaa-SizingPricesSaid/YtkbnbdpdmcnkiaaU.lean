/- sane of layer 22. -/
import Derived.Test.YtkbnbdpdmcnkiaaS
namespace Go.Proofs.Ytkbnbdpdmcnkiaa
open Go.RowKit

theorem SI.l1 {W : World} {b : Nat} (x : Int) (hb : W.heap.size = b) : SI (W.alloc (.cells #[.int .i64 x] 3)) (W.alloc (.cells #[.int .i64 x] 3)).heap.size (some ⟨b, 0, none⟩) 1 [x] := by
  subst hb
  refine ⟨rfl, fun _ => ⟨_, _, rfl, by simp, fun k hk => ?_⟩⟩
  rw [cell_of_row _ _ _ _ _ _ (heap_alloc_new W _)]
  match k, hk with
  | 0, _ => rfl
theorem SI.l2 {W : World} {b : Nat} (x y : Int) (hb : W.heap.size = b) : SI (W.alloc (.cells #[.int .i64 x, .int .i64 y] 3)) (W.alloc (.cells #[.int .i64 x, .int .i64 y] 3)).heap.size (some ⟨b, 0, none⟩) 2 [x, y] := by
  subst hb
  exact SI.two W _ x y (by simp)
theorem SI.l3 {W : World} {b : Nat} (x y z : Int) (hb : W.heap.size = b) : SI (W.alloc (.cells #[.int .i64 x, .int .i64 y, .int .i64 z] 3)) (W.alloc (.cells #[.int .i64 x, .int .i64 y, .int .i64 z] 3)).heap.size (some ⟨b, 0, none⟩) 3 [x, y, z] := by
  subst hb
  refine ⟨rfl, fun _ => ⟨_, _, rfl, by simp, fun k hk => ?_⟩⟩
  rw [cell_of_row _ _ _ _ _ _ (heap_alloc_new W _)]
  match k, hk with
  | 0, _ => rfl
  | 1, _ => rfl
  | 2, _ => rfl
/-- One more block. -/
theorem SI.up {W : World} {A : Option Addr} {n : Nat} {xs : List Int} (h : SI W W.heap.size A n xs) (o : Obj) : SI (W.alloc o) (W.alloc o).heap.size A n xs := (h.alloc (Nat.le_refl _) o).more (by simp)

theorem Covers_at {n n' c c' : Nat} {A A' : Option Addr} {xs ls : List Int} {w : World} (b : Bool) (E : Int) (h : SI w w.heap.size A n xs) (h' : SI w w.heap.size A' n' ls) (hn : n ≤ 1000) (hn' : n' ≤ 1000) (e1 : (okC xs ls && covTo xs ls xs.length) = b) (e2 : errOf (okC xs ls) = E) :
    Calls Try.prog 22 #[.slice A n c, .slice A' n' c'] w fun e w' => e = .returned (.tuple #[.bool b, .int .i64 E]) ∧ w = w' := by
  have := h.len
  subst this; subst e1; subst e2
  exact Covers_any w.heap.size _ c n' c' A A' xs ls w h h' (by omega) (by omega)
theorem Cost_at {n n' c c' : Nat} {A A' : Option Addr} {xs ls : List Int} {s t : Int} {w : World} (b : Int) (E : Int) (h : SI w w.heap.size A n xs) (h' : SI w w.heap.size A' n' ls) (hn : n ≤ 1000) (hn' : n' ≤ 1000) (e1 : costAns xs ls s t xs.length = b) (e2 : errOf (okK xs ls s t) = E) :
    Calls Try.prog 24 #[.slice A n c, .slice A' n' c', .int .i64 s, .int .i64 t] w fun e w' => e = .returned (.tuple #[.int .i64 b, .int .i64 E]) ∧ Below w.heap.size w w' := by
  have := h.len
  subst this; subst e1; subst e2
  exact Cost_any w.heap.size _ c n' c' A A' xs ls s t w h h' (Nat.le_refl _) (by omega) (by omega)

theorem Same_at {n1 c1 n2 c2 m1 d1 m2 d2 : Nat} {A1 A2 D1 D2 : Option Addr} {xs ps : List Int} {x : Int} {w : World} (h1 : SI w w.heap.size A1 n1 xs) (h2 : SI w w.heap.size A2 n2 ps) (h3 : SI w w.heap.size D1 m1 xs) (h4 : SI w w.heap.size D2 m2 ps) (hn1 : n1 ≤ 1000) (hn2 : n2 ≤ 1000) :
    Calls Try.prog 21 #[.agg #[.slice A1 n1 c1, .int .i64 x, .slice A2 n2 c2], .agg #[.slice D1 m1 d1, .int .i64 x, .slice D2 m2 d2]] w fun e w' => e = .returned (.bool true) ∧ Below w.heap.size w w' := by
  have := same_any w.heap.size n1 c1 n2 c2 m1 d1 m2 d2 A1 A2 D1 D2 xs ps xs ps x x w h1 h2 h3 h4 (Nat.le_refl _) (by omega) (by omega)
  simpa using this

theorem y1 : (okC [2, 3] [1, 9] && covTo [2, 3] [1, 9] [(2 : Int), 3].length) = false ∧ errOf (okC [2, 3] [1, 9]) = 0 := by decide
theorem y2 : costAns [2, 3] [3, 3] 5 2 [(2 : Int), 3].length = 14 ∧ errOf (okK [2, 3] [3, 3] 5 2) = 0 := by decide
theorem y3 : costAns [2, 3] [1, 9] 5 2 [(2 : Int), 3].length = 0 ∧ errOf (okK [2, 3] [1, 9] 5 2) = 220 := by decide
theorem y4 : (okC [2] [] && covTo [2] [] [(2 : Int)].length) = false ∧ errOf (okC [2] []) = 220 := by decide

set_option maxRecDepth 100000 in
set_option maxHeartbeats 2000000 in
theorem sane22_any (w : World) : Calls Try.prog 17 #[] w fun e w' => e = .returned (.bool true) ∧ Below w.heap.size w w' := by
  go_enter Try.func17, Try.ntmps17
  go_wp2_with fail
  refine (Size_at [] [] 0 0 0 0 SI.nil (by simp) (by simp) z1.1 z1.2.1 z1.2.2.1 z1.2.2.2 rfl rfl).mono ?_
  rintro e w1 ⟨A1, c1, D1, d1, rfl, hL1, hP1, hb1⟩
  go_wp2_with fail
  refine (Size_at [0, 3] [0, 5] 5 0 2 2 (SI.l2 0 3 (by simp)) (by simp) (by simp) z2.1 z2.2.1 z2.2.2.1 z2.2.2.2 rfl rfl).mono ?_
  rintro e w2 ⟨A2, c2, D2, d2, rfl, hL2, hP2, hb2⟩
  have hB2 : Below w1.heap.size w1 w2 := (((Below.refl _ w1).alloc (by simp) _).alloc (by simp) _).trans (hb2.mono (by simp; omega))
  have bx1 := (Blk.new w1 26 #[.slice A1 0 c1, .int .i64 0, .slice D1 0 d1]).alloc (.cells #[.int .i64 0, .int .i64 3] 3)
  replace bx1 := bx1.below hb2 bx1.lt
  replace hL1 := hL1.step hB2
  replace hP1 := hP1.step hB2
  clear hb2
  go_wp2_with fail
  refine (Size_at [5, 0] [5, 8] 8 0 2 2 (SI.l2 2 3 (by simp)) (by simp) (by simp) z3.1 z3.2.1 z3.2.2.1 z3.2.2.2 rfl rfl).mono ?_
  rintro e w3 ⟨A3, c3, D3, d3, rfl, hL3, hP3, hb3⟩
  have hB3 : Below w2.heap.size w2 w3 := (((Below.refl _ w2).alloc (by simp) _).alloc (by simp) _).trans (hb3.mono (by simp; omega))
  have bx2 := (Blk.new w2 26 #[.slice A2 2 c2, .int .i64 5, .slice D2 2 d2]).alloc (.cells #[.int .i64 2, .int .i64 3] 3)
  replace bx2 := bx2.below hb3 bx2.lt
  replace hL1 := hL1.step hB3
  replace hP1 := hP1.step hB3
  replace hL2 := hL2.step hB3
  replace hP2 := hP2.step hB3
  replace bx1 := bx1.below hB3 bx1.lt
  clear hb3
  go_wp2_with fail
  refine (Size_at [2, 0, 3] [5, 5, 10] 10 0 3 3 (SI.l3 2 0 3 (by simp)) (by simp) (by simp) z4.1 z4.2.1 z4.2.2.1 z4.2.2.2 rfl rfl).mono ?_
  rintro e w4 ⟨A4, c4, D4, d4, rfl, hL4, hP4, hb4⟩
  have hB4 : Below w3.heap.size w3 w4 := (((Below.refl _ w3).alloc (by simp) _).alloc (by simp) _).trans (hb4.mono (by simp; omega))
  have bx3 := (Blk.new w3 26 #[.slice A3 2 c3, .int .i64 8, .slice D3 2 d3]).alloc (.cells #[.int .i64 2, .int .i64 0, .int .i64 3] 3)
  replace bx3 := bx3.below hb4 bx3.lt
  replace hL1 := hL1.step hB4
  replace hP1 := hP1.step hB4
  replace hL2 := hL2.step hB4
  replace hP2 := hP2.step hB4
  replace hL3 := hL3.step hB4
  replace hP3 := hP3.step hB4
  replace bx1 := bx1.below hB4 bx1.lt
  replace bx2 := bx2.below hB4 bx2.lt
  clear hb4
  go_wp2_with fail
  refine (Size_at [] [] 0 220 0 0 (SI.l1 (-1) (by simp)) (by simp) (by simp) z5.1 z5.2.1 z5.2.2.1 z5.2.2.2 rfl rfl).mono ?_
  rintro e w5 ⟨A5, c5, D5, d5, rfl, hL5, hP5, hb5⟩
  have hB5 : Below w4.heap.size w4 w5 := (((Below.refl _ w4).alloc (by simp) _).alloc (by simp) _).trans (hb5.mono (by simp; omega))
  have bx4 := (Blk.new w4 26 #[.slice A4 3 c4, .int .i64 10, .slice D4 3 d4]).alloc (.cells #[.int .i64 (-1)] 3)
  replace bx4 := bx4.below hb5 bx4.lt
  replace hL1 := hL1.step hB5
  replace hP1 := hP1.step hB5
  replace hL2 := hL2.step hB5
  replace hP2 := hP2.step hB5
  replace hL3 := hL3.step hB5
  replace hP3 := hP3.step hB5
  replace hL4 := hL4.step hB5
  replace hP4 := hP4.step hB5
  replace bx1 := bx1.below hB5 bx1.lt
  replace bx2 := bx2.below hB5 bx2.lt
  replace bx3 := bx3.below hB5 bx3.lt
  clear hb5
  go_wp2_with fail
  refine (Covers_at false 0 (SI.up (SI.l2 2 3 (by simp)) _) (SI.l2 1 9 (by simp)) (by simp) (by simp) y1.1 y1.2).mono ?_
  rintro e w' ⟨rfl, rfl⟩
  go_wp2_with fail
  refine (Cost_at 14 0 (SI.up (SI.l2 2 3 (by simp)) _) (SI.l2 3 3 (by simp)) (by simp) (by simp) y2.1 y2.2).mono ?_
  rintro e w6 ⟨rfl, hb6⟩
  have hB6 : Below w5.heap.size w5 w6 := ((((((Below.refl _ w5).alloc (by simp) _).alloc (by simp) _).alloc (by simp; omega) _).alloc (by simp; omega) _).alloc (by simp; omega) _).trans (hb6.mono (by simp; omega))
  replace hL1 := hL1.step hB6
  replace hP1 := hP1.step hB6
  replace hL2 := hL2.step hB6
  replace hP2 := hP2.step hB6
  replace hL3 := hL3.step hB6
  replace hP3 := hP3.step hB6
  replace hL4 := hL4.step hB6
  replace hP4 := hP4.step hB6
  replace bx1 := bx1.below hB6 bx1.lt
  replace bx2 := bx2.below hB6 bx2.lt
  replace bx3 := bx3.below hB6 bx3.lt
  replace bx4 := bx4.below hB6 bx4.lt
  clear hb6
  go_wp2_with fail
  refine (Cost_at 0 220 (SI.up (SI.l2 2 3 (by simp)) _) (SI.l2 1 9 (by simp)) (by simp) (by simp) y3.1 y3.2).mono ?_
  rintro e w7 ⟨rfl, hb7⟩
  have hB7 : Below w6.heap.size w6 w7 := (((Below.refl _ w6).alloc (by simp) _).alloc (by simp) _).trans (hb7.mono (by simp; omega))
  replace hL1 := hL1.step hB7
  replace hP1 := hP1.step hB7
  replace hL2 := hL2.step hB7
  replace hP2 := hP2.step hB7
  replace hL3 := hL3.step hB7
  replace hP3 := hP3.step hB7
  replace hL4 := hL4.step hB7
  replace hP4 := hP4.step hB7
  replace bx1 := bx1.below hB7 bx1.lt
  replace bx2 := bx2.below hB7 bx2.lt
  replace bx3 := bx3.below hB7 bx3.lt
  replace bx4 := bx4.below hB7 bx4.lt
  clear hb7
  go_wp2_with fail
  refine (Covers_at false 220 (SI.l1 2 (by simp)) SI.nil (by simp) (by simp) y4.1 y4.2).mono ?_
  rintro e w' ⟨rfl, rfl⟩
  have k0 : w7.cell? ⟨w1.heap.size, 0, none⟩ = some (.slice A1 0 c1) := bx1.cell 0
  have k1 : w7.cell? ⟨w1.heap.size, 1, none⟩ = some (.int .i64 0) := bx1.cell 1
  have k2 : w7.cell? ⟨w1.heap.size, 2, none⟩ = some (.slice D1 0 d1) := bx1.cell 2
  have kl : w1.heap.size < w7.heap.size := bx1.lt
  go_wp2_with fail
  refine (Same_at (hL1.up _) (hP1.up _) SI.nil SI.nil (by simp) (by simp)).mono ?_
  rintro e w8 ⟨rfl, hb8⟩
  have hB8 : Below w7.heap.size w7 w8 := ((Below.refl _ w7).alloc (by simp) _).trans (hb8.mono (by simp))
  clear k0 k1 k2 kl
  replace hL2 := hL2.step hB8
  replace hP2 := hP2.step hB8
  replace hL3 := hL3.step hB8
  replace hP3 := hP3.step hB8
  replace hL4 := hL4.step hB8
  replace hP4 := hP4.step hB8
  replace bx2 := bx2.below hB8 bx2.lt
  replace bx3 := bx3.below hB8 bx3.lt
  replace bx4 := bx4.below hB8 bx4.lt
  clear hb8
  have k0 : w8.cell? ⟨w2.heap.size, 0, none⟩ = some (.slice A2 2 c2) := bx2.cell 0
  have k1 : w8.cell? ⟨w2.heap.size, 1, none⟩ = some (.int .i64 5) := bx2.cell 1
  have k2 : w8.cell? ⟨w2.heap.size, 2, none⟩ = some (.slice D2 2 d2) := bx2.cell 2
  have kl : w2.heap.size < w8.heap.size := bx2.lt
  go_wp2_with fail
  refine (Same_at ((hL2.up _).up _) ((hP2.up _).up _) (SI.up (SI.l2 0 3 (by simp)) _) (SI.l2 0 5 (by simp)) (by simp) (by simp)).mono ?_
  rintro e w9 ⟨rfl, hb9⟩
  have hB9 : Below w8.heap.size w8 w9 := (((Below.refl _ w8).alloc (by simp) _).alloc (by simp) _).trans (hb9.mono (by simp; omega))
  clear k0 k1 k2 kl
  replace hL3 := hL3.step hB9
  replace hP3 := hP3.step hB9
  replace hL4 := hL4.step hB9
  replace hP4 := hP4.step hB9
  replace bx3 := bx3.below hB9 bx3.lt
  replace bx4 := bx4.below hB9 bx4.lt
  clear hb9
  have k0 : w9.cell? ⟨w3.heap.size, 0, none⟩ = some (.slice A3 2 c3) := bx3.cell 0
  have k1 : w9.cell? ⟨w3.heap.size, 1, none⟩ = some (.int .i64 8) := bx3.cell 1
  have k2 : w9.cell? ⟨w3.heap.size, 2, none⟩ = some (.slice D3 2 d3) := bx3.cell 2
  have kl : w3.heap.size < w9.heap.size := bx3.lt
  go_wp2_with fail
  refine (Same_at ((hL3.up _).up _) ((hP3.up _).up _) (SI.up (SI.l2 5 0 (by simp)) _) (SI.l2 5 8 (by simp)) (by simp) (by simp)).mono ?_
  rintro e w10 ⟨rfl, hb10⟩
  have hB10 : Below w9.heap.size w9 w10 := (((Below.refl _ w9).alloc (by simp) _).alloc (by simp) _).trans (hb10.mono (by simp; omega))
  clear k0 k1 k2 kl
  replace hL4 := hL4.step hB10
  replace hP4 := hP4.step hB10
  replace bx4 := bx4.below hB10 bx4.lt
  clear hb10
  have k0 : w10.cell? ⟨w4.heap.size, 0, none⟩ = some (.slice A4 3 c4) := bx4.cell 0
  have k1 : w10.cell? ⟨w4.heap.size, 1, none⟩ = some (.int .i64 10) := bx4.cell 1
  have k2 : w10.cell? ⟨w4.heap.size, 2, none⟩ = some (.slice D4 3 d4) := bx4.cell 2
  have kl : w4.heap.size < w10.heap.size := bx4.lt
  go_wp2_with fail
  refine (Same_at ((hL4.up _).up _) ((hP4.up _).up _) (SI.up (SI.l3 2 0 3 (by simp)) _) (SI.l3 5 5 10 (by simp)) (by simp) (by simp)).mono ?_
  rintro e w11 ⟨rfl, hb11⟩
  have hB11 : Below w10.heap.size w10 w11 := (((Below.refl _ w10).alloc (by simp) _).alloc (by simp) _).trans (hb11.mono (by simp; omega))
  clear k0 k1 k2 kl
  clear hb11
  go_wp2_with fail
  go_ret
  refine ⟨rfl, ?_⟩
  have t := hb1
  replace t := t.trans (hB2.mono (t.size))
  replace t := t.trans (hB3.mono (t.size))
  replace t := t.trans (hB4.mono (t.size))
  replace t := t.trans (hB5.mono (t.size))
  replace t := t.trans (hB6.mono (t.size))
  replace t := t.trans (hB7.mono (t.size))
  replace t := t.trans (hB8.mono (t.size))
  replace t := t.trans (hB9.mono (t.size))
  replace t := t.trans (hB10.mono (t.size))
  replace t := t.trans (hB11.mono (t.size))
  exact t

end Go.Proofs.Ytkbnbdpdmcnkiaa
