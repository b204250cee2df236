/- The reference's Same, and sane of layer 22. -/
import Derived.Test.YtkbnbdpdmcnkiaaQ
namespace Go.Proofs.Ytkbnbdpdmcnkiaa
open Go.RowKit

theorem below_q {w : World} {B : Nat} {a : World} (h : Below B a w) (q : Nat) : Below B a (w.drewN q) := below_drewN h q

set_option maxHeartbeats 400000 in
theorem same_any (B n1 c1 n2 c2 m1 d1 m2 d2 : Nat) (A1 A2 D1 D2 : Option Addr) (xs ps ys qs : List Int) (x y : Int) (w : World) (h1 : SI w B A1 n1 xs) (h2 : SI w B A2 n2 ps) (h3 : SI w B D1 m1 ys) (h4 : SI w B D2 m2 qs) (hB : B ≤ w.heap.size)
    (hn1 : n1 ≤ 9223372036854775807) (hn2 : n2 ≤ 9223372036854775807) :
    Calls Try.prog 21 #[.agg #[.slice A1 n1 c1, .int .i64 x, .slice A2 n2 c2], .agg #[.slice D1 m1 d1, .int .i64 y, .slice D2 m2 d2]] w fun e w' => e = .returned (.bool (decide (xs = ys) && (decide (x = y) && decide (ps = qs)))) ∧ Below w.heap.size w w' := by
  have hA := (((Below.refl _ w).alloc (Nat.le_refl _) (.cells #[.slice A1 n1 c1, .int .i64 x, .slice A2 n2 c2] 26)).alloc (by simp) (.cells #[.slice D1 m1 d1, .int .i64 y, .slice D2 m2 d2] 26))
  have hA' := hA.mono hB
  have s1 := sameInts_any B n1 c1 m1 d1 A1 D1 xs ys _ (h1.below hA') (h3.below hA') hn1
  have s2 := fun q => sameInts_any B n2 c2 m2 d2 A2 D2 ps qs _ ((h2.below hA').drewN q) ((h4.below hA').drewN q) hn2
  have S2 := Lib.hid s2
  clear s2
  cases e1 : decide (xs = ys)
  · rw [e1] at s1
    have E1 := Lib.hid e1
    clear e1
    have S1 := Lib.hid s1
    clear s1
    go_enter Try.func21, Try.ntmps21
    go_wp2_with (go_at_call 28; refine S1.out.mono ?_; rintro e w' ⟨rfl, q, rfl⟩)
    go_ret
    exact ⟨ret_bool (by simp), below_drewN hA _⟩
  · rw [e1] at s1
    have E1 := Lib.hid e1
    clear e1
    have S1 := Lib.hid s1
    clear s1
    by_cases hxy : x = y
    · have hb : (x == y) = true := by simp [hxy]
      have HXY := Lib.hid hxy
      clear hxy
      go_enter Try.func21, Try.ntmps21
      go_wp2_with fail
      refine S1.out.mono ?_
      rintro e w' ⟨rfl, q, rfl⟩
      go_wp2_with fail
      refine (S2.out q).mono ?_
      rintro e w' ⟨rfl, q2, rfl⟩
      go_wp2_with fail
      go_ret
      exact ⟨ret_bool (by simp [HXY.out]), below_drewN hA _⟩
    · have hb : (x == y) = false := by simp [hxy]
      have HXY := Lib.hid hxy
      clear hxy
      go_enter Try.func21, Try.ntmps21
      go_wp2_with fail
      refine S1.out.mono ?_
      rintro e w' ⟨rfl, q, rfl⟩
      go_wp2_with fail
      go_ret
      exact ⟨ret_bool (by simp [HXY.out]), below_drewN hA _⟩

/-- What Size answers. -/
def szL (xs : List Int) (s h : Int) : List Int := if vA xs s h = true then lotL (dS (dpL s h (g xs) xs.length) xs.length) (g xs) xs.length xs.length else []
def szC (xs : List Int) (s h : Int) : Int := if vA xs s h = true then dC (dpL s h (g xs) xs.length) xs.length else 0
def szP (xs : List Int) (s h : Int) : List Int := if vA xs s h = true then dpP s h (g xs) xs.length else []

theorem Size_any (B n cap : Nat) (A : Option Addr) (xs : List Int) (s h : Int) (w : World) (hx : SI w B A n xs) (hB : B ≤ w.heap.size) (hn : n ≤ 9223372036854775807) (hcap : n ≤ cap) :
    Calls Try.prog 19 #[.slice A n cap, .int .i64 s, .int .i64 h] w fun e w' => ∃ A1 c1 A2 c2, e = .returned (.tuple #[.agg #[.slice A1 (szL xs s h).length c1, .int .i64 (szC xs s h), .slice A2 (szP xs s h).length c2], .int .i64 (errOf (vA xs s h))]) ∧
      SI w' w'.heap.size A1 (szL xs s h).length (szL xs s h) ∧ SI w' w'.heap.size A2 (szP xs s h).length (szP xs s h) ∧ Below w.heap.size w w' := by
  have hl := hx.len
  subst hl
  cases hv : vA xs s h
  · refine (Size_bad B _ cap A xs s h w hx hB hn hv).mono ?_
    rintro e w' ⟨rfl, hb⟩
    refine ⟨none, 0, none, 0, ?_, ?_, ?_, hb⟩
    · simp [szL, szC, szP, hv, errOf]
    · simp only [szL, hv, Bool.false_eq_true, if_false]; exact SI.nil
    · simp only [szP, hv, Bool.false_eq_true, if_false]; exact SI.nil
  · refine (Size_good B _ cap A xs s h w hx hB hcap hv).mono ?_
    rintro e w' ⟨A1, c1, A2, c2, rfl, h1, h2, hb⟩
    have e1 : szL xs s h = lotL (dS (dpL s h (g xs) xs.length) xs.length) (g xs) xs.length xs.length := by simp only [szL, hv, if_true]
    have e2 : szP xs s h = dpP s h (g xs) xs.length := by simp only [szP, hv, if_true]
    have e3 : szC xs s h = dC (dpL s h (g xs) xs.length) xs.length := by simp only [szC, hv, if_true]
    refine ⟨A1, c1, A2, c2, ?_, ?_, ?_, hb⟩
    · rw [e1, e2, e3, lotL_length, dpP_length]; simp [errOf]
    · rw [e1, lotL_length]; exact h1
    · rw [e2, dpP_length]; exact h2

theorem SI.step {w w' : World} {A : Option Addr} {n : Nat} {xs : List Int} (h : SI w w.heap.size A n xs) (hb : Below w.heap.size w w') : SI w' w'.heap.size A n xs := (h.below hb).more hb.size

/-- A call of Size at numbers, its answer reckoned. -/
theorem Size_at {n cap : Nat} {A : Option Addr} {xs : List Int} {s h : Int} {w : World} (L P : List Int) (C E : Int) (nL nP : Nat) (hx : SI w w.heap.size A n xs) (hn : n ≤ 1000) (hcap : n ≤ cap) (hL : szL xs s h = L) (hC : szC xs s h = C) (hP : szP xs s h = P) (hE : errOf (vA xs s h) = E) (hnL : L.length = nL) (hnP : P.length = nP) :
    Calls Try.prog 19 #[.slice A n cap, .int .i64 s, .int .i64 h] w fun e w' => ∃ A1 c1 A2 c2, e = .returned (.tuple #[.agg #[.slice A1 nL c1, .int .i64 C, .slice A2 nP c2], .int .i64 E]) ∧
      SI w' w'.heap.size A1 nL L ∧ SI w' w'.heap.size A2 nP P ∧ Below w.heap.size w w' := by
  subst hL; subst hC; subst hP; subst hE; subst hnL; subst hnP
  exact Size_any w.heap.size n cap A xs s h w hx (Nat.le_refl _) (by omega) hcap

theorem z1 : szL [] 5 1 = [] ∧ szC [] 5 1 = 0 ∧ szP [] 5 1 = [] ∧ errOf (vA [] 5 1) = 0 := by decide
theorem z2 : szL [0, 3] 5 1 = [0, 3] ∧ szC [0, 3] 5 1 = 5 ∧ szP [0, 3] 5 1 = [0, 5] ∧ errOf (vA [0, 3] 5 1) = 0 := by decide
theorem z3 : szL [2, 3] 5 1 = [5, 0] ∧ szC [2, 3] 5 1 = 8 ∧ szP [2, 3] 5 1 = [5, 8] ∧ errOf (vA [2, 3] 5 1) = 0 := by decide
theorem z4 : szL [2, 0, 3] 5 2 = [2, 0, 3] ∧ szC [2, 0, 3] 5 2 = 10 ∧ szP [2, 0, 3] 5 2 = [5, 5, 10] ∧ errOf (vA [2, 0, 3] 5 2) = 0 := by decide
theorem z5 : szL [-1] 0 0 = [] ∧ szC [-1] 0 0 = 0 ∧ szP [-1] 0 0 = [] ∧ errOf (vA [-1] 0 0) = 220 := by decide

end Go.Proofs.Ytkbnbdpdmcnkiaa
