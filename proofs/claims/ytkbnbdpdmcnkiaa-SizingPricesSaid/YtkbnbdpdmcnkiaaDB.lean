/- Size at valid numbers, with room behind its prices. -/
import Derived.Test.YtkbnbdpdmcnkiaaDA
namespace Go.Proofs.Ytkbnbdpdmcnkiaa
open Go.RowKit

theorem Size_full {n cap : Nat} {A : Option Addr} {xs : List Int} {s h : Int} {w : World} (hx : SI w w.heap.size A n xs) (hcap : n ≤ cap) (hv : vA xs s h = true) (C : Int) (hC : szC xs s h = C) (P : List Int) (hP : szP xs s h = P) :
    Calls Try.prog 19 #[.slice A n cap, .int .i64 s, .int .i64 h] w fun e w' => ∃ A1 c1 A2 c2, n ≤ c2 ∧ e = .returned (.tuple #[.agg #[.slice A1 n c1, .int .i64 C, .slice A2 n c2], .int .i64 0]) ∧
      SI w' w'.heap.size A2 n P ∧ Below w.heap.size w w' := by
  have hl := hx.len
  subst hl
  subst hC
  subst hP
  refine (Size_goodc w.heap.size _ cap A xs s h w hx (Nat.le_refl _) hcap hv).mono ?_
  rintro e w' ⟨A1, c1, A2, c2, hr, rfl, _, h2, hb⟩
  have e2 : szP xs s h = dpP s h (g xs) xs.length := by simp only [szP, hv, if_true]
  have e3 : szC xs s h = dC (dpL s h (g xs) xs.length) xs.length := by simp only [szC, hv, if_true]
  refine ⟨A1, c1, A2, c2, hr, ?_, ?_, hb⟩
  · rw [e3]
  · rw [e2]; exact h2

end Go.Proofs.Ytkbnbdpdmcnkiaa
