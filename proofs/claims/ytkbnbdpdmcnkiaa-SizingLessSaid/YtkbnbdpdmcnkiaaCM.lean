/- Plain words: with less to pay or to make, the lots cost no more; days without requirements at the end. -/
import Derived.Test.YtkbnbdpdmcnkiaaAA
import Derived.Test.YtkbnbdpdmcnkiaaCA
namespace Go.Proofs.Ytkbnbdpdmcnkiaa
open Go.RowKit

theorem vA_mk {xs : List Int} {s h : Int} (h1 : xs.length ≤ 16) (h2 : ∀ k, 0 ≤ g xs k ∧ g xs k ≤ 1048576) (s0 : 0 ≤ s) (s1 : s ≤ 1048576) (h3 : 0 ≤ h) (h4 : h ≤ 1048576) : vA xs s h = true :=
  vA_iff.2 ⟨vN_iff.2 ⟨h1, fun k _ => h2 k⟩, ⟨s0, s1⟩, h3, h4⟩
theorem less_law {xs ys : List Int} {s h s' h' : Int} (hv : vA xs s h = true) (hv' : vA ys s' h' = true) (hl : ys.length = xs.length) (hs : s' ≤ s) (hh : h' ≤ h) (hg : ∀ k, g ys k ≤ g xs k) : szC ys s' h' ≤ szC xs s h := by
  obtain ⟨hn, hf, s0, s1, h0, h1⟩ := vA_all hv
  obtain ⟨hn', hf', s0', s1', h0', h1'⟩ := vA_all hv'
  rw [szC_good hv, szC_good hv', hl]
  exact best_mono (fun k => (hf' k).1) hg s0' h0' hs hh _ hn
theorem g_zeros (xs : List Int) (j : Nat) : g (xs ++ List.replicate j 0) = g xs := by
  funext i
  unfold g
  by_cases hi : i < xs.length
  · rw [List.getElem?_append_left hi]
  · rw [List.getElem?_append_right (by omega), List.getElem?_eq_none (show xs.length ≤ i by omega), List.getElem?_replicate]
    split <;> rfl
theorem long_vA {xs : List Int} {s h : Int} (hv : vA xs s h = true) {j : Nat} (hj : xs.length + j ≤ 16) : vA (xs ++ List.replicate j 0) s h = true := by
  obtain ⟨hn, hf, s0, s1, h0, h1⟩ := vA_all hv
  exact vA_mk (by simp; exact hj) (fun k => by rw [g_zeros]; exact hf k) s0 s1 h0 h1
theorem g_ge {xs : List Int} {i : Nat} (h : xs.length ≤ i) : g xs i = 0 := by
  unfold g; rw [List.getElem?_eq_none h]; rfl
theorem long_law {xs : List Int} {s h : Int} (hv : vA xs s h = true) {j : Nat} (hj : xs.length + j ≤ 16) :
    szC (xs ++ List.replicate j 0) s h = szC xs s h ∧ ∀ t, g (szL (xs ++ List.replicate j 0) s h) t = if t < xs.length then g (szL xs s h) t else 0 := by
  obtain ⟨hn, hf, s0, s1, h0, h1⟩ := vA_all hv
  have hv' := long_vA hv hj
  have hlen : (xs ++ List.replicate j (0 : Int)).length = xs.length + j := by simp
  have hz : ∀ i, xs.length ≤ i → i < xs.length + j → g xs i = 0 := fun i hi _ => g_ge hi
  refine ⟨?_, fun t => ?_⟩
  · rw [szC_good hv', szC_good hv, hlen, g_zeros]
    exact (best_zero_days (fun k => (hf k).1) j hj hz).1
  · rw [szL_good hv', szL_good hv, hlen, g_zeros]
    exact lots_zero_days (fun k => (hf k).1) j hj hz t

end Go.Proofs.Ytkbnbdpdmcnkiaa
