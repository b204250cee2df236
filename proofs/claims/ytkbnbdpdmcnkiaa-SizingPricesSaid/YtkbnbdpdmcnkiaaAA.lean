/- Plain words: what Size answers covers, costs what it says, and is the least. -/
import Derived.Test.YtkbnbdpdmcnkiaaU
import Derived.Test.YtkbnbdpdmcnkiaaZ
namespace Go.Proofs.Ytkbnbdpdmcnkiaa
open Go.RowKit

theorem vA_all {xs : List Int} {s h : Int} (hv : vA xs s h = true) : xs.length ≤ 16 ∧ (∀ k, 0 ≤ g xs k ∧ g xs k ≤ 1048576) ∧ 0 ≤ s ∧ s ≤ 1048576 ∧ 0 ≤ h ∧ h ≤ 1048576 := by
  simp only [vA, vN, Bool.and_eq_true, decide_eq_true_eq, allB_iff, inB_iff] at hv
  refine ⟨hv.1.1, fun k => ?_, hv.2.1.1, hv.2.1.2, hv.2.2.1, hv.2.2.2⟩
  by_cases hk : k < xs.length
  · exact hv.1.2 k hk
  · have : g xs k = 0 := by simp [g, List.getElem?_eq_none (Nat.le_of_not_lt hk)]
    omega
theorem szL_good {xs : List Int} {s h : Int} (hv : vA xs s h = true) : szL xs s h = lotL (bestS s h (g xs) xs.length) (g xs) xs.length xs.length := by simp only [szL, hv, if_true]; rfl
theorem szC_good {xs : List Int} {s h : Int} (hv : vA xs s h = true) : szC xs s h = bestC s h (g xs) xs.length := by simp only [szC, hv, if_true]; rfl
theorem szP_good {xs : List Int} {s h : Int} (hv : vA xs s h = true) : szP xs s h = dpP s h (g xs) xs.length := by simp only [szP, hv, if_true]
theorem szL_len {xs : List Int} {s h : Int} (hv : vA xs s h = true) : (szL xs s h).length = xs.length := by rw [szL_good hv, lotL_length]
theorem szP_len {xs : List Int} {s h : Int} (hv : vA xs s h = true) : (szP xs s h).length = xs.length := by rw [szP_good hv, dpP_length]
theorem szL_ok {xs : List Int} {s h : Int} (hv : vA xs s h = true) : okK xs (szL xs s h) s h = true ∧ okC xs (szL xs s h) = true ∧ covTo xs (szL xs s h) xs.length = true ∧ costTo s h xs (szL xs s h) xs.length = szC xs s h := by
  obtain ⟨hn, hf, s0, s1, h0, h1⟩ := vA_all hv
  have hl := szL_len hv
  have hB : Bd 1048576 (g xs) xs.length := fun k _ => hf k
  have hp := best_law s h (g xs) (fun k => (hf k).1) xs.length hn
  have hvL : vL xs (szL xs s h) = true := by
    rw [vL_iff]
    refine ⟨hl, fun k _ => ?_⟩
    rw [szL_good hv]
    have := lotL_bd (S := bestS s h (g xs) xs.length) hB xs.length (Nat.le_refl _) k
    omega
  have hc : covTo xs (szL xs s h) xs.length = true := by rw [szL_good hv]; exact lots_cover (fun k => (hf k).1) _ _
  have hN : vN xs = true := by simp only [vA, Bool.and_eq_true] at hv; exact hv.1
  refine ⟨?_, ?_, hc, ?_⟩
  · simp only [okK, Bool.and_eq_true]
    exact ⟨hv, hvL, hc⟩
  · simp only [okC, hN, hvL, Bool.and_self]
  · rw [szC_good hv, szL_good hv, lots_cost (fun k => (hf k).1) s h hp.1, hp.2.1]
theorem szP_at {xs : List Int} {s h : Int} (hv : vA xs s h = true) {t : Nat} (ht : t < xs.length) : g (szP xs s h) t = bestC s h (g xs) (t + 1) := by rw [szP_good hv, dpP_at _ _ _ _ _ ht]
theorem sz_least {xs ls : List Int} {s h : Int} (hk : okK xs ls s h = true) : szC xs s h ≤ costTo s h xs ls xs.length := by
  simp only [okK, Bool.and_eq_true] at hk
  obtain ⟨hv, hvL, hc⟩ := hk
  obtain ⟨hn, hf, s0, s1, h0, h1⟩ := vA_all hv
  rw [szC_good hv]
  exact dual_lots (fun k => (hf k).1) s0 h0 rfl (best_ineqs s h (fun k => (hf k).1) hn) hc

end Go.Proofs.Ytkbnbdpdmcnkiaa
