/- Plain words: the reference's prices are the costs of the first days; the set that is best of all numbers. -/
import Derived.Test.YtkbnbdpdmcnkiaaCG
import Derived.Test.YtkbnbdpdmcnkiaaCA
namespace Go.Proofs.Ytkbnbdpdmcnkiaa

theorem leastL_all {st h : Int} {f F : Nat → Int} {t k s : Nat} (hs : s ≤ k) : leastL st h f F t k ≤ F s + btw st h f s (t + 1 - s) := by
  induction k with
  | zero =>
    obtain rfl : s = 0 := by omega
    exact Int.le_refl _
  | succ k ih =>
    rw [leastL]
    by_cases e : s = k + 1
    · subst e; omega
    · have := ih (by omega); omega
theorem leastL_mem (st h : Int) (f F : Nat → Int) (t k : Nat) : ∃ s, s ≤ k ∧ leastL st h f F t k = F s + btw st h f s (t + 1 - s) := by
  induction k with
  | zero => exact ⟨0, Nat.le_refl _, rfl⟩
  | succ k ih =>
    obtain ⟨s, h1, h2⟩ := ih
    rw [leastL]
    by_cases e : leastL st h f F t k ≤ F (k + 1) + btw st h f (k + 1) (t + 1 - (k + 1))
    · exact ⟨s, by omega, by omega⟩
    · exact ⟨k + 1, by omega, by omega⟩
theorem prL_best (st h : Int) {f : Nat → Int} (hf : ∀ k, 0 ≤ f k) (t : Nat) (ht : t ≤ 16) : ∀ j, j ≤ t → g (prL st h f t) j = bestC st h f j := by
  induction t with
  | zero =>
    intro j hj
    obtain rfl : j = 0 := by omega
    rfl
  | succ t ih =>
    intro j hj
    have ih := ih (by omega)
    have hl := prL_length st h f t
    rw [prL]
    by_cases e : j ≤ t
    · rw [g_app_lt (by omega)]; exact ih j e
    · obtain rfl : j = t + 1 := by omega
      rw [g_app_eq hl]
      obtain ⟨h1, s, h2, h3⟩ := best_step st h f hf t (by omega)
      obtain ⟨s', h4, h5⟩ := leastL_mem st h f (g (prL st h f t)) t t
      have h6 := leastL_all (st := st) (h := h) (f := f) (F := g (prL st h f t)) (t := t) h2
      have h7 := h1 s' h4
      rw [ih s' h4] at h5
      rw [ih s h2] at h6
      omega
theorem prL_dpP (st h : Int) {f : Nat → Int} (hf : ∀ k, 0 ≤ f k) (n : Nat) (hn : n ≤ 16) : (prL st h f n).drop 1 = dpP st h f n := by
  have hl := prL_length st h f n
  have hl' := dpP_length st h f n
  apply List.ext_getElem (by simp [hl, hl'])
  intro i h1 h2
  have e1 := prL_best st h hf n hn (i + 1) (by omega)
  have e2 := dpP_at st h f n i (by omega)
  have e3 : g (prL st h f n) (i + 1) = ((prL st h f n).drop 1)[i] := by
    rw [List.getElem_drop]
    unfold g
    rw [Nat.add_comm i 1, List.getElem?_eq_getElem (show 1 + i < (prL st h f n).length by omega)]
    rfl
  have e4 : g (dpP st h f n) i = (dpP st h f n)[i] := by simp [g, List.getElem?_eq_getElem h2]
  rw [← e3, ← e4, e1, e2]

theorem bits_nm {S : Nat → Bool} {n : Nat} (hS : ∀ i, n ≤ i → S i = false) : (nm S n).testBit = S := by
  funext i
  have hlt := nm_lt S n
  by_cases hi : i < n
  · have e : nm (nm S n).testBit n = nm S n := by rw [nm_bits, Nat.mod_eq_of_lt hlt]
    exact nm_inj e i hi
  · rw [bits_high hlt i (by omega), hS i (by omega)]

/-- What the reference has found when it has tried all sets from k on. -/
def FoundR (st h : Int) (f : Nat → Int) (n k : Nat) (c : Int) (N0 : Nat) : Prop :=
  k ≤ N0 ∧ N0 < 2 ^ n ∧ pos f N0.testBit n ∧ c = sc st h f N0.testBit n ∧ ∀ N, k ≤ N → N < 2 ^ n → pos f N.testBit n → c < sc st h f N.testBit n ∨ (c = sc st h f N.testBit n ∧ N ≤ N0)
def NoneR (f : Nat → Int) (n k : Nat) : Prop := ∀ N, k ≤ N → N < 2 ^ n → ¬ pos f N.testBit n
theorem nm_more {S : Nat → Bool} {n : Nat} (hS : ∀ i, n ≤ i → S i = false) (k : Nat) : nm S (n + k) = nm S n := by
  induction k with
  | zero => rfl
  | succ k ih => rw [show n + (k + 1) = n + k + 1 by omega, nm, ih, hS (n + k) (by omega)]; simp
theorem found_all {st h : Int} {f : Nat → Int} (hf : ∀ k, 0 ≤ f k) {n : Nat} (hn : n ≤ 16) {c : Int} {N0 : Nat} (hF : FoundR st h f n 0 c N0) : c = bestC st h f n ∧ N0.testBit = bestS st h f n := by
  obtain ⟨_, h2, h3, h4, h5⟩ := hF
  obtain ⟨p, q, l⟩ := best_law st h f hf n hn
  have hb := bits_nm p.1
  have h6 := h5 (nm (bestS st h f n) n) (Nat.zero_le _) (nm_lt _ _) (by rw [hb]; exact p)
  rw [hb, q] at h6
  have h7 := l _ h3
  rw [← h4] at h7
  have e1 := nm_more p.1 (16 - n)
  have e2 := nm_more h3.1 (16 - n)
  rw [show n + (16 - n) = 16 by omega] at e1 e2
  have e3 : nm N0.testBit n = N0 := by rw [nm_bits, Nat.mod_eq_of_lt h2]
  unfold lex at h7
  rw [e1, e2, e3] at h7
  refine ⟨by omega, ?_⟩
  rw [← hb]
  congr 1
  omega
theorem none_all {st h : Int} {f : Nat → Int} (hf : ∀ k, 0 ≤ f k) {n : Nat} (hn : n ≤ 16) (hN : NoneR f n 0) : False := by
  obtain ⟨p, _, _⟩ := best_law st h f hf n hn
  refine hN (nm (bestS st h f n) n) (Nat.zero_le _) (nm_lt _ _) ?_
  rw [bits_nm p.1]
  exact p

end Go.Proofs.Ytkbnbdpdmcnkiaa
