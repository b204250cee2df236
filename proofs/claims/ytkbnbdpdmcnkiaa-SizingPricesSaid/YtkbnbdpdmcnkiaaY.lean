/- Plain words: prices that satisfy the inequalities bound the cost of whatever lots cover. -/
import Derived.Test.YtkbnbdpdmcnkiaaX
namespace Go.Proofs.Ytkbnbdpdmcnkiaa

/-- The cost of the first n days, by the sums of the lots and of the requirements. -/
def cc (st h : Int) (D L : Nat → Int) : Nat → Int
  | 0 => 0
  | t + 1 => cc st h D L t + (if L (t + 1) = L t then 0 else st) + h * (L (t + 1) - D (t + 1))
/-- The inequalities for n days. -/
def ineqs (st h : Int) (f F : Nat → Int) (n : Nat) : Prop := ∀ t s, s ≤ t → t < n → F (t + 1) ≤ F s + btw st h f s (t + 1 - s)

theorem pS_sm (f : Nat → Int) (s k : Nat) : pS f (s + k) = pS f s + sm f s k := by
  induction k with
  | zero => simp [sm]
  | succ k ih => rw [show s + (k + 1) = s + k + 1 by omega, pS, ih, sm]; omega
theorem pS_mono {f : Nat → Int} (hf : ∀ k, 0 ≤ f k) {a b : Nat} (h : a ≤ b) : pS f a ≤ pS f b := by
  have := pS_sm f a (b - a)
  have := sm_nonneg hf a (b - a)
  rw [show b = a + (b - a) by omega]; omega
theorem cc_nonneg {st h : Int} {D L : Nat → Int} {n : Nat} (s0 : 0 ≤ st) (h0 : 0 ≤ h) (hL : ∀ t, t < n → D (t + 1) ≤ L (t + 1)) : 0 ≤ cc st h D L n := by
  induction n with
  | zero => exact Int.le_refl _
  | succ n ih =>
    have := ih (fun t ht => hL t (by omega))
    have h1 := hL n (by omega)
    have := Int.mul_nonneg h0 (show 0 ≤ L (n + 1) - D (n + 1) by omega)
    rw [cc]
    split <;> omega
theorem cc_tail {st h : Int} {f L : Nat → Int} {s : Nat} (hs : L (s + 1) ≠ L s) (k : Nat) (hc : ∀ i, s < i → i < s + (k + 1) → L (i + 1) = L i) :
    cc st h (pS f) L (s + (k + 1)) = cc st h (pS f) L s + st + h * (hd f s (k + 1) + ((k + 1 : Nat) : Int) * (L (s + 1) - pS f (s + (k + 1)))) ∧ L (s + (k + 1)) = L (s + 1) := by
  induction k with
  | zero =>
    refine ⟨?_, rfl⟩
    rw [cc, if_neg hs]
    simp [hd]
  | succ k ih =>
    obtain ⟨a, b⟩ := ih (fun i x y => hc i x (by omega))
    have e := hc (s + (k + 1)) (by omega) (by omega)
    refine ⟨?_, by rw [← b]; exact e⟩
    have eh : hd f s (k + 1 + 1) = hd f s (k + 1) + ((k + 1 : Nat) : Int) * f (s + (k + 1)) := rfl
    rw [eh, show s + (k + 1 + 1) = s + (k + 1) + 1 by omega, cc, a, if_pos e, e, b, pS]
    have e1 : ((k + 1 + 1 : Nat) : Int) = ((k + 1 : Nat) : Int) + 1 := by omega
    rw [e1]
    generalize ((k + 1 : Nat) : Int) = K
    generalize f (s + (k + 1)) = x
    generalize L (s + 1) = C
    generalize pS f (s + (k + 1)) = Dk
    generalize hd f s (k + 1) = q
    generalize cc st h (pS f) L s = y
    have : K * (C - Dk) + (C - (Dk + x)) = K * x + (K + 1) * (C - (Dk + x)) := by
      rw [Int.add_mul, Int.one_mul, show C - Dk = x + (C - (Dk + x)) by omega, Int.mul_add]
      omega
    have e2 : h * (q + K * (C - Dk)) + h * (C - (Dk + x)) = h * (q + K * x + (K + 1) * (C - (Dk + x))) := by
      rw [← Int.mul_add]
      congr 1
      omega
    omega

theorem dual {st h : Int} {f F : Nat → Int} {n : Nat} (hf : ∀ k, 0 ≤ f k) (s0 : 0 ≤ st) (h0 : 0 ≤ h) (hF0 : F 0 = 0) (hI : ineqs st h f F n) (m : Nat) (hm : m ≤ n) :
    ∀ L : Nat → Int, (∀ t, t ≤ m → pS f t ≤ L t) → L 0 = 0 → F m ≤ cc st h (pS f) L m := by
  induction m using Nat.strongRecOn with
  | _ m ih =>
    intro L hL hL0
    match m, hm, ih, hL with
    | 0, _, _, _ => rw [hF0]; exact Int.le_refl _
    | t + 1, hm, ih, hL =>
      rcases lastDay (fun i => decide (L (i + 1) ≠ L i)) (t + 1) with hno | ⟨s, g1, g2, g3⟩
      · have hall : ∀ i, i ≤ t + 1 → L i = 0 := by
          intro i hi
          induction i with
          | zero => exact hL0
          | succ i ih2 =>
            have := hno i (by omega)
            simp only [ne_eq, decide_not, Bool.not_eq_false', decide_eq_true_eq] at this
            rw [this]; exact ih2 (by omega)
        have hD := hL (t + 1) (Nat.le_refl _)
        rw [hall (t + 1) (Nat.le_refl _)] at hD
        have hz : sm f 0 (t + 1) = 0 := by
          have e := pS_sm f 0 (t + 1)
          rw [Nat.zero_add] at e
          have e0 : pS f 0 = 0 := rfl
          have := sm_nonneg hf 0 (t + 1)
          omega
        have h1 := hI t 0 (by omega) (by omega)
        rw [hF0, Nat.sub_zero, btw_zero hf hz] at h1
        have := cc_nonneg (D := pS f) (L := L) (n := t + 1) s0 h0 (fun i hi => hL (i + 1) (by omega))
        omega
      · simp only [ne_eq, decide_not, Bool.not_eq_true', decide_eq_false_iff_not] at g2
        have hc : ∀ i, s < i → i < s + (t - s + 1) → L (i + 1) = L i := fun i a b => by
          have := g3 i a (by omega)
          simpa using this
        obtain ⟨e1, e2⟩ := cc_tail (st := st) (h := h) (f := f) g2 (t - s) hc
        rw [show s + (t - s + 1) = t + 1 by omega] at e1 e2
        have hI' := hI t s (by omega) (by omega)
        have hw : btw st h f s (t + 1 - s) ≤ st + h * hd f s (t + 1 - s) := by
          by_cases hz : sm f s (t + 1 - s) = 0
          · rw [btw_zero hf hz]
            have := Int.mul_nonneg h0 (hd_nonneg hf s (t + 1 - s))
            omega
          · rw [btw_pos hf hz]; exact Int.le_refl _
        have ih' := ih s (by omega) (by omega) (fun i => min (L i) (pS f s)) (fun i hi => by
          have := hL i (by omega)
          have := pS_mono hf hi
          show pS f i ≤ min (L i) (pS f s)
          omega) (by
          have := pS_mono hf (Nat.zero_le s)
          have e0 : pS f 0 = 0 := rfl
          show min (L 0) (pS f s) = 0
          omega)
        have hless : ∀ k, k ≤ s → cc st h (pS f) (fun i => min (L i) (pS f s)) k ≤ cc st h (pS f) L k := by
          intro k hk
          induction k with
          | zero => exact Int.le_refl _
          | succ k ih2 =>
            have := ih2 (by omega)
            have h1 : h * (min (L (k + 1)) (pS f s) - pS f (k + 1)) ≤ h * (L (k + 1) - pS f (k + 1)) := Int.mul_le_mul_of_nonneg_left (by omega) h0
            rw [cc, cc]
            by_cases e : L (k + 1) = L k
            · rw [if_pos e, if_pos (by rw [e])]; omega
            · rw [if_neg e]
              split <;> omega
        have hl := hless s (Nat.le_refl _)
        have hD := hL (t + 1) (Nat.le_refl _)
        rw [e2] at hD
        have h2 : h * hd f s (t + 1 - s) ≤ h * (hd f s (t - s + 1) + ((t - s + 1 : Nat) : Int) * (L (s + 1) - pS f (t + 1))) := by
          refine Int.mul_le_mul_of_nonneg_left ?_ h0
          have := Int.mul_nonneg (show (0 : Int) ≤ ((t - s + 1 : Nat) : Int) by omega) (show 0 ≤ L (s + 1) - pS f (t + 1) by omega)
          rw [show t + 1 - s = t - s + 1 by omega]
          omega
        omega

/-- The cost, by sums. -/
theorem costTo_cc (st h : Int) (xs ls : List Int) (n : Nat) : costTo st h xs ls n = cc st h (pS (g xs)) (pS (g ls)) n := by
  induction n with
  | zero => rfl
  | succ n ih =>
    rw [costTo, cc, ih]
    have e : (pS (g ls) (n + 1) = pS (g ls) n) ↔ g ls n = 0 := by rw [pS]; omega
    by_cases hz : g ls n = 0
    · rw [if_pos hz, if_pos (e.2 hz)]; rfl
    · rw [if_neg hz, if_neg (fun x => hz (e.1 x))]; rfl

/-- NO LOTS THAT COVER COST LESS THAN THE PRICES SAY. -/
theorem dual_lots {st h : Int} {xs ls : List Int} {F : Nat → Int} {n : Nat} (hf : ∀ k, 0 ≤ g xs k) (s0 : 0 ≤ st) (h0 : 0 ≤ h) (hF0 : F 0 = 0) (hI : ineqs st h (g xs) F n) (hc : covTo xs ls n = true) :
    F n ≤ costTo st h xs ls n := by
  rw [costTo_cc]
  refine dual hf s0 h0 hF0 hI n (Nat.le_refl _) _ (fun t ht => ?_) rfl
  match t, ht with
  | 0, _ => exact Int.le_refl _
  | t + 1, ht =>
    have := covTo_iff.1 hc t (by omega)
    unfold held at this
    omega

end Go.Proofs.Ytkbnbdpdmcnkiaa
