/- Plain words: sets by their bits; when the reference takes a set as possible. -/
import Derived.Test.YtkbnbdpdmcnkiaaZ
import Derived.Laws.Bits64b
import Derived.IntWalk
namespace Go.Proofs.Ytkbnbdpdmcnkiaa

theorem bits_and_i64 (a b : Nat) (ha : a < 4611686018427387904) (hb : b < 4611686018427387904) : bits .and .i64 (a : Int) (b : Int) = ((a &&& b : Nat) : Int) := by
  have hx : a &&& b < 2 ^ 62 := Nat.and_lt_two_pow _ (by omega)
  have h1 : (BitVec.ofInt 64 (a : Int)).toNat = a := by
    rw [BitVec.ofInt_natCast, BitVec.toNat_ofNat]; exact Nat.mod_eq_of_lt (by omega)
  have h2 : (BitVec.ofInt 64 (b : Int)).toNat = b := by
    rw [BitVec.ofInt_natCast, BitVec.toNat_ofNat]; exact Nat.mod_eq_of_lt (by omega)
  show IntKind.i64.wrap ((BitVec.ofInt 64 (a : Int) &&& BitVec.ofInt 64 (b : Int)).toNat : Int) = _
  rw [BitVec.toNat_and, h1, h2]
  exact IntWalk.i64_in _ (by omega)
theorem bit_test (N k : Nat) (hN : N < 65536) : (bits .and .i64 ((N : Int) / 2 ^ k) 1 == 1) = N.testBit k := by
  have h0 : N / 2 ^ k ≤ N := Nat.div_le_self _ _
  have e : (N : Int) / 2 ^ k = ((N / 2 ^ k : Nat) : Int) := by
    rw [Int.natCast_ediv]; simp
  rw [e, show (1 : Int) = ((1 : Nat) : Int) from rfl, bits_and_i64 _ _ (by omega) (by omega), Nat.testBit_eq_decide_div_mod_eq, Nat.and_one_is_mod]
  rw [Bool.eq_iff_iff]
  simp
  omega

/-- The last day of a set below k, or -1. -/
def lastI (T : Nat → Bool) : Nat → Int
  | 0 => -1
  | k + 1 => if T k = true then (k : Int) else lastI T k
theorem lastI_cases (T : Nat → Bool) (k : Nat) : (lastI T k = -1 ∧ ∀ i, i < k → T i = false) ∨ (lastI T k = (lotD T k : Int) ∧ lotD T k < k ∧ ∃ i, i < k ∧ T i = true) := by
  induction k with
  | zero => exact .inl ⟨rfl, fun i hi => by omega⟩
  | succ k ih =>
    rw [lastI, lotD]
    cases hT : T k
    · rw [if_neg (by decide), if_neg (by decide)]
      rcases ih with ⟨h1, h2⟩ | ⟨h1, h2, i, h3, h4⟩
      · refine .inl ⟨h1, fun i hi => ?_⟩
        by_cases e : i = k
        · subst e; exact hT
        · exact h2 i (by omega)
      · exact .inr ⟨h1, by omega, i, by omega, h4⟩
    · rw [if_pos rfl, if_pos rfl]
      exact .inr ⟨rfl, by omega, k, by omega, hT⟩
theorem lastI_bd (T : Nat → Bool) (k : Nat) : -1 ≤ lastI T k ∧ lastI T k < k := by
  rcases lastI_cases T k with ⟨h1, _⟩ | ⟨h1, h2, _⟩ <;> omega
theorem lotD_gap {T : Nat → Bool} {k : Nat} : ∀ j, lotD T k < j → j < k → T j = false := by
  induction k with
  | zero => intro j _ hj; omega
  | succ k ih =>
    intro j h1 h2
    rw [lotD] at h1
    cases hT : T k
    · rw [hT, if_neg (by decide)] at h1
      by_cases e : j = k
      · subst e; exact hT
      · exact ih j h1 (by omega)
    · rw [hT, if_pos rfl] at h1; omega
/-- The reference's test: each requirement has a day of the set before it, each day of the set a lot. -/
theorem pos_of {f : Nat → Int} {T : Nat → Bool} {n : Nat} (h1 : ∀ i, n ≤ i → T i = false) (h2 : ∀ t, t < n → f t ≠ 0 → ∃ i, i ≤ t ∧ T i = true) (h3 : ∀ t, t < n → T t = true → g (lotL T f n n) t ≠ 0) : pos f T n := by
  refine ⟨h1, h2, fun i hi hT => ?_⟩
  have hne := h3 i hi hT
  rw [lotL_at _ _ _ _ (Nat.le_refl _)] at hne
  by_cases hu : ∃ u, u < n ∧ lotD T (u + 1) = i ∧ f u ≠ 0
  · obtain ⟨u, h4, h5, h6⟩ := hu
    have := lotD_lt T u
    exact ⟨u, by omega, h4, h6, fun j a b => lotD_gap (k := u + 1) j (by omega) (by omega)⟩
  · exfalso
    refine hne ?_
    rw [pS_congr (b := fun _ => 0) (fun u hu' => ?_), pS_zero]
    by_cases e : lotD T (u + 1) = i
    · rw [if_pos e]
      by_cases e2 : f u = 0
      · exact e2
      · exact absurd ⟨u, hu', e, e2⟩ hu
    · rw [if_neg e]

/-- The number of the set of bits. -/
theorem nm_bits (N k : Nat) : nm N.testBit k = N % 2 ^ k := by
  induction k with
  | zero => simp [nm, Nat.mod_one]
  | succ k ih =>
    rw [nm, ih, Nat.mod_pow_succ, Nat.testBit_eq_decide_div_mod_eq]
    have h2 : N / 2 ^ k % 2 = 0 ∨ N / 2 ^ k % 2 = 1 := by omega
    rcases h2 with e | e <;> simp [e]
theorem bits_high {N n : Nat} (hN : N < 2 ^ n) : ∀ i, n ≤ i → N.testBit i = false := fun i hi => Nat.testBit_lt_two_pow (Nat.lt_of_lt_of_le hN (Nat.pow_le_pow_right (by decide) hi))
theorem lotL_zero {T : Nat → Bool} {f : Nat → Int} {n k : Nat} (hk : k < n) (h : f k = 0) : lotL T f n (k + 1) = lotL T f n k := by
  have hd := lotD_lt T k
  rw [lotL, h, Int.add_zero]
  apply List.ext_getElem?
  intro i
  by_cases e : lotD T (k + 1) = i
  · subst e
    have hl := lotL_length T f n k
    rw [List.getElem?_set_self (by omega), g, List.getElem?_eq_getElem (show lotD T (k + 1) < (lotL T f n k).length by omega)]
    rfl
  · rw [List.getElem?_set_ne e]

end Go.Proofs.Ytkbnbdpdmcnkiaa
