/- Plain words: the lots of a possible set cover, and cost what is said of the set. -/
import Derived.Test.YtkbnbdpdmcnkiaaY
namespace Go.Proofs.Ytkbnbdpdmcnkiaa

/-- A sum of k numbers. -/
theorem pS_congr {a b : Nat → Int} {k : Nat} (h : ∀ i, i < k → a i = b i) : pS a k = pS b k := by
  induction k with
  | zero => rfl
  | succ k ih => rw [pS, pS, ih (fun i hi => h i (by omega)), h k (by omega)]
theorem pS_add (a b : Nat → Int) (k : Nat) : pS (fun i => a i + b i) k = pS a k + pS b k := by
  induction k with
  | zero => rfl
  | succ k ih => rw [pS, pS, pS, ih]; omega
theorem pS_mul (h : Int) (a : Nat → Int) (k : Nat) : pS (fun i => h * a i) k = h * pS a k := by
  induction k with
  | zero => simp [pS]
  | succ k ih => rw [pS, pS, ih, Int.mul_add]
theorem pS_nn {a : Nat → Int} {k : Nat} (h : ∀ i, i < k → 0 ≤ a i) : 0 ≤ pS a k := by
  induction k with
  | zero => exact Int.le_refl _
  | succ k ih => have := ih (fun i hi => h i (by omega)); have := h k (by omega); rw [pS]; omega
theorem pS_zero {k : Nat} : pS (fun _ => 0) k = 0 := by
  induction k with
  | zero => rfl
  | succ k ih => rw [pS, ih]; rfl
theorem pS_ge {a : Nat → Int} {k u : Nat} (h : ∀ i, i < k → 0 ≤ a i) (hu : u < k) : a u ≤ pS a k := by
  induction k with
  | zero => omega
  | succ k ih =>
    have h1 := pS_nn (k := k) (fun i hi => h i (by omega))
    have h2 := h k (by omega)
    rw [pS]
    by_cases e : u = k
    · subst e; omega
    · have := ih (fun i hi => h i (by omega)) (by omega); omega
/-- One number at a place. -/
theorem pS_one (d : Nat) (x : Int) (t : Nat) : pS (fun j => if j = d then x else 0) t = if d < t then x else 0 := by
  induction t with
  | zero => simp [pS]
  | succ t ih =>
    rw [pS, ih]
    by_cases e : t = d
    · subst e; simp
    · rw [if_neg e]
      by_cases h : d < t
      · rw [if_pos h, if_pos (by omega)]; omega
      · rw [if_neg h, if_neg (by omega)]; rfl
/-- The same number on the places from d up to k. -/
theorem pS_run {d k : Nat} (x : Int) (hd : d ≤ k) (m : Nat) (hm : k ≤ m) : pS (fun t => if d ≤ t ∧ t < k then x else 0) m = ((k - d : Nat) : Int) * x := by
  have key : ∀ m, pS (fun t => if d ≤ t ∧ t < k then x else 0) m = ((min m k - min m d : Nat) : Int) * x := by
    intro m
    induction m with
    | zero => simp [pS]
    | succ m ih =>
      rw [pS, ih]
      by_cases h : d ≤ m ∧ m < k
      · rw [if_pos h]
        have e : ((min (m + 1) k - min (m + 1) d : Nat) : Int) = ((min m k - min m d : Nat) : Int) + 1 := by omega
        rw [e, Int.add_mul, Int.one_mul]
      · rw [if_neg h]
        have e : min (m + 1) k - min (m + 1) d = min m k - min m d := by omega
        rw [e]; omega
  rw [key m, show min m k - min m d = k - d by omega]

/-- The lot of day j, behind the first k requirements. -/
theorem lotL_at (T : Nat → Bool) (f : Nat → Int) (n k : Nat) (hk : k ≤ n) (j : Nat) : g (lotL T f n k) j = pS (fun u => if lotD T (u + 1) = j then f u else 0) k := by
  induction k with
  | zero =>
    show g (List.replicate n 0) j = 0
    unfold g
    by_cases h : j < n
    · simp [h]
    · simp [h]
  | succ k ih =>
    have hd := lotD_lt T k
    rw [lotL, g_set _ _ _ _ (by rw [lotL_length]; omega), pS]
    by_cases e : j = lotD T (k + 1)
    · rw [if_pos e, if_pos e.symm, ← e, ih (by omega)]
    · rw [if_neg e, if_neg (fun x => e x.symm), ih (by omega)]; omega
/-- The sum of the lots ahead of day t. -/
theorem lotL_sum (T : Nat → Bool) (f : Nat → Int) (n k : Nat) (hk : k ≤ n) (t : Nat) : pS (g (lotL T f n k)) t = pS (fun u => if lotD T (u + 1) < t then f u else 0) k := by
  rw [pS_congr (fun i _ => lotL_at T f n k hk i)]
  clear hk
  induction k with
  | zero => exact pS_zero
  | succ k ih =>
    have e : (fun i => pS (fun u => if lotD T (u + 1) = i then f u else 0) (k + 1)) = fun i => pS (fun u => if lotD T (u + 1) = i then f u else 0) k + (if i = lotD T (k + 1) then f k else 0) := by
      funext i
      rw [pS]
      congr 1
      by_cases h : i = lotD T (k + 1)
      · rw [if_pos h, if_pos h.symm]
      · rw [if_neg h, if_neg (fun x => h x.symm)]
    rw [e, pS_add, ih, pS_one, pS]
theorem pS_cut (f : Nat → Int) (k t : Nat) (h : t ≤ k) : pS (fun u => if u < t then f u else 0) k = pS f t := by
  induction k with
  | zero => obtain rfl := Nat.le_zero.1 h; rfl
  | succ k ih =>
    rw [pS]
    by_cases e : t = k + 1
    · subst e
      rw [if_pos (by omega), pS]
      congr 1
      exact pS_congr (fun i hi => by rw [if_pos (by omega)])
    · rw [ih (by omega), if_neg (by omega)]; omega
/-- What is held ahead of day t: what is required from then on and made before. -/
theorem held_lots (xs : List Int) (T : Nat → Bool) (n t : Nat) (ht : t ≤ n) :
    held xs (lotL T (g xs) n n) t = pS (fun u => if lotD T (u + 1) < t ∧ t ≤ u then g xs u else 0) n := by
  unfold held
  rw [lotL_sum T (g xs) n n (Nat.le_refl _), ← pS_cut (g xs) n t ht]
  have e : pS (fun u => if lotD T (u + 1) < t then g xs u else 0) n = pS (fun u => (if u < t then g xs u else 0) + (if lotD T (u + 1) < t ∧ t ≤ u then g xs u else 0)) n := by
    refine pS_congr (fun u _ => ?_)
    have := lotD_lt T u
    by_cases h1 : u < t
    · rw [if_pos (by omega), if_pos h1, if_neg (by omega)]; omega
    · by_cases h2 : lotD T (u + 1) < t
      · rw [if_pos h2, if_neg h1, if_pos (by omega)]; omega
      · rw [if_neg h2, if_neg h1, if_neg (by omega)]; rfl
  rw [e, pS_add]
  omega
theorem lots_cover {xs : List Int} (hf : ∀ k, 0 ≤ g xs k) (T : Nat → Bool) (n : Nat) : covTo xs (lotL T (g xs) n n) n = true := by
  refine covTo_iff.2 (fun k hk => ?_)
  rw [held_lots xs T n (k + 1) (by omega)]
  refine pS_nn (fun i _ => ?_)
  have := hf i
  split <;> omega
theorem held_all (xs : List Int) (T : Nat → Bool) (n : Nat) : pS (fun t => held xs (lotL T (g xs) n n) (t + 1)) n = pS (fun u => ((u - lotD T (u + 1) : Nat) : Int) * g xs u) n := by
  rw [pS_congr (fun t ht => held_lots xs T n (t + 1) (by omega))]
  have key : ∀ k, k ≤ n → pS (fun t => pS (fun u => if lotD T (u + 1) < t + 1 ∧ t + 1 ≤ u then g xs u else 0) k) n = pS (fun u => ((u - lotD T (u + 1) : Nat) : Int) * g xs u) k := by
    intro k
    induction k with
    | zero => intro _; exact pS_zero
    | succ k ih =>
      intro hk
      have e : (fun t => pS (fun u => if lotD T (u + 1) < t + 1 ∧ t + 1 ≤ u then g xs u else 0) (k + 1)) =
          fun t => pS (fun u => if lotD T (u + 1) < t + 1 ∧ t + 1 ≤ u then g xs u else 0) k + (if lotD T (k + 1) ≤ t ∧ t < k then g xs k else 0) := by
        funext t
        rw [pS]
        congr 1
        by_cases h : lotD T (k + 1) ≤ t ∧ t < k
        · rw [if_pos h, if_pos (by omega)]
        · rw [if_neg h, if_neg (by omega)]
      rw [e, pS_add, ih (by omega), pS_run _ (lotD_lt T k) n (by omega), pS]
  exact key n (Nat.le_refl _)
theorem costTo_sum (st h : Int) (xs ls : List Int) (n : Nat) : costTo st h xs ls n = pS (fun t => if g ls t = 0 then 0 else st) n + h * pS (fun t => held xs ls (t + 1)) n := by
  induction n with
  | zero => simp [costTo, pS]
  | succ n ih => rw [costTo, ih, pS, pS, Int.mul_add]; omega
theorem sc_sum (st h : Int) (f : Nat → Int) (T : Nat → Bool) (n : Nat) : sc st h f T n = pS (fun t => if T t = true then st else 0) n + h * pS (fun u => ((u - lotD T (u + 1) : Nat) : Int) * f u) n := by
  induction n with
  | zero => simp [sc, pS]
  | succ n ih => rw [sc, ih, pS, pS, Int.mul_add]; omega
theorem lotD_in {T : Nat → Bool} {u : Nat} (h : ∃ i, i ≤ u ∧ T i = true) : T (lotD T (u + 1)) = true := by
  induction u with
  | zero =>
    obtain ⟨i, hi, e⟩ := h
    have : i = 0 := by omega
    subst this
    simp [lotD, e]
  | succ u ih =>
    rw [lotD]
    split
    · rename_i e; exact e
    · rename_i e
      refine ih ?_
      obtain ⟨i, hi, e'⟩ := h
      refine ⟨i, ?_, e'⟩
      by_cases h' : i = u + 1
      · subst h'; exact absurd e' e
      · omega
/-- The lots of a possible set are on its days. -/
theorem lots_days {f : Nat → Int} (hf : ∀ k, 0 ≤ f k) {T : Nat → Bool} {n : Nat} (hp : pos f T n) {j : Nat} (hj : j < n) : g (lotL T f n n) j ≠ 0 ↔ T j = true := by
  rw [lotL_at T f n n (Nat.le_refl _)]
  have hnn : ∀ i, i < n → 0 ≤ (fun u => if lotD T (u + 1) = j then f u else 0) i := fun i _ => by
    have := hf i
    dsimp only
    split <;> omega
  constructor
  · intro h
    by_cases hT : T j = true
    · exact hT
    · exfalso
      refine h ?_
      rw [pS_congr (b := fun _ => 0) (fun u hu => ?_), pS_zero]
      by_cases e : lotD T (u + 1) = j
      · rw [if_pos e]
        by_cases hz : f u = 0
        · exact hz
        · have := lotD_in (hp.2.1 u hu hz)
          rw [e] at this
          exact absurd this hT
      · rw [if_neg e]
  · intro hT
    obtain ⟨u, h1, h2, h3, h4⟩ := hp.2.2 j hj hT
    have e := lotD_last (k := u - j) hT (fun i a b => h4 i a (by omega))
    rw [show j + (u - j) + 1 = u + 1 by omega] at e
    have := pS_ge hnn h2
    rw [if_pos e] at this
    have := hf u
    omega
theorem lots_cost {xs : List Int} (hf : ∀ k, 0 ≤ g xs k) (st h : Int) {T : Nat → Bool} {n : Nat} (hp : pos (g xs) T n) : costTo st h xs (lotL T (g xs) n n) n = sc st h (g xs) T n := by
  rw [costTo_sum, sc_sum, held_all]
  congr 1
  refine pS_congr (fun j hj => ?_)
  have := lots_days hf hp hj
  by_cases e : T j = true
  · rw [if_neg (this.2 e), if_pos e]
  · rw [if_neg e]
    by_cases h0 : g (lotL T (g xs) n n) j = 0
    · rw [if_pos h0]
    · exact absurd (this.1 h0) e

/-- The inequalities hold for the costs of the dynamic programme. -/
theorem best_ineqs (st h : Int) {f : Nat → Int} (hf : ∀ k, 0 ≤ f k) {n : Nat} (hn : n ≤ 16) : ineqs st h f (bestC st h f) n := fun t s hs ht => (best_step st h f hf t (by omega)).1 s hs
theorem dpP_at (st h : Int) (f : Nat → Int) (n t : Nat) (ht : t < n) : g (dpP st h f n) t = bestC st h f (t + 1) := by
  have e : g (dpP st h f n) t = dC (dpL st h f n) (t + 1) := by
    unfold g dpP dC
    simp only [List.getElem?_drop, List.getElem?_map, Nat.add_comm 1 t]
    have hl := dpL_length st h f n
    rw [List.getElem?_eq_getElem (show t + 1 < (dpL st h f n).length by omega)]
    rfl
  rw [e]
  exact (dpL_take st h f (show t + 1 ≤ n by omega)).2

end Go.Proofs.Ytkbnbdpdmcnkiaa
