/- Plain words: what costs nothing; less to pay or to make; days without requirements at the end; fewer days. -/
import Derived.Test.YtkbnbdpdmcnkiaaZ
namespace Go.Proofs.Ytkbnbdpdmcnkiaa

theorem pS_ge2 {a : Nat → Int} {k u v : Nat} (h : ∀ i, i < k → 0 ≤ a i) (hu : u < k) (hv : v < k) (hne : u ≠ v) : a u + a v ≤ pS a k := by
  have e : pS a k = pS (fun i => (if i = u then 0 else a i) + (if i = u then a u else 0)) k := by
    refine pS_congr (fun i _ => ?_)
    by_cases e : i = u
    · subst e; simp
    · simp [e]
  have h1 := pS_ge (a := fun i => if i = u then 0 else a i) (k := k) (u := v) (fun i hi => by
    have := h i hi
    split <;> omega) hv
  rw [pS_add, pS_one, if_pos hu] at e
  rw [if_neg (Ne.symm hne)] at h1
  omega
theorem pS_const_zero {a : Nat → Int} {k : Nat} (h : ∀ i, i < k → a i = 0) : pS a k = 0 := by
  rw [pS_congr (b := fun _ => 0) h, pS_zero]
theorem sc_nonneg {st h : Int} {f : Nat → Int} (hf : ∀ k, 0 ≤ f k) (s0 : 0 ≤ st) (h0 : 0 ≤ h) (T : Nat → Bool) (n : Nat) : 0 ≤ sc st h f T n := by
  induction n with
  | zero => exact Int.le_refl _
  | succ n ih =>
    have h1 := Int.mul_nonneg h0 (Int.mul_nonneg (show (0 : Int) ≤ ((n - lotD T (n + 1) : Nat) : Int) by omega) (hf n))
    rw [sc]
    split <;> omega
theorem bestC_nonneg {st h : Int} {f : Nat → Int} (hf : ∀ k, 0 ≤ f k) (s0 : 0 ≤ st) (h0 : 0 ≤ h) {n : Nat} (hn : n ≤ 16) : 0 ≤ bestC st h f n := by
  rw [← (best_law st h f hf n hn).2.1]
  exact sc_nonneg hf s0 h0 _ _

/-- Nothing is required: nothing is made, nothing is paid. -/
theorem free_none {st h : Int} {f : Nat → Int} (hf : ∀ k, 0 ≤ f k) (s0 : 0 ≤ st) (h0 : 0 ≤ h) {n : Nat} (hn : n ≤ 16) (hz : ∀ i, i < n → f i = 0) :
    bestC st h f n = 0 ∧ ∀ j, g (lotL (bestS st h f n) f n n) j = 0 := by
  have hl := (best_law st h f hf n hn).2.2 (fun _ => false) ⟨fun _ _ => rfl, fun t ht hft => absurd (hz t ht) hft, fun i _ hT => by cases hT⟩
  rw [sc_zero (fun _ _ => rfl) hz] at hl
  have := bestC_nonneg hf s0 h0 hn
  refine ⟨by unfold lex at hl; omega, fun j => ?_⟩
  rw [lotL_at _ _ _ _ (Nat.le_refl _)]
  refine pS_const_zero (fun u hu => ?_)
  rw [hz u hu]
  split <;> rfl

/-- Holding costs nothing: all is made on the first day with a requirement. -/
theorem free_hold {st : Int} {f : Nat → Int} (hf : ∀ k, 0 ≤ f k) (s0 : 0 < st) {n a : Nat} (hn : n ≤ 16) (ha : a < n) (hfa : f a ≠ 0) (hz : ∀ i, i < a → f i = 0) :
    bestC st 0 f n = st ∧ ∀ j, g (lotL (bestS st 0 f n) f n n) j = if j = a then pS f n else 0 := by
  obtain ⟨hp, hc, hl⟩ := best_law st 0 f hf n hn
  have h0 := hl (fun i => decide (i = a)) ⟨fun i hi => by simp; omega, fun t ht hft => ⟨a, by
      by_cases h : a ≤ t
      · exact h
      · exact absurd (hz t (by omega)) hft, by simp⟩, fun i hi hT => by
      have e : i = a := by simpa using hT
      subst e
      exact ⟨i, Nat.le_refl _, hi, hfa, fun j x y => by omega⟩⟩
  have e0 : sc st 0 f (fun i => decide (i = a)) n = st := by
    rw [sc_sum, Int.zero_mul, Int.add_zero, pS_congr (b := fun t => if t = a then st else 0) (fun t _ => by simp), pS_one, if_pos ha]
  rw [e0] at h0
  have eB : sc st 0 f (bestS st 0 f n) n = pS (fun t => if bestS st 0 f n t = true then st else 0) n := by rw [sc_sum, Int.zero_mul, Int.add_zero]
  rw [eB] at hc
  clear hl
  generalize hB : bestS st 0 f n = B at *
  obtain ⟨i0, hi0, hBi⟩ := hp.2.1 a ha hfa
  have hnn : ∀ i, i < n → 0 ≤ (fun t => if B t = true then st else 0) i := fun i _ => by dsimp only; split <;> omega
  have h1 := pS_ge hnn (show i0 < n by omega)
  rw [if_pos hBi, hc] at h1
  have hst : bestC st 0 f n = st := by unfold lex at h0; omega
  have hnm : nm (fun i => decide (i = a)) 16 ≤ nm B 16 := by unfold lex at h0; omega
  have hone : ∀ i, B i = decide (i = i0) := fun i => by
    cases e : B i
    · symm; simp only [decide_eq_false_iff_not]; rintro rfl; rw [hBi] at e; cases e
    · symm; simp only [decide_eq_true_eq]
      have hin : i < n := by
        by_cases h : i < n
        · exact h
        · rw [hp.1 i (by omega)] at e; cases e
      by_cases h : i = i0
      · exact h
      · exfalso
        have h2 := pS_ge2 hnn hin (show i0 < n by omega) h
        rw [if_pos hBi, if_pos e, hc] at h2
        omega
  have hpow : ∀ d, d < 16 → nm (fun i => decide (i = d)) 16 = 2 ^ d := fun d hd => by
    have h1 := nm_ins (S := fun _ => false) (s := d) 16 (fun _ _ => rfl)
    rw [if_pos hd] at h1
    have h2 : nm (fun _ => false) 16 = 0 := by decide
    rw [h2, Nat.zero_add] at h1
    rw [← h1]
    refine nm_congr (fun i _ => ?_)
    unfold ins
    by_cases e : i = d
    · simp [e]
    · simp [e]
  rw [hpow a (by omega), nm_congr (fun i _ => hone i), hpow i0 (by omega)] at hnm
  have hle : a ≤ i0 := (Nat.pow_le_pow_iff_right (by decide)).1 hnm
  obtain rfl : i0 = a := by omega
  refine ⟨hst, fun j => ?_⟩
  rw [lotL_at _ _ _ _ (Nat.le_refl _)]
  have e : ∀ u, u < n → (if lotD B (u + 1) = j then f u else 0) = if i0 = j then f u else 0 := fun u hu => by
    by_cases h : u < i0
    · rw [hz u h]; split <;> split <;> rfl
    · have := lotD_last (T := B) (s := i0) (k := u - i0) hBi (fun i x y => by rw [hone i]; simp; omega)
      rw [show i0 + (u - i0) + 1 = u + 1 by omega] at this
      rw [this]
  rw [pS_congr e]
  by_cases h : j = i0
  · subst h; simp
  · rw [if_neg h]
    exact pS_const_zero (fun u _ => if_neg (fun e => h e.symm))

/-- Setting up costs nothing: all is made on its day. -/
theorem free_setup {h : Int} {f : Nat → Int} (hf : ∀ k, 0 ≤ f k) (h0 : 0 < h) {n : Nat} (hn : n ≤ 16) :
    bestC 0 h f n = 0 ∧ ∀ j, j < n → g (lotL (bestS 0 h f n) f n n) j = f j := by
  obtain ⟨hp, hc, hl⟩ := best_law 0 h f hf n hn
  have hT := hl (fun i => decide (i < n) && decide (f i ≠ 0)) ⟨fun i hi => by simp; omega, fun t ht hft => ⟨t, Nat.le_refl _, by simp [ht, hft]⟩, fun i hi hT => by
      simp only [Bool.and_eq_true, decide_eq_true_eq] at hT
      exact ⟨i, Nat.le_refl _, hi, hT.2, fun j x y => by omega⟩⟩
  have e0 : sc 0 h f (fun i => decide (i < n) && decide (f i ≠ 0)) n = 0 := by
    rw [sc_sum, pS_const_zero (a := fun t => if (decide (t < n) && decide (f t ≠ 0)) = true then 0 else 0) (fun i _ => by simp), pS_const_zero (fun u hu => ?_)]
    · simp
    · by_cases e : f u = 0
      · rw [e]; simp
      · have := lotD_last (T := fun i => decide (i < n) && decide (f i ≠ 0)) (s := u) (k := 0) (by simp [hu, e]) (fun i x y => by omega)
        simp only [Nat.add_zero] at this
        rw [this]; simp
  rw [e0] at hT
  have h1 := bestC_nonneg (st := 0) hf (Int.le_refl _) (Int.le_of_lt h0) hn
  have hz : bestC 0 h f n = 0 := by unfold lex at hT; omega
  refine ⟨hz, fun j hj => ?_⟩
  rw [hz, sc_sum, pS_const_zero (a := fun t => if bestS 0 h f n t = true then 0 else 0) (fun i _ => by simp)] at hc
  clear hl hT
  generalize bestS 0 h f n = B at *
  have hnn : ∀ i, i < n → 0 ≤ (fun u => ((u - lotD B (u + 1) : Nat) : Int) * f u) i := fun i _ => Int.mul_nonneg (by omega) (hf i)
  have hP : pS (fun u => ((u - lotD B (u + 1) : Nat) : Int) * f u) n = 0 := by
    have : h * pS (fun u => ((u - lotD B (u + 1) : Nat) : Int) * f u) n = 0 := by omega
    rcases Int.mul_eq_zero.1 this with e | e
    · omega
    · exact e
  have hall : ∀ u, u < n → f u ≠ 0 → lotD B (u + 1) = u := fun u hu hfu => by
    have h2 := pS_ge hnn hu
    rw [hP] at h2
    have h3 := hnn u hu
    dsimp only at h3
    have h4 : ((u - lotD B (u + 1) : Nat) : Int) * f u = 0 := by omega
    rcases Int.mul_eq_zero.1 h4 with e | e
    · have := lotD_lt B u; omega
    · exact absurd e hfu
  rw [lotL_at _ _ _ _ (Nat.le_refl _)]
  have e : ∀ u, u < n → (if lotD B (u + 1) = j then f u else 0) = if u = j then f j else 0 := fun u hu => by
    by_cases hfu : f u = 0
    · rw [hfu]
      by_cases e : u = j
      · subst e; rw [hfu]; simp
      · simp [e]
    · rw [hall u hu hfu]
      by_cases e : u = j
      · subst e; rfl
      · rw [if_neg e, if_neg e]
  rw [pS_congr e, pS_one, if_pos hj]

/-- The cost c is monotone. -/
theorem btw_mono {st h st' h' : Int} {f f' : Nat → Int} (hf' : ∀ k, 0 ≤ f' k) (hff : ∀ k, f' k ≤ f k) (s0 : 0 ≤ st') (h0 : 0 ≤ h') (hs : st' ≤ st) (hh : h' ≤ h) (s k : Nat) : btw st' h' f' s k ≤ btw st h f s k := by
  have hf : ∀ k, 0 ≤ f k := fun k => by have := hf' k; have := hff k; omega
  have hsm : sm f' s k ≤ sm f s k := by
    induction k with
    | zero => exact Int.le_refl _
    | succ k ih => have := hff (s + k); rw [sm, sm]; omega
  have hhd : hd f' s k ≤ hd f s k := by
    clear hsm
    induction k with
    | zero => exact Int.le_refl _
    | succ k ih => have := Int.mul_le_mul_of_nonneg_left (hff (s + k)) (show (0 : Int) ≤ (k : Int) by omega); rw [hd, hd]; omega
  have n1 := hd_nonneg hf' s k
  have n2 := hd_nonneg hf s k
  have hm : h' * hd f' s k ≤ h * hd f s k := Int.mul_le_mul hh hhd n1 (by omega)
  have hm0 := Int.mul_nonneg h0 n1
  have s1 := sm_nonneg hf' s k
  by_cases e' : sm f' s k = 0
  · rw [btw_zero hf' e']
    by_cases e : sm f s k = 0
    · rw [btw_zero hf e]; exact Int.le_refl _
    · rw [btw_pos hf e]; omega
  · rw [btw_pos hf' e', btw_pos hf (by omega)]; omega
theorem best_mono {st h st' h' : Int} {f f' : Nat → Int} (hf' : ∀ k, 0 ≤ f' k) (hff : ∀ k, f' k ≤ f k) (s0 : 0 ≤ st') (h0 : 0 ≤ h') (hs : st' ≤ st) (hh : h' ≤ h) (n : Nat) (hn : n ≤ 16) : bestC st' h' f' n ≤ bestC st h f n := by
  have hf : ∀ k, 0 ≤ f k := fun k => by have := hf' k; have := hff k; omega
  induction n using Nat.strongRecOn with
  | _ n ih =>
    match n, hn, ih with
    | 0, _, _ => exact Int.le_refl _
    | t + 1, hn, ih =>
      obtain ⟨s, h1, h2⟩ := (best_step st h f hf t (by omega)).2
      have h3 := (best_step st' h' f' hf' t (by omega)).1 s h1
      have h4 := ih s (by omega) (by omega)
      have h5 := btw_mono hf' hff s0 h0 hs hh s (t + 1 - s)
      omega

/-- The days that come later do not matter. -/
theorem foldL_congr3 (st h : Int) {f f' : Nat → Int} {bS bS' : Nat → Nat → Bool} {bC bC' : Nat → Int} {n : Nat} (e : ∀ x, x < n → f x = f' x ∧ bS x = bS' x ∧ bC x = bC' x) (pre : List (Fin n)) : foldL st h f bS bC pre = foldL st h f' bS' bC' pre :=
  (foldL_congr st h bS bC (fun x hx => (e x hx).1) pre).trans (foldL_congr2 st h f' (fun x hx => (e x hx).2) pre)
theorem best_congr (st h : Int) {f f' : Nat → Int} {n : Nat} (e : ∀ i, i < n → f i = f' i) : bestS st h f n = bestS st h f' n ∧ bestC st h f n = bestC st h f' n := by
  induction n using Nat.strongRecOn with
  | _ n ih =>
    match n, e, ih with
    | 0, _, _ => exact ⟨rfl, rfl⟩
    | t + 1, e, ih =>
      obtain ⟨a, b⟩ := best_succ st h f t
      obtain ⟨a', b'⟩ := best_succ st h f' t
      have := foldL_congr3 st h (f := f) (f' := f') (bS := bestS st h f) (bS' := bestS st h f') (bC := bestC st h f) (bC' := bestC st h f') (n := t + 1) (fun x hx => ⟨e x hx, ih x hx (fun i hi => e i (by omega))⟩) (dn (t + 1) (t + 1))
      rw [a, b, a', b', this]
      exact ⟨rfl, rfl⟩

/-- A day without a requirement at the end. -/
theorem pos_less {f : Nat → Int} {T : Nat → Bool} {n : Nat} (hz : f n = 0) (hp : pos f T (n + 1)) : pos f T n := by
  obtain ⟨p1, p2, p3⟩ := hp
  refine ⟨fun i hi => ?_, fun t ht => p2 t (by omega), fun i hi hT => ?_⟩
  · by_cases e : i = n
    · subst e
      cases hT : T i
      · rfl
      · obtain ⟨u, h1, h2, h3, _⟩ := p3 i (by omega) hT
        obtain rfl : u = i := by omega
        exact absurd hz h3
    · exact p1 i (by omega)
  · obtain ⟨u, h1, h2, h3, h4⟩ := p3 i (by omega) hT
    refine ⟨u, h1, ?_, h3, h4⟩
    by_cases e : u = n
    · subst e; exact absurd hz h3
    · omega
theorem best_zero_day {st h : Int} {f : Nat → Int} (hf : ∀ k, 0 ≤ f k) {n : Nat} (hn : n + 1 ≤ 16) (hz : f n = 0) : bestC st h f (n + 1) = bestC st h f n ∧ ∀ i, bestS st h f (n + 1) i = bestS st h f n i := by
  obtain ⟨p, c, l⟩ := best_law st h f hf n (by omega)
  obtain ⟨p', c', l'⟩ := best_law st h f hf (n + 1) hn
  have h1 := l _ (pos_less hz p')
  have h2 := l' _ (pos_more p (by omega) (fun i a b => by obtain rfl : i = n := by omega
                                                          exact hz))
  have e1 := sc_more (st := st) (h := h) (f := f) p.1 1 (fun i a b => by obtain rfl : i = n := by omega
                                                                         exact hz)
  have e2 := sc_more (st := st) (h := h) (f := f) (pos_less hz p').1 1 (fun i a b => by obtain rfl : i = n := by omega
                                                                                        exact hz)
  rw [e1, c] at h2
  rw [← e2, c'] at h1
  have hC : bestC st h f (n + 1) = bestC st h f n := by unfold lex at h1 h2; omega
  have hN : nm (bestS st h f (n + 1)) 16 = nm (bestS st h f n) 16 := by unfold lex at h1 h2; omega
  refine ⟨hC, fun i => ?_⟩
  by_cases hi : i < 16
  · exact nm_inj hN i hi
  · rw [p.1 i (by omega), p'.1 i (by omega)]
theorem best_zero_days {st h : Int} {f : Nat → Int} (hf : ∀ k, 0 ≤ f k) {n : Nat} (k : Nat) (hn : n + k ≤ 16) (hz : ∀ i, n ≤ i → i < n + k → f i = 0) : bestC st h f (n + k) = bestC st h f n ∧ ∀ i, bestS st h f (n + k) i = bestS st h f n i := by
  induction k with
  | zero => exact ⟨rfl, fun _ => rfl⟩
  | succ k ih =>
    obtain ⟨a, b⟩ := ih (by omega) (fun i x y => hz i x (by omega))
    obtain ⟨a', b'⟩ := best_zero_day (st := st) (h := h) hf (n := n + k) (by omega) (hz _ (by omega) (by omega))
    exact ⟨a'.trans a, fun i => (b' i).trans (b i)⟩
theorem lotL_congr {T T' : Nat → Bool} {f f' : Nat → Int} {n k : Nat} (hT : ∀ i, T i = T' i) (hf : ∀ i, i < k → f i = f' i) : lotL T f n k = lotL T' f' n k := by
  obtain rfl : T = T' := funext hT
  induction k with
  | zero => rfl
  | succ k ih => rw [lotL, lotL, ih (fun i hi => hf i (by omega)), hf k (by omega)]
/-- The lots with such days at the end. -/
theorem lots_zero_days {st h : Int} {f : Nat → Int} (hf : ∀ k, 0 ≤ f k) {n : Nat} (k : Nat) (hn : n + k ≤ 16) (hz : ∀ i, n ≤ i → i < n + k → f i = 0) (j : Nat) :
    g (lotL (bestS st h f (n + k)) f (n + k) (n + k)) j = if j < n then g (lotL (bestS st h f n) f n n) j else 0 := by
  have hb := (best_zero_days (st := st) (h := h) hf k hn hz).2
  have hS : bestS st h f (n + k) = bestS st h f n := funext hb
  rw [hS]
  generalize bestS st h f n = T
  rw [lotL_at _ _ _ _ (Nat.le_refl _), lotL_at _ _ _ _ (Nat.le_refl _)]
  have e : pS (fun u => if lotD T (u + 1) = j then f u else 0) (n + k) = pS (fun u => if lotD T (u + 1) = j then f u else 0) n := by
    clear hn hb hS
    induction k with
    | zero => rfl
    | succ k ih =>
      rw [show n + (k + 1) = n + k + 1 by omega, pS, ih (fun i x y => hz i x (by omega)), hz (n + k) (by omega) (by omega)]
      split <;> omega
  rw [e]
  by_cases h : j < n
  · rw [if_pos h]
  · rw [if_neg h]
    refine pS_const_zero (fun u hu => ?_)
    have := lotD_lt T u
    rw [if_neg (by omega)]

end Go.Proofs.Ytkbnbdpdmcnkiaa
