/- Plain words: what Size answers is accepted; its lots are on tight days; prices that are tight nowhere. -/
import Derived.Test.YtkbnbdpdmcnkiaaBN
import Derived.Test.YtkbnbdpdmcnkiaaCA
namespace Go.Proofs.Ytkbnbdpdmcnkiaa
open Go.RowKit

theorem pF_szP {xs : List Int} {s h : Int} (hv : vA xs s h = true) {d : Nat} (hd : d ≤ xs.length) : pF (szP xs s h) d = bestC s h (g xs) d := by
  match d, hd with
  | 0, _ => rfl
  | t + 1, hd => exact szP_at hv hd
theorem bestC_bd {xs : List Int} {s h : Int} (hv : vA xs s h = true) {d : Nat} (hd : d ≤ xs.length) : 0 ≤ bestC s h (g xs) d ∧ bestC s h (g xs) d ≤ 9007199254740992 := by
  obtain ⟨hn, hf, s0, s1, h0, h1⟩ := vA_all hv
  have hB : Bd 1048576 (g xs) 16 := fun k _ => hf k
  have := dpL_bd hB (Nat.le_refl _) s0 s1 h0 h1 d (by omega) d (Nat.le_refl _)
  unfold bestC
  omega
/-- What Size answers is a proof. -/
theorem sz_bnd {xs : List Int} {s h : Int} (hv : vA xs s h = true) : bndB xs s h (szP xs s h) = true ∧ bndC xs s h (szP xs s h) = szC xs s h ∧ okB xs s h (szP xs s h) = true := by
  obtain ⟨hn, hf, s0, s1, h0, h1⟩ := vA_all hv
  have hl := szP_len hv
  have hvp : vP xs (szP xs s h) = true := by
    rw [vP_iff]
    refine ⟨hl, fun k hk => ?_⟩
    have h1 := bestC_bd hv (d := k + 1) (by omega)
    have h2 := pF_szP hv (d := k + 1) (by omega)
    have h3 : pF (szP xs s h) (k + 1) = g (szP xs s h) k := rfl
    omega
  have hpr : prfB s h xs (szP xs s h) xs.length = true := by
    rw [prfB_iff]
    intro t i hi ht
    rw [pF_szP hv (by omega), pF_szP hv (by omega)]
    exact best_ineqs s h (fun k => (hf k).1) hn t i hi ht
  have ho : okB xs s h (szP xs s h) = true := by simp only [okB, hv, hvp, Bool.and_self]
  have hb : bndB xs s h (szP xs s h) = true := by simp only [bndB, ho, hpr, Bool.and_self]
  exact ⟨hb, by rw [(bnd_parts hb).2.2.2.2, pF_szP hv (Nat.le_refl _), szC_good hv], ho⟩
theorem sz_chk {xs : List Int} {s h : Int} (hv : vA xs s h = true) : chkB xs s h (szL xs s h) (szC xs s h) (szP xs s h) = true := by
  obtain ⟨hb, hc, _⟩ := sz_bnd hv
  obtain ⟨_, _, h1, h2, h3⟩ := bnd_parts hb
  obtain ⟨k1, _, _, k4⟩ := szL_ok hv
  simp only [chkB, k1B, Bool.and_eq_true, decide_eq_true_eq]
  exact ⟨⟨k1, k4⟩, h1, h2, by rw [← h3, hc]⟩

/-- A day of the best set is tight. -/
theorem best_tight {st h : Int} {f : Nat → Int} (hf : ∀ k, 0 ≤ f k) (m : Nat) (hm : m ≤ 16) : ∀ i, bestS st h f m i = true → ∃ t, i ≤ t ∧ t < m ∧ sm f i (t + 1 - i) ≠ 0 ∧ bestC st h f (t + 1) = bestC st h f i + btw st h f i (t + 1 - i) := by
  induction m using Nat.strongRecOn with
  | _ m ih =>
    match m, hm, ih with
    | 0, _, _ => intro i hi; cases hi
    | t + 1, hm, ih =>
      intro i hi
      obtain ⟨eS, eC⟩ := best_succ st h f t
      rw [eS] at hi
      have hb := fold_best st h f hf (bestS st h f) (bestC st h f) (t + 1) (t + 1) (Nat.le_refl _)
      rw [← eC] at hb
      rcases hb with ⟨_, h2, _, _⟩ | ⟨_, ⟨s, _, h3, h4, h5, h6⟩, _⟩
      · rw [h2] at hi; cases hi
      · rw [h5] at hi
        by_cases e : i = s
        · subst e
          exact ⟨t, by omega, by omega, h4, h6⟩
        · have hi' : bestS st h f s i = true := by simpa [ins, e] using hi
          obtain ⟨u, h1, h2, h7⟩ := ih s h3 (by omega) i hi'
          exact ⟨u, h1, by omega, h7⟩

/-- Is a number in a list? -/
def hasB (L : List Int) (x : Int) : Bool := L.any fun y => y == x
theorem hasB_tgL {T : Nat → Bool} {k i : Nat} (hi : i < k) (hT : T i = true) : hasB (tgL T k) (i : Int) = true := by
  induction k with
  | zero => omega
  | succ k ih =>
    rw [tgL]
    by_cases e : i = k
    · subst e
      rw [if_pos hT]
      simp [hasB]
    · have := ih (by omega)
      split
      · unfold hasB at *
        rw [List.any_append, this, Bool.true_or]
      · exact this
theorem tgL_nil {T : Nat → Bool} {k : Nat} (h : tgL T k = []) : ∀ i, i < k → T i = false := by
  induction k with
  | zero => intro i hi; omega
  | succ k ih =>
    intro i hi
    rw [tgL] at h
    cases hT : T k
    · rw [hT, if_neg (by decide)] at h
      by_cases e : i = k
      · subst e; exact hT
      · exact ih h i (by omega)
    · rw [hT, if_pos rfl] at h
      simp at h
/-- A lot of Size is on a day that is tight for its prices. -/
theorem sz_tight {xs : List Int} {s h : Int} (hv : vA xs s h = true) {i : Nat} (hi : i < xs.length) (hl : g (szL xs s h) i ≠ 0) : hasB (tigL xs s h (szP xs s h)) (i : Int) = true := by
  obtain ⟨hn, hf, s0, s1, h0, h1⟩ := vA_all hv
  obtain ⟨_, _, ho⟩ := sz_bnd hv
  rw [tigL, if_pos ho]
  refine hasB_tgL (by omega) ?_
  rw [szL_good hv] at hl
  have hp := (best_law s h (g xs) (fun k => (hf k).1) xs.length hn).1
  obtain ⟨t, h2, h3, h4, h5⟩ := best_tight (fun k => (hf k).1) xs.length hn i ((lots_days (fun k => (hf k).1) hp hi).1 hl)
  rw [tgD, List.any_eq_true]
  refine ⟨t, List.mem_range.2 h3, ?_⟩
  rw [Bool.and_eq_true, decide_eq_true_eq]
  refine ⟨h2, ?_⟩
  rw [tgP, pF_szP hv (by omega), pF_szP hv (by omega), h5]
  simp [h4]

theorem bnd_best {xs ps : List Int} {st h : Int} (hb : bndB xs st h ps = true) {d : Nat} (hd : d ≤ xs.length) : pF ps d ≤ bestC st h (g xs) d := by
  obtain ⟨_, hv, _, hp, _⟩ := bnd_parts hb
  obtain ⟨hn, hf, s0, s1, h0, h1⟩ := vA_all hv
  have hI := prfB_iff.1 hp
  induction d using Nat.strongRecOn with
  | _ d ih =>
    match d, hd, ih with
    | 0, _, _ => exact Int.le_refl _
    | t + 1, hd, ih =>
      obtain ⟨i, h1, h2⟩ := (best_step st h (g xs) (fun k => (hf k).1) t (by omega)).2
      have h3 := hI t i h1 (by omega)
      have h4 := ih i (by omega) (by omega)
      omega
/-- Prices that are tight nowhere: nothing is required, or the bound is not reached. -/
theorem bnd_loose {xs ps : List Int} {st h : Int} (hb : bndB xs st h ps = true) (hT : tigL xs st h ps = []) : bndC xs st h ps < szC xs st h ∨ szC xs st h = 0 := by
  obtain ⟨ho, hv, _, hp, hC⟩ := bnd_parts hb
  obtain ⟨hn, hf, s0, s1, h0, h1⟩ := vA_all hv
  have hle := bnd_best hb (Nat.le_refl _)
  rw [hC, szC_good hv]
  rw [tigL, if_pos ho] at hT
  by_cases hlt : pF ps xs.length < bestC st h (g xs) xs.length
  · exact .inl hlt
  · right
    have heq : pF ps xs.length = bestC st h (g xs) xs.length := by omega
    cases hm : xs.length with
    | zero => rfl
    | succ t =>
      rw [hm] at heq
      obtain ⟨eS, eC⟩ := best_succ st h (g xs) t
      have hb' := fold_best st h (g xs) (fun k => (hf k).1) (bestS st h (g xs)) (bestC st h (g xs)) (t + 1) (t + 1) (Nat.le_refl _)
      rw [← eC] at hb'
      rcases hb' with ⟨_, _, h3, _⟩ | ⟨_, ⟨i, _, h3, h4, h5, h6⟩, _⟩
      · exact h3
      · exfalso
        have h7 := bnd_best hb (d := i) (by omega)
        have h8 := prfB_iff.1 hp t i (by omega) (by omega)
        have h9 : pF ps (t + 1) = pF ps i + btw st h (g xs) i (t + 1 - i) := by omega
        have h10 := tgL_nil hT i (by omega)
        rw [tgD, List.any_eq_false] at h10
        refine h10 t (List.mem_range.2 (by omega)) ?_
        rw [Bool.and_eq_true, decide_eq_true_eq]
        exact ⟨by omega, by rw [tgP, h9]; simp [h4]⟩
theorem bnd_sz {xs ps : List Int} {st h : Int} (hb : bndB xs st h ps = true) : bndC xs st h ps ≤ szC xs st h := by
  obtain ⟨_, hv, _, _, hC⟩ := bnd_parts hb
  rw [hC, szC_good hv]
  exact bnd_best hb (Nat.le_refl _)

/-- Without a lot, the requirements are not covered. -/
theorem less_uncovered {xs : List Int} {s h : Int} (hv : vA xs s h = true) {k : Nat} (hk : k < xs.length) (hz : g (szL xs s h) k ≠ 0) : okK xs ((szL xs s h).set k 0) s h = false := by
  obtain ⟨hn, hf, s0, s1, h0, h1⟩ := vA_all hv
  have hl := szL_len hv
  have hL := szL_good hv
  have hB : Bd 1048576 (g xs) xs.length := fun k _ => hf k
  have hpos := lotL_bd (S := bestS s h (g xs) xs.length) hB xs.length (Nat.le_refl _) k
  rw [← hL] at hpos
  have e0 := held_lots xs (bestS s h (g xs) xs.length) xs.length xs.length (Nat.le_refl _)
  rw [← hL, pS_const_zero (fun u hu => by rw [if_neg (by omega)])] at e0
  have e1 : pS (g ((szL xs s h).set k 0)) xs.length = pS (g (szL xs s h)) xs.length - g (szL xs s h) k := by
    have : pS (g (szL xs s h)) xs.length = pS (fun i => g ((szL xs s h).set k 0) i + (if i = k then g (szL xs s h) k else 0)) xs.length := by
      refine pS_congr (fun i _ => ?_)
      rw [g_set _ _ _ _ (by omega)]
      by_cases e : i = k
      · subst e; simp
      · simp [e]
    rw [this, pS_add, pS_one, if_pos hk]
    omega
  have hc : covTo xs ((szL xs s h).set k 0) xs.length = false := by
    obtain ⟨m, hm⟩ : ∃ m, xs.length = m + 1 := ⟨xs.length - 1, by omega⟩
    refine covTo_false (k := m) (by omega) ?_
    rw [← hm]
    unfold held at *
    omega
  simp [okK, hc]

end Go.Proofs.Ytkbnbdpdmcnkiaa
