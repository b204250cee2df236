/- Plain words: sets by their numbers; what the lots of a set cost; the dynamic programme finds the least cost, and of the sets of that cost the greatest number. -/
import Derived.Test.YtkbnbdpdmcnkiaaN
namespace Go.Proofs.Ytkbnbdpdmcnkiaa

/-- The number of a set. -/
def nm (S : Nat → Bool) : Nat → Nat
  | 0 => 0
  | k + 1 => nm S k + (if S k = true then 2 ^ k else 0)
theorem nm_lt (S : Nat → Bool) (k : Nat) : nm S k < 2 ^ k := by
  induction k with
  | zero => simp [nm]
  | succ k ih => simp only [nm, Nat.pow_succ]; split <;> omega
theorem nm_congr {S T : Nat → Bool} {k : Nat} (h : ∀ i, i < k → S i = T i) : nm S k = nm T k := by
  induction k with
  | zero => rfl
  | succ k ih => simp only [nm]; rw [ih (fun i hi => h i (by omega)), h k (by omega)]
theorem bef_nm (S T : Nat → Bool) (k : Nat) : bef S T k = decide (nm T k < nm S k) := by
  induction k with
  | zero => simp [bef, nm]
  | succ k ih =>
    have h1 := nm_lt S k
    have h2 := nm_lt T k
    simp only [bef, nm]
    by_cases hS : S k = true <;> by_cases hT : T k = true <;> simp [hS, hT, ih] <;> omega
theorem nm_inj {S T : Nat → Bool} {k : Nat} (h : nm S k = nm T k) : ∀ i, i < k → S i = T i := by
  induction k with
  | zero => intro i hi; omega
  | succ k ih =>
    have h1 := nm_lt S k
    have h2 := nm_lt T k
    simp only [nm] at h
    intro i hi
    by_cases e : i = k
    · subst e
      cases hS : S i <;> cases hT : T i <;> simp [hS, hT] at h ⊢ <;> omega
    · refine ih ?_ i (by omega)
      cases hS : S k <;> cases hT : T k <;> simp [hS, hT] at h <;> omega
theorem nm_ins {S : Nat → Bool} {s : Nat} (k : Nat) (h : ∀ i, s ≤ i → S i = false) : nm (ins S s) k = nm S k + (if s < k then 2 ^ s else 0) := by
  induction k with
  | zero => simp [nm]
  | succ k ih =>
    simp only [nm, ih]
    by_cases e : k = s
    · subst e
      simp [ins, h k (Nat.le_refl _)]
    · have e1 : ins S s k = S k := by simp [ins, e]
      rw [e1]
      by_cases hk : s < k
      · rw [if_pos hk, if_pos (show s < k + 1 by omega)]; omega
      · rw [if_neg hk, if_neg (show ¬ s < k + 1 by omega)]; omega

/-- The sum of k numbers from s on, and of these times their distance. -/
def sm (f : Nat → Int) (s : Nat) : Nat → Int
  | 0 => 0
  | k + 1 => sm f s k + f (s + k)
def hd (f : Nat → Int) (s : Nat) : Nat → Int
  | 0 => 0
  | k + 1 => hd f s k + (k : Int) * f (s + k)
theorem sm_front (f : Nat → Int) (s k : Nat) : sm f s (k + 1) = f s + sm f (s + 1) k := by
  induction k with
  | zero => simp [sm]
  | succ k ih =>
    rw [sm, ih, sm, show s + (k + 1) = s + 1 + k by omega]; omega
theorem hd_front (f : Nat → Int) (s k : Nat) : hd f s (k + 1) = hd f (s + 1) k + sm f (s + 1) k := by
  induction k with
  | zero => simp [hd, sm]
  | succ k ih =>
    rw [hd, ih, hd, sm, show s + (k + 1) = s + 1 + k by omega]
    have : ((k + 1 : Nat) : Int) * f (s + 1 + k) = (k : Int) * f (s + 1 + k) + f (s + 1 + k) := by rw [Int.natCast_add]; simp [Int.add_mul]
    omega
theorem btwN_hd (h : Int) (f : Nat → Int) (s k : Nat) : btwN h f s k = h * hd f s k := by
  induction k with
  | zero => simp [btwN, hd]
  | succ k ih => rw [btwN, hd, ih, Int.mul_add, Int.mul_assoc]
theorem sm_nonneg {f : Nat → Int} (hf : ∀ k, 0 ≤ f k) (s k : Nat) : 0 ≤ sm f s k := by
  induction k with
  | zero => simp [sm]
  | succ k ih => have := hf (s + k); rw [sm]; omega
theorem hd_nonneg {f : Nat → Int} (hf : ∀ k, 0 ≤ f k) (s k : Nat) : 0 ≤ hd f s k := by
  induction k with
  | zero => simp [hd]
  | succ k ih => have := Int.mul_nonneg (show (0 : Int) ≤ (k : Int) by omega) (hf (s + k)); rw [hd]; omega
theorem sm_zero {f : Nat → Int} (hf : ∀ k, 0 ≤ f k) {s k : Nat} : sm f s k = 0 ↔ ∀ i, i < k → f (s + i) = 0 := by
  induction k with
  | zero => simp [sm]
  | succ k ih =>
    have h1 := sm_nonneg hf s k
    have h2 := hf (s + k)
    rw [sm]
    constructor
    · intro h i hi
      by_cases e : i = k
      · subst e; omega
      · exact ih.1 (by omega) i (by omega)
    · intro h
      rw [ih.2 (fun i hi => h i (by omega)), h k (by omega)]; rfl
theorem hd_zero {f : Nat → Int} {s k : Nat} (h : ∀ i, i < k → f (s + i) = 0) : hd f s k = 0 := by
  induction k with
  | zero => rfl
  | succ k ih => rw [hd, ih (fun i hi => h i (by omega)), h k (by omega)]; simp
theorem btwS_sm {f : Nat → Int} (hf : ∀ k, 0 ≤ f k) (s k : Nat) : btwS f s k = decide (sm f s k ≠ 0) := by
  induction k with
  | zero => simp [btwS, sm]
  | succ k ih =>
    have h1 := sm_nonneg hf s k
    have h2 := hf (s + k)
    rw [btwS, ih, sm]
    by_cases a : sm f s k = 0 <;> by_cases b : f (s + k) = 0 <;> simp [a, b] <;> omega
theorem btw_pos {st h : Int} {f : Nat → Int} (hf : ∀ k, 0 ≤ f k) {s k : Nat} (hs : sm f s k ≠ 0) : btw st h f s k = st + h * hd f s k := by
  rw [btw, btwS_sm hf, btwN_hd, if_pos (by simp [hs])]; omega
theorem btw_zero {st h : Int} {f : Nat → Int} (hf : ∀ k, 0 ≤ f k) {s k : Nat} (hs : sm f s k = 0) : btw st h f s k = 0 := by
  rw [btw, btwS_sm hf, if_neg (by simp [hs])]

/-- The state of the search behind k days. -/
theorem fold_SH (st h : Int) (f : Nat → Int) (bS : Nat → Nat → Bool) (bC : Nat → Int) (m k : Nat) (hk : k ≤ m) :
    (foldL st h f bS bC (dn m k)).S = sm f (m - k) k ∧ (foldL st h f bS bC (dn m k)).H = hd f (m - k) k := by
  induction k with
  | zero => exact ⟨rfl, rfl⟩
  | succ k ih =>
    obtain ⟨a, b⟩ := ih (by omega)
    rw [dn_succ (by omega), foldL_snoc, show m - (k + 1) = m - 1 - k by omega, sm_front, hd_front, show m - 1 - k + 1 = m - k by omega]
    generalize foldL st h f bS bC (dn m k) = s at *
    unfold stepL
    dsimp only
    split
    · exact ⟨by dsimp only; omega, by dsimp only; omega⟩
    · split
      · exact ⟨by dsimp only; omega, by dsimp only; omega⟩
      · exact ⟨by dsimp only; omega, by dsimp only; omega⟩

/-- Cost and set of one are as good as another's: a lower cost, or the same and no lower number. -/
def lex (c : Int) (S : Nat → Bool) (c' : Int) (S' : Nat → Bool) : Prop := c < c' ∨ (c = c' ∧ nm S' 16 ≤ nm S 16)
theorem lex.trans {c c' c'' : Int} {S S' S'' : Nat → Bool} (h : lex c S c' S') (h' : lex c' S' c'' S'') : lex c S c'' S'' := by
  unfold lex at *
  omega
theorem lex.rfl_ (c : Int) (S : Nat → Bool) : lex c S c S := .inr ⟨rfl, Nat.le_refl _⟩
theorem takes_lex {s : LS} {ns : Nat → Bool} {c : Int} (hfd : s.fd = true) (h : takes s ns c = true) : lex c ns s.c s.set := by
  unfold takes at h
  rw [hfd, bef_nm] at h
  simp only [Bool.not_true, Bool.false_or, Bool.or_eq_true, decide_eq_true_eq, Bool.and_eq_true] at h
  unfold lex
  omega
theorem keeps_lex {s : LS} {ns : Nat → Bool} {c : Int} (h : takes s ns c = false) : s.fd = true ∧ lex s.c s.set c ns := by
  unfold takes at h
  rw [bef_nm] at h
  simp only [Bool.or_eq_false_iff, Bool.not_eq_false', decide_eq_false_iff_not, Bool.and_eq_false_iff] at h
  unfold lex
  exact ⟨h.1, by omega⟩

/-- What the search has found behind k of m days. -/
theorem fold_best (st h : Int) (f : Nat → Int) (hf : ∀ k, 0 ≤ f k) (bS : Nat → Nat → Bool) (bC : Nat → Int) (m k : Nat) (hk : k ≤ m) :
    ((foldL st h f bS bC (dn m k)).fd = false ∧ (foldL st h f bS bC (dn m k)).set = (fun _ => false) ∧ (foldL st h f bS bC (dn m k)).c = 0 ∧ ∀ s, m - k ≤ s → s < m → sm f s (m - s) = 0) ∨
    ((foldL st h f bS bC (dn m k)).fd = true ∧
      (∃ s, m - k ≤ s ∧ s < m ∧ sm f s (m - s) ≠ 0 ∧ (foldL st h f bS bC (dn m k)).set = ins (bS s) s ∧ (foldL st h f bS bC (dn m k)).c = bC s + btw st h f s (m - s)) ∧
      ∀ s, m - k ≤ s → s < m → sm f s (m - s) ≠ 0 → lex (foldL st h f bS bC (dn m k)).c (foldL st h f bS bC (dn m k)).set (bC s + btw st h f s (m - s)) (ins (bS s) s)) := by
  induction k with
  | zero => exact .inl ⟨rfl, rfl, rfl, fun s h1 h2 => by omega⟩
  | succ k ih =>
    have ih := ih (by omega)
    obtain ⟨a, b⟩ := fold_SH st h f bS bC m k (by omega)
    have eS : (foldL st h f bS bC (dn m k)).S + f (m - 1 - k) = sm f (m - 1 - k) (m - (m - 1 - k)) := by
      rw [show m - (m - 1 - k) = k + 1 by omega, sm_front, show m - 1 - k + 1 = m - k by omega, a]; omega
    have eH : (foldL st h f bS bC (dn m k)).H + (foldL st h f bS bC (dn m k)).S = hd f (m - 1 - k) (m - (m - 1 - k)) := by
      rw [show m - (m - 1 - k) = k + 1 by omega, hd_front, show m - 1 - k + 1 = m - k by omega, a, b]
    rw [dn_succ (by omega), foldL_snoc]
    generalize foldL st h f bS bC (dn m k) = x at *
    have old : ∀ s, m - (k + 1) ≤ s → s < m → s ≠ m - 1 - k → m - k ≤ s := by intro s h1 h2 h3; omega
    by_cases hz : sm f (m - 1 - k) (m - (m - 1 - k)) = 0
    · have e : stepL st h f bS bC x (m - 1 - k) = ⟨x.H + x.S, x.S + f (m - 1 - k), x.fd, x.set, x.c⟩ := by unfold stepL; rw [if_pos (by omega)]
      rw [e]
      dsimp only
      rcases ih with ⟨h1, h2, h3, h4⟩ | ⟨h1, ⟨s, h2, h3, h4, h5, h6⟩, h7⟩
      · refine .inl ⟨h1, h2, h3, fun s g1 g2 => ?_⟩
        by_cases e : s = m - 1 - k
        · subst e; exact hz
        · exact h4 s (old s g1 g2 e) g2
      · refine .inr ⟨h1, ⟨s, by omega, h3, h4, h5, h6⟩, fun s g1 g2 g3 => ?_⟩
        by_cases e : s = m - 1 - k
        · subst e; exact absurd hz g3
        · exact h7 s (old s g1 g2 e) g2 g3
    · have ec : c1V st h x.H x.S (f (m - 1 - k)) = btw st h f (m - 1 - k) (m - (m - 1 - k)) := by
        rw [btw_pos hf hz, c1V, if_neg (by omega), eH]
      have hz' : ¬ x.S + f (m - 1 - k) = 0 := by omega
      cases ht : takes x (ins (bS (m - 1 - k)) (m - 1 - k)) (bC (m - 1 - k) + btw st h f (m - 1 - k) (m - (m - 1 - k)))
      · obtain ⟨hfd, hl⟩ := keeps_lex ht
        have e : stepL st h f bS bC x (m - 1 - k) = ⟨x.H + x.S, x.S + f (m - 1 - k), x.fd, x.set, x.c⟩ := by
          unfold stepL; rw [if_neg hz', ec, if_neg (by rw [ht]; decide)]
        rw [e]
        dsimp only
        rcases ih with ⟨h1, _⟩ | ⟨h1, ⟨s, h2, h3, h4, h5, h6⟩, h7⟩
        · rw [h1] at hfd; cases hfd
        · refine .inr ⟨h1, ⟨s, by omega, h3, h4, h5, h6⟩, fun s g1 g2 g3 => ?_⟩
          by_cases e : s = m - 1 - k
          · subst e; exact hl
          · exact h7 s (old s g1 g2 e) g2 g3
      · have e : stepL st h f bS bC x (m - 1 - k) = ⟨x.H + x.S, x.S + f (m - 1 - k), true, ins (bS (m - 1 - k)) (m - 1 - k), bC (m - 1 - k) + btw st h f (m - 1 - k) (m - (m - 1 - k))⟩ := by
          unfold stepL; rw [if_neg hz', ec, if_pos ht]
        rw [e]
        dsimp only
        refine .inr ⟨rfl, ⟨m - 1 - k, by omega, by omega, hz, rfl, rfl⟩, fun s g1 g2 g3 => ?_⟩
        by_cases e : s = m - 1 - k
        · subst e; exact lex.rfl_ _ _
        · rcases ih with ⟨h1, h2, h3, h4⟩ | ⟨h1, _, h7⟩
          · exact absurd (h4 s (old s g1 g2 e) g2) g3
          · exact (takes_lex h1 ht).trans (h7 s (old s g1 g2 e) g2 g3)

/-- A set is possible for the first m days. -/
def pos (f : Nat → Int) (T : Nat → Bool) (m : Nat) : Prop :=
  (∀ i, m ≤ i → T i = false) ∧ (∀ t, t < m → f t ≠ 0 → ∃ i, i ≤ t ∧ T i = true) ∧ (∀ i, i < m → T i = true → ∃ u, i ≤ u ∧ u < m ∧ f u ≠ 0 ∧ ∀ j, i < j → j ≤ u → T j = false)
/-- What it costs. -/
def sc (st h : Int) (f : Nat → Int) (T : Nat → Bool) : Nat → Int
  | 0 => 0
  | t + 1 => sc st h f T t + (if T t = true then st else 0) + h * (((t - lotD T (t + 1) : Nat) : Int) * f t)

theorem lotD_congr {S T : Nat → Bool} {k : Nat} (h : ∀ i, i < k → S i = T i) : lotD S k = lotD T k := by
  induction k with
  | zero => rfl
  | succ k ih => simp only [lotD]; rw [h k (by omega), ih (fun i hi => h i (by omega))]
theorem sc_congr {st h : Int} {f : Nat → Int} {S T : Nat → Bool} {m : Nat} (e : ∀ i, i < m → S i = T i) : sc st h f S m = sc st h f T m := by
  induction m with
  | zero => rfl
  | succ m ih => simp only [sc]; rw [ih (fun i hi => e i (by omega)), e m (by omega), lotD_congr e]
theorem lotD_last {T : Nat → Bool} {s k : Nat} (hs : T s = true) (h : ∀ i, s < i → i ≤ s + k → T i = false) : lotD T (s + k + 1) = s := by
  induction k with
  | zero => simp [lotD, hs]
  | succ k ih =>
    rw [show s + (k + 1) + 1 = (s + k + 1) + 1 by omega, lotD, if_neg (by rw [h (s + k + 1) (by omega) (by omega)]; decide)]
    exact ih (fun i a b => h i a (by omega))
theorem lotD_none {T : Nat → Bool} {k : Nat} (h : ∀ i, i < k → T i = false) : lotD T k = 0 := by
  induction k with
  | zero => rfl
  | succ k ih => rw [lotD, if_neg (by rw [h k (by omega)]; decide)]; exact ih (fun i a => h i (by omega))
theorem sc_split {st h : Int} {f : Nat → Int} {T : Nat → Bool} {s : Nat} (hs : T s = true) (k : Nat) (hT : ∀ i, s < i → i < s + (k + 1) → T i = false) :
    sc st h f T (s + (k + 1)) = sc st h f T s + st + h * hd f s (k + 1) := by
  induction k with
  | zero =>
    have e := lotD_last (T := T) (s := s) (k := 0) hs (fun i a b => by omega)
    simp only [Nat.add_zero] at e
    simp [sc, hs, e, hd]
  | succ k ih =>
    have eh : hd f s (k + 1 + 1) = hd f s (k + 1) + ((k + 1 : Nat) : Int) * f (s + (k + 1)) := rfl
    rw [eh, Int.mul_add, show s + (k + 1 + 1) = s + (k + 1) + 1 by omega, sc, ih (fun i a b => hT i a (by omega)), if_neg (by rw [hT (s + (k + 1)) (by omega) (by omega)]; decide),
      show s + (k + 1) + 1 = s + (k + 1) + 1 from rfl, lotD_last (k := k + 1) hs (fun i a b => hT i a (by omega)), show s + (k + 1) - s = k + 1 by omega]
    omega
theorem sc_zero {st h : Int} {f : Nat → Int} {T : Nat → Bool} {m : Nat} (hT : ∀ i, i < m → T i = false) (hf : ∀ i, i < m → f i = 0) : sc st h f T m = 0 := by
  induction m with
  | zero => rfl
  | succ m ih => rw [sc, ih (fun i a => hT i (by omega)) (fun i a => hf i (by omega)), hT m (by omega), hf m (by omega)]; simp
/-- The last day of a set. -/
theorem lastDay (T : Nat → Bool) (m : Nat) : (∀ i, i < m → T i = false) ∨ ∃ s, s < m ∧ T s = true ∧ ∀ i, s < i → i < m → T i = false := by
  induction m with
  | zero => exact .inl (fun i hi => by omega)
  | succ m ih =>
    cases e : T m
    · rcases ih with h | ⟨s, h1, h2, h3⟩
      · refine .inl (fun i hi => ?_)
        by_cases e' : i = m
        · subst e'; exact e
        · exact h i (by omega)
      · refine .inr ⟨s, by omega, h2, fun i a b => ?_⟩
        by_cases e' : i = m
        · subst e'; exact e
        · exact h3 i a (by omega)
    · exact .inr ⟨m, by omega, e, fun i a b => by omega⟩

/-- The days of a set below s. -/
def cutS (T : Nat → Bool) (s : Nat) : Nat → Bool := fun i => T i && decide (i < s)
theorem cutS_lt {T : Nat → Bool} {s i : Nat} (h : i < s) : cutS T s i = T i := by simp [cutS, h]
theorem cutS_ge {T : Nat → Bool} {s i : Nat} (h : s ≤ i) : cutS T s i = false := by simp [cutS]; omega
theorem ins_cutS {T : Nat → Bool} {s m : Nat} (hs : T s = true) (h1 : ∀ i, s < i → i < m → T i = false) (h2 : ∀ i, m ≤ i → T i = false) (i : Nat) : ins (cutS T s) s i = T i := by
  unfold ins
  split
  · rename_i e; subst e; exact hs.symm
  · rename_i e
    by_cases h : i < s
    · exact cutS_lt h
    · rw [cutS_ge (by omega)]
      by_cases h' : i < m
      · exact (h1 i (by omega) h').symm
      · exact (h2 i (by omega)).symm

theorem pos_cut {f : Nat → Int} (hf : ∀ k, 0 ≤ f k) {T : Nat → Bool} {s m : Nat} (hp : pos f T m) (hsm : s < m) (hs : T s = true) :
    pos f (cutS T s) s ∧ sm f s (m - s) ≠ 0 := by
  obtain ⟨p1, p2, p3⟩ := hp
  refine ⟨⟨fun i hi => cutS_ge hi, fun t ht hft => ?_, fun i hi hT => ?_⟩, fun hz => ?_⟩
  · obtain ⟨i, h1, h2⟩ := p2 t (by omega) hft
    exact ⟨i, h1, by rw [cutS_lt (by omega)]; exact h2⟩
  · rw [cutS_lt hi] at hT
    obtain ⟨u, h1, h2, h3, h4⟩ := p3 i (by omega) hT
    have hus : u < s := by
      by_cases h : u < s
      · exact h
      · have := h4 s hi (by omega)
        rw [hs] at this; cases this
    exact ⟨u, h1, hus, h3, fun j a b => by rw [cutS_lt (by omega)]; exact h4 j a b⟩
  · obtain ⟨u, h1, h2, h3, _⟩ := p3 s hsm hs
    have := (sm_zero hf).1 hz (u - s) (by omega)
    rw [show s + (u - s) = u by omega] at this
    exact h3 this
theorem pos_ins {f : Nat → Int} (hf : ∀ k, 0 ≤ f k) {S : Nat → Bool} {s m : Nat} (hp : pos f S s) (hsm : s < m) (hz : sm f s (m - s) ≠ 0) : pos f (ins S s) m := by
  obtain ⟨p1, p2, p3⟩ := hp
  refine ⟨fun i hi => ?_, fun t ht hft => ?_, fun i hi hT => ?_⟩
  · simp only [ins]; rw [if_neg (by omega)]; exact p1 i (by omega)
  · by_cases h : t < s
    · obtain ⟨i, h1, h2⟩ := p2 t h hft
      exact ⟨i, h1, by simp only [ins]; rw [if_neg (by omega)]; exact h2⟩
    · exact ⟨s, by omega, by simp [ins]⟩
  · by_cases e : i = s
    · subst e
      by_cases hu : ∃ u, u < m - i ∧ f (i + u) ≠ 0
      · obtain ⟨u, h1, h2⟩ := hu
        refine ⟨i + u, by omega, by omega, h2, fun j a b => ?_⟩
        simp only [ins]; rw [if_neg (by omega)]; exact p1 j (by omega)
      · exfalso
        refine hz ((sm_zero hf).2 (fun u hu' => ?_))
        by_cases e : f (i + u) = 0
        · exact e
        · exact absurd ⟨u, hu', e⟩ hu
    · simp only [ins] at hT
      rw [if_neg e] at hT
      have his : i < s := by
        by_cases h : i < s
        · exact h
        · rw [p1 i (by omega)] at hT; cases hT
      obtain ⟨u, h1, h2, h3, h4⟩ := p3 i his hT
      exact ⟨u, h1, by omega, h3, fun j a b => by simp only [ins]; rw [if_neg (by omega)]; exact h4 j a b⟩
theorem pos_more {f : Nat → Int} {S : Nat → Bool} {s m : Nat} (hp : pos f S s) (hsm : s ≤ m) (hz : ∀ i, s ≤ i → i < m → f i = 0) : pos f S m := by
  obtain ⟨p1, p2, p3⟩ := hp
  refine ⟨fun i hi => p1 i (by omega), fun t ht hft => ?_, fun i hi hT => ?_⟩
  · by_cases h : t < s
    · exact p2 t h hft
    · exact absurd (hz t (by omega) ht) hft
  · by_cases h : i < s
    · obtain ⟨u, h1, h2, h3, h4⟩ := p3 i h hT
      exact ⟨u, h1, by omega, h3, h4⟩
    · rw [p1 i (by omega)] at hT; cases hT
theorem sc_more {st h : Int} {f : Nat → Int} {S : Nat → Bool} {s : Nat} (hS : ∀ i, s ≤ i → S i = false) (k : Nat) (hz : ∀ i, s ≤ i → i < s + k → f i = 0) : sc st h f S (s + k) = sc st h f S s := by
  induction k with
  | zero => rfl
  | succ k ih => rw [show s + (k + 1) = s + k + 1 by omega, sc, ih (fun i a b => hz i a (by omega)), hS (s + k) (by omega), hz (s + k) (by omega) (by omega)]; simp

theorem dpL_take (st h : Int) (f : Nat → Int) {j t : Nat} (hj : j ≤ t) : dS (dpL st h f t) j = dS (dpL st h f j) j ∧ dC (dpL st h f t) j = dC (dpL st h f j) j := by
  induction t with
  | zero =>
    have e : j = 0 := by omega
    subst e; exact ⟨rfl, rfl⟩
  | succ t ih =>
    by_cases e : j = t + 1
    · subst e; exact ⟨rfl, rfl⟩
    · have hl := dpL_length st h f t
      obtain ⟨a, b⟩ := ih (by omega)
      simp only [dpL]
      rw [dS_app (by omega), dC_app (by omega)]
      exact ⟨a, b⟩
/-- The set and the cost for the first m days. -/
def bestS (st h : Int) (f : Nat → Int) (m : Nat) : Nat → Bool := dS (dpL st h f m) m
def bestC (st h : Int) (f : Nat → Int) (m : Nat) : Int := dC (dpL st h f m) m
theorem best_zero (st h : Int) (f : Nat → Int) : bestS st h f 0 = (fun _ => false) ∧ bestC st h f 0 = 0 := ⟨rfl, rfl⟩
theorem foldL_congr2 (st h : Int) (f : Nat → Int) {bS bS' : Nat → Nat → Bool} {bC bC' : Nat → Int} {n : Nat} (e : ∀ x, x < n → bS x = bS' x ∧ bC x = bC' x) (pre : List (Fin n)) : foldL st h f bS bC pre = foldL st h f bS' bC' pre := by
  induction pre using snocInd with
  | h0 => rfl
  | h1 pre x ih =>
    rw [foldL_snoc, foldL_snoc, ih]
    unfold stepL
    rw [(e x.1 x.2).1, (e x.1 x.2).2]
theorem best_succ (st h : Int) (f : Nat → Int) (t : Nat) :
    bestS st h f (t + 1) = (foldL st h f (bestS st h f) (bestC st h f) (dn (t + 1) (t + 1))).set ∧ bestC st h f (t + 1) = (foldL st h f (bestS st h f) (bestC st h f) (dn (t + 1) (t + 1))).c := by
  have hl := dpL_length st h f t
  have e : foldL st h f (dS (dpL st h f t)) (dC (dpL st h f t)) (dn (t + 1) (t + 1)) = foldL st h f (bestS st h f) (bestC st h f) (dn (t + 1) (t + 1)) :=
    foldL_congr2 st h f (fun x hx => dpL_take st h f (by omega)) _
  unfold bestS bestC at *
  rw [← e]
  constructor
  · show dS (dpL st h f t ++ [_]) (t + 1) = _
    rw [dS_last hl]; rfl
  · show dC (dpL st h f t ++ [_]) (t + 1) = _
    rw [dC_last hl]; rfl

/-- The set found is possible, its cost is what is said, and no possible set is better. -/
theorem best_law (st h : Int) (f : Nat → Int) (hf : ∀ k, 0 ≤ f k) (m : Nat) (hm : m ≤ 16) :
    pos f (bestS st h f m) m ∧ sc st h f (bestS st h f m) m = bestC st h f m ∧ ∀ T, pos f T m → lex (bestC st h f m) (bestS st h f m) (sc st h f T m) T := by
  induction m using Nat.strongRecOn with
  | _ m ih =>
    match m, hm, ih with
    | 0, _, _ =>
      refine ⟨⟨fun _ _ => rfl, fun t ht => by omega, fun i hi => by omega⟩, rfl, fun T hT => .inr ⟨rfl, ?_⟩⟩
      rw [nm_congr (T := bestS st h f 0) (fun i _ => hT.1 i (by omega))]
      exact Nat.le_refl _
    | t + 1, hm, ih =>
      obtain ⟨eS, eC⟩ := best_succ st h f t
      rw [eS, eC]
      have hb := fold_best st h f hf (bestS st h f) (bestC st h f) (t + 1) (t + 1) (Nat.le_refl _)
      generalize foldL st h f (bestS st h f) (bestC st h f) (dn (t + 1) (t + 1)) = x at *
      rcases hb with ⟨_, h2, h3, h4⟩ | ⟨_, ⟨s, _, h3, h4, h5, h6⟩, h7⟩
      · have hz : ∀ i, i < t + 1 → f i = 0 := fun i hi => by
          have := (sm_zero hf).1 (h4 0 (by omega) (by omega)) i (by omega)
          rwa [Nat.zero_add] at this
        rw [h2, h3]
        refine ⟨⟨fun _ _ => rfl, fun t ht hft => absurd (hz t ht) hft, fun i _ hT => by cases hT⟩, sc_zero (fun _ _ => rfl) hz, fun T hT => ?_⟩
        have hTf : ∀ i, T i = false := fun i => by
          cases e : T i
          · rfl
          · by_cases hi : i < t + 1
            · obtain ⟨u, _, g2, g3, _⟩ := hT.2.2 i hi e
              exact absurd (hz u g2) g3
            · rw [hT.1 i (by omega)] at e; cases e
        refine .inr ⟨(sc_zero (fun i _ => hTf i) hz).symm, ?_⟩
        rw [nm_congr (T := fun _ => false) (fun i _ => hTf i)]
        exact Nat.le_refl _
      · obtain ⟨q1, q2, q3⟩ := ih s h3 (by omega)
        have hcost : ∀ S : Nat → Bool, (∀ i, s ≤ i → S i = false) → sm f s (t + 1 - s) ≠ 0 → sc st h f (ins S s) (t + 1) = sc st h f S s + btw st h f s (t + 1 - s) := by
          intro S hS hz
          have e : t + 1 = s + ((t - s) + 1) := by omega
          have := sc_split (st := st) (h := h) (f := f) (T := ins S s) (s := s) (by simp [ins]) (t - s) (fun i a b => by simp only [ins]; rw [if_neg (by omega)]; exact hS i (by omega))
          rw [btw_pos hf hz, show t + 1 - s = (t - s) + 1 by omega, e, this, sc_congr (T := S) (fun i hi => by simp only [ins]; rw [if_neg (by omega)])]
          omega
        rw [h5, h6]
        refine ⟨pos_ins hf q1 h3 h4, ?_, fun T hT => ?_⟩
        · rw [hcost _ q1.1 h4, q2]
        · rcases lastDay T (t + 1) with hno | ⟨s', g1, g2, g3⟩
          · exfalso
            refine h4 ((sm_zero hf).2 (fun i hi => ?_))
            by_cases e : f (s + i) = 0
            · exact e
            · obtain ⟨j, k1, k2⟩ := hT.2.1 (s + i) (by omega) e
              rw [hno j (by omega)] at k2; cases k2
          · obtain ⟨r1, r2⟩ := pos_cut hf hT g1 g2
            obtain ⟨q1', q2', q3'⟩ := ih s' g1 (by omega)
            have l1 := h7 s' (by omega) g1 r2
            rw [h5, h6] at l1
            refine l1.trans ?_
            have l2 := q3' _ r1
            have eT : ∀ i, ins (cutS T s') s' i = T i := ins_cutS g2 g3 hT.1
            have ecost : sc st h f T (t + 1) = sc st h f (cutS T s') s' + btw st h f s' (t + 1 - s') := by
              rw [← sc_congr (S := ins (cutS T s') s') (fun i _ => eT i)]
              have e : t + 1 = s' + ((t - s') + 1) := by omega
              have := sc_split (st := st) (h := h) (f := f) (T := ins (cutS T s') s') (s := s') (by simp [ins]) (t - s') (fun i a b => by rw [eT]; exact g3 i a (by omega))
              rw [btw_pos hf r2, show t + 1 - s' = (t - s') + 1 by omega, e, this, sc_congr (T := cutS T s') (fun i hi => by simp only [ins]; rw [if_neg (by omega)])]
              omega
            have n1 := nm_ins (S := bestS st h f s') (s := s') 16 q1'.1
            have n2 := nm_ins (S := cutS T s') (s := s') 16 (fun i hi => cutS_ge hi)
            rw [nm_congr (fun i _ => eT i)] at n2
            unfold lex at l2 ⊢
            rw [ecost, n1, n2]
            omega

/-- The costs are the least of an earlier cost and one lot from there on. -/
theorem best_step (st h : Int) (f : Nat → Int) (hf : ∀ k, 0 ≤ f k) (t : Nat) (ht : t < 16) :
    (∀ s, s ≤ t → bestC st h f (t + 1) ≤ bestC st h f s + btw st h f s (t + 1 - s)) ∧ ∃ s, s ≤ t ∧ bestC st h f (t + 1) = bestC st h f s + btw st h f s (t + 1 - s) := by
  have hL := best_law st h f hf (t + 1) (by omega)
  obtain ⟨eS, eC⟩ := best_succ st h f t
  have hb := fold_best st h f hf (bestS st h f) (bestC st h f) (t + 1) (t + 1) (Nat.le_refl _)
  rw [← eC] at hb
  generalize foldL st h f (bestS st h f) (bestC st h f) (dn (t + 1) (t + 1)) = x at *
  constructor
  · intro s hs
    by_cases hz : sm f s (t + 1 - s) = 0
    · rw [btw_zero hf hz]
      obtain ⟨q1, q2, _⟩ := best_law st h f hf s (by omega)
      have hz' : ∀ i, s ≤ i → i < t + 1 → f i = 0 := fun i a b => by
        have := (sm_zero hf).1 hz (i - s) (by omega)
        rwa [show s + (i - s) = i by omega] at this
      have l := hL.2.2 _ (pos_more q1 (by omega) hz')
      have e := sc_more (st := st) (h := h) (f := f) q1.1 (t + 1 - s) (fun i a b => hz' i a (by omega))
      rw [show s + (t + 1 - s) = t + 1 by omega, q2] at e
      rw [e] at l
      unfold lex at l
      omega
    · rcases hb with ⟨_, _, _, h4⟩ | ⟨_, _, h7⟩
      · exact absurd (h4 s (by omega) (by omega)) hz
      · have := h7 s (by omega) (by omega) hz
        unfold lex at this
        omega
  · rcases hb with ⟨_, _, h3, h4⟩ | ⟨_, ⟨s, _, h3, h4, _, h6⟩, _⟩
    · refine ⟨0, by omega, ?_⟩
      have := h4 0 (by omega) (by omega)
      rw [btw_zero hf this, h3]
      rfl
    · exact ⟨s, by omega, h6⟩

end Go.Proofs.Ytkbnbdpdmcnkiaa
