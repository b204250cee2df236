/- Plain words: the sizes of the dynamic programme, the lots of a set. -/
import Derived.Test.YtkbnbdpdmcnkiaaH
namespace Go.Proofs.Ytkbnbdpdmcnkiaa

/-- The sets and costs for the first days. -/
def dS (l : List ((Nat → Bool) × Int)) (j : Nat) : Nat → Bool := (l[j]?.getD (fun _ => false, 0)).1
def dC (l : List ((Nat → Bool) × Int)) (j : Nat) : Int := (l[j]?.getD (fun _ => false, 0)).2
def dpN (st h : Int) (f : Nat → Int) (l : List ((Nat → Bool) × Int)) (t : Nat) : LS := foldL st h f (dS l) (dC l) (dn (t + 1) (t + 1))
def dpL (st h : Int) (f : Nat → Int) : Nat → List ((Nat → Bool) × Int)
  | 0 => [(fun _ => false, 0)]
  | t + 1 => dpL st h f t ++ [((dpN st h f (dpL st h f t) t).set, (dpN st h f (dpL st h f t) t).c)]
theorem dpL_length (st h : Int) (f : Nat → Int) (t : Nat) : (dpL st h f t).length = t + 1 := by
  induction t with
  | zero => rfl
  | succ t ih => simp [dpL, ih]
/-- The prices: the costs, without the first. -/
def dpP (st h : Int) (f : Nat → Int) (t : Nat) : List Int := ((dpL st h f t).map (·.2)).drop 1
theorem dpP_succ (st h : Int) (f : Nat → Int) (t : Nat) : dpP st h f (t + 1) = dpP st h f t ++ [(dpN st h f (dpL st h f t) t).c] := by
  have hl := dpL_length st h f t
  unfold dpP
  simp only [dpL, List.map_append, List.map_cons, List.map_nil]
  rw [List.drop_append_of_le_length (by simp [hl])]
theorem dpP_length (st h : Int) (f : Nat → Int) (t : Nat) : (dpP st h f t).length = t := by
  simp [dpP, dpL_length]

theorem snocInd {α : Type} {P : List α → Prop} (h0 : P []) (h1 : ∀ l x, P l → P (l ++ [x])) (l : List α) : P l := by
  have key : ∀ m : List α, P m.reverse := by
    intro m
    induction m with
    | nil => exact h0
    | cons x m ih => rw [List.reverse_cons]; exact h1 _ _ ih
  have := key l.reverse
  rwa [List.reverse_reverse] at this

theorem stepL_congr (st h : Int) {f f' : Nat → Int} (bS : Nat → Nat → Bool) (bC : Nat → Int) (s : LS) {x : Nat} (e : f x = f' x) : stepL st h f bS bC s x = stepL st h f' bS bC s x := by
  unfold stepL; rw [e]
theorem foldL_congr (st h : Int) {f f' : Nat → Int} (bS : Nat → Nat → Bool) (bC : Nat → Int) {n : Nat} (e : ∀ x, x < n → f x = f' x) (pre : List (Fin n)) : foldL st h f bS bC pre = foldL st h f' bS bC pre := by
  induction pre using snocInd with
  | h0 => rfl
  | h1 pre x ih => rw [foldL_snoc, foldL_snoc, ih, stepL_congr st h bS bC _ (e x.1 x.2)]

theorem fold_bd {st h K : Int} {f : Nat → Int} {n : Nat} {bS : Nat → Nat → Bool} {bC : Nat → Int} (hf : Bd 1048576 f n) (hn : n ≤ 16) (s0 : 0 ≤ st) (s1 : st ≤ 1048576) (h0 : 0 ≤ h) (h1 : h ≤ 1048576)
    (hC : ∀ j, j < n → 0 ≤ bC j ∧ bC j ≤ K) : ∀ (pre : List (Fin n)), pre.length ≤ n → 
      (0 ≤ (foldL st h f bS bC pre).S ∧ (foldL st h f bS bC pre).S ≤ pre.length * 1048576) ∧ (0 ≤ (foldL st h f bS bC pre).H ∧ (foldL st h f bS bC pre).H ≤ pre.length * 16777216) ∧
      ((foldL st h f bS bC pre).c = 0 ∨ (0 ≤ (foldL st h f bS bC pre).c ∧ (foldL st h f bS bC pre).c ≤ K + 562949953421312)) := by
  intro pre
  induction pre using snocInd with
  | h0 => intro _; exact ⟨⟨by simp [foldL, LS0], by simp [foldL, LS0]⟩, ⟨by simp [foldL, LS0], by simp [foldL, LS0]⟩, .inl rfl⟩
  | h1 pre x ih =>
    intro hlen
    rw [List.length_append, List.length_singleton] at hlen
    obtain ⟨⟨a1, a2⟩, ⟨a3, a4⟩, a5⟩ := ih (by omega)
    rw [foldL_snoc, List.length_append, List.length_singleton]
    generalize foldL st h f bS bC pre = s at *
    have hx := hf x.1 x.2
    have hc := hC x.1 x.2
    have hv := c1V_bd s0 s1 h0 h1 a3 (show s.H ≤ 268435456 by omega) a1 (show s.S ≤ 16777216 by omega) (f x.1)
    unfold stepL
    split
    · exact ⟨⟨by dsimp only; omega, by dsimp only; omega⟩, ⟨by dsimp only; omega, by dsimp only; omega⟩, a5⟩
    · split
      · exact ⟨⟨by dsimp only; omega, by dsimp only; omega⟩, ⟨by dsimp only; omega, by dsimp only; omega⟩, .inr ⟨by dsimp only; omega, by dsimp only; omega⟩⟩
      · exact ⟨⟨by dsimp only; omega, by dsimp only; omega⟩, ⟨by dsimp only; omega, by dsimp only; omega⟩, a5⟩

theorem dC_app {l : List ((Nat → Bool) × Int)} {p : (Nat → Bool) × Int} {j : Nat} (h : j < l.length) : dC (l ++ [p]) j = dC l j := by
  unfold dC; rw [List.getElem?_append_left h]
theorem dS_app {l : List ((Nat → Bool) × Int)} {p : (Nat → Bool) × Int} {j : Nat} (h : j < l.length) : dS (l ++ [p]) j = dS l j := by
  unfold dS; rw [List.getElem?_append_left h]
theorem dC_last {l : List ((Nat → Bool) × Int)} {p : (Nat → Bool) × Int} {j : Nat} (h : l.length = j) : dC (l ++ [p]) j = p.2 := by
  subst h; simp [dC]
theorem dS_last {l : List ((Nat → Bool) × Int)} {p : (Nat → Bool) × Int} {j : Nat} (h : l.length = j) : dS (l ++ [p]) j = p.1 := by
  subst h; simp [dS]

theorem dpL_bd {st h : Int} {f : Nat → Int} {n : Nat} (hf : Bd 1048576 f n) (hn : n ≤ 16) (s0 : 0 ≤ st) (s1 : st ≤ 1048576) (h0 : 0 ≤ h) (h1 : h ≤ 1048576) (t : Nat) (ht : t ≤ n) :
    ∀ j, j ≤ t → 0 ≤ dC (dpL st h f t) j ∧ dC (dpL st h f t) j ≤ j * 562949953421312 := by
  induction t with
  | zero =>
    intro j hj
    obtain rfl : j = 0 := by omega
    simp [dC, dpL]
  | succ t ih =>
    intro j hj
    have hl := dpL_length st h f t
    have ih := ih (by omega)
    simp only [dpL]
    by_cases e : j ≤ t
    · rw [dC_app (by omega)]; exact ih j e
    · have e : j = t + 1 := by omega
      subst e
      rw [dC_last (by omega)]
      have hb := (fold_bd (bS := dS (dpL st h f t)) (bC := dC (dpL st h f t)) (K := t * 562949953421312) (n := t + 1) (fun k hk => hf k (by omega)) (by omega) s0 s1 h0 h1 (fun k hk => by
        have := ih k (by omega)
        exact ⟨this.1, by omega⟩) (dn (t + 1) (t + 1)) (by rw [dn_length (by omega)]; omega)).2.2
      show 0 ≤ (dpN st h f (dpL st h f t) t).c ∧ (dpN st h f (dpL st h f t) t).c ≤ _
      unfold dpN
      rcases hb with hb | hb
      · rw [hb]; omega
      · omega

/-- The lots of a set: the day of the last lot, and the lots, behind the first k requirements. -/
def lotD (S : Nat → Bool) : Nat → Nat
  | 0 => 0
  | k + 1 => if S k = true then k else lotD S k
def lotL (S : Nat → Bool) (f : Nat → Int) (n : Nat) : Nat → List Int
  | 0 => List.replicate n 0
  | k + 1 => (lotL S f n k).set (lotD S (k + 1)) (g (lotL S f n k) (lotD S (k + 1)) + f k)
theorem lotL_length (S : Nat → Bool) (f : Nat → Int) (n k : Nat) : (lotL S f n k).length = n := by
  induction k with
  | zero => simp [lotL]
  | succ k ih => simp [lotL, ih]
theorem lotD_lt (S : Nat → Bool) (k : Nat) : lotD S (k + 1) ≤ k := by
  induction k with
  | zero => simp [lotD]
  | succ k ih =>
    rw [lotD]
    split
    · omega
    · omega
theorem g_set (l : List Int) (i j : Nat) (v : Int) (hi : i < l.length) : g (l.set i v) j = if j = i then v else g l j := by
  unfold g
  by_cases e : j = i
  · subst e; simp [hi]
  · rw [List.getElem?_set_ne (Ne.symm e), if_neg e]
theorem lotL_bd {S : Nat → Bool} {f : Nat → Int} {n : Nat} (hf : Bd 1048576 f n) (k : Nat) (hk : k ≤ n) : ∀ j, 0 ≤ g (lotL S f n k) j ∧ g (lotL S f n k) j ≤ k * 1048576 := by
  induction k with
  | zero =>
    intro j
    have : g (lotL S f n 0) j = 0 := by
      unfold g lotL
      by_cases h : j < n
      · simp [h]
      · simp [h]
    rw [this]; omega
  | succ k ih =>
    intro j
    have ih := ih (by omega)
    have hx := hf k (by omega)
    simp only [lotL]
    rw [g_set _ _ _ _ (by rw [lotL_length]; have := lotD_lt S k; omega)]
    have h1 := ih (lotD S (k + 1))
    have h2 := ih j
    split <;> omega

end Go.Proofs.Ytkbnbdpdmcnkiaa
