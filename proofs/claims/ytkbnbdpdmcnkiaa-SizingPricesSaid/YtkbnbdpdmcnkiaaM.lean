/- Plain words: prefix sums, what is held, covering, cost. -/
namespace Go.Proofs.Ytkbnbdpdmcnkiaa

/-- The number at a place of a list. -/
def g (xs : List Int) (i : Nat) : Int := xs[i]?.getD 0
/-- The sum of the first k numbers. -/
def pS (f : Nat → Int) : Nat → Int
  | 0 => 0
  | k + 1 => pS f k + f k
/-- What is held ahead of day k. -/
def held (xs ls : List Int) (k : Nat) : Int := pS (g ls) k - pS (g xs) k
/-- The first k days are covered. -/
def covTo (xs ls : List Int) : Nat → Bool
  | 0 => true
  | k + 1 => covTo xs ls k && decide (0 ≤ held xs ls (k + 1))
/-- The cost of the first k days. -/
def costTo (s h : Int) (xs ls : List Int) : Nat → Int
  | 0 => 0
  | k + 1 => costTo s h xs ls k + (if g ls k = 0 then 0 else s) + h * held xs ls (k + 1)

theorem held_succ (xs ls : List Int) (k : Nat) : held xs ls (k + 1) = held xs ls k + (g ls k - g xs k) := by
  unfold held; simp only [pS]; omega
theorem covTo_succ_t {xs ls : List Int} {k : Nat} (h : covTo xs ls k = true) (h1 : 0 ≤ held xs ls (k + 1)) : covTo xs ls (k + 1) = true := by
  simp [covTo, h, h1]
theorem covTo_false {xs ls : List Int} {k n : Nat} (hk : k < n) (h1 : held xs ls (k + 1) < 0) : covTo xs ls n = false := by
  induction n with
  | zero => omega
  | succ n ih =>
    by_cases e : k = n
    · subst e; simp [covTo]; intro _; omega
    · simp [covTo, ih (by omega)]
theorem covTo_iff {xs ls : List Int} {n : Nat} : covTo xs ls n = true ↔ ∀ k, k < n → 0 ≤ held xs ls (k + 1) := by
  induction n with
  | zero => simp [covTo]
  | succ n ih =>
    simp only [covTo, Bool.and_eq_true, ih, decide_eq_true_eq]
    constructor
    · rintro ⟨h1, h2⟩ k hk
      by_cases e : k = n
      · subst e; exact h2
      · exact h1 k (by omega)
    · intro h
      exact ⟨fun k hk => h k (by omega), h n (by omega)⟩

/-- What is held, in h's, if the k days from s on are made on s. -/
def btwN (h : Int) (f : Nat → Int) (s : Nat) : Nat → Int
  | 0 => 0
  | k + 1 => btwN h f s k + h * (k : Int) * f (s + k)
/-- Is something required on the k days from s on? -/
def btwS (f : Nat → Int) (s : Nat) : Nat → Bool
  | 0 => false
  | k + 1 => btwS f s k || (f (s + k) != 0)
/-- The cost c of the k days from s on. -/
def btw (st h : Int) (f : Nat → Int) (s k : Nat) : Int := if btwS f s k = true then btwN h f s k + st else 0

/-- The least of F(s) + c(s, t) over the days s from 0 to k. -/
def leastL (st h : Int) (f F : Nat → Int) (t : Nat) : Nat → Int
  | 0 => F 0 + btw st h f 0 (t + 1)
  | k + 1 => min (leastL st h f F t k) (F (k + 1) + btw st h f (k + 1) (t + 1 - (k + 1)))
/-- The prices F(0) to F(t). -/
def prL (st h : Int) (f : Nat → Int) : Nat → List Int
  | 0 => [0]
  | t + 1 => prL st h f t ++ [leastL st h f (g (prL st h f t)) t t]

theorem prL_length (st h : Int) (f : Nat → Int) (t : Nat) : (prL st h f t).length = t + 1 := by
  induction t with
  | zero => rfl
  | succ t ih => simp [prL, ih]

/-- The numbers are between 0 and m on the first n places. -/
def Bd (m : Int) (f : Nat → Int) (n : Nat) : Prop := ∀ k, k < n → 0 ≤ f k ∧ f k ≤ m

theorem btwN_bd {h : Int} {f : Nat → Int} {n : Nat} (hf : Bd 1048576 f n) (hn : n ≤ 16) (h0 : 0 ≤ h) (h1 : h ≤ 1048576) (s k : Nat) (hk : s + k ≤ n) :
    0 ≤ btwN h f s k ∧ btwN h f s k ≤ (k : Int) * 17592186044416 := by
  induction k with
  | zero => exact ⟨Int.le_refl _, by simp [btwN]⟩
  | succ k ih =>
    obtain ⟨a, b⟩ := ih (by omega)
    obtain ⟨c, d⟩ := hf (s + k) (by omega)
    have e1 : 0 ≤ h * (k : Int) := Int.mul_nonneg h0 (by omega)
    have e2 : h * (k : Int) ≤ 1048576 * 16 := Int.mul_le_mul h1 (by omega) (by omega) (by omega)
    have e3 : 0 ≤ h * (k : Int) * f (s + k) := Int.mul_nonneg e1 c
    have e4 : h * (k : Int) * f (s + k) ≤ (1048576 * 16) * 1048576 := Int.mul_le_mul e2 d c (by omega)
    simp only [btwN]
    omega
theorem btw_bd {st h : Int} {f : Nat → Int} {n : Nat} (hf : Bd 1048576 f n) (hn : n ≤ 16) (s0 : 0 ≤ st) (s1 : st ≤ 1048576) (h0 : 0 ≤ h) (h1 : h ≤ 1048576) (s k : Nat) (hk : s + k ≤ n) :
    0 ≤ btw st h f s k ∧ btw st h f s k ≤ 562949953421312 := by
  have := btwN_bd hf hn h0 h1 s k hk
  unfold btw
  split <;> omega
theorem leastL_le (st h : Int) (f F : Nat → Int) (t k : Nat) : leastL st h f F t k ≤ F 0 + btw st h f 0 (t + 1) := by
  induction k with
  | zero => exact Int.le_refl _
  | succ k ih => simp only [leastL]; omega
theorem leastL_nonneg {st h : Int} {f F : Nat → Int} {n : Nat} (hf : Bd 1048576 f n) (hn : n ≤ 16) (s0 : 0 ≤ st) (s1 : st ≤ 1048576) (h0 : 0 ≤ h) (h1 : h ≤ 1048576) (t k : Nat) (hk : k ≤ t) (ht : t < n)
    (hF : ∀ j, j ≤ t → 0 ≤ F j) : 0 ≤ leastL st h f F t k := by
  induction k with
  | zero => have := hF 0 (by omega); have := (btw_bd hf hn s0 s1 h0 h1 0 (t + 1) (by omega)).1; simp only [leastL]; omega
  | succ k ih =>
    have := ih (by omega)
    have := hF (k + 1) hk
    have := (btw_bd hf hn s0 s1 h0 h1 (k + 1) (t + 1 - (k + 1)) (by omega)).1
    simp only [leastL]; omega
theorem g_app_lt {l m : List Int} {k : Nat} (h : k < l.length) : g (l ++ m) k = g l k := by
  unfold g; rw [List.getElem?_append_left h]
theorem g_app_eq {l : List Int} {x : Int} {k : Nat} (h : l.length = k) : g (l ++ [x]) k = x := by
  subst h; simp [g]
theorem prL_bd {st h : Int} {f : Nat → Int} {n : Nat} (hf : Bd 1048576 f n) (hn : n ≤ 16) (s0 : 0 ≤ st) (s1 : st ≤ 1048576) (h0 : 0 ≤ h) (h1 : h ≤ 1048576) (t : Nat) (ht : t ≤ n) :
    g (prL st h f t) 0 = 0 ∧ ∀ j, j ≤ t → 0 ≤ g (prL st h f t) j ∧ g (prL st h f t) j ≤ 562949953421312 := by
  induction t with
  | zero =>
    refine ⟨rfl, fun j hj => ?_⟩
    obtain rfl : j = 0 := by omega
    exact ⟨Int.le_refl _, by simp [g, prL]⟩
  | succ t ih =>
    obtain ⟨e0, e⟩ := ih (by omega)
    have hl := prL_length st h f t
    refine ⟨by simp only [prL]; rw [g_app_lt (by omega)]; exact e0, fun j hj => ?_⟩
    simp only [prL]
    by_cases hjt : j ≤ t
    · rw [g_app_lt (by omega)]; exact e j hjt
    · rw [g_app_eq (by omega)]
      have a := leastL_nonneg (F := g (prL st h f t)) hf hn s0 s1 h0 h1 t t (by omega) (by omega) (fun j hj => (e j hj).1)
      have b := leastL_le st h f (g (prL st h f t)) t t
      have c := (btw_bd hf hn s0 s1 h0 h1 0 (t + 1) (by omega)).2
      omega

/-- S comes before T, by the days below k: S has the latest one that only one of both has. -/
def bef (S T : Nat → Bool) : Nat → Bool
  | 0 => false
  | k + 1 => if S k = T k then bef S T k else S k
/-- S with day d. -/
def ins (S : Nat → Bool) (d : Nat) : Nat → Bool := fun i => if i = d then true else S i

theorem bef_skip {S T : Nat → Bool} {k : Nat} (h : ∀ i, k ≤ i → i < 16 → S i = T i) (hk : k ≤ 16) : bef S T 16 = bef S T k := by
  obtain ⟨d, rfl⟩ : ∃ d, k = 16 - d := ⟨16 - k, by omega⟩
  induction d with
  | zero => rfl
  | succ d ih =>
    by_cases hd : d < 16
    · rw [ih (fun i hi h16 => h i (by omega) h16) (by omega)]
      obtain ⟨e, he⟩ : ∃ e, 16 - d = e + 1 := ⟨15 - d, by omega⟩
      rw [he, show 16 - (d + 1) = e by omega]
      simp only [bef]
      rw [if_pos (h e (by omega) (by omega))]
    · rw [show 16 - (d + 1) = 16 - d by omega]
      exact ih (fun i hi h16 => h i (by omega) h16) (by omega)

/-- What the closure cost answers, the sums being H and S, at a requirement x. -/
def c1V (st h H S x : Int) : Int := if S + x = 0 then 0 else st + h * (H + S)

theorem c1V_bd {st h H S : Int} (s0 : 0 ≤ st) (s1 : st ≤ 1048576) (h0 : 0 ≤ h) (h1 : h ≤ 1048576) (H0 : 0 ≤ H) (H1 : H ≤ 268435456) (S0 : 0 ≤ S) (S1 : S ≤ 16777216) (x : Int) :
    0 ≤ c1V st h H S x ∧ c1V st h H S x ≤ 562949953421312 := by
  have e1 : 0 ≤ h * (H + S) := Int.mul_nonneg h0 (by omega)
  have e2 : h * (H + S) ≤ 1048576 * 285212672 := Int.mul_le_mul h1 (by omega) (by omega) (by omega)
  unfold c1V
  split <;> omega

/-- The state of the search for the last day: the sums, whether a set was found, that set, its cost. -/
structure LS where
  H : Int
  S : Int
  fd : Bool
  set : Nat → Bool
  c : Int
def LS0 : LS := ⟨0, 0, false, fun _ => false, 0⟩
/-- Is the new set taken? -/
def takes (s : LS) (ns : Nat → Bool) (c : Int) : Bool := !s.fd || (decide (c < s.c) || (decide (c = s.c) && bef ns s.set 16))
/-- One day of the search. -/
def stepL (st h : Int) (f : Nat → Int) (bS : Nat → Nat → Bool) (bC : Nat → Int) (s : LS) (x : Nat) : LS :=
  if s.S + f x = 0 then ⟨s.H + s.S, s.S + f x, s.fd, s.set, s.c⟩
  else if takes s (ins (bS x) x) (bC x + c1V st h s.H s.S (f x)) = true then ⟨s.H + s.S, s.S + f x, true, ins (bS x) x, bC x + c1V st h s.H s.S (f x)⟩
  else ⟨s.H + s.S, s.S + f x, s.fd, s.set, s.c⟩
theorem stepL_take {st h : Int} {f : Nat → Int} {bS : Nat → Nat → Bool} {bC : Nat → Int} {H S C V : Int} {fd : Bool} {SS : Nat → Bool} {x : Nat} (hz : ¬ S + f x = 0) (hV : c1V st h H S (f x) = V)
    (ht : takes ⟨H, S, fd, SS, C⟩ (ins (bS x) x) (bC x + V) = true) : stepL st h f bS bC ⟨H, S, fd, SS, C⟩ x = ⟨H + S, S + f x, true, ins (bS x) x, bC x + V⟩ := by
  simp only [stepL]
  rw [hV, if_neg hz, if_pos ht]
theorem stepL_keep {st h : Int} {f : Nat → Int} {bS : Nat → Nat → Bool} {bC : Nat → Int} {H S C V : Int} {fd : Bool} {SS : Nat → Bool} {x : Nat} (hz : ¬ S + f x = 0) (hV : c1V st h H S (f x) = V)
    (ht : takes ⟨H, S, fd, SS, C⟩ (ins (bS x) x) (bC x + V) = false) : stepL st h f bS bC ⟨H, S, fd, SS, C⟩ x = ⟨H + S, S + f x, fd, SS, C⟩ := by
  simp only [stepL]
  rw [hV, if_neg hz, if_neg (by rw [ht]; decide)]
def foldL (st h : Int) (f : Nat → Int) (bS : Nat → Nat → Bool) (bC : Nat → Int) {n : Nat} (pre : List (Fin n)) : LS := pre.foldl (fun s x => stepL st h f bS bC s x.1) LS0
theorem foldL_snoc (st h : Int) (f : Nat → Int) (bS : Nat → Nat → Bool) (bC : Nat → Int) {n : Nat} (pre : List (Fin n)) (x : Fin n) :
    foldL st h f bS bC (pre ++ [x]) = stepL st h f bS bC (foldL st h f bS bC pre) x.1 := by simp [foldL]

end Go.Proofs.Ytkbnbdpdmcnkiaa
