/- The walks of prices' small functions: within, valid, validPrices, price. -/
import Derived.Test.YtkbnbdpdmcnkiaaE
namespace Go.Proofs.Ytkbnbdpdmcnkiaa
open Go.RowKit

/-- x is between two numbers; all of a list are. -/
def inR (lo hi x : Int) : Bool := decide (lo ≤ x) && decide (x ≤ hi)
def allR (lo hi : Int) (xs : List Int) : Bool := xs.all (inR lo hi)
theorem inR_t {lo hi x : Int} (h1 : lo ≤ x) (h2 : x ≤ hi) : inR lo hi x = true := by simp [inR, h1, h2]
theorem inR_lo {lo hi x : Int} (h1 : x < lo) : inR lo hi x = false := by simp [inR]; omega
theorem inR_hi {lo hi x : Int} (h1 : hi < x) : inR lo hi x = false := by simp [inR]; omega
theorem inR_iff {lo hi x : Int} : inR lo hi x = true ↔ lo ≤ x ∧ x ≤ hi := by simp [inR]
theorem allR_iff {lo hi : Int} {xs : List Int} : allR lo hi xs = true ↔ ∀ k, k < xs.length → lo ≤ g xs k ∧ g xs k ≤ hi := by
  unfold allR
  rw [List.all_eq_true]
  constructor
  · intro h k hk
    have := h (xs[k]) (List.getElem_mem hk)
    rw [inR_iff] at this
    simpa [g, List.getElem?_eq_getElem hk] using this
  · intro h x hx
    obtain ⟨k, hk, rfl⟩ := List.getElem_of_mem hx
    rw [inR_iff]
    simpa [g, List.getElem?_eq_getElem hk] using h k hk
theorem allR_take_succ {lo hi : Int} {xs : List Int} {k : Nat} (h : allR lo hi (xs.take k) = true) (hk : k < xs.length) (hx : inR lo hi (g xs k) = true) : allR lo hi (xs.take (k + 1)) = true := by
  unfold allR at *
  rw [List.take_succ_eq_append_getElem hk, List.all_append, h]
  simpa [g, List.getElem?_eq_getElem hk] using hx
theorem allR_false {lo hi : Int} {xs : List Int} {k : Nat} (hk : k < xs.length) (hx : inR lo hi (g xs k) = false) : allR lo hi xs = false := by
  unfold allR
  rw [List.all_eq_false]
  refine ⟨xs[k], List.getElem_mem hk, ?_⟩
  simpa [g, List.getElem?_eq_getElem hk] using hx
theorem allR_B (m : Int) (xs : List Int) : allR 0 m xs = allB m xs := rfl

set_option maxHeartbeats 400000 in
theorem pwithin_any (lo hi : Int) (B n cap : Nat) (A : Option Addr) (xs : List Int) (w : World) (h : SI w B A n xs) (hn : n ≤ 9223372036854775807) :
    Calls Try.prog 65 #[.int .i64 lo, .int .i64 hi, .slice A n cap] w fun e w' => e = .returned (.bool (allR lo hi xs)) ∧ w = w' := by
  have hl := Lib.hid h.len
  go_enter Try.func65, Try.ntmps65
  go_wp2
  go_loop [11] (fun i => ∃ k : Nat, k ≤ n ∧ i = .int .i64 k ∧ Hid (allR lo hi (xs.take k) = true)) (fun i => n - (intOf i).toNat)
  case atStart => exact ⟨0, Nat.zero_le _, rfl, Lib.hid rfl⟩
  case round =>
    obtain ⟨k, hk, rfl, ha⟩ := hrel
    by_cases hlt : k < n
    · obtain ⟨b, off, x, rfl, hb, hx, hc⟩ := h.look hlt
      by_cases h1 : x < lo
      · go_wp2
        go_ret
        exact ⟨ret_bool (allR_false (k := k) (by rw [hl.out]; exact hlt) (by rw [hx.out]; exact inR_lo h1)).symm, rfl⟩
      · by_cases h2 : hi < x
        · go_wp2
          go_ret
          exact ⟨ret_bool (allR_false (k := k) (by rw [hl.out]; exact hlt) (by rw [hx.out]; exact inR_hi h2)).symm, rfl⟩
        · go_wp2
          go_round
          case rel => exact ⟨k + 1, by omega, by go_num, Lib.hid (allR_take_succ ha.out (by rw [hl.out]; exact hlt) (by rw [hx.out]; exact inR_t (by omega) (by omega)))⟩
          case measure => simp [intOf]; omega
    · go_wp2
      go_ret
      exact ⟨ret_bool (by have e := ha.out; rw [List.take_of_length_le (by rw [hl.out]; omega)] at e; exact e.symm), rfl⟩

set_option maxHeartbeats 400000 in
theorem pvalid_any (B n cap : Nat) (A : Option Addr) (xs : List Int) (s t : Int) (w : World) (h : SI w B A n xs) (hn : n ≤ 9223372036854775807) :
    Calls Try.prog 48 #[.slice A n cap, .int .i64 s, .int .i64 t] w fun e w' => e = .returned (.bool (vA xs s t)) ∧ Below w.heap.size w w' := by
  have hl := Lib.hid h.len
  by_cases hlt : n ≤ 16
  · cases ha : allR 0 1048576 xs
    · have h65 := pwithin_any 0 1048576 B n cap A xs w h hn
      rw [ha] at h65
      have HA := Lib.hid ha
      clear ha
      go_enter Try.func48, Try.ntmps48
      go_wp2_with fail
      refine h65.mono ?_
      rintro e w' ⟨rfl, rfl⟩
      go_wp2_with fail
      go_ret
      exact ⟨ret_bool (by rw [allR_B] at HA; simp [vA, vN, HA.out]), Below.refl _ _⟩
    · have h65 := pwithin_any 0 1048576 B n cap A xs w h hn
      rw [ha] at h65
      have HA := Lib.hid ha
      clear ha
      go_enter Try.func48, Try.ntmps48
      go_wp2_with fail
      refine h65.mono ?_
      rintro e w' ⟨rfl, rfl⟩
      go_wp2_with fail
      refine (pwithin_any 0 1048576 (w.heap.size + 1) 2 2 (some ⟨w.heap.size, 0, none⟩) [s, t] _ (SI.two w _ s t (by omega)) (by omega)).mono ?_
      rintro e w' ⟨rfl, rfl⟩
      go_wp2_with fail
      go_ret
      refine ⟨ret_bool ?_, (Below.refl _ _).alloc (Nat.le_refl _) _⟩
      rw [allR_B] at HA
      have e : vN xs = true := by simp [vN, HA.out, hl.out, hlt]
      rw [allR_B, vA, e]
      simp [allB]
  · go_enter Try.func48, Try.ntmps48
    go_wp2_with fail
    go_ret
    exact ⟨ret_bool (by simp [vA, vN, hl.out, hlt]), Below.refl _ _⟩

/-- Prices are valid for requirements. -/
def vP (xs ps : List Int) : Bool := decide (ps.length = xs.length) && allR (-1152921504606846976) 1152921504606846976 ps

set_option maxHeartbeats 400000 in
theorem validPrices_any (B n cap n' cap' : Nat) (A A' : Option Addr) (xs ls : List Int) (w : World) (h : SI w B A n xs) (h' : SI w B A' n' ls) (hn : n ≤ 9223372036854775807) (hn' : n' ≤ 9223372036854775807) :
    Calls Try.prog 51 #[.slice A n cap, .slice A' n' cap'] w fun e w' => e = .returned (.bool (vP xs ls)) ∧ w = w' := by
  have hl := Lib.hid h.len
  have hl' := Lib.hid h'.len
  by_cases hlt : n' = n
  · subst hlt
    go_enter Try.func51, Try.ntmps51
    go_wp2_with fail
    refine (pwithin_any _ _ B n' cap' A' ls w h' hn').mono ?_
    rintro e w' ⟨rfl, rfl⟩
    go_wp2_with fail
    go_ret
    exact ⟨ret_bool (by simp [vP, hl.out, hl'.out]), rfl⟩
  · have hb : ((n' : Int) == (n : Int)) = false := by simpa using (by omega : ¬ (n' : Int) = n)
    go_enter Try.func51, Try.ntmps51
    go_wp2_with fail
    go_ret
    exact ⟨ret_bool (by simp [vP, hl.out, hl'.out, hlt]), rfl⟩

/-- The price of the days before a day. -/
def pF (ps : List Int) : Nat → Int
  | 0 => 0
  | t + 1 => g ps t

set_option maxHeartbeats 400000 in
theorem price_any (B n cap : Nat) (A : Option Addr) (ps : List Int) (d : Nat) (w : World) (h : SI w B A n ps) (hn : n ≤ 9223372036854775807) (hd : d ≤ n) :
    Calls Try.prog 55 #[.slice A n cap, .int .i64 d] w fun e w' => e = .returned (.int .i64 (pF ps d)) ∧ w = w' := by
  match d, hd with
  | 0, _ =>
    go_enter Try.func55, Try.ntmps55
    go_wp2
    go_ret
    exact ⟨rfl, rfl⟩
  | d + 1, hd =>
    obtain ⟨b, off, x, rfl, hb, hx, hc⟩ := h.look (k := d) (by omega)
    have i1 : (((d + 1 : Nat) : Int) == 0) = false := by simpa using (by omega : ¬ ((d + 1 : Nat) : Int) = 0)
    have i2 : IntKind.i64.wrap (((d + 1 : Nat) : Int) - 1) = (d : Int) := by rw [show ((d + 1 : Nat) : Int) - 1 = (d : Int) by omega]; exact IntWalk.i64_in _ (by omega)
    go_enter Try.func55, Try.ntmps55
    go_wp2
    go_ret
    exact ⟨ret_int hx.out.symm, rfl⟩

end Go.Proofs.Ytkbnbdpdmcnkiaa
