/- The walks of sizing's small functions. -/
import Derived.Test.YtkbnbdpdmcnkiaaA
import Derived.Deep.QuietTactic
import Derived.BigQuiet
namespace Go.Proofs.Ytkbnbdpdmcnkiaa
open Go.RowKit

set_option maxHeartbeats 400000 in
theorem within_any (m : Int) (B n cap : Nat) (A : Option Addr) (xs : List Int) (w : World) (h : SI w B A n xs) (hn : n ≤ 9223372036854775807) :
    Calls Try.prog 39 #[.int .i64 m, .slice A n cap] w fun e w' => e = .returned (.bool (allB m xs)) ∧ w = w' := by
  have hl := Lib.hid h.len
  go_enter Try.func39, Try.ntmps39
  go_wp2
  go_loop [9] (fun i => ∃ k : Nat, k ≤ n ∧ i = .int .i64 k ∧ Hid (allB m (xs.take k) = true)) (fun i => n - (intOf i).toNat)
  case atStart => exact ⟨0, Nat.zero_le _, rfl, Lib.hid rfl⟩
  case round =>
    obtain ⟨k, hk, rfl, ha⟩ := hrel
    by_cases hlt : k < n
    · obtain ⟨b, off, x, rfl, hb, hx, hc⟩ := h.look hlt
      go_wp2
      · go_ret
        have h2 : x < 0 ∨ m < x := by assumption
        refine ⟨ret_bool (allB_false (k := k) (by rw [hl.out]; exact hlt) (by rw [hx.out]; rcases h2 with h2 | h2; exact inB_lo h2; exact inB_hi h2)).symm, rfl⟩
      · go_round
        case rel => 
          have h2 : 0 ≤ x ∧ x ≤ m := by assumption
          exact ⟨k + 1, by omega, by go_num, Lib.hid (allB_take_succ ha.out (by rw [hl.out]; exact hlt) (by rw [hx.out]; exact inB_t h2.1 h2.2))⟩
        case measure => simp [intOf]; omega
      · go_ret
        have h2 : x < 0 := by assumption
        exact ⟨ret_bool (allB_false (k := k) (by rw [hl.out]; exact hlt) (by rw [hx.out]; exact inB_lo h2)).symm, rfl⟩
    · go_wp2
      go_ret
      exact ⟨ret_bool (by have e := ha.out; rw [List.take_of_length_le (by rw [hl.out]; omega)] at e; exact e.symm), rfl⟩

/-- Requirements are valid. -/
def vN (xs : List Int) : Bool := decide (xs.length ≤ 16) && allB 1048576 xs
/-- Requirements and costs are valid. -/
def vA (xs : List Int) (s h : Int) : Bool := vN xs && (inB 1048576 s && inB 1048576 h)
/-- Lots are valid for requirements. -/
def vL (xs ls : List Int) : Bool := decide (ls.length = xs.length) && allB 67108864 ls

set_option maxHeartbeats 400000 in
theorem validNeed_any (B n cap : Nat) (A : Option Addr) (xs : List Int) (w : World) (h : SI w B A n xs) (hn : n ≤ 9223372036854775807) :
    Calls Try.prog 38 #[.slice A n cap] w fun e w' => e = .returned (.bool (vN xs)) ∧ w = w' := by
  have hl := Lib.hid h.len
  by_cases hlt : n ≤ 16
  · go_enter Try.func38, Try.ntmps38
    go_wp2_with (go_at_call 39; refine (within_any 1048576 B n cap A xs w h hn).mono ?_; rintro e w' ⟨rfl, rfl⟩)
    go_ret
    exact ⟨ret_bool (by simp [vN, hl.out, hlt]), rfl⟩
  · go_enter Try.func38, Try.ntmps38
    go_wp2_with fail
    go_ret
    exact ⟨ret_bool (by simp [vN, hl.out, hlt]), rfl⟩

set_option maxHeartbeats 400000 in
theorem validLots_any (B n cap n' cap' : Nat) (A A' : Option Addr) (xs ls : List Int) (w : World) (h : SI w B A n xs) (h' : SI w B A' n' ls) (hn : n ≤ 9223372036854775807) (hn' : n' ≤ 9223372036854775807) :
    Calls Try.prog 43 #[.slice A n cap, .slice A' n' cap'] w fun e w' => e = .returned (.bool (vL xs ls)) ∧ w = w' := by
  have hl := Lib.hid h.len
  have hl' := Lib.hid h'.len
  by_cases hlt : n' = n
  · subst hlt
    go_enter Try.func43, Try.ntmps43
    go_wp2_with (go_at_call 39; refine (within_any 67108864 B n' cap' A' ls w h' hn').mono ?_; rintro e w' ⟨rfl, rfl⟩)
    go_ret
    exact ⟨ret_bool (by simp [vL, hl.out, hl'.out]), rfl⟩
  · have hb : ((n' : Int) == (n : Int)) = false := by simpa using (by omega : ¬ (n' : Int) = n)
    go_enter Try.func43, Try.ntmps43
    go_wp2_with fail
    go_ret
    exact ⟨ret_bool (by simp [vL, hl.out, hl'.out, hlt]), rfl⟩

set_option maxHeartbeats 400000 in
theorem covers_any (B n cap cap' : Nat) (A A' : Option Addr) (xs ls : List Int) (w : World) (h : SI w B A n xs) (h' : SI w B A' n ls) (hn : n ≤ 16)
    (hx : ∀ k, k < n → 0 ≤ g xs k ∧ g xs k ≤ 1048576) (hy : ∀ k, k < n → 0 ≤ g ls k ∧ g ls k ≤ 67108864) :
    Calls Try.prog 44 #[.slice A n cap, .slice A' n cap'] w fun e w' => e = .returned (.bool (covTo xs ls n)) ∧ w = w' := by
  have HX := Lib.hid hx
  have HY := Lib.hid hy
  clear hx hy
  go_enter Try.func44, Try.ntmps44
  go_wp2
  go_loop [5, 10] (fun t i => ∃ (k : Nat) (H : Int), k ≤ n ∧ i = .int .i64 k ∧ t = .int .i64 H ∧ Hid (held xs ls k = H) ∧ 0 ≤ H ∧ H ≤ k * 67108864 ∧ Hid (covTo xs ls k = true)) (fun _ i => n - (intOf i).toNat)
  case atStart => exact ⟨0, 0, Nat.zero_le _, rfl, rfl, Lib.hid rfl, by omega, by omega, Lib.hid rfl⟩
  case round =>
    obtain ⟨k, H, hk, rfl, rfl, hH, h0, h1, ha⟩ := hrel
    by_cases hlt : k < n
    · obtain ⟨b, off, x, rfl, hb, hx, hc⟩ := h.look hlt
      obtain ⟨b', off', y, rfl, hb', hy, hc'⟩ := h'.look hlt
      have hx1 := HX.out k hlt
      have hy1 := HY.out k hlt
      rw [hx.out] at hx1
      rw [hy.out] at hy1
      obtain ⟨hx1, hx2⟩ := hx1
      obtain ⟨hy1, hy2⟩ := hy1
      have hs : Hid (held xs ls (k + 1) = H + (y - x)) := Lib.hid (by rw [held_succ, hH.out, hx.out, hy.out])
      by_cases hneg : H + (y - x) < 0
      · go_wp2
        go_ret
        exact ⟨ret_bool (covTo_false hlt (by rw [hs.out]; exact hneg)).symm, rfl⟩
      · go_wp2
        go_round
        case rel => exact ⟨k + 1, _, by omega, by go_num, rfl, hs, by omega, by omega, Lib.hid (covTo_succ_t ha.out (by rw [hs.out]; omega))⟩
        case measure => simp [intOf]; omega
    · go_wp2
      go_ret
      obtain rfl : k = n := by omega
      exact ⟨ret_bool ha.out.symm, rfl⟩

theorem vN_iff {xs : List Int} : vN xs = true ↔ xs.length ≤ 16 ∧ ∀ k, k < xs.length → 0 ≤ g xs k ∧ g xs k ≤ 1048576 := by
  simp only [vN, Bool.and_eq_true, decide_eq_true_eq, allB_iff]
theorem vA_iff {xs : List Int} {s h : Int} : vA xs s h = true ↔ vN xs = true ∧ (0 ≤ s ∧ s ≤ 1048576) ∧ (0 ≤ h ∧ h ≤ 1048576) := by
  simp only [vA, Bool.and_eq_true, inB_iff]
theorem vL_iff {xs ls : List Int} : vL xs ls = true ↔ ls.length = xs.length ∧ ∀ k, k < ls.length → 0 ≤ g ls k ∧ g ls k ≤ 67108864 := by
  simp only [vL, Bool.and_eq_true, decide_eq_true_eq, allB_iff]

/-- What Covers answers: whether the arguments are valid, and whether the lots cover. -/
def okC (xs ls : List Int) : Bool := vN xs && vL xs ls
def errOf (b : Bool) : Int := if b = true then 0 else 220

set_option maxHeartbeats 400000 in
theorem Covers_any (B n cap n' cap' : Nat) (A A' : Option Addr) (xs ls : List Int) (w : World) (h : SI w B A n xs) (h' : SI w B A' n' ls) (hn : n ≤ 9223372036854775807) (hn' : n' ≤ 9223372036854775807) :
    Calls Try.prog 22 #[.slice A n cap, .slice A' n' cap'] w fun e w' => e = .returned (.tuple #[.bool (okC xs ls && covTo xs ls n), .int .i64 (errOf (okC xs ls))]) ∧ w = w' := by
  have hl := Lib.hid h.len
  have hl' := Lib.hid h'.len
  cases hv : vN xs
  · have HV := Lib.hid hv
    have h38 := validNeed_any B n cap A xs w h hn
    rw [hv] at h38
    clear hv
    go_enter Try.func22, Try.ntmps22
    go_wp2_with (go_at_call 38; refine h38.mono ?_; rintro e w' ⟨rfl, rfl⟩)
    go_ret2
    exact ⟨by simp [okC, HV.out, errOf], rfl⟩
  · have HV := Lib.hid hv
    have h38 := validNeed_any B n cap A xs w h hn
    rw [hv] at h38
    clear hv
    have h43 := validLots_any B n cap n' cap' A A' xs ls w h h' hn hn'
    cases hv : vL xs ls
    · have HV' := Lib.hid hv
      rw [hv] at h43
      clear hv
      go_enter Try.func22, Try.ntmps22
      go_wp2_with (first | (go_at_call 38; refine h38.mono ?_; rintro e w' ⟨rfl, rfl⟩) | (go_at_call 43; refine h43.mono ?_; rintro e w' ⟨rfl, rfl⟩))
      go_ret2
      exact ⟨by simp [okC, HV'.out, errOf], rfl⟩
    · have HV' := Lib.hid hv
      rw [hv] at h43
      clear hv
      have i1 := vN_iff.1 HV.out
      have i2 := vL_iff.1 HV'.out
      have e1 : n' = n := by have := i2.1; have := hl.out; have := hl'.out; omega
      subst e1
      rw [hl.out] at i1
      rw [hl'.out] at i2
      have h44 := covers_any B n' cap cap' A A' xs ls w h h' i1.1 i1.2 i2.2
      clear i1 i2
      go_enter Try.func22, Try.ntmps22
      go_wp2_with (first | (go_at_call 38; refine h38.mono ?_; rintro e w' ⟨rfl, rfl⟩) | (go_at_call 43; refine h43.mono ?_; rintro e w' ⟨rfl, rfl⟩) | (go_at_call 44; refine h44.mono ?_; rintro e w' ⟨rfl, rfl⟩))
      go_ret2
      exact ⟨by simp [okC, HV.out, HV'.out, errOf], rfl⟩

end Go.Proofs.Ytkbnbdpdmcnkiaa
