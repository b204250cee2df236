/- The walks of the reference's small functions (layer 22). -/
import Derived.Test.YtkbnbdpdmcnkiaaC
namespace Go.Proofs.Ytkbnbdpdmcnkiaa
open Go.RowKit

theorem beq_nat (k n : Nat) : ((k : Int) == (n : Int)) = decide (k = n) := by rw [Bool.eq_iff_iff]; simp; omega

set_option maxHeartbeats 400000 in
theorem in_any (x m : Int) (w : World) :
    Calls Try.prog 47 #[.int .i64 x, .int .i64 0, .int .i64 m] w fun e w' => e = .returned (.bool (inB m x)) ∧ w = w' := by
  by_cases h0 : 0 ≤ x
  · by_cases h1 : x ≤ m
    · go_enter Try.func47, Try.ntmps47
      go_wp2
      go_ret
      exact ⟨ret_bool (inB_t h0 h1).symm, rfl⟩
    · go_enter Try.func47, Try.ntmps47
      go_wp2
      go_ret
      exact ⟨ret_bool (inB_hi (by omega)).symm, rfl⟩
  · go_enter Try.func47, Try.ntmps47
    go_wp2
    go_ret
    exact ⟨ret_bool (inB_lo (by omega)).symm, rfl⟩

set_option maxHeartbeats 400000 in
theorem rValid_any (B n cap : Nat) (A : Option Addr) (xs : List Int) (s t : Int) (w : World) (h : SI w B A n xs) (hn : n ≤ 9223372036854775807) :
    Calls Try.prog 26 #[.slice A n cap, .int .i64 s, .int .i64 t] w fun e w' => e = .returned (.bool (vA xs s t)) ∧ w = w' := by
  have hl := Lib.hid h.len
  go_enter Try.func26, Try.ntmps26
  go_wp2
  go_loop [7] (fun i => ∃ k : Nat, k ≤ n ∧ i = .int .i64 k ∧ Hid (allB 1048576 (xs.take k) = true)) (fun i => n - (intOf i).toNat)
  case atStart => exact ⟨0, Nat.zero_le _, rfl, Lib.hid rfl⟩
  case round =>
    obtain ⟨k, hk, rfl, ha⟩ := hrel
    by_cases hlt : k < n
    · obtain ⟨b, off, x, rfl, hb, hx, hc⟩ := h.look hlt
      have h47 := in_any x 1048576 w
      cases hi : inB 1048576 x
      · have HI := Lib.hid hi
        rw [hi] at h47
        clear hi
        go_wp2_with (go_at_call 47; refine h47.mono ?_; rintro e w' ⟨rfl, rfl⟩)
        go_ret
        exact ⟨ret_bool (by simp [vA, vN, allB_false (k := k) (by rw [hl.out]; exact hlt) (by rw [hx.out]; exact HI.out)]), rfl⟩
      · have HI := Lib.hid hi
        rw [hi] at h47
        clear hi
        go_wp2_with (go_at_call 47; refine h47.mono ?_; rintro e w' ⟨rfl, rfl⟩)
        go_round
        case rel => exact ⟨k + 1, by omega, by go_num, Lib.hid (allB_take_succ ha.out (by rw [hl.out]; exact hlt) (by rw [hx.out]; exact HI.out))⟩
        case measure => simp [intOf]; omega
    · obtain rfl : k = n := by omega
      have hall : Hid (allB 1048576 xs = true) := Lib.hid (by have e := ha.out; rw [List.take_of_length_le (by rw [hl.out]; omega)] at e; exact e)
      by_cases h16 : k ≤ 16
      · have h1 := in_any s 1048576 w
        have h2 := in_any t 1048576 w
        cases hi : inB 1048576 s
        · have HI := Lib.hid hi
          rw [hi] at h1
          clear hi
          go_wp2_with (go_at_call 47; refine h1.mono ?_; rintro e w' ⟨rfl, rfl⟩)
          go_ret
          exact ⟨ret_bool (by simp [vA, HI.out]), rfl⟩
        · have HI := Lib.hid hi
          rw [hi] at h1
          clear hi
          go_wp2_with fail
          refine h1.mono ?_
          rintro e w' ⟨rfl, rfl⟩
          go_wp2_with fail
          refine h2.mono ?_
          rintro e w' ⟨rfl, rfl⟩
          go_wp2_with fail
          go_ret
          exact ⟨ret_bool (by simp [vA, vN, HI.out, hall.out, hl.out, h16]), rfl⟩
      · go_wp2_with fail
        go_ret
        exact ⟨ret_bool (by simp [vA, vN, hl.out, h16]), rfl⟩

set_option maxHeartbeats 400000 in
theorem lots_any (B n cap n' cap' : Nat) (A A' : Option Addr) (xs ls : List Int) (w : World) (h0 : SI w B A n xs) (h : SI w B A' n' ls) (hn' : n' ≤ 9223372036854775807) :
    Calls Try.prog 45 #[.slice A n cap, .slice A' n' cap'] w fun e w' => e = .returned (.bool (vL xs ls)) ∧ w = w' := by
  have hl0 := Lib.hid h0.len
  have hl := Lib.hid h.len
  go_enter Try.func45, Try.ntmps45
  go_wp2
  go_loop [5] (fun i => ∃ k : Nat, k ≤ n' ∧ i = .int .i64 k ∧ Hid (allB 67108864 (ls.take k) = true)) (fun i => n' - (intOf i).toNat)
  case atStart => exact ⟨0, Nat.zero_le _, rfl, Lib.hid rfl⟩
  case round =>
    obtain ⟨k, hk, rfl, ha⟩ := hrel
    by_cases hlt : k < n'
    · obtain ⟨b, off, x, rfl, hb, hx, hc⟩ := h.look hlt
      have h47 := in_any x 67108864 w
      cases hi : inB 67108864 x
      · have HI := Lib.hid hi
        rw [hi] at h47
        clear hi
        go_wp2_with (go_at_call 47; refine h47.mono ?_; rintro e w' ⟨rfl, rfl⟩)
        go_ret
        exact ⟨ret_bool (by simp [vL, allB_false (k := k) (by rw [hl.out]; exact hlt) (by rw [hx.out]; exact HI.out)]), rfl⟩
      · have HI := Lib.hid hi
        rw [hi] at h47
        clear hi
        go_wp2_with (go_at_call 47; refine h47.mono ?_; rintro e w' ⟨rfl, rfl⟩)
        go_round
        case rel => exact ⟨k + 1, by omega, by go_num, Lib.hid (allB_take_succ ha.out (by rw [hl.out]; exact hlt) (by rw [hx.out]; exact HI.out))⟩
        case measure => simp [intOf]; omega
    · obtain rfl : k = n' := by omega
      have hall : Hid (allB 67108864 ls = true) := Lib.hid (by have e := ha.out; rw [List.take_of_length_le (by rw [hl.out]; omega)] at e; exact e)
      go_wp2
      go_ret
      exact ⟨ret_bool (by simp only [vL, hall.out, hl.out, hl0.out, beq_nat, Bool.and_true]), rfl⟩

set_option maxHeartbeats 400000 in
theorem rcovers_any (B n cap cap' : Nat) (A A' : Option Addr) (xs ls : List Int) (w : World) (h : SI w B A n xs) (h' : SI w B A' n ls) (hn : n ≤ 16)
    (hx : ∀ k, k < n → 0 ≤ g xs k ∧ g xs k ≤ 1048576) (hy : ∀ k, k < n → 0 ≤ g ls k ∧ g ls k ≤ 67108864) :
    Calls Try.prog 46 #[.slice A n cap, .slice A' n cap'] w fun e w' => e = .returned (.bool (covTo xs ls n)) ∧ ∃ q, w.drewN q = w' := by
  have HX := Lib.hid hx
  have HY := Lib.hid hy
  clear hx hy
  go_enter Try.func46, Try.ntmps46
  go_wp2
  go_loopw [5, 6] (fun t i wr => ∃ (k q : Nat) (H : Int), k ≤ n ∧ wr = w.drewN q ∧ i = .int .i64 k ∧ t = .int .i64 H ∧ Hid (held xs ls k = H) ∧ 0 ≤ H ∧ H ≤ k * 67108864 ∧ Hid (covTo xs ls k = true)) (fun _ i _ => n - (intOf i).toNat)
  case atStart => exact ⟨0, 0, 0, Nat.zero_le _, rfl, rfl, rfl, Lib.hid rfl, by omega, by omega, Lib.hid rfl⟩
  case round =>
    obtain ⟨k, q, H, hk, rfl, rfl, rfl, hH, h0, h1, ha⟩ := hrel
    by_cases hlt : k < n
    · obtain ⟨b, off, x, rfl, hb, hx, hc⟩ := h.look hlt
      obtain ⟨b', off', y, rfl, hb', hy, hc'⟩ := h'.look hlt
      have hx1 := HX.out k hlt
      have hy1 := HY.out k hlt
      rw [hx.out] at hx1
      rw [hy.out] at hy1
      obtain ⟨hx1, hx2⟩ := hx1
      obtain ⟨hy1, hy2⟩ := hy1
      have hs : Hid (held xs ls (k + 1) = H + y - x) := Lib.hid (by rw [held_succ, hH.out, hx.out, hy.out]; omega)
      have hw1 : IntKind.i64.wrap (H + y) = H + y := IntWalk.i64_in _ (by omega)
      have hw2 : IntKind.i64.wrap (H + y - x) = H + y - x := IntWalk.i64_in _ (by omega)
      have hkn : (k : Int) < (n : Int) := by omega
      have hk0 : (0 : Int) ≤ (k : Int) := by omega
      by_cases hneg : H + y - x < 0
      · go_wp2
        go_quiet (fail)
        go_wp2
        go_ret
        exact ⟨ret_bool (covTo_false hlt (by rw [hs.out]; exact hneg)).symm, _, rfl⟩
      · go_wp2
        go_quiet (fail)
        clear hw1 hw2
        go_wp2
        go_roundw
        case rel => exact ⟨k + 1, _, _, by omega, rfl, by go_num, rfl, hs, by omega, by omega, Lib.hid (covTo_succ_t ha.out (by rw [hs.out]; omega))⟩
        case measure => simp [intOf]; omega
    · go_wp2
      go_ret
      obtain rfl : k = n := by omega
      exact ⟨ret_bool ha.out.symm, _, rfl⟩

set_option maxHeartbeats 400000 in
theorem rcost_any (B n cap cap' : Nat) (A A' : Option Addr) (xs ls : List Int) (s h : Int) (w : World) (hx : SI w B A n xs) (hy : SI w B A' n ls) (hn : n ≤ 16)
    (hX : ∀ k, k < n → 0 ≤ g xs k ∧ g xs k ≤ 1048576) (hY : ∀ k, k < n → 0 ≤ g ls k ∧ g ls k ≤ 67108864) (hs0 : 0 ≤ s) (hs1 : s ≤ 1048576) (hh0 : 0 ≤ h) (hh1 : h ≤ 1048576) (hc : ∀ k, k < n → 0 ≤ held xs ls (k + 1)) :
    Calls Try.prog 41 #[.slice A n cap, .slice A' n cap', .int .i64 s, .int .i64 h] w fun e w' => e = .returned (.int .i64 (costTo s h xs ls n)) ∧ ∃ q, w.drewN q = w' := by
  have HX := Lib.hid hX
  have HY := Lib.hid hY
  have hcov := Lib.hid hc
  clear hX hY hc
  go_enter Try.func41, Try.ntmps41
  go_wp2
  go_loopw [9, 10, 11] (fun c t i wr => ∃ (k q : Nat) (C H : Int), k ≤ n ∧ wr = w.drewN q ∧ i = .int .i64 k ∧ t = .int .i64 H ∧ c = .int .i64 C ∧ Hid (held xs ls k = H) ∧ 0 ≤ H ∧ H ≤ k * 67108864 ∧ Hid (costTo s h xs ls k = C) ∧ 0 ≤ C ∧ C ≤ k * 1125899907891200) (fun _ _ i _ => n - (intOf i).toNat)
  case atStart => exact ⟨0, 0, 0, 0, Nat.zero_le _, rfl, rfl, rfl, rfl, Lib.hid rfl, by omega, by omega, Lib.hid rfl, by omega, by omega⟩
  case round =>
    obtain ⟨k, q, C, H, hk, rfl, rfl, rfl, rfl, hH, h0, h1, hC, hC0, hC1⟩ := hrel
    by_cases hlt : k < n
    · obtain ⟨b, off, x, rfl, hb, hx, hc⟩ := hx.look hlt
      obtain ⟨b', off', y, rfl, hb', hy, hc'⟩ := hy.look hlt
      have hx1 := HX.out k hlt
      have hy1 := HY.out k hlt
      rw [hx.out] at hx1
      rw [hy.out] at hy1
      obtain ⟨hx1, hx2⟩ := hx1
      obtain ⟨hy1, hy2⟩ := hy1
      have hs : Hid (held xs ls (k + 1) = H + y - x) := Lib.hid (by rw [held_succ, hH.out, hx.out, hy.out]; omega)
      have hnn := hcov.out k hlt
      rw [hs.out] at hnn
      have hm := mul_bd hh0 hh1 hnn (show H + y - x ≤ 1073741824 by omega)
      obtain ⟨hm1, hm2⟩ := hm
      have hcs : Hid (costTo s h xs ls (k + 1) = C + (if y = 0 then 0 else s) + h * (H + y - x)) := Lib.hid (by simp only [costTo]; rw [hC.out, hs.out, hy.out])
      have hw1 : IntKind.i64.wrap (H + y) = H + y := IntWalk.i64_in _ (by omega)
      have hw2 : IntKind.i64.wrap (H + y - x) = H + y - x := IntWalk.i64_in _ (by omega)
      have hkn : (k : Int) < (n : Int) := by omega
      have hk0 : (0 : Int) ≤ (k : Int) := by omega
      by_cases hy0 : y = 0
      · have hyb : (y != 0) = false := by simp [hy0]
        have HY0 := Lib.hid hy0
        clear hy0
        go_wp2
        go_quiet (fail)
        clear hw1 hw2
        go_wp2
        go_roundw
        case rel => exact ⟨k + 1, _, _, _, by omega, rfl, by go_num, rfl, rfl, hs, by omega, by omega, Lib.hid (by rw [hcs.out, if_pos HY0.out]; simp), by omega, by omega⟩
        case measure => simp [intOf]; omega
      · have hyb : (y != 0) = true := by simp [hy0]
        have HY0 := Lib.hid hy0
        clear hy0
        go_wp2
        go_quiet (fail)
        clear hw1 hw2
        go_wp2
        go_roundw
        case rel => exact ⟨k + 1, _, _, _, by omega, rfl, by go_num, rfl, rfl, hs, by omega, by omega, Lib.hid (by rw [hcs.out, if_neg HY0.out]), by omega, by omega⟩
        case measure => simp [intOf]; omega
    · go_wp2
      go_ret
      obtain rfl : k = n := by omega
      exact ⟨ret_int hC.out.symm, _, rfl⟩

set_option maxHeartbeats 400000 in
theorem rCovers_any (B n cap n' cap' : Nat) (A A' : Option Addr) (xs ls : List Int) (w : World) (h : SI w B A n xs) (h' : SI w B A' n' ls) (hn : n ≤ 9223372036854775807) (hn' : n' ≤ 9223372036854775807) :
    Calls Try.prog 23 #[.slice A n cap, .slice A' n' cap'] w fun e w' => e = .returned (.tuple #[.bool (okC xs ls && covTo xs ls n), .int .i64 (errOf (okC xs ls))]) ∧ ∃ q, w.drewN q = w' := by
  have hl := Lib.hid h.len
  have hl' := Lib.hid h'.len
  have h26 := rValid_any B n cap A xs 0 0 w h hn
  have e26 : vA xs 0 0 = vN xs := by simp [vA, inB]
  rw [e26] at h26
  clear e26
  cases hv : vN xs
  · have HV := Lib.hid hv
    rw [hv] at h26
    clear hv
    go_enter Try.func23, Try.ntmps23
    go_wp2_with (go_at_call 26; refine h26.mono ?_; rintro e w' ⟨rfl, rfl⟩)
    go_ret2
    exact ⟨by simp [okC, HV.out, errOf], 0, rfl⟩
  · have HV := Lib.hid hv
    rw [hv] at h26
    clear hv
    have h45 := lots_any B n cap n' cap' A A' xs ls w h h' hn'
    cases hv : vL xs ls
    · have HV' := Lib.hid hv
      rw [hv] at h45
      clear hv
      go_enter Try.func23, Try.ntmps23
      go_wp2_with (first | (go_at_call 26; refine h26.mono ?_; rintro e w' ⟨rfl, rfl⟩) | (go_at_call 45; refine h45.mono ?_; rintro e w' ⟨rfl, rfl⟩))
      go_ret2
      exact ⟨by simp [okC, HV'.out, errOf], 0, rfl⟩
    · have HV' := Lib.hid hv
      rw [hv] at h45
      clear hv
      have i1 := vN_iff.1 HV.out
      have i2 := vL_iff.1 HV'.out
      have e1 : n' = n := by have := i2.1; have := hl.out; have := hl'.out; omega
      subst e1
      rw [hl.out] at i1
      rw [hl'.out] at i2
      have h46 := rcovers_any B n' cap cap' A A' xs ls w h h' i1.1 i1.2 i2.2
      clear i1 i2
      go_enter Try.func23, Try.ntmps23
      go_wp2_with (first | (go_at_call 26; refine h26.mono ?_; rintro e w' ⟨rfl, rfl⟩) | (go_at_call 45; refine h45.mono ?_; rintro e w' ⟨rfl, rfl⟩) | (go_at_call 46; refine h46.mono ?_; rintro e w' ⟨rfl, q, rfl⟩))
      go_ret2
      exact ⟨by simp [okC, HV.out, HV'.out, errOf], _, rfl⟩

end Go.Proofs.Ytkbnbdpdmcnkiaa
