/- The walk of sizing.Cost. -/
import Derived.Test.YtkbnbdpdmcnkiaaB
namespace Go.Proofs.Ytkbnbdpdmcnkiaa
open Go.RowKit

theorem SI.two (w : World) (B : Nat) (a b : Int) (hB : w.heap.size < B) : SI (w.alloc (.cells #[.int .i64 a, .int .i64 b] 3)) B (some ⟨w.heap.size, 0, none⟩) 2 [a, b] := by
  refine ⟨rfl, fun _ => ⟨_, _, rfl, hB, fun k hk => ?_⟩⟩
  rw [cell_of_row _ _ _ _ _ _ (heap_alloc_new w _)]
  match k, hk with
  | 0, _ => rfl
  | 1, _ => rfl

theorem allB_two (m a b : Int) : allB m [a, b] = (inB m a && inB m b) := by simp [allB]

/-- Are the arguments of Cost valid, and do the lots cover? -/
def okK (xs ls : List Int) (s h : Int) : Bool := vA xs s h && (vL xs ls && covTo xs ls xs.length)

set_option maxHeartbeats 400000 in
theorem Cost_bad (B n cap n' cap' : Nat) (A A' : Option Addr) (xs ls : List Int) (s h : Int) (w : World) (hx : SI w B A n xs) (hy : SI w B A' n' ls) (hB : B ≤ w.heap.size) (hn : n ≤ 9223372036854775807) (hn' : n' ≤ 9223372036854775807) (hv : okK xs ls s h = false) :
    Calls Try.prog 24 #[.slice A n cap, .slice A' n' cap', .int .i64 s, .int .i64 h] w fun e w' => e = .returned (.tuple #[.int .i64 0, .int .i64 220]) ∧ Below w.heap.size w w' := by
  have hl := Lib.hid hx.len
  have hl' := Lib.hid hy.len
  have h38 := validNeed_any B n cap A xs w hx hn
  have h39 := within_any 1048576 (w.heap.size + 1) 2 2 (some ⟨w.heap.size, 0, none⟩) [s, h] (w.alloc (.cells #[.int .i64 s, .int .i64 h] 3)) (SI.two w _ s h (by omega)) (by omega)
  rw [allB_two] at h39
  have hB0 : Below w.heap.size w (w.alloc (.cells #[.int .i64 s, .int .i64 h] 3)) := (Below.refl _ _).alloc (Nat.le_refl _) _
  cases hv1 : vN xs
  · rw [hv1] at h38
    clear hv hv1
    go_enter Try.func24, Try.ntmps24
    go_wp2_with (go_at_call 38; refine h38.mono ?_; rintro e w' ⟨rfl, rfl⟩)
    go_ret2
    exact ⟨rfl, Below.refl _ _⟩
  · rw [hv1] at h38
    have HV1 := Lib.hid hv1
    have HV := Lib.hid hv
    clear hv hv1
    cases hv2 : (inB 1048576 s && inB 1048576 h)
    · rw [hv2] at h39
      clear hv2
      go_enter Try.func24, Try.ntmps24
      go_wp2_with (first | (go_at_call 38; refine h38.mono ?_; rintro e w' ⟨rfl, rfl⟩) | (go_at_call 39; refine h39.mono ?_; rintro e w' ⟨rfl, rfl⟩))
      go_ret2
      exact ⟨rfl, hB0⟩
    · have HV2 := Lib.hid hv2
      rw [hv2] at h39
      clear hv2
      have h43 := validLots_any B n cap n' cap' A A' xs ls (w.alloc (.cells #[.int .i64 s, .int .i64 h] 3)) (hx.alloc hB _) (hy.alloc hB _) hn hn'
      cases hv : vL xs ls
      · rw [hv] at h43
        clear hv
        go_enter Try.func24, Try.ntmps24
        go_wp2_with (first | (go_at_call 38; refine h38.mono ?_; rintro e w' ⟨rfl, rfl⟩) | (go_at_call 39; refine h39.mono ?_; rintro e w' ⟨rfl, rfl⟩) | (go_at_call 43; refine h43.mono ?_; rintro e w' ⟨rfl, rfl⟩))
        go_ret2
        exact ⟨rfl, hB0⟩
      · have HV3 := Lib.hid hv
        rw [hv] at h43
        clear hv
        have i1 := vN_iff.1 HV1.out
        have i2 := vL_iff.1 HV3.out
        have e1 : n' = n := by have := i2.1; have := hl.out; have := hl'.out; omega
        subst e1
        rw [hl.out] at i1
        rw [hl'.out] at i2
        have h44 := covers_any B n' cap cap' A A' xs ls (w.alloc (.cells #[.int .i64 s, .int .i64 h] 3)) (hx.alloc hB _) (hy.alloc hB _) i1.1 i1.2 i2.2
        have hc : covTo xs ls n' = false := by
          have := HV.out
          simpa [okK, vA, HV1.out, HV2.out, HV3.out, hl.out] using this
        rw [hc] at h44
        clear i1 i2 hc
        go_enter Try.func24, Try.ntmps24
        go_wp2_with (first | (go_at_call 38; refine h38.mono ?_; rintro e w' ⟨rfl, rfl⟩) | (go_at_call 39; refine h39.mono ?_; rintro e w' ⟨rfl, rfl⟩) | (go_at_call 43; refine h43.mono ?_; rintro e w' ⟨rfl, rfl⟩) | (go_at_call 44; refine h44.mono ?_; rintro e w' ⟨rfl, rfl⟩))
        go_ret2
        exact ⟨rfl, hB0⟩

theorem ret2i {a b : Int} {v : Value} (h : a = b) : Ending.returned (.tuple #[.int .i64 a, v]) = Ending.returned (.tuple #[.int .i64 b, v]) := by rw [h]

theorem mul_bd {h H : Int} {a b : Int} (h0 : 0 ≤ h) (h1 : h ≤ a) (H0 : 0 ≤ H) (H1 : H ≤ b) : 0 ≤ h * H ∧ h * H ≤ a * b :=
  ⟨Int.mul_nonneg h0 H0, Int.mul_le_mul h1 H1 H0 (by omega)⟩

set_option maxHeartbeats 400000 in
theorem Cost_good (B n cap cap' : Nat) (A A' : Option Addr) (xs ls : List Int) (s h : Int) (w : World) (hx : SI w B A n xs) (hy : SI w B A' n ls) (hB : B ≤ w.heap.size) (hv : okK xs ls s h = true) :
    Calls Try.prog 24 #[.slice A n cap, .slice A' n cap', .int .i64 s, .int .i64 h] w fun e w' => e = .returned (.tuple #[.int .i64 (costTo s h xs ls n), .int .i64 0]) ∧ Below w.heap.size w w' := by
  have hl := Lib.hid hx.len
  have hl' := Lib.hid hy.len
  simp only [okK, Bool.and_eq_true] at hv
  obtain ⟨hvA, hvL, hc⟩ := hv
  obtain ⟨hv1, ⟨hs0, hs1⟩, hh0, hh1⟩ := vA_iff.1 hvA
  have i1 := vN_iff.1 hv1
  have i2 := vL_iff.1 hvL
  rw [hl.out] at i1 hc
  rw [hl'.out] at i2
  have hn := i1.1
  have HX := Lib.hid i1.2
  have HY := Lib.hid i2.2
  have hcov := Lib.hid (covTo_iff.1 hc)
  have h38 := validNeed_any B n cap A xs w hx (by omega)
  have h39 := within_any 1048576 (w.heap.size + 1) 2 2 (some ⟨w.heap.size, 0, none⟩) [s, h] (w.alloc (.cells #[.int .i64 s, .int .i64 h] 3)) (SI.two w _ s h (by omega)) (by omega)
  have h43 := validLots_any B n cap n cap' A A' xs ls (w.alloc (.cells #[.int .i64 s, .int .i64 h] 3)) (hx.alloc hB _) (hy.alloc hB _) (by omega) (by omega)
  have h44 := covers_any B n cap cap' A A' xs ls (w.alloc (.cells #[.int .i64 s, .int .i64 h] 3)) (hx.alloc hB _) (hy.alloc hB _) i1.1 i1.2 i2.2
  rw [allB_two, inB_t hs0 hs1, inB_t hh0 hh1] at h39
  rw [hv1] at h38
  rw [hvL] at h43
  rw [hc] at h44
  have hB0 : Below w.heap.size w (w.alloc (.cells #[.int .i64 s, .int .i64 h] 3)) := (Below.refl _ _).alloc (Nat.le_refl _) _
  replace hx := hx.alloc hB (.cells #[.int .i64 s, .int .i64 h] 3)
  replace hy := hy.alloc hB (.cells #[.int .i64 s, .int .i64 h] 3)
  clear i1 i2 hv1 hvL hc hvA
  go_enter Try.func24, Try.ntmps24
  go_wp2_with (first | (go_at_call 38; refine h38.mono ?_; rintro e w' ⟨rfl, rfl⟩) | (go_at_call 39; refine h39.mono ?_; rintro e w' ⟨rfl, rfl⟩) | (go_at_call 43; refine h43.mono ?_; rintro e w' ⟨rfl, rfl⟩) | (go_at_call 44; refine h44.mono ?_; rintro e w' ⟨rfl, rfl⟩))
  clear h38 h39 h43 h44
  go_loop [8, 10, 35] (fun c t i => ∃ (k : Nat) (C H : Int), k ≤ n ∧ i = .int .i64 k ∧ t = .int .i64 H ∧ c = .int .i64 C ∧ Hid (held xs ls k = H) ∧ 0 ≤ H ∧ H ≤ k * 67108864 ∧ Hid (costTo s h xs ls k = C) ∧ 0 ≤ C ∧ C ≤ k * 1125899907891200) (fun _ _ i => n - (intOf i).toNat)
  case atStart => exact ⟨0, 0, 0, Nat.zero_le _, rfl, rfl, rfl, Lib.hid rfl, by omega, by omega, Lib.hid rfl, by omega, by omega⟩
  case round =>
    obtain ⟨k, C, H, hk, rfl, rfl, rfl, hH, h0, h1, hC, hC0, hC1⟩ := hrel
    by_cases hlt : k < n
    · obtain ⟨b, off, x, rfl, hb, hx, hc⟩ := hx.look hlt
      obtain ⟨b', off', y, rfl, hb', hy, hc'⟩ := hy.look hlt
      have hx1 := HX.out k hlt
      have hy1 := HY.out k hlt
      rw [hx.out] at hx1
      rw [hy.out] at hy1
      obtain ⟨hx1, hx2⟩ := hx1
      obtain ⟨hy1, hy2⟩ := hy1
      have hs : Hid (held xs ls (k + 1) = H + (y - x)) := Lib.hid (by rw [held_succ, hH.out, hx.out, hy.out])
      have hnn := hcov.out k hlt
      rw [hs.out] at hnn
      have hm := mul_bd hh0 hh1 hnn (show H + (y - x) ≤ 1073741824 by omega)
      obtain ⟨hm1, hm2⟩ := hm
      have hcs : Hid (costTo s h xs ls (k + 1) = C + (if y = 0 then 0 else s) + h * (H + (y - x))) := Lib.hid (by simp only [costTo]; rw [hC.out, hs.out, hy.out])
      by_cases hy0 : y = 0
      · have hyb : (y != 0) = false := by simp [hy0]
        have HY0 := Lib.hid hy0
        clear hy0
        go_wp2
        go_round
        case rel => exact ⟨k + 1, _, _, by omega, by go_num, rfl, rfl, hs, by omega, by omega, Lib.hid (by rw [hcs.out, if_pos HY0.out]; simp), by omega, by omega⟩
        case measure => simp [intOf]; omega
      · have hyb : (y != 0) = true := by simp [hy0]
        have HY0 := Lib.hid hy0
        clear hy0
        go_wp2
        go_round
        case rel => exact ⟨k + 1, _, _, by omega, by go_num, rfl, rfl, hs, by omega, by omega, Lib.hid (by rw [hcs.out, if_neg HY0.out]), by omega, by omega⟩
        case measure => simp [intOf]; omega
    · go_wp2
      go_ret2
      obtain rfl : k = n := by omega
      exact ⟨ret2i hC.out.symm, hB0⟩

end Go.Proofs.Ytkbnbdpdmcnkiaa
