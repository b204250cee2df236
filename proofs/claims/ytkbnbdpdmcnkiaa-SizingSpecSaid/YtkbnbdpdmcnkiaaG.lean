/- The walk of the reference's Prices. -/
import Derived.Test.YtkbnbdpdmcnkiaaF
import Derived.Test.YtkbnbdpdmcnkiaaO
namespace Go.Proofs.Ytkbnbdpdmcnkiaa
open Go.RowKit

set_option maxHeartbeats 400000 in
theorem rPrices_any (B n cap : Nat) (A : Option Addr) (xs : List Int) (st h : Int) (w : World) (hx : SI w B A n xs) (hB : B ≤ w.heap.size) (hn : n ≤ 16)
    (hX : Bd 1048576 (g xs) n) (hs0 : 0 ≤ st) (hs1 : st ≤ 1048576) (hh0 : 0 ≤ h) (hh1 : h ≤ 1048576) :
    Calls Try.prog 42 #[.slice A n cap, .int .i64 st, .int .i64 h] w fun e w' => ∃ A' c', e = .returned (.slice A' n c') ∧ SI w' w'.heap.size A' n ((prL st h (g xs) n).drop 1) ∧ Below w.heap.size w w' ∧ ∀ b off sp, A' = some ⟨b, off, sp⟩ → 0 < n → w.heap.size ≤ b := by
  have hxs := Lib.hid hx.len
  go_enter Try.func42, Try.ntmps42
  go_wp2
  go_loopw [7, 8] (fun f i wr => ∃ (t g0 c : Nat), t ≤ n ∧ i = .int .i64 t ∧ f = .slice (some ⟨g0, 0, none⟩) (t + 1) c ∧ OI wr w.heap.size (.slice (some ⟨g0, 0, none⟩) (t + 1) c) (t + 1) (prL st h (g xs) t) ∧ Below w.heap.size w wr) (fun _ i _ => n - (intOf i).toNat)
  case atStart => exact ⟨0, w.heap.size, 1, Nat.zero_le _, rfl, rfl, OI.lit w _ 1 [0] (Nat.le_refl _) (by omega) rfl rfl, (Below.refl _ _).alloc (Nat.le_refl _) _⟩
  case round =>
    obtain ⟨t, g0, c, ht, rfl, rfl, hown, hbl⟩ := hrel
    by_cases hlt : t < n
    · obtain ⟨b0, b1⟩ := prL_bd hX hn hs0 hs1 hh0 hh1 t ht
      obtain ⟨x0, hx0, hc0⟩ := hown.look (show 0 < t + 1 by omega)
      have hcap := hown.caps
      obtain ⟨c0, hc0'⟩ : ∃ c, Hid (btw st h (g xs) 0 (t + 1) = c) := ⟨_, Lib.hid rfl⟩
      have hcb := btw_bd hX hn hs0 hs1 hh0 hh1 0 (t + 1) (by omega)
      rw [hc0'.out] at hcb
      obtain ⟨hcb0, hcb1⟩ := hcb
      have hxb := b1 0 (by omega)
      rw [hx0.out] at hxb
      obtain ⟨hxb0, hxb1⟩ := hxb
      have hw1 : IntKind.i64.wrap (x0 + c0) = x0 + c0 := IntWalk.i64_in _ (by omega)
      have h61 : ∀ w1 : World, SI w1 B A n xs → Calls Try.prog 61 #[.slice A n cap, .int .i64 st, .int .i64 h, .int .i64 0, .int .i64 t] w1 fun e w' => e = .returned (.int .i64 c0) ∧ w1 = w' := fun w1 hh => by
        have := between_any B n cap A xs st h 0 t 0 t w1 hh hn hX hs0 hs1 hh0 hh1 rfl rfl (Nat.zero_le _) hlt
        rw [Nat.sub_zero, hc0'.out] at this
        exact this
      have H61 := Lib.hid h61
      clear h61
      have hx' := hx.below (hbl.mono hB)
      go_wp2_with fail
      go_quiet ((go_at_call 61; exact quiet_left (H61.out _ (hx'.drewN _))))
      clear hw1
      go_wp2_with fail
      obtain ⟨wo, hwo⟩ : ∃ wo : World, wo = wr.drewN nq := ⟨_, rfl⟩
      go_loopw [9, 10] (fun l i w2 => ∃ (j q : Nat) (L : Int), j ≤ t ∧ w2 = wr.drewN q ∧ i = .int .i64 ↑(j + 1) ∧ l = .int .i64 L ∧ Hid (leastL st h (g xs) (g (prL st h (g xs) t)) t j = L) ∧ 0 ≤ L ∧ L ≤ 1125899906842624) (fun _ i _ => t + 1 - (intOf i).toNat)
      case atStart => exact ⟨0, _, _, by omega, rfl, by simp, rfl, Lib.hid (by simp only [leastL]; rw [hx0.out, hc0'.out]), by omega, by omega⟩
      case round =>
        obtain ⟨j, q, L, hj, rfl, rfl, rfl, hL, hL0, hL1⟩ := hrel
        by_cases hjt : j < t
        · obtain ⟨x1, hx1, hc1⟩ := hown.look (show j + 1 < t + 1 by omega)
          obtain ⟨c1, hc1'⟩ : ∃ c, Hid (btw st h (g xs) (j + 1) (t + 1 - (j + 1)) = c) := ⟨_, Lib.hid rfl⟩
          have hcb := btw_bd hX hn hs0 hs1 hh0 hh1 (j + 1) (t + 1 - (j + 1)) (by omega)
          rw [hc1'.out] at hcb
          obtain ⟨hcb2, hcb3⟩ := hcb
          have hxb := b1 (j + 1) (by omega)
          rw [hx1.out] at hxb
          obtain ⟨hxb2, hxb3⟩ := hxb
          have h61' : ∀ (a : Int) (w1 : World), a = ((j + 1 : Nat) : Int) → SI w1 B A n xs → Calls Try.prog 61 #[.slice A n cap, .int .i64 st, .int .i64 h, .int .i64 a, .int .i64 t] w1 fun e w' => e = .returned (.int .i64 c1) ∧ w1 = w' := fun a w1 ha hh => by
            have := between_any B n cap A xs st h a t (j + 1) t w1 hh hn hX hs0 hs1 hh0 hh1 ha rfl (by omega) hlt
            rw [hc1'.out] at this
            exact this
          have H61' := Lib.hid h61'
          clear h61'
          have hk1 : ((j + 1 : Nat) : Int) < (t : Int) + 1 := by omega
          have hk2 : (0 : Int) ≤ ((j + 1 : Nat) : Int) := by omega
          have hk3 : (j : Int) + 1 < (t : Int) + 1 := by omega
          have hk4 : (0 : Int) ≤ (j : Int) + 1 := by omega
          have hk5 : ((j : Int) + 1).toNat = j + 1 := by omega
          have hw1 : IntKind.i64.wrap (x1 + c1) = x1 + c1 := IntWalk.i64_in _ (by omega)
          go_wp2_with fail
          go_quiet ((go_at_call 61; exact quiet_add_left (H61'.out _ _ (by simp) (hx'.drewN _))))
          clear hw1
          go_wp2_with fail
          go_roundw
          case rel =>
            refine ⟨j + 1, _, _, by omega, rfl, by go_num, rfl, Lib.hid ?_, ?_, ?_⟩
            · simp only [leastL]
              rw [hL.out, hx1.out, hc1'.out]
              split <;> omega
            · split <;> omega
            · split <;> omega
          case measure => simp [intOf]; omega
        · obtain rfl : j = t := by omega
          go_wp2_with (at_builtin; refine wpList_app1 rfl (.tmp 45) (.tmp 47) rfl _ w.heap.size _ _ _ L rfl rfl (hown.drewN q) (by omega) (by have := hbl.size; simpa using this) ?_; intro g' c' w4 hown4 hgr4)
          go_roundw
          case rel =>
            refine ⟨j + 1, g', c', by omega, by go_num, rfl, ?_, ?_⟩
            · have e : prL st h (g xs) (j + 1) = prL st h (g xs) j ++ [L] := by rw [← hL.out]; rfl
              rw [e]
              exact hown4
            · exact ((below_drewN hbl q).alloc (by have := hbl.size; simpa using this) _).grown hgr4 (by have := hbl.size; simp; omega) (fun k e => by cases e; exact hown.lt.1)
          case measure => simp [intOf]; omega
    · obtain rfl : t = n := by omega
      have hcap := hown.caps
      by_cases hc1 : c = 1
      · have ht0 : t = 0 := by omega
        have HT0 := Lib.hid ht0
        clear ht0
        go_wp2
        go_ret
        exact ⟨_, _, rfl, by rw [HT0.out]; exact SI.none_ (by simp [prL]), hbl, fun _ _ _ _ h => by have := HT0.out; omega⟩
      · go_wp2
        go_ret
        exact ⟨_, _, rfl, hown.drop1, hbl, fun b off sp e _ => by cases e; exact hown.lt.1⟩

end Go.Proofs.Ytkbnbdpdmcnkiaa
