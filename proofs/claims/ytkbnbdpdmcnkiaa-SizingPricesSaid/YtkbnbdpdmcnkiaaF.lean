/- The walks of the reference's Between and Prices. -/
import Derived.Test.YtkbnbdpdmcnkiaaE
namespace Go.Proofs.Ytkbnbdpdmcnkiaa
open Go.RowKit

set_option maxHeartbeats 400000 in
theorem between_any (B n cap : Nat) (A : Option Addr) (xs : List Int) (st h a b : Int) (s t : Nat) (w : World) (hx : SI w B A n xs) (hn : n ≤ 16)
    (hX : ∀ k, k < n → 0 ≤ g xs k ∧ g xs k ≤ 1048576) (hs0 : 0 ≤ st) (hs1 : st ≤ 1048576) (hh0 : 0 ≤ h) (hh1 : h ≤ 1048576) (ha : a = (s : Int)) (hb : b = (t : Int)) (hst : s ≤ t) (ht : t < n) :
    Calls Try.prog 61 #[.slice A n cap, .int .i64 st, .int .i64 h, .int .i64 a, .int .i64 b] w fun e w' => e = .returned (.int .i64 (btw st h (g xs) s (t + 1 - s))) ∧ w = w' := by
  subst ha
  subst hb
  have HX := Lib.hid hX
  clear hX
  go_enter Try.func61, Try.ntmps61
  go_wp2
  go_loop [11, 12, 13] (fun c v i => ∃ (u : Nat) (C : Int) (V : Bool), s ≤ u ∧ u ≤ t + 1 ∧ i = .int .i64 u ∧ c = .int .i64 C ∧ v = .bool V ∧ Hid (btwN h (g xs) s (u - s) = C) ∧ Hid (btwS (g xs) s (u - s) = V) ∧ 0 ≤ C ∧ C ≤ u * 17592186044416) (fun _ _ i => n - (intOf i).toNat)
  case atStart => exact ⟨s, 0, false, by omega, by omega, rfl, rfl, rfl, Lib.hid (by simp [btwN]), Lib.hid (by simp [btwS]), by omega, by omega⟩
  case round =>
    obtain ⟨u, C, V, hsu, hut, rfl, rfl, rfl, hC, hV, hC0, hC1⟩ := hrel
    by_cases hlt : u ≤ t
    · obtain ⟨b, off, x, rfl, hb, hx, hc⟩ := hx.look (show u < n by omega)
      have hx1 := HX.out u (by omega)
      rw [hx.out] at hx1
      obtain ⟨hx1, hx2⟩ := hx1
      have hm := mul_bd hh0 hh1 (show (0 : Int) ≤ (u : Int) - (s : Int) by omega) (show (u : Int) - (s : Int) ≤ 16 by omega)
      have hm' := mul_bd hm.1 (show h * ((u : Int) - (s : Int)) ≤ 16777216 by omega) hx1 hx2
      obtain ⟨hm1, hm2⟩ := hm
      obtain ⟨hm3, hm4⟩ := hm'
      have e1 : Hid (u + 1 - s = (u - s) + 1) := Lib.hid (by omega)
      have e2 : Hid (s + (u - s) = u) := Lib.hid (by omega)
      have e3 : Hid (((u - s : Nat) : Int) = (u : Int) - (s : Int)) := Lib.hid (by omega)
      have hN : Hid (btwN h (g xs) s (u + 1 - s) = C + h * ((u : Int) - (s : Int)) * x) := Lib.hid (by rw [e1.out]; simp only [btwN]; rw [e2.out, e3.out, hC.out, hx.out])
      have hS : Hid (btwS (g xs) s (u + 1 - s) = (V || (x != 0))) := Lib.hid (by rw [e1.out]; simp only [btwS]; rw [e2.out, hV.out, hx.out])
      cases V
      · by_cases hx0 : x = 0
        · have hxb : (x != 0) = false := by simp [hx0]
          have HX0 := Lib.hid hx0
          clear hx0
          go_wp2
          go_round
          case rel => exact ⟨u + 1, _, _, by omega, by omega, by go_num, rfl, rfl, hN, Lib.hid (by rw [hS.out, HX0.out]; rfl), by omega, by omega⟩
          case measure => simp [intOf]; omega
        · have hxb : (x != 0) = true := by simp [hx0]
          have HX0 := Lib.hid hx0
          clear hx0
          go_wp2
          go_round
          case rel => exact ⟨u + 1, _, _, by omega, by omega, by go_num, rfl, rfl, hN, Lib.hid (by rw [hS.out]; simp [HX0.out]), by omega, by omega⟩
          case measure => simp [intOf]; omega
      · go_wp2
        go_round
        case rel => exact ⟨u + 1, _, _, by omega, by omega, by go_num, rfl, rfl, hN, Lib.hid (by rw [hS.out]; rfl), by omega, by omega⟩
        case measure => simp [intOf]; omega
    · obtain rfl : u = t + 1 := by omega
      have hN := hC.out
      have hS := hV.out
      have HR : Hid (btw st h (g xs) s (t + 1 - s) = if V = true then C + st else 0) := Lib.hid (by simp only [btw, hS, hN])
      clear hN hS
      cases V
      · go_wp2
        go_ret
        exact ⟨ret_int HR.out.symm, rfl⟩
      · go_wp2
        go_ret
        exact ⟨ret_int HR.out.symm, rfl⟩

end Go.Proofs.Ytkbnbdpdmcnkiaa
