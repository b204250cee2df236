/- The walk of the reference's Of. -/
import Derived.Test.YtkbnbdpdmcnkiaaCG
import Derived.Test.YtkbnbdpdmcnkiaaCX
import Derived.RegionTactic
namespace Go.Proofs.Ytkbnbdpdmcnkiaa
open Go.RowKit

/-- What Of answers for a set. -/
def OfPost (f : Nat → Int) (T : Nat → Bool) (n : Nat) (w : World) (e : Ending) (w' : World) : Prop :=
  Below w.heap.size w w' ∧ ((pos f T n ∧ ∃ A, e = .returned (.tuple #[.slice A n n, .bool true]) ∧ OI w' w.heap.size (.slice A n n) n (lotL T f n n)) ∨ (¬ pos f T n ∧ e = .returned (.tuple #[.slice none 0 0, .bool false])))
theorem OfPost.no {f : Nat → Int} {T : Nat → Bool} {n : Nat} {w w' : World} (h1 : ¬ pos f T n) (h2 : Below w.heap.size w w') : OfPost f T n w (.returned (.tuple #[.slice none 0 0, .bool false])) w' := ⟨h2, .inr ⟨h1, rfl⟩⟩
theorem OfPost.yes {f : Nat → Int} {T : Nat → Bool} {n : Nat} {w w' : World} {A : Option Addr} (h1 : pos f T n) (h2 : Below w.heap.size w w') (h3 : OI w' w.heap.size (.slice A n n) n (lotL T f n n)) : OfPost f T n w (.returned (.tuple #[.slice A n n, .bool true])) w' := ⟨h2, .inl ⟨h1, A, rfl, h3⟩⟩

theorem OI.drew_ {w : World} {base n : Nat} {v : Value} {xs : List Int} (h : OI w base v n xs) : OI w.drew base v n xs := h

set_option maxHeartbeats 2000000 in
theorem Of_any (n cap : Nat) (A : Option Addr) (xs : List Int) (N : Nat) (w : World) (hx : SI w w.heap.size A n xs) (hn : n ≤ 16) (hX : Bd 1048576 (g xs) n) (hf : ∀ k, 0 ≤ g xs k) (hN : N < 2 ^ n) :
    Calls Try.prog 27 #[.slice A n cap, .int .i64 N] w (OfPost (g xs) N.testBit n w) := by
  have hN16 : N < 65536 := Nat.lt_of_lt_of_le hN (Nat.pow_le_pow_right (n := 2) (by decide) hn)
  have HT := Lib.hid (bits_high hN)
  have HX := Lib.hid hX
  have HF := Lib.hid hf
  have HB := Lib.hid (fun k => bit_test N k hN16)
  have hNI : (N : Int) ≤ 65535 := by omega
  clear hN hX hf hN16
  generalize N.testBit = T at *
  go_enter Try.func27, Try.ntmps27
  go_wp2_with (refine wpList_make22 rfl (.tmp 11) (.tmp 11) rfl _ w.heap.size n rfl rfl (by omega) (by simp) ?_
               intro wm hm hgm)
  have hbm : Below w.heap.size w wm := (Below.refl _ _).grown hgm (Nat.le_refl _) (fun k e => by cases e)
  go_loopw [7, 8] (fun d i wr => ∃ (k : Nat) (L : Int), k ≤ n ∧ i = .int .i64 k ∧ d = .int .i64 L ∧ Hid (lastI T k = L) ∧ -1 ≤ L ∧ L < k ∧ OI wr w.heap.size (.slice (some ⟨w.heap.size, 0, none⟩) n n) n (lotL T (g xs) n k) ∧ Below w.heap.size w wr ∧ Hid (∀ t, t < k → g xs t ≠ 0 → ∃ i, i ≤ t ∧ T i = true)) (fun _ i _ => n - (intOf i).toNat)
  case atStart => exact ⟨0, -1, Nat.zero_le _, rfl, rfl, Lib.hid rfl, by omega, by omega, hm, hbm, Lib.hid (fun t ht => by omega)⟩
  case round =>
    obtain ⟨k, L, hk, rfl, rfl, hL, hL0, hL1, hown, hbl, hcov⟩ := hrel
    by_cases hlt : k < n
    · obtain ⟨b, off, x, rfl, hb, hxx, hc⟩ := (hx.below hbl).look hlt
      have hxb := HX.out k hlt
      rw [hxx.out] at hxb
      obtain ⟨hx0, hx1⟩ := hxb
      have hbit := HB.out k
      have h16 : (k : Int) < 16 := by omega
      have hkn : (k : Int) < (n : Int) := by omega
      have hk0 : (0 : Int) ≤ (k : Int) := by omega
      cases hT : T k
      · have hLn : Hid (lastI T (k + 1) = L) := Lib.hid (by rw [lastI, if_neg (by rw [hT]; decide), hL.out])
        rw [hT] at hbit
        clear hT
        by_cases hxz : x = 0
        · have hxbb : (x != 0) = false := by simp [hxz]
          have HXZ := Lib.hid hxz
          clear hxz
          have hN : Hid (lotL T (g xs) n (k + 1) = lotL T (g xs) n k) := Lib.hid (lotL_zero hlt (by rw [hxx.out]; exact HXZ.out))
          go_wp2
          go_roundw
          case rel => exact ⟨k + 1, L, by omega, by go_num, rfl, hLn, hL0, by omega, by rw [hN.out]; exact hown, hbl, Lib.hid (fun t ht hft => by
            by_cases e : t = k
            · subst e; rw [hxx.out] at hft; exact absurd HXZ.out hft
            · exact hcov.out t (by omega) hft)⟩
          case measure => simp [intOf]; omega
        · have hxbb : (x != 0) = true := by simp [hxz]
          have HXZ := Lib.hid hxz
          clear hxz
          by_cases hLneg : L < 0
          · go_wp2
            go_ret2
            refine OfPost.no (fun hp => ?_) hbl
            obtain ⟨i, h1, h2⟩ := hp.2.1 k hlt (by rw [hxx.out]; exact HXZ.out)
            rcases lastI_cases T (k + 1) with ⟨_, h3⟩ | ⟨h3, _⟩
            · rw [h3 i (by omega)] at h2; cases h2
            · rw [hLn.out] at h3; omega
          · obtain ⟨D, hD, hday⟩ : ∃ D : Nat, L = (D : Int) ∧ Hid (lotD T (k + 1) = D ∧ ∃ i, i ≤ k ∧ T i = true) := by
              rcases lastI_cases T (k + 1) with ⟨h3, _⟩ | ⟨h3, h4, i, h5, h6⟩
              · rw [hLn.out] at h3; omega
              · rw [hLn.out] at h3
                exact ⟨_, h3, Lib.hid ⟨rfl, i, by omega, h6⟩⟩
            subst hD
            obtain ⟨y, hy, hyc⟩ := hown.look (show D < n by omega)
            have hyb := lotL_bd (S := T) HX.out k hk D
            rw [hy.out] at hyb
            obtain ⟨hy0, hy1⟩ := hyb
            have hyf := (World.ownsRow.frozenAt hown) D
            have hDn : (D : Int) < (n : Int) := by omega
            have hD0 : (0 : Int) ≤ (D : Int) := by omega
            have HST := Lib.hid (hown.stored D (y + x))
            have hN : Hid (lotL T (g xs) n (k + 1) = (lotL T (g xs) n k).set D (y + x)) := Lib.hid (by rw [lotL, hday.out.1, hy.out, hxx.out])
            go_wp2
            go_region
            all_goals go_wp2
            all_goals go_roundw
            case rel => exact ⟨k + 1, D, by omega, by go_num, rfl, hLn, by omega, by omega, by rw [hN.out]; exact HST.out.drew_, below_drewN (hbl.setCell (p := ⟨w.heap.size, D, none⟩) (Nat.le_refl _) _) 1, Lib.hid (fun t ht hft => by
              by_cases e : t = k
              · subst e; exact hday.out.2
              · exact hcov.out t (by omega) hft)⟩
            case measure => simp [intOf]; omega
      · have hLn : Hid (lastI T (k + 1) = (k : Int)) := Lib.hid (by rw [lastI, if_pos hT])
        have hDn : Hid (lotD T (k + 1) = k) := Lib.hid (by rw [lotD, if_pos hT])
        have HTk := Lib.hid hT
        rw [hT] at hbit
        clear hT
        by_cases hxz : x = 0
        · have hxbb : (x != 0) = false := by simp [hxz]
          have HXZ := Lib.hid hxz
          clear hxz
          have hN : Hid (lotL T (g xs) n (k + 1) = lotL T (g xs) n k) := Lib.hid (lotL_zero hlt (by rw [hxx.out]; exact HXZ.out))
          go_wp2
          go_roundw
          case rel => exact ⟨k + 1, k, by omega, by go_num, rfl, hLn, by omega, by omega, by rw [hN.out]; exact hown, hbl, Lib.hid (fun t ht hft => by
            by_cases e : t = k
            · subst e; rw [hxx.out] at hft; exact absurd HXZ.out hft
            · exact hcov.out t (by omega) hft)⟩
          case measure => simp [intOf]; omega
        · have hxbb : (x != 0) = true := by simp [hxz]
          have HXZ := Lib.hid hxz
          clear hxz
          obtain ⟨y, hy, hyc⟩ := hown.look (show k < n by omega)
          have hyb := lotL_bd (S := T) HX.out k hk k
          rw [hy.out] at hyb
          obtain ⟨hy0, hy1⟩ := hyb
          have hyf := (World.ownsRow.frozenAt hown) k
          have HST := Lib.hid (hown.stored k (y + x))
          have hN : Hid (lotL T (g xs) n (k + 1) = (lotL T (g xs) n k).set k (y + x)) := Lib.hid (by rw [lotL, hDn.out, hy.out, hxx.out])
          go_wp2
          go_region
          all_goals go_wp2
          all_goals go_roundw
          case rel => exact ⟨k + 1, k, by omega, by go_num, rfl, hLn, by omega, by omega, by rw [hN.out]; exact HST.out.drew_, below_drewN (hbl.setCell (p := ⟨w.heap.size, k, none⟩) (Nat.le_refl _) _) 1, Lib.hid (fun t ht hft => by
            by_cases e : t = k
            · subst e; exact ⟨t, Nat.le_refl _, HTk.out⟩
            · exact hcov.out t (by omega) hft)⟩
          case measure => simp [intOf]; omega
    · obtain rfl : k = n := by omega
      go_wp2
      obtain ⟨wo, hwo⟩ : ∃ wo : World, wo = wr := ⟨_, rfl⟩
      subst hwo
      go_loop [9] (fun i => ∃ t : Nat, t ≤ k ∧ i = .int .i64 t ∧ Hid (∀ u, u < t → T u = true → g (lotL T (g xs) k k) u ≠ 0)) (fun i => k - (intOf i).toNat)
      case atStart => exact ⟨0, Nat.zero_le _, rfl, Lib.hid (fun u hu => by omega)⟩
      case round =>
        obtain ⟨t, ht, rfl, hall⟩ := hrel
        by_cases htk : t < k
        · obtain ⟨y, hy, hyc⟩ := hown.look htk
          have hbit := HB.out t
          have h16 : (t : Int) < 16 := by omega
          cases hT : T t
          · have HTt := Lib.hid hT
            rw [hT] at hbit
            clear hT
            go_wp2
            go_round
            case rel => exact ⟨t + 1, by omega, by go_num, Lib.hid (fun u hu hTu => by
              by_cases e : u = t
              · subst e; rw [HTt.out] at hTu; cases hTu
              · exact hall.out u (by omega) hTu)⟩
            case measure => simp [intOf]; omega
          · have HTt := Lib.hid hT
            rw [hT] at hbit
            clear hT
            by_cases hy0 : y = 0
            · have hyb : (y == 0) = true := by simp [hy0]
              have HY0 := Lib.hid hy0
              clear hy0
              go_wp2
              go_ret2
              refine OfPost.no (fun hp => ?_) hbl
              exact ((lots_days HF.out hp htk).2 HTt.out) (by rw [hy.out]; exact HY0.out)
            · have hyb : (y == 0) = false := by simpa using hy0
              have HY0 := Lib.hid hy0
              clear hy0
              go_wp2
              go_round
              case rel => exact ⟨t + 1, by omega, by go_num, Lib.hid (fun u hu hTu => by
                by_cases e : u = t
                · subst e; rw [hy.out]; exact HY0.out
                · exact hall.out u (by omega) hTu)⟩
              case measure => simp [intOf]; omega
        · obtain rfl : t = k := by omega
          go_wp2
          go_ret2
          exact OfPost.yes (pos_of HT.out hcov.out hall.out) hbl hown

end Go.Proofs.Ytkbnbdpdmcnkiaa
