/- SizingPrices, walked. -/
import Derived.Test.YtkbnbdpdmcnkiaaDB
import Derived.Deep.QuietTactic
import Derived.BigQuiet
import Derived.Deep.DeepCutAuto
namespace Go.Proofs.Ytkbnbdpdmcnkiaa
open Go.RowKit

set_option maxRecDepth 100000 in
set_option maxHeartbeats 16000000 in
theorem sizingPrices_any (n c : Nat) (A : Option Addr) (xs : List Int) (s ho : Int) (first : Int) (w : World) (hx : SI w w.heap.size A n xs) (hc : n ≤ c) (f0 : 0 ≤ first) (f1 : first ≤ 255) :
    Calls Try.prog 7 #[.slice A n c, .int .i64 s, .int .i64 ho, .int .u8 first] w fun e w' => e = .returned (.bool true) ∧ Below w.heap.size w w' := by
  by_cases ha : (16 : Int) < n
  · go_enter Try.func7, Try.ntmps7
    go_wp2_with fail
    refine (sane22_any w).mono ?_
    rintro e w1 ⟨rfl, hb1⟩
    go_wp2_with fail
    go_ret
    exact ⟨rfl, hb1⟩
  cases hv : vA xs s ho
  · have HV := Lib.hid hv
    clear hv
    go_enter Try.func7, Try.ntmps7
    go_wp2_with fail
    refine (sane22_any w).mono ?_
    rintro e w1 ⟨rfl, hb1⟩
    go_wp2_with fail
    refine (Size_no (hx.step hb1) (by omega) hc HV.out).mono ?_
    rintro e w2 ⟨A1, c1, A2, c2, rfl, hb2⟩
    replace hb2 := hb1.trans (hb2.mono hb1.size)
    go_wp2_with fail
    go_ret
    exact ⟨rfl, hb2.alloc hb2.size _⟩
  obtain ⟨C, hC⟩ : ∃ C, szC xs s ho = C := ⟨_, rfl⟩
  obtain ⟨P, hPP⟩ : ∃ P, szP xs s ho = P := ⟨_, rfl⟩
  have hl := hx.len
  obtain ⟨_, hf, s0, s1, h0, h1⟩ := vA_all hv
  have hpf : ∀ d, d ≤ n → pF P d = bestC s ho (g xs) d := fun d hd => by rw [← hPP]; exact pF_szP hv (by omega)
  have hbd : ∀ d, d ≤ n → 0 ≤ pF P d ∧ pF P d ≤ 9007199254740992 := fun d hd => by rw [hpf d hd]; exact bestC_bd hv (by omega)
  have HV := Lib.hid hv
  have HC := Lib.hid hC
  have HPP := Lib.hid hPP
  have HL := Lib.hid hl
  have HF := Lib.hid hf
  have HPF := Lib.hid hpf
  have HBD := Lib.hid hbd
  clear hv hC hPP hl hf hpf hbd
  go_enter Try.func7, Try.ntmps7
  go_wp2_with fail
  refine (sane22_any w).mono ?_
  rintro e w1 ⟨rfl, hb1⟩
  go_wp2_with fail
  refine (Size_full (hx.step hb1) hc HV.out C HC.out P HPP.out).mono ?_
  rintro e w2 ⟨A1, c1, A2, c2, hroom, rfl, hP, hb2⟩
  replace hb2 := hb1.trans (hb2.mono hb1.size)
  clear hb1
  go_upto_region 8 with fail
  have bx := Blk.new w2 26 #[.slice A1 n c1, .int .i64 C, .slice A2 n c2]
  replace hP := hP.up (.cells #[.slice A1 n c1, .int .i64 C, .slice A2 n c2] 26)
  replace hb2 := hb2.alloc hb2.size (.cells #[.slice A1 n c1, .int .i64 C, .slice A2 n c2] 26)
  replace hx := hx.step hb2
  generalize w2.heap.size = bs at *
  generalize w2.alloc (.cells #[.slice A1 n c1, .int .i64 C, .slice A2 n c2] 26) = w0 at *
  have k2 : w0.cell? ⟨bs, 2, none⟩ = some (.slice A2 n c2) := bx.cell 2
  have hnn : ((n : Int) != (n : Int)) = false := by simp
  have hn16 : n ≤ 16 := by omega
  go_wp2_with fail
  clear hnn
  have HX := Lib.hid hx
  have HP := Lib.hid hP
  have BX := Lib.hid bx
  clear hP bx
  go_loop [44] (fun i => ∃ t : Nat, t ≤ n ∧ i = .int .i64 t) (fun i => n - (intOf i).toNat)
  case atStart => exact ⟨0, Nat.zero_le _, rfl⟩
  case round =>
    obtain ⟨t, ht, rfl⟩ := hrel
    by_cases hlt : t < n
    · obtain ⟨PT, hPT⟩ : ∃ PT, pF P (t + 1) = PT := ⟨_, rfl⟩
      have hb := HBD.out (t + 1) hlt
      rw [hPT] at hb
      obtain ⟨hPT0, hPT1⟩ := hb
      have CT := Lib.hid (priceS_any P (t + 1) BX.out HP.out (by omega) hlt PT hPT)
      rw [HPF.out _ hlt] at hPT
      have HPT := Lib.hid hPT
      clear hPT
      rw [show ((t + 1 : Nat) : Int) = (t : Int) + 1 from rfl] at CT
      go_wp2_with fail
      go_loop [13, 14] (fun m i => ∃ (f : Nat) (M : Bool), f ≤ t + 1 ∧ i = .int .i64 f ∧ m = .bool M ∧ Hid ((∃ q, q < f ∧ bestC s ho (g xs) (t + 1) = bestC s ho (g xs) q + btw s ho (g xs) q (t + 1 - q)) → M = true)) (fun _ i => t + 1 - (intOf i).toNat)
      case atStart => exact ⟨0, false, by omega, rfl, rfl, Lib.hid (fun ⟨q, hq, _⟩ => absurd hq (by omega))⟩
      case round =>
        obtain ⟨f, M, hf, rfl, rfl, hM⟩ := hrel
        by_cases hft : f ≤ t
        · obtain ⟨PF, hPF⟩ : ∃ PF, pF P f = PF := ⟨_, rfl⟩
          have hb := HBD.out f (by omega)
          rw [hPF] at hb
          obtain ⟨hPF0, hPF1⟩ := hb
          have CF := Lib.hid (priceS_any P f BX.out HP.out (by omega) (show f ≤ n by omega) PF hPF)
          rw [HPF.out f (by omega)] at hPF
          have HPF' := Lib.hid hPF
          clear hPF
          go_wp2_with fail
          go_loop [15, 16, 17] (fun c v i => ∃ (u : Nat) (C : Int) (V : Bool), f ≤ u ∧ u ≤ t + 1 ∧ i = .int .i64 u ∧ c = .int .i64 C ∧ v = .bool V ∧ Hid (btwN ho (g xs) f (u - f) = C) ∧ Hid (btwS (g xs) f (u - f) = V) ∧ 0 ≤ C ∧ C ≤ u * 17592186044416) (fun _ _ i => n - (intOf i).toNat)
          case atStart => exact ⟨f, 0, false, by omega, by omega, rfl, rfl, rfl, Lib.hid (by simp [btwN]), Lib.hid (by simp [btwS]), by omega, by omega⟩
          case round =>
            obtain ⟨u, K, V, hfu, hut, rfl, rfl, rfl, hK, hV, hK0, hK1⟩ := hrel
            by_cases hltu : u ≤ t
            · obtain ⟨b, off, x, rfl, hb, hxu, hcu⟩ := hx.look (show u < n by omega)
              have hx1 := HF.out u
              rw [hxu.out] at hx1
              obtain ⟨hx1, hx2⟩ := hx1
              have hm := mul_bd h0 h1 (show (0 : Int) ≤ (u : Int) - (f : Int) by omega) (show (u : Int) - (f : Int) ≤ 16 by omega)
              have hm' := mul_bd hm.1 (show ho * ((u : Int) - (f : Int)) ≤ 16777216 by omega) hx1 hx2
              obtain ⟨hm1, hm2⟩ := hm
              obtain ⟨hm3, hm4⟩ := hm'
              have e1 : Hid (u + 1 - f = (u - f) + 1) := Lib.hid (by omega)
              have e2 : Hid (f + (u - f) = u) := Lib.hid (by omega)
              have e3 : Hid (((u - f : Nat) : Int) = (u : Int) - (f : Int)) := Lib.hid (by omega)
              have hN : Hid (btwN ho (g xs) f (u + 1 - f) = K + ho * ((u : Int) - (f : Int)) * x) := Lib.hid (by rw [e1.out]; simp only [btwN]; rw [e2.out, e3.out, hK.out, hxu.out])
              have hS : Hid (btwS (g xs) f (u + 1 - f) = (V || (x != 0))) := Lib.hid (by rw [e1.out]; simp only [btwS]; rw [e2.out, hV.out, hxu.out])
              cases V
              · by_cases hx0 : x = 0
                · subst hx0
                  go_wp2_with fail
                  go_round
                  case rel => exact ⟨u + 1, _, _, by omega, by omega, by go_num, rfl, rfl, Lib.hid (by rw [hN.out]; simp), Lib.hid (by rw [hS.out]; rfl), by omega, by omega⟩
                  case measure => simp [intOf]; omega
                · have hxp : 0 < x := by omega
                  have HX0 := Lib.hid hx0
                  clear hx0
                  go_wp2_with fail
                  go_round
                  case rel => exact ⟨u + 1, _, _, by omega, by omega, by go_num, rfl, rfl, hN, Lib.hid (by rw [hS.out]; simp [HX0.out]), by omega, by omega⟩
                  case measure => simp [intOf]; omega
              · go_wp2_with fail
                go_round
                case rel => exact ⟨u + 1, _, _, by omega, by omega, by go_num, rfl, rfl, hN, Lib.hid (by rw [hS.out]; rfl), by omega, by omega⟩
                case measure => simp [intOf]; omega
            · obtain rfl : u = t + 1 := by omega
              obtain ⟨KB, hKB⟩ : ∃ KB, btw s ho (g xs) f (t + 1 - f) = KB := ⟨_, rfl⟩
              have hsum : KB = K + (if V = true then s else 0) := by rw [← hKB, btw_sum, hK.out, hV.out]
              have hge := best_ineqs s ho (fun k => (HF.out k).1) hn16 t f hft hlt
              rw [HPT.out, HPF'.out, hKB] at hge
              have HKB := Lib.hid hKB
              have hKB0 : 0 ≤ KB ∧ KB ≤ 17592186044416 * 18 := by rw [hsum]; split <;> omega
              clear hKB
              go_upto_if 78 with fail
              go_cut [15] (fun c wx => c = .int .i64 KB ∧ wx = w0)
              case first =>
                cases V
                · go_wp2_with fail
                  go_meet
                  exact ⟨by rw [hsum]; simp, rfl⟩
                · go_wp2_with fail
                  go_meet
                  exact ⟨by rw [hsum]; simp, rfl⟩
              case rest =>
              obtain ⟨rfl, hw⟩ := hcut
              subst hw
              clear hsum hK hV hK0 hK1
              have hlt0 : ¬ PF + KB < PT := by omega
              obtain ⟨hKB0, hKB1⟩ := hKB0
              cases M
              · by_cases heq : PF + KB = PT
                · have hbe : (PF + KB == PT) = true := by simp [heq]
                  go_wp2_with fail
                  refine CF.out.mono ?_
                  rintro e w' ⟨rfl, rfl⟩
                  go_wp2_with fail
                  refine CT.out.mono ?_
                  rintro e w' ⟨rfl, rfl⟩
                  go_wp2_with fail
                  refine CF.out.mono ?_
                  rintro e w' ⟨rfl, rfl⟩
                  go_wp2_with fail
                  refine CT.out.mono ?_
                  rintro e w' ⟨rfl, rfl⟩
                  go_wp2_with fail
                  go_round
                  case rel => exact ⟨f + 1, true, by omega, by go_num, rfl, Lib.hid (fun _ => rfl)⟩
                  case measure => simp [intOf]; omega
                · have hbe : (PF + KB == PT) = false := by simp [heq]
                  have HEQ := Lib.hid heq
                  clear heq
                  go_wp2_with fail
                  refine CF.out.mono ?_
                  rintro e w' ⟨rfl, rfl⟩
                  go_wp2_with fail
                  refine CT.out.mono ?_
                  rintro e w' ⟨rfl, rfl⟩
                  go_wp2_with fail
                  refine CF.out.mono ?_
                  rintro e w' ⟨rfl, rfl⟩
                  go_wp2_with fail
                  refine CT.out.mono ?_
                  rintro e w' ⟨rfl, rfl⟩
                  go_wp2_with fail
                  go_round
                  case rel => exact ⟨f + 1, false, by omega, by go_num, rfl, Lib.hid (fun ⟨q, hq, e⟩ => by
                    by_cases hqf : q = f
                    · subst hqf
                      rw [HPT.out, HPF'.out, HKB.out] at e
                      exact absurd e.symm HEQ.out
                    · exact hM.out ⟨q, by omega, e⟩)⟩
                  case measure => simp [intOf]; omega
              · go_wp2_with fail
                refine CF.out.mono ?_
                rintro e w' ⟨rfl, rfl⟩
                go_wp2_with fail
                refine CT.out.mono ?_
                rintro e w' ⟨rfl, rfl⟩
                go_wp2_with fail
                go_round
                case rel => exact ⟨f + 1, true, by omega, by go_num, rfl, Lib.hid (fun _ => rfl)⟩
                case measure => simp [intOf]; omega
        · obtain rfl : f = t + 1 := by omega
          obtain rfl : M = true := hM.out (by
            obtain ⟨q, h1, h2⟩ := (best_step s ho (g xs) (fun k => (HF.out k).1) t (by omega)).2
            exact ⟨q, by omega, h2⟩)
          go_wp2_with fail
          go_round
          case rel => exact ⟨t + 1, by omega, by go_num⟩
          case measure => simp [intOf]; omega
    · obtain rfl : n = t := by omega
      go_upto_region 33 with fail
      obtain ⟨k, hk, hkn⟩ : ∃ k : Nat, first % ((n : Int) + 1) = (k : Int) ∧ k ≤ n := by
        have h1 := Int.emod_nonneg first (show (n : Int) + 1 ≠ 0 by omega)
        have h2 := Int.emod_lt_of_pos first (show (0 : Int) < (n : Int) + 1 by omega)
        exact ⟨(first % ((n : Int) + 1)).toNat, (Int.toNat_of_nonneg h1).symm, by omega⟩
      rw [hk]
      clear hk
      have hkc : (k : Int) ≤ (c : Int) := by omega
      have hk0 : (0 : Int) ≤ (k : Int) := by omega
      obtain ⟨X, hXX⟩ : ∃ X, pF P k = X := ⟨_, rfl⟩
      have HXX := Lib.hid hXX
      have HCK : Hid (szC (xs.take k) s ho = X) := Lib.hid (by rw [take_szC HV.out (by rw [HL.out]; exact hkn), HPP.out, hXX])
      have HPK : Hid (szP (xs.take k) s ho = P.take k) := Lib.hid (by rw [take_szP HV.out (by rw [HL.out]; exact hkn), HPP.out])
      clear hXX
      go_wp2_with fail
      refine (Size_full (HX.out.take hkn) (by omega) (take_vA HV.out k) X HCK.out _ HPK.out).mono ?_
      rintro e w4 ⟨A3, c3, A4, c4, hroom4, rfl, hP4, hb4⟩
      have bx4 := (BX.out.below hb4 BX.out.lt).alloc (.cells #[.slice A3 k c3, .int .i64 X, .slice A4 k c4] 26)
      have bn := Blk.new w4 26 #[.slice A3 k c3, .int .i64 X, .slice A4 k c4]
      replace hP4 := hP4.up (.cells #[.slice A3 k c3, .int .i64 X, .slice A4 k c4] 26)
      have hPq := ((HP.out.step hb4).up (.cells #[.slice A3 k c3, .int .i64 X, .slice A4 k c4] 26))
      replace hb2 := (hb2.trans (hb4.mono hb2.size)).alloc (by have := hb2.size; have := hb4.size; omega) (.cells #[.slice A3 k c3, .int .i64 X, .slice A4 k c4] 26)
      go_upto_region 34 with fail
      generalize w4.alloc (.cells #[.slice A3 k c3, .int .i64 X, .slice A4 k c4] 26) = w5 at *
      generalize w4.heap.size = bq at *
      have p1 : ∀ q, Calls Try.prog 29 #[.int .i64 k, .pointer (some ⟨bs, 0, none⟩)] (w5.drewN q) fun e w' => e = .returned (.int .i64 X) ∧ w5.drewN q = w' := fun q => priceS_any P k (bx4.drewN q) (hPq.drewN q) (by omega) hkn X HXX.out
      have p2 : ∀ (q cc : Nat), Calls Try.prog 28 #[.slice A4 k c4, .slice A2 k cc] (w5.drewN q) fun e w' => e = .returned (.bool true) ∧ ∃ q', (w5.drewN q).drewN q' = w' := fun q cc => by
        have := sameInts_any _ k c4 k cc A4 A2 (P.take k) (P.take k) _ (hP4.drewN q) ((hPq.take hkn).drewN q) (by omega)
        rw [decide_eq_true rfl] at this
        exact this
      have P1 := Lib.hid (fun q => quiet_left (p1 q))
      have P2 : Hid (∀ (q cc : Nat), Calls Try.prog 28 #[.slice A4 k c4, .slice A2 k cc] (w5.drewN q) fun e w' => e = .returned (.bool true) ∧ ∃ m, w' = w5.drewN m) := Lib.hid (fun q cc => (p2 q cc).mono fun _ _ ⟨he, q', hq⟩ => ⟨he, q + q', by rw [← hq, World.drewN_drewN]⟩)
      have d1 : w5.cell? ⟨bq, 1, none⟩ = some (.int .i64 X) := bn.cell 1
      have d2 : w5.cell? ⟨bq, 2, none⟩ = some (.slice A4 k c4) := bn.cell 2
      have d3 : w5.cell? ⟨bs, 2, none⟩ = some (.slice A2 n c2) := bx4.cell 2
      have hk2 : (k : Int) ≤ (c2 : Int) := by omega
      have g0 : ((0 : Int) == 0) = true := rfl
      have g1 : (X == X) = true := by simp
      clear p1 p2 bn bx4 hroom hroom4 hkc f0 f1
      go_quiet (first | with_reducible exact P1.out _ | with_reducible exact P2.out _ _)
      go_wp2_with fail
      go_ret
      exact ⟨rfl, below_drewN hb2 _⟩
end Go.Proofs.Ytkbnbdpdmcnkiaa
