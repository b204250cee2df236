/- SizingSets, walked. -/
import Derived.Test.YtkbnbdpdmcnkiaaCH
import Derived.Test.YtkbnbdpdmcnkiaaCA
import Derived.Test.YtkbnbdpdmcnkiaaAB
import Derived.Deep.QuietTactic
import Derived.BigQuiet
namespace Go.Proofs.Ytkbnbdpdmcnkiaa
open Go.RowKit

theorem low_bits (S n : Nat) (hS : S ≤ 65535) (hn : n ≤ 16) : bits .and .i64 (S : Int) ((2 : Int) ^ n - 1) = ((S % 2 ^ n : Nat) : Int) := by
  have h1 : (2 : Nat) ^ n ≤ 2 ^ 16 := Nat.pow_le_pow_right (by decide) hn
  have h2 : 0 < (2 : Nat) ^ n := Nat.pow_pos (by decide)
  have e : ((2 : Int) ^ n - 1) = ((2 ^ n - 1 : Nat) : Int) := by
    rw [Int.natCast_sub (by omega)]; simp
  rw [e, bits_and_i64 _ _ (by omega) (by omega), Nat.and_two_pow_sub_one_eq_mod]

theorem low_bits' (S n : Nat) (hS : S ≤ 65535) (hn : n ≤ 16) : bits .and .i64 (S : Int) (wrap64 (wrap64 ((2 : Int) ^ n) - 1)) = ((S % 2 ^ n : Nat) : Int) := by
  have h1 : (2 : Nat) ^ n ≤ 2 ^ 16 := Nat.pow_le_pow_right (by decide) hn
  have h2 : 0 < (2 : Nat) ^ n := Nat.pow_pos (by decide)
  have e : ((2 : Int) ^ n) = ((2 ^ n : Nat) : Int) := by simp
  have h3 : (1 : Int) ≤ (2 : Int) ^ n ∧ (2 : Int) ^ n ≤ 65536 := by rw [e]; omega
  have e1 : wrap64 ((2 : Int) ^ n) = (2 : Int) ^ n := by unfold wrap64; omega
  have e2 : wrap64 ((2 : Int) ^ n - 1) = (2 : Int) ^ n - 1 := by unfold wrap64; omega
  rw [e1, e2, low_bits S n hS hn]

/-- The lots of a possible set are valid, and cost at least what Size says. -/
theorem sets_law {xs : List Int} {s h : Int} (hv : vA xs s h = true) {T : Nat → Bool} (hp : pos (g xs) T xs.length) :
    okK xs (lotL T (g xs) xs.length xs.length) s h = true ∧ lex (szC xs s h) (bestS s h (g xs) xs.length) (costTo s h xs (lotL T (g xs) xs.length xs.length) xs.length) T := by
  obtain ⟨hn, hf, s0, s1, h0, h1⟩ := vA_all hv
  have hB : Bd 1048576 (g xs) xs.length := fun k _ => hf k
  have hvL : vL xs (lotL T (g xs) xs.length xs.length) = true := by
    rw [vL_iff]
    refine ⟨lotL_length _ _ _ _, fun k _ => ?_⟩
    have := lotL_bd (S := T) hB xs.length (Nat.le_refl _) k
    omega
  have hc := lots_cover (fun k => (hf k).1) T xs.length
  refine ⟨by simp only [okK, hv, hvL, hc, Bool.and_self], ?_⟩
  rw [lots_cost (fun k => (hf k).1) s h hp, szC_good hv]
  exact (best_law s h (g xs) (fun k => (hf k).1) xs.length hn).2.2 T hp
theorem sets_top {S B : Nat → Bool} {t : Nat} (ht : t < 16) (hnm : nm S 16 ≤ nm B 16) (hab : ∀ i, t < i → i < 16 → S i = B i) (hS : S t = true) (hB : B t = false) : False := by
  have h1 := bef_skip (S := S) (T := B) (k := t + 1) (fun i hi h16 => hab i (by omega) h16) (by omega)
  have h2 : bef S B (t + 1) = true := by simp only [bef, hS, hB]; simp
  rw [h2, bef_nm] at h1
  simp at h1
  omega

set_option maxHeartbeats 2000000 in
theorem sizingSets_any (n c : Nat) (A : Option Addr) (xs : List Int) (s h : Int) (S : Int) (w : World) (hx : SI w w.heap.size A n xs) (hc : n ≤ c) (S0 : 0 ≤ S) (S1 : S ≤ 65535) :
    Calls Try.prog 6 #[.slice A n c, .int .i64 s, .int .i64 h, .int .u16 S] w fun e w' => e = .returned (.bool true) ∧ Below w.heap.size w w' := by
  by_cases a1 : (16 : Int) < n
  · go_enter Try.func6, Try.ntmps6
    go_wp2_with fail
    refine (sane22_any w).mono ?_
    rintro e w1 ⟨rfl, hb1⟩
    go_wp2_with fail
    go_ret
    exact ⟨rfl, hb1⟩
  obtain ⟨S, rfl⟩ : ∃ S' : Nat, S = (S' : Int) := ⟨S.toNat, by omega⟩
  cases hv : vA xs s h
  · have HV := Lib.hid hv
    clear hv
    go_enter Try.func6, Try.ntmps6
    go_wp2_with fail
    refine (sane22_any w).mono ?_
    rintro e w1 ⟨rfl, hb1⟩
    go_wp2_with fail
    refine (Size_no (hx.step hb1) (by omega) hc HV.out).mono ?_
    rintro e w2 ⟨A1, c1, A2, c2, rfl, hb2⟩
    replace hb2 := hb1.trans (hb2.mono hb1.size)
    go_wp2_with fail
    go_ret
    exact ⟨rfl, hb2.alloc hb2.size _⟩
  obtain ⟨C, hC⟩ : ∃ C, szC xs s h = C := ⟨_, rfl⟩
  have hl := hx.len
  have HLB := Lib.hid (low_bits' S n (by omega) (by omega))
  have hNlt : S % 2 ^ n < 2 ^ n := Nat.mod_lt _ (Nat.pow_pos (by decide))
  have HV := Lib.hid hv
  have HC := Lib.hid hC
  have HL := Lib.hid hl
  clear hv hC hl
  go_enter Try.func6, Try.ntmps6
  go_wp2_with fail
  refine (sane22_any w).mono ?_
  rintro e w1 ⟨rfl, hb1⟩
  go_wp2_with fail
  refine (Size_yes (hx.step hb1) hc HV.out C HC.out).mono ?_
  rintro e w2 ⟨A1, c1, A2, c2, rfl, hL, hP, hb2⟩
  replace hb2 := hb1.trans (hb2.mono hb1.size)
  clear hb1 hP
  go_wp2_with fail
  rw [HLB.out]
  generalize S % 2 ^ n = N at *
  have hX := (vA_all HV.out).2.1
  refine (Of_any n c A xs N _ ((hx.step hb2).up _) (by omega) (fun k _ => hX k) (fun k => (hX k).1) hNlt).mono ?_
  clear hX
  rintro e w3 ⟨hb3, hof⟩
  have bx := (Blk.new w2 26 #[.slice A1 n c1, .int .i64 C, .slice A2 n c2]).below hb3 (by simp)
  replace hL := (hL.up (.cells #[.slice A1 n c1, .int .i64 C, .slice A2 n c2] 26)).step hb3
  replace hb3 := (hb2.alloc hb2.size _).trans (hb3.mono (by have := hb2.size; simp; omega))
  replace hx := hx.step hb3
  clear hb2
  rcases hof with ⟨hp, B, rfl, hB⟩ | ⟨hp, rfl⟩
  · replace hB := hB.SIv
    obtain ⟨T, hT⟩ : ∃ T, N.testBit = T := ⟨_, rfl⟩
    rw [hT] at hp hB
    have hlaw := sets_law HV.out (by rw [HL.out]; exact hp)
    rw [HL.out, HC.out] at hlaw
    obtain ⟨M, hM⟩ : ∃ M, costTo s h xs (lotL T (g xs) n n) n = M := ⟨_, rfl⟩
    rw [hM] at hlaw
    have hfn : ∀ k, 0 ≤ g xs k := fun k => ((vA_all HV.out).2.1 k).1
    have hbp := (best_law s h (g xs) hfn n (by omega)).1
    have e1 : costAns xs (lotL T (g xs) n n) s h xs.length = M := by simp only [costAns, hlaw.1, if_true, HL.out]; exact hM
    have HK := Lib.hid (And.intro e1 (congrArg errOf hlaw.1))
    have HLAW := Lib.hid hlaw.2
    have HP := Lib.hid hp
    have HBP := Lib.hid hbp
    have HLL : Hid (szL xs s h = lotL (bestS s h (g xs) n) (g xs) n n) := Lib.hid (by rw [szL_good HV.out, HL.out])
    have hge : C ≤ M := by have := hlaw.2; unfold lex at this; omega
    have HFN := Lib.hid hfn
    clear e1 hlaw hM hp hbp hT hNlt hfn
    have k0 : w3.cell? ⟨w2.heap.size, 0, none⟩ = some (.slice A1 n c1) := bx.cell 0
    have k1 : w3.cell? ⟨w2.heap.size, 1, none⟩ = some (.int .i64 C) := bx.cell 1
    go_wp2_with fail
    refine (Cost_at M 0 hx hB (by omega) (by omega) HK.out.1 HK.out.2).mono ?_
    rintro e w4 ⟨rfl, hb4⟩
    replace bx := bx.below hb4 bx.lt
    replace hL := hL.step hb4
    replace hB := hB.step hb4
    replace hb4 := hb3.trans (hb4.mono hb3.size)
    clear k0 k1 hx hb3
    have k0 : w4.cell? ⟨w2.heap.size, 0, none⟩ = some (.slice A1 n c1) := bx.cell 0
    have k1 : w4.cell? ⟨w2.heap.size, 1, none⟩ = some (.int .i64 C) := bx.cell 1
    have hnn : ((n : Int) != (n : Int)) = false := by simp
    by_cases hlt : C < M
    · go_wp2_with fail
      go_ret
      exact ⟨rfl, hb4⟩
    · obtain rfl : M = C := by omega
      go_wp2_with fail
      clear hnn
      go_loopw [15] (fun i wr => ∃ (k q : Nat), k ≤ n ∧ i = .int .i64 ((k : Int) - 1) ∧ wr = w4.drewN q ∧ Hid (∀ u, k ≤ u → u < n → T u = bestS s h (g xs) n u)) (fun i _ => (intOf i + 1).toNat)
      case atStart => exact ⟨n, 0, Nat.le_refl _, rfl, rfl, Lib.hid (fun u h1 h2 => by omega)⟩
      case round =>
        obtain ⟨k, q, hk, rfl, rfl, hall⟩ := hrel
        match k, hk, hall with
        | 0, hk, hall =>
          rw [show ((0 : Nat) : Int) - 1 = -1 from rfl]
          have hsame : Hid (lotL T (g xs) n n = szL xs s h) := Lib.hid (by
            rw [HLL.out]
            refine lotL_congr (fun i => ?_) (fun _ _ => rfl)
            by_cases hi : i < n
            · exact hall.out i (Nat.zero_le _) hi
            · rw [HP.out.1 i (by omega), HBP.out.1 i (by omega)])
          have H28 := Lib.hid (sameInts_any _ n n n c1 B A1 (lotL T (g xs) n n) (szL xs s h) _ (hB.drewN q) (hL.drewN q) (by omega))
          have h28 := H28.out
          rw [decide_eq_true hsame.out] at h28
          have H28' := Lib.hid h28
          clear h28 H28
          go_wp2_with fail
          refine H28'.out.mono ?_
          rintro e w' ⟨rfl, q', rfl⟩
          go_wp2_with fail
          go_ret
          exact ⟨rfl, below_drewN hb4 _⟩
        | k + 1, hk, hall =>
          rw [show ((k + 1 : Nat) : Int) - 1 = (k : Int) by omega]
          have hkn : k < n := hk
          have hk0 : (0 : Int) ≤ (k : Int) := by omega
          have hk1 : (k : Int) < (n : Int) := by omega
          have hk2 : ¬ (k : Int) < 0 := by omega
          obtain ⟨b, off, y, rfl, hb, hy, hyc⟩ := hB.look hkn
          obtain ⟨b', off', z, rfl, hb', hz, hzc⟩ := hL.look hkn
          have dy : Hid (y ≠ 0 ↔ T k = true) := Lib.hid (by rw [← hy.out]; exact lots_days HFN.out HP.out hkn)
          have dz : Hid (z ≠ 0 ↔ bestS s h (g xs) n k = true) := Lib.hid (by rw [← hz.out, HLL.out]; exact lots_days HFN.out HBP.out hkn)
          by_cases hy0 : y = 0
          · by_cases hz0 : z = 0
            · have hyb : (y != 0) = false := by simp [hy0]
              have hzb : (z != 0) = false := by simp [hz0]
              have HN : Hid (T k = bestS s h (g xs) n k) := Lib.hid (by
                have h1 : ¬ T k = true := fun e => (dy.out.2 e) hy0
                have h2 : ¬ bestS s h (g xs) n k = true := fun e => (dz.out.2 e) hz0
                rw [Bool.not_eq_true] at h1 h2
                rw [h1, h2])
              clear hy0 hz0
              go_wp2_with fail
              go_quiet (fail)
              go_wp2_with fail
              go_roundw
              case rel => exact ⟨k, _, by omega, by go_num, rfl, Lib.hid (fun u h1 h2 => by
                by_cases e : u = k
                · subst e; exact HN.out
                · exact hall.out u (by omega) h2)⟩
              case measure => simp [intOf]
            · have hyb : (y != 0) = false := by simp [hy0]
              have hzb : (z != 0) = true := by simp [hz0]
              clear hy0 hz0
              go_wp2_with fail
              go_quiet (fail)
              go_wp2_with fail
              go_ret
              exact ⟨rfl, below_drewN hb4 _⟩
          · by_cases hz0 : z = 0
            · exfalso
              have h1 : T k = true := dy.out.1 hy0
              have h2 : bestS s h (g xs) n k = false := by
                have h2 : ¬ bestS s h (g xs) n k = true := fun e => (dz.out.2 e) hz0
                rwa [Bool.not_eq_true] at h2
              have hl := HLAW.out
              refine sets_top (S := T) (B := bestS s h (g xs) n) (t := k) (by omega) (by unfold lex at hl; omega) (fun i h3 h4 => ?_) h1 h2
              by_cases hi : i < n
              · exact hall.out i (by omega) hi
              · rw [HP.out.1 i (by omega), HBP.out.1 i (by omega)]
            · have hyb : (y != 0) = true := by simp [hy0]
              have hzb : (z != 0) = true := by simp [hz0]
              have HN : Hid (T k = bestS s h (g xs) n k) := Lib.hid (by rw [dy.out.1 hy0, dz.out.1 hz0])
              clear hy0 hz0
              go_wp2_with fail
              go_quiet (fail)
              go_wp2_with fail
              go_roundw
              case rel => exact ⟨k, _, by omega, by go_num, rfl, Lib.hid (fun u h1 h2 => by
                by_cases e : u = k
                · subst e; exact HN.out
                · exact hall.out u (by omega) h2)⟩
              case measure => simp [intOf]
  · clear hp hNlt
    go_wp2_with fail
    go_ret
    exact ⟨rfl, hb3⟩
end Go.Proofs.Ytkbnbdpdmcnkiaa
