/- SizingFree, walked. -/
import Derived.Test.YtkbnbdpdmcnkiaaAB
import Derived.Test.YtkbnbdpdmcnkiaaCA
namespace Go.Proofs.Ytkbnbdpdmcnkiaa
open Go.RowKit

/-- The first day with a requirement, or -1. -/
def fstD (f : Nat → Int) : Nat → Int
  | 0 => -1
  | k + 1 => if fstD f k < 0 then (if f k = 0 then -1 else (k : Int)) else fstD f k
theorem fstD_cases (f : Nat → Int) (n : Nat) : (fstD f n = -1 ∧ ∀ i, i < n → f i = 0) ∨ ∃ a : Nat, a < n ∧ fstD f n = (a : Int) ∧ f a ≠ 0 ∧ ∀ i, i < a → f i = 0 := by
  induction n with
  | zero => exact .inl ⟨rfl, fun i hi => by omega⟩
  | succ n ih =>
    rcases ih with ⟨h1, h2⟩ | ⟨a, h1, h2, h3, h4⟩
    · rw [fstD, if_pos (by omega)]
      by_cases e : f n = 0
      · rw [if_pos e]
        exact .inl ⟨rfl, fun i hi => by
          by_cases e' : i = n
          · subst e'; exact e
          · exact h2 i (by omega)⟩
      · rw [if_neg e]
        exact .inr ⟨n, by omega, rfl, e, h2⟩
    · rw [fstD, if_neg (by omega)]
      exact .inr ⟨a, by omega, h2, h3, h4⟩
theorem fstD_bd (f : Nat → Int) (n : Nat) : -1 ≤ fstD f n ∧ fstD f n < n := by
  rcases fstD_cases f n with ⟨h1, _⟩ | ⟨a, h1, h2, _⟩ <;> omega
theorem fstD_new {f : Nat → Int} {k : Nat} (h1 : fstD f k < 0) (h2 : 0 < f k) : fstD f (k + 1) = k := by rw [fstD, if_pos h1, if_neg (by omega)]
theorem fstD_old {f : Nat → Int} {k : Nat} (h1 : 0 ≤ fstD f k) : fstD f (k + 1) = fstD f k := by rw [fstD, if_neg (by omega)]
theorem fstD_zero {f : Nat → Int} {k : Nat} (h1 : f k = 0) : fstD f (k + 1) = fstD f k := by
  by_cases h : fstD f k < 0
  · have := (fstD_bd f k).1; rw [fstD, if_pos h, if_pos h1]; omega
  · exact fstD_old (by omega)

theorem free_a {xs : List Int} {c : Int} (hv : vA xs c 0 = true) (hc : 0 < c) :
    (∀ j, g (szL xs c 0) j = if (j : Int) = fstD (g xs) xs.length then pS (g xs) xs.length else 0) ∧ szC xs c 0 = if 0 ≤ fstD (g xs) xs.length then c else 0 := by
  obtain ⟨hn, hf, _⟩ := vA_all hv
  rw [szL_good hv, szC_good hv]
  rcases fstD_cases (g xs) xs.length with ⟨h1, h2⟩ | ⟨a, h1, h2, h3, h4⟩
  · have := free_none (st := c) (h := 0) (fun k => (hf k).1) (by omega) (by omega) hn h2
    rw [h1]
    exact ⟨fun j => by rw [if_neg (by omega)]; exact this.2 j, by rw [if_neg (by omega)]; exact this.1⟩
  · have := free_hold (st := c) (fun k => (hf k).1) hc hn h1 h3 h4
    rw [h2]
    refine ⟨fun j => ?_, by rw [if_pos (by omega)]; exact this.1⟩
    rw [this.2 j]
    by_cases e : j = a
    · rw [if_pos e, if_pos (by omega)]
    · rw [if_neg e, if_neg (by omega)]
theorem free_b {xs : List Int} {c : Int} (hv : vA xs 0 c = true) (hc : 0 < c) : szL xs 0 c = xs ∧ szC xs 0 c = 0 := by
  obtain ⟨hn, hf, _⟩ := vA_all hv
  have := free_setup (h := c) (fun k => (hf k).1) hc hn
  rw [szC_good hv]
  refine ⟨?_, this.1⟩
  refine same_take (szL_len hv) rfl (fun j hj => ?_)
  rw [szL_good hv]
  exact this.2 j hj
theorem vA_free (xs : List Int) (c : Int) : vA xs c 0 = vA xs 0 c := by
  simp [vA, inB, Bool.and_comm]
theorem pS_bd {f : Nat → Int} (hf : ∀ k, 0 ≤ f k ∧ f k ≤ 1048576) (k : Nat) : 0 ≤ pS f k ∧ pS f k ≤ k * 1048576 := by
  induction k with
  | zero => exact ⟨Int.le_refl _, by simp [pS]⟩
  | succ k ih => have := hf k; rw [pS]; omega

set_option maxHeartbeats 1000000 in
theorem sizingFree_any (n c : Nat) (A : Option Addr) (xs : List Int) (s : Int) (w : World) (hx : SI w w.heap.size A n xs) (hn : n ≤ 9223372036854775807) (hc : n ≤ c) :
    Calls Try.prog 9 #[.slice A n c, .int .i64 s] w fun e w' => e = .returned (.bool true) ∧ Below w.heap.size w w' := by
  by_cases a1 : (16 : Int) < n
  · go_enter Try.func9, Try.ntmps9
    go_wp2_with fail
    refine (sane22_any w).mono ?_
    rintro e w1 ⟨rfl, hb1⟩
    go_wp2_with fail
    go_ret
    exact ⟨rfl, hb1⟩
  cases hv : vA xs s 0
  · have hv' := vA_free xs s
    rw [hv] at hv'
    have HV := Lib.hid (And.intro hv hv'.symm)
    clear hv hv'
    go_enter Try.func9, Try.ntmps9
    go_wp2_with fail
    refine (sane22_any w).mono ?_
    rintro e w1 ⟨rfl, hb1⟩
    go_wp2_with fail
    refine (Size_no (hx.step hb1) (by omega) hc HV.out.1).mono ?_
    rintro e w2 ⟨A1, c1, A2, c2, rfl, hb2⟩
    replace hb2 := hb1.trans (hb2.mono hb1.size)
    clear hb1
    go_wp2_with fail
    refine (Size_no ((hx.step hb2).up _) (by omega) hc HV.out.2).mono ?_
    rintro e w3 ⟨A3, c3, A4, c4, rfl, hb3⟩
    replace hb3 := (hb2.alloc hb2.size _).trans (hb3.mono (by have := hb2.size; simp; omega))
    go_wp2_with fail
    go_ret
    exact ⟨rfl, hb3.alloc hb3.size _⟩
  · have hl := hx.len
    have hv' : vA xs 0 s = true := (vA_free xs s).symm.trans hv
    obtain ⟨_, hf, s0, s1, _⟩ := vA_all hv
    by_cases hz : s = 0
    · have HV := Lib.hid (And.intro hv hv')
      have HF := Lib.hid hf
      have HL := Lib.hid hl
      clear hv hv' hf hl
      subst hz
      go_enter Try.func9, Try.ntmps9
      go_wp2_with fail
      refine (sane22_any w).mono ?_
      rintro e w1 ⟨rfl, hb1⟩
      go_wp2_with fail
      refine (Size_yes (hx.step hb1) hc HV.out.1 _ rfl).mono ?_
      rintro e w2 ⟨A1, c1, A2, c2, rfl, _, _, hb2⟩
      replace hb2 := hb1.trans (hb2.mono hb1.size)
      clear hb1
      go_wp2_with fail
      refine (Size_yes ((hx.step hb2).up _) hc HV.out.2 _ rfl).mono ?_
      rintro e w3 ⟨A3, c3, A4, c4, rfl, _, _, hb3⟩
      replace hb3 := (hb2.alloc hb2.size _).trans (hb3.mono (by have := hb2.size; simp; omega))
      go_wp2_with fail
      go_ret
      exact ⟨rfl, hb3.alloc hb3.size _⟩
    · have hz1 : (s == 0) = false := by simpa using hz
      have s2 : 0 < s := by omega
      have fa := free_a hv s2
      have fb := free_b hv' s2
      have fbd := fstD_bd (g xs) n
      have pbd := pS_bd hf n
      rw [hl] at fa
      obtain ⟨F, hF⟩ : ∃ F, fstD (g xs) n = F := ⟨_, rfl⟩
      obtain ⟨SS, hS⟩ : ∃ S, pS (g xs) n = S := ⟨_, rfl⟩
      obtain ⟨C, hC⟩ : ∃ C, (if 0 ≤ F then s else 0) = C := ⟨_, rfl⟩
      rw [hF, hS] at fa
      rw [hC] at fa
      rw [hF] at fbd
      rw [hS] at pbd
      have HV := Lib.hid (And.intro hv hv')
      have HF := Lib.hid hf
      have HL := Lib.hid hl
      have FA := Lib.hid fa
      have FB := Lib.hid fb
      have HS := Lib.hid hS
      have HFd := Lib.hid hF
      have HC := Lib.hid hC
      clear hv hv' hf hl fa fb hF hS hC hz
      go_enter Try.func9, Try.ntmps9
      go_wp2_with fail
      refine (sane22_any w).mono ?_
      rintro e w1 ⟨rfl, hb1⟩
      go_wp2_with fail
      refine (Size_yes (hx.step hb1) hc HV.out.1 C FA.out.2).mono ?_
      rintro e w2 ⟨A1, c1, A2, c2, rfl, hL, _, hb2⟩
      replace hb2 := hb1.trans (hb2.mono hb1.size)
      clear hb1
      go_wp2_with fail
      refine (Size_yes ((hx.step hb2).up _) hc HV.out.2 0 FB.out.2).mono ?_
      rintro e w3 ⟨A3, c3, A4, c4, rfl, hL', _, hb3⟩
      rw [FB.out.1] at hL'
      have bx := (Blk.new w2 26 #[.slice A1 n c1, .int .i64 C, .slice A2 n c2]).below hb3 (by simp)
      have hL3 := (hL.up (.cells #[.slice A1 n c1, .int .i64 C, .slice A2 n c2] 26)).step hb3
      replace hb3 := (hb2.alloc hb2.size _).trans (hb3.mono (by have := hb2.size; simp; omega))
      replace bx := bx.alloc (.cells #[.slice A3 n c3, .int .i64 0, .slice A4 n c4] 26)
      have by_ := Blk.new w3 26 #[.slice A3 n c3, .int .i64 0, .slice A4 n c4]
      have hB := hb3.alloc hb3.size (.cells #[.slice A3 n c3, .int .i64 0, .slice A4 n c4] 26)
      replace hL3 := hL3.up (.cells #[.slice A3 n c3, .int .i64 0, .slice A4 n c4] 26)
      replace hL' := hL'.up (.cells #[.slice A3 n c3, .int .i64 0, .slice A4 n c4] 26)
      replace hx := hx.step hB
      go_wp2_with fail
      generalize hW0 : w3.alloc (.cells #[.slice A3 n c3, .int .i64 0, .slice A4 n c4] 26) = W0 at *
      have HW0 := Lib.hid hW0
      clear hW0
      have k0 : W0.cell? ⟨w2.heap.size, 0, none⟩ = some (.slice A1 n c1) := bx.cell 0
      have k1 : W0.cell? ⟨w2.heap.size, 1, none⟩ = some (.int .i64 C) := bx.cell 1
      have k2 : W0.cell? ⟨w3.heap.size, 0, none⟩ = some (.slice A3 n c3) := by_.cell 0
      have k3 : W0.cell? ⟨w3.heap.size, 1, none⟩ = some (.int .i64 0) := by_.cell 1
      go_loop [9, 10, 49] (fun f t i => ∃ (k : Nat) (G S : Int), k ≤ n ∧ i = .int .i64 k ∧ f = .int .i64 G ∧ t = .int .i64 S ∧ Hid (fstD (g xs) k = G) ∧ -1 ≤ G ∧ G < n ∧ Hid (pS (g xs) k = S) ∧ 0 ≤ S ∧ S ≤ k * 1048576) (fun _ _ i => n - (intOf i).toNat)
      case atStart => exact ⟨0, -1, 0, Nat.zero_le _, rfl, rfl, rfl, Lib.hid rfl, by omega, by omega, Lib.hid rfl, by omega, by omega⟩
      case round =>
        obtain ⟨k, G, S, hk, rfl, rfl, rfl, hG, g0, g1, hS, t0, t1⟩ := hrel
        by_cases hlt : k < n
        · obtain ⟨b, off, x, rfl, _, hxx, hcell⟩ := hx.look hlt
          have hxb := HF.out k
          rw [hxx.out] at hxb
          obtain ⟨hx0, hx1⟩ := hxb
          have hSn : Hid (pS (g xs) (k + 1) = S + x) := Lib.hid (by rw [pS, hS.out, hxx.out])
          by_cases hxp : 0 < x
          · by_cases hGn : G < 0
            · have hGs : Hid (fstD (g xs) (k + 1) = k) := Lib.hid (fstD_new (by rw [hG.out]; exact hGn) (by rw [hxx.out]; exact hxp))
              go_wp2
              go_round
              case rel => exact ⟨k + 1, k, S + x, by omega, by go_num, rfl, rfl, hGs, by omega, by omega, hSn, by omega, by omega⟩
              case measure => simp [intOf]; omega
            · have hGs : Hid (fstD (g xs) (k + 1) = G) := Lib.hid (by rw [fstD_old (by rw [hG.out]; omega), hG.out])
              go_wp2
              go_round
              case rel => exact ⟨k + 1, G, S + x, by omega, by go_num, rfl, rfl, hGs, by omega, by omega, hSn, by omega, by omega⟩
              case measure => simp [intOf]; omega
          · have hGs : Hid (fstD (g xs) (k + 1) = G) := Lib.hid (by rw [fstD_zero (by rw [hxx.out]; omega), hG.out])
            have hxp' : decide (0 < x) = false := by simpa using hxp
            go_wp2
            go_round
            case rel => exact ⟨k + 1, G, S + x, by omega, by go_num, rfl, rfl, hGs, by omega, by omega, hSn, by omega, by omega⟩
            case measure => simp [intOf]; omega
        · obtain rfl : k = n := by omega
          obtain rfl : G = F := hG.out.symm.trans HFd.out
          obtain rfl : S = SS := hS.out.symm.trans HS.out
          have hsame := sameInts_any _ k c3 k c A3 A xs xs W0 hL' hx (by omega)
          rw [decide_eq_true (rfl : xs = xs)] at hsame
          have HSAME := Lib.hid hsame
          clear hsame
          have hb0 : ((k : Int) != (k : Int)) = false := by simp
          go_wp2_with fail
          refine HSAME.out.mono ?_
          rintro e w' ⟨rfl, q, rfl⟩
          go_wp2_with fail
          clear hb0
          go_loop [86] (fun i => ∃ j : Nat, j ≤ k ∧ i = .int .i64 j) (fun i => k - (intOf i).toNat)
          case atStart => exact ⟨0, Nat.zero_le _, rfl⟩
          case round =>
            obtain ⟨j, hj, rfl⟩ := hrel
            by_cases hlt : j < k
            · obtain ⟨b, off, x, rfl, _, hxx, hcell⟩ := hL3.look hlt
              have hv := FA.out.1 j
              rw [hxx.out] at hv
              by_cases hjg : (j : Int) = G
              · rw [if_pos hjg] at hv
                subst hv
                have hb1 : ((j : Int) == G) = true := by simpa using hjg
                have hb2 : ((j : Int) != G) = false := by simpa using hjg
                have hb3 : (x != x) = false := by simp
                have HJ := Lib.hid hjg
                clear hjg
                go_wp2
                go_round
                case rel => exact ⟨j + 1, by omega, by go_num⟩
                case measure => simp [intOf]; omega
              · rw [if_neg hjg] at hv
                subst hv
                have hb1 : ((j : Int) == G) = false := by simpa using hjg
                have hb2 : ((j : Int) != G) = true := by simpa using hjg
                have HJ := Lib.hid hjg
                clear hjg
                go_wp2
                go_round
                case rel => exact ⟨j + 1, by omega, by go_num⟩
                case measure => simp [intOf]; omega
            · have hc := HC.out
              by_cases hg0 : 0 ≤ G
              · rw [if_pos hg0] at hc
                subst hc
                have hb1 : (s == s) = true := by simp
                go_wp2
                go_ret
                exact ⟨rfl, below_drewN hB q⟩
              · rw [if_neg hg0] at hc
                subst hc
                go_wp2
                go_ret
                exact ⟨rfl, below_drewN hB q⟩

end Go.Proofs.Ytkbnbdpdmcnkiaa
