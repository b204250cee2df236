/- PricesTight, walked. -/
import Derived.Test.YtkbnbdpdmcnkiaaCD
import Derived.Test.YtkbnbdpdmcnkiaaAB
namespace Go.Proofs.Ytkbnbdpdmcnkiaa
open Go.RowKit

theorem tigL_len (xs : List Int) (s h : Int) (ps : List Int) : (tigL xs s h ps).length ≤ 16 := by
  cases hk : okB xs s h ps
  · simp [tigL, hk]
  · simp only [tigL, hk, if_true]; exact tgL_len _ _
theorem hasB_take {L : List Int} {k : Nat} {x y : Int} (hk : k < L.length) (hy : g L k = y) (h : hasB (L.take k) x = false) (hne : (y == x) = false) : hasB (L.take (k + 1)) x = false := by
  unfold hasB at *
  rw [List.take_succ_eq_append_getElem hk, List.any_append, h]
  have e : L[k] = y := by rw [← hy]; simp [g, List.getElem?_eq_getElem hk]
  simp [e, hne]
theorem hasB_yes {L : List Int} {k : Nat} {x y : Int} (hk : k < L.length) (hy : g L k = y) (he : (y == x) = true) : hasB L x = true := by
  unfold hasB
  rw [List.any_eq_true]
  refine ⟨L[k], List.getElem_mem hk, ?_⟩
  have e : L[k] = y := by rw [← hy]; simp [g, List.getElem?_eq_getElem hk]
  rw [e]; exact he
set_option maxHeartbeats 400000 in
theorem has_any (B n cap : Nat) (A : Option Addr) (L : List Int) (x : Int) (w : World) (h : SI w B A n L) (hn : n ≤ 1000) :
    Calls Try.prog 33 #[.slice A n cap, .int .i64 x] w fun e w' => e = .returned (.bool (hasB L x)) ∧ w = w' := by
  have hl := Lib.hid h.len
  go_enter Try.func33, Try.ntmps33
  go_wp2
  go_loop [5] (fun i => ∃ k : Nat, k ≤ n ∧ i = .int .i64 k ∧ Hid (hasB (L.take k) x = false)) (fun i => n - (intOf i).toNat)
  case atStart => exact ⟨0, Nat.zero_le _, rfl, Lib.hid rfl⟩
  case round =>
    obtain ⟨k, hk, rfl, ha⟩ := hrel
    by_cases hlt : k < n
    · obtain ⟨b, off, y, rfl, hb, hy, hc⟩ := h.look hlt
      cases he : (y == x)
      · have HN := Lib.hid (hasB_take (by rw [hl.out]; exact hlt) hy.out ha.out he)
        go_wp2
        go_round
        case rel => exact ⟨k + 1, by omega, by go_num, HN⟩
        case measure => simp [intOf]; omega
      · have HN := Lib.hid (hasB_yes (by rw [hl.out]; exact hlt) hy.out he)
        go_wp2
        go_ret
        exact ⟨ret_bool HN.out.symm, rfl⟩
    · go_wp2
      go_ret
      exact ⟨ret_bool (by have e := ha.out; rw [List.take_of_length_le (by rw [hl.out]; omega)] at e; exact e.symm), rfl⟩

set_option maxHeartbeats 1000000 in
theorem pricesTight_any (n c np cp : Nat) (A P : Option Addr) (xs ps : List Int) (s h : Int) (w : World) (hx : SI w w.heap.size A n xs) (hp : SI w w.heap.size P np ps) (hc : n ≤ c) :
    Calls Try.prog 11 #[.slice A n c, .int .i64 s, .int .i64 h, .slice P np cp] w fun e w' => e = .returned (.bool true) ∧ Below w.heap.size w w' := by
  cases hfew : few n
  · have h18 : ∀ w : World, Calls Try.prog 18 #[.slice A n c] w fun e w' => e = .returned (.bool false) ∧ w = w' := fun w => by rw [← hfew]; exact few_any n c A w
    have H18 := Lib.hid h18
    clear h18 hfew
    go_enter Try.func11, Try.ntmps11
    go_wp2_with fail
    refine (sane23_any w).mono ?_
    rintro e w1 ⟨rfl, hb1⟩
    go_wp2_with fail
    refine (H18.out _).mono ?_
    rintro e w' ⟨rfl, rfl⟩
    go_wp2_with fail
    go_ret
    exact ⟨rfl, hb1⟩
  have hn40 : n ≤ 40 := by simp [few] at hfew; omega
  have h18 : ∀ w : World, Calls Try.prog 18 #[.slice A n c] w fun e w' => e = .returned (.bool true) ∧ w = w' := fun w => by rw [← hfew]; exact few_any n c A w
  have H18 := Lib.hid h18
  clear h18 hfew
  by_cases a3 : (40 : Int) < np
  · go_enter Try.func11, Try.ntmps11
    go_wp2_with fail
    refine (sane23_any w).mono ?_
    rintro e w1 ⟨rfl, hb1⟩
    go_wp2_with fail
    refine (H18.out _).mono ?_
    rintro e w' ⟨rfl, rfl⟩
    go_wp2_with fail
    go_ret
    exact ⟨rfl, hb1⟩
  cases hv : vA xs s h
  · have HV := Lib.hid hv
    clear hv
    go_enter Try.func11, Try.ntmps11
    go_wp2_with fail
    refine (sane23_any w).mono ?_
    rintro e w1 ⟨rfl, hb1⟩
    go_wp2_with fail
    refine (H18.out _).mono ?_
    rintro e w' ⟨rfl, rfl⟩
    go_wp2_with fail
    refine (Size_no (hx.step hb1) (by omega) hc HV.out).mono ?_
    rintro e w2 ⟨A1, c1, A2, c2, rfl, hb2⟩
    replace hb2 := hb1.trans (hb2.mono hb1.size)
    go_wp2_with fail
    go_ret
    exact ⟨rfl, hb2.alloc hb2.size _⟩
  · have hl := hx.len
    obtain ⟨C, hC⟩ : ∃ C, szC xs s h = C := ⟨_, rfl⟩
    obtain ⟨_, _, ho⟩ := sz_bnd hv
    obtain ⟨T, hT⟩ : ∃ T, tigL xs s h (szP xs s h) = T := ⟨_, rfl⟩
    obtain ⟨mt, hmt⟩ : ∃ m, T.length = m := ⟨_, rfl⟩
    have hmt16 : mt ≤ 16 := by rw [← hmt, ← hT]; exact tigL_len _ _ _ _
    have hday : ∀ i : Nat, i < n → g (szL xs s h) i ≠ 0 → hasB T (i : Int) = true := fun i hi hg => by rw [← hT]; exact sz_tight hv (by omega) hg
    obtain ⟨Cp, hCp⟩ : ∃ C, bndC xs s h ps = C := ⟨_, rfl⟩
    obtain ⟨Tp, hTp⟩ : ∃ T, tigL xs s h ps = T := ⟨_, rfl⟩
    obtain ⟨mp, hmp⟩ : ∃ m, Tp.length = m := ⟨_, rfl⟩
    have hmp16 : mp ≤ 16 := by rw [← hmp, ← hTp]; exact tigL_len _ _ _ _
    have HT := Lib.hid (And.intro hT (congrArg errP ho))
    have HMT := Lib.hid hmt
    have HV := Lib.hid hv
    have HC := Lib.hid hC
    have HD := Lib.hid hday
    have HL := Lib.hid hl
    have HCp := Lib.hid hCp
    have HTp := Lib.hid hTp
    have HMp := Lib.hid hmp
    clear hT ho hmt hv hC hday hl hCp hTp hmp
    go_enter Try.func11, Try.ntmps11
    go_wp2_with fail
    refine (sane23_any w).mono ?_
    rintro e w1 ⟨rfl, hb1⟩
    go_wp2_with fail
    refine (H18.out _).mono ?_
    rintro e w' ⟨rfl, rfl⟩
    go_wp2_with fail
    refine (Size_yes (hx.step hb1) hc HV.out C HC.out).mono ?_
    rintro e w2 ⟨A1, c1, A2, c2, rfl, hL, hP, hb2⟩
    replace hb2 := hb1.trans (hb2.mono hb1.size)
    clear hb1
    go_wp2_with fail
    refine (Tight_at T mt 0 ((hx.step hb2).up _) (hP.up _) (by omega) (by omega) HT.out HMT.out).mono ?_
    rintro e w3 ⟨B3, c3, rfl, hT3, hb3⟩
    have bx := (Blk.new w2 26 #[.slice A1 n c1, .int .i64 C, .slice A2 n c2]).below hb3 (by simp)
    replace hL := (hL.up (.cells #[.slice A1 n c1, .int .i64 C, .slice A2 n c2] 26)).step hb3
    replace hb3 := (hb2.alloc hb2.size _).trans (hb3.mono (by have := hb2.size; simp; omega))
    replace hx := hx.step hb3
    replace hp := hp.step hb3
    clear hb2 hP
    have k0 : w3.cell? ⟨w2.heap.size, 0, none⟩ = some (.slice A1 n c1) := bx.cell 0
    have k1 : w3.cell? ⟨w2.heap.size, 1, none⟩ = some (.int .i64 C) := bx.cell 1
    have hnn : ((n : Int) != (n : Int)) = false := by simp
    go_wp2_with fail
    clear hnn
    go_loop [13] (fun i => ∃ k : Nat, k ≤ n ∧ i = .int .i64 k) (fun i => n - (intOf i).toNat)
    case atStart => exact ⟨0, Nat.zero_le _, rfl⟩
    case round =>
      obtain ⟨k, hk, rfl⟩ := hrel
      by_cases hlt : k < n
      · obtain ⟨b, off, x, rfl, _, hxx, hcell⟩ := hL.look hlt
        by_cases hx0 : x = 0
        · have hxb : (x != 0) = false := by simp [hx0]
          clear hx0
          go_wp2_with fail
          go_round
          case rel => exact ⟨k + 1, by omega, by go_num⟩
          case measure => simp [intOf]; omega
        · have hxb : (x != 0) = true := by simp [hx0]
          have hh := HD.out k hlt (by rw [hxx.out]; exact hx0)
          have h33 := has_any _ mt c3 B3 T (k : Int) w3 hT3 (by omega)
          rw [hh] at h33
          have H33 := Lib.hid h33
          clear hx0 hh h33
          go_wp2_with fail
          refine H33.out.mono ?_
          rintro e w' ⟨rfl, rfl⟩
          go_wp2_with fail
          go_round
          case rel => exact ⟨k + 1, by omega, by go_num⟩
          case measure => simp [intOf]; omega
      · cases hbp : bndB xs s h ps
        · cases hop : okB xs s h ps
          all_goals
            have HF := Lib.hid (And.intro HCp.out (And.intro hbp (congrArg errP hop)))
            have HG := Lib.hid (And.intro HTp.out (congrArg errP hop))
            clear hbp hop
            go_wp2_with fail
            refine (Bound_at Cp false _ hx hp (by omega) (by omega) HF.out).mono ?_
            rintro e w4 ⟨rfl, hb4⟩
            have hB4 := hb3.trans (hb4.mono hb3.size)
            go_wp2_with fail
            refine (Tight_at Tp mp _ (hx.step hb4) (hp.step hb4) (by omega) (by omega) HG.out HMp.out).mono ?_
            rintro e w5 ⟨B5, c5, rfl, _, hb5⟩
            go_wp2_with fail
            go_ret
            exact ⟨rfl, hB4.trans (hb5.mono hB4.size)⟩
        · have hop := (bnd_parts hbp).1
          have hle := bnd_sz hbp
          rw [HC.out, HCp.out] at hle
          have hloose : ¬ 0 < mp → Cp < C ∨ C = 0 := fun hm0 => by
            have e : Tp = [] := List.eq_nil_of_length_eq_zero (by have := HMp.out; omega)
            have := bnd_loose hbp (by rw [HTp.out]; exact e)
            rwa [HC.out, HCp.out] at this
          have HLO := Lib.hid hloose
          have HF := Lib.hid (And.intro HCp.out (And.intro hbp (congrArg errP hop)))
          have HG := Lib.hid (And.intro HTp.out (congrArg errP hop))
          clear hbp hop hloose
          go_wp2_with fail
          refine (Bound_at Cp true 0 hx hp (by omega) (by omega) HF.out).mono ?_
          rintro e w4 ⟨rfl, hb4⟩
          have bx4 := bx.below hb4 bx.lt
          have hB4 := hb3.trans (hb4.mono hb3.size)
          go_wp2_with fail
          refine (Tight_at Tp mp 0 (hx.step hb4) (hp.step hb4) (by omega) (by omega) HG.out HMp.out).mono ?_
          rintro e w5 ⟨B5, c5, rfl, _, hb5⟩
          have bx5 := bx4.below hb5 bx4.lt
          have k15 : w5.cell? ⟨w2.heap.size, 1, none⟩ = some (.int .i64 C) := bx5.cell 1
          have hB5 := hB4.trans (hb5.mono hB4.size)
          clear hb4 hb5 bx4 bx5 k0 k1
          by_cases hm0 : (0 : Int) < mp
          · go_wp2_with fail
            go_ret
            exact ⟨rfl, hB5⟩
          · have hq := HLO.out (by omega)
            by_cases hlt2 : Cp < C
            · go_wp2_with fail
              go_ret
              exact ⟨rfl, hB5⟩
            · have hC0 : C = 0 := by omega
              subst hC0
              clear hq
              go_wp2_with fail
              go_ret
              exact ⟨rfl, hB5⟩
end Go.Proofs.Ytkbnbdpdmcnkiaa
