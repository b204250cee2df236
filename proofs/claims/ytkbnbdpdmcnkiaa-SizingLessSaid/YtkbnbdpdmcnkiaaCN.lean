/- SizingLess, walked. -/
import Derived.Test.YtkbnbdpdmcnkiaaCM
import Derived.Test.YtkbnbdpdmcnkiaaCX
import Derived.Test.YtkbnbdpdmcnkiaaAB
import Derived.Deep.QuietTactic
import Derived.BigQuiet
import Derived.Deep.DeepCutAuto
namespace Go.Proofs.Ytkbnbdpdmcnkiaa
open Go.RowKit

theorem OI.caps2 {w : World} {base n c : Nat} {A : Option Addr} {xs : List Int} (h : OI w base (.slice A n c) n xs) : n ≤ c := by
  rcases h.2 with ⟨h0, h1⟩ | ⟨g0, c0, cur, h0, _, _, h2, _⟩
  · cases h0; exact Nat.le_refl _
  · cases h0; exact h2

/-- A Size that costs no more. -/
def LessP (w0 : World) (C : Int) (p e : Value) (W : World) : Prop :=
  e = .int .i64 0 ∧ ∃ b A1 n1 c1 Ca A2 n2 c2, p = .pointer (some ⟨b, 0, none⟩) ∧ Blk W b 26 #[.slice A1 n1 c1, .int .i64 Ca, .slice A2 n2 c2] ∧ Ca ≤ C ∧ Below w0.heap.size w0 W
theorem LessP.mk_ {w0 w1 : World} {C Ca : Int} {A1 A2 : Option Addr} {n1 c1 n2 c2 : Nat} (hb : Below w0.heap.size w0 w1) (hle : Ca ≤ C) : LessP w0 C (.pointer (some ⟨w1.heap.size, 0, none⟩)) (.int .i64 0) (w1.alloc (.cells #[.slice A1 n1 c1, .int .i64 Ca, .slice A2 n2 c2] 26)) :=
  ⟨rfl, w1.heap.size, A1, n1, c1, Ca, A2, n2, c2, rfl, Blk.new _ _ _, hle, hb.alloc hb.size _⟩

set_option maxRecDepth 100000 in
set_option maxHeartbeats 16000000 in
theorem sizingLess_any (n c : Nat) (A : Option Addr) (xs : List Int) (s ho l : Int) (at_ more : Int) (w : World) (hx : SI w w.heap.size A n xs) (hc : n ≤ c) (a0 : 0 ≤ at_) (a1 : at_ ≤ 255) (m0 : 0 ≤ more) (m1 : more ≤ 255) :
    Calls Try.prog 8 #[.slice A n c, .int .i64 s, .int .i64 ho, .int .i64 l, .int .u8 at_, .int .u8 more] w fun e w' => e = .returned (.bool true) ∧ Below w.heap.size w w' := by
  by_cases ha : (16 : Int) < n
  · go_enter Try.func8, Try.ntmps8
    go_wp2_with fail
    refine (sane22_any w).mono ?_
    rintro e w1 ⟨rfl, hb1⟩
    go_wp2_with fail
    go_ret
    exact ⟨rfl, hb1⟩
  cases hv : vA xs s ho
  · have HV := Lib.hid hv
    clear hv
    go_enter Try.func8, Try.ntmps8
    go_wp2_with fail
    refine (sane22_any w).mono ?_
    rintro e w1 ⟨rfl, hb1⟩
    go_wp2_with fail
    refine (Size_no (hx.step hb1) (by omega) hc HV.out).mono ?_
    rintro e w2 ⟨A1, c1, A2, c2, rfl, hb2⟩
    replace hb2 := hb1.trans (hb2.mono hb1.size)
    go_wp2_with fail
    go_ret
    exact ⟨rfl, hb2.alloc hb2.size _⟩
  obtain ⟨C, hC⟩ : ∃ C, szC xs s ho = C := ⟨_, rfl⟩
  have hl := hx.len
  obtain ⟨_, hf, s0, s1, h0, h1⟩ := vA_all hv
  have HV := Lib.hid hv
  have HC := Lib.hid hC
  have HL := Lib.hid hl
  have HF := Lib.hid hf
  clear hv hC hl hf
  go_enter Try.func8, Try.ntmps8
  go_wp2_with fail
  refine (sane22_any w).mono ?_
  rintro e w1 ⟨rfl, hb1⟩
  go_wp2_with fail
  refine (Size_yes (hx.step hb1) hc HV.out C HC.out).mono ?_
  rintro e w2 ⟨A1, c1, A2, c2, rfl, hL, hP, hb2⟩
  replace hb2 := hb1.trans (hb2.mono hb1.size)
  clear hb1 hP
  go_upto_region 8 with fail
  have bx := Blk.new w2 26 #[.slice A1 n c1, .int .i64 C, .slice A2 n c2]
  replace hL := hL.up (.cells #[.slice A1 n c1, .int .i64 C, .slice A2 n c2] 26)
  replace hb2 := hb2.alloc hb2.size (.cells #[.slice A1 n c1, .int .i64 C, .slice A2 n c2] 26)
  replace hx := hx.step hb2
  generalize w2.heap.size = bs at *
  generalize w2.alloc (.cells #[.slice A1 n c1, .int .i64 C, .slice A2 n c2] 26) = w0 at *
  go_cut [3] (fun v wx => (∃ W : Int, v = .int .i64 W ∧ 0 ≤ W ∧ W ≤ 1048576) ∧ wx = w0)
  case first =>
    go_wp2_with fail
    all_goals go_meet
    all_goals exact ⟨⟨_, rfl, by omega, by omega⟩, rfl⟩
  case rest =>
  obtain ⟨⟨W, rfl, hW0, hW1⟩, hw⟩ := hcut
  obtain ⟨wa, hwa⟩ : ∃ wa, wa = wc := ⟨_, rfl⟩
  subst hwa
  subst hw
  have hn16 : n ≤ 16 := by omega
  go_upto_region 9 with fail
  go_cut [15, 16] (fun p e wx => LessP wa C p e wx)
  case first =>
    go_wp2_with fail
    all_goals (refine (Size_yes hx hc (vA_mk (by rw [HL.out]; exact hn16) HF.out (by omega) (by omega) h0 h1) _ rfl).mono ?_; rintro e w3 ⟨B1, d1, B2, d2, rfl, _, _, hb3⟩; go_wp2_with fail; go_meet)
    all_goals exact LessP.mk_ hb3 (by rw [← HC.out]; exact less_law HV.out (vA_mk (by rw [HL.out]; exact hn16) HF.out (by omega) (by omega) h0 h1) rfl (by omega) (Int.le_refl _) (fun _ => Int.le_refl _))
  case rest =>
  obtain ⟨rfl, b15, A3, n3, c3, Ca, A4, n4, c4, rfl, hb15, hCa, hbl⟩ := hcut
  obtain ⟨wb, hwb⟩ : ∃ wb, wb = wc := ⟨_, rfl⟩
  subst hwb
  replace bx := bx.below hbl bx.lt
  replace hL := hL.step hbl
  replace hx := hx.step hbl
  replace hb2 := hb2.trans (hbl.mono hb2.size)
  clear hbl
  go_upto_region 10 with fail
  go_cut [17, 18] (fun p e wx => LessP wb C p e wx)
  case first =>
    go_wp2_with fail
    all_goals (refine (Size_yes hx hc (vA_mk (by rw [HL.out]; exact hn16) HF.out s0 s1 (by omega) (by omega)) _ rfl).mono ?_; rintro e w3 ⟨B1, d1, B2, d2, rfl, _, _, hb3⟩; go_wp2_with fail; go_meet)
    all_goals exact LessP.mk_ hb3 (by rw [← HC.out]; exact less_law HV.out (vA_mk (by rw [HL.out]; exact hn16) HF.out s0 s1 (by omega) (by omega)) rfl (Int.le_refl _) (by omega) (fun _ => Int.le_refl _))
  case rest =>
  obtain ⟨rfl, b17, A5, n5, c5, Cb, A6, n6, c6, rfl, hb17, hCb, hbl⟩ := hcut
  obtain ⟨wd, hwd⟩ : ∃ wd, wd = wc := ⟨_, rfl⟩
  subst hwd
  replace bx := bx.below hbl bx.lt
  replace hb15 := hb15.below hbl hb15.lt
  replace hL := hL.step hbl
  replace hx := hx.step hbl
  replace hb2 := hb2.trans (hbl.mono hb2.size)
  clear hbl
  have k1 : wd.cell? ⟨bs, 1, none⟩ = some (.int .i64 C) := bx.cell 1
  have k2 : wd.cell? ⟨b15, 1, none⟩ = some (.int .i64 Ca) := hb15.cell 1
  have k3 : wd.cell? ⟨b17, 1, none⟩ = some (.int .i64 Cb) := hb17.cell 1
  go_upto_if 84 with fail
  clear k1 k2 k3 hb15 hb17 hCa hCb
  go_cut [19] (fun _ wx => Below wd.heap.size wd wx)
  case first =>
    rcases Nat.eq_zero_or_pos n with hn0 | hn0
    · subst hn0
      go_wp2_with fail
      go_meet
      exact Below.refl _ _
    · obtain ⟨m, rfl⟩ : ∃ m, n = m + 1 := ⟨n - 1, by omega⟩
      have i1 : (0 : Int) < ((m + 1 : Nat) : Int) := by omega
      go_upto_region 15 with (at_builtin; refine wpList_app_all rfl (.tmp 85) (.tmp 86) rfl (wd.alloc (.cells #[] 3)) wd.heap.size 0 (m + 1) wd.heap.size c A (.slice (some ⟨wd.heap.size, 0, none⟩) 0 0) [] xs rfl rfl (OI.empty wd _ (Nat.le_refl _)) (hx.alloc (Nat.le_refl _) _) (by omega) (by simp) ?_; intro v4 w4 ho4 hg4; rw [Nat.zero_add, List.nil_append] at ho4; obtain ⟨bq, cq, rfl⟩ := ownsRow_succ ho4)
      have hqlt := ho4.lt
      have hb4 : Below wd.heap.size wd w4 := ((Below.refl _ wd).alloc (Nat.le_refl _) _).grown hg4 (by simp) (fun k e => by simp [Value.ownBlock] at e; omega)
      clear hg4
      go_upto_region 16 with fail
      obtain ⟨k, hk, hkm⟩ : ∃ k : Nat, at_ % ((m : Int) + 1) = (k : Int) ∧ k ≤ m := by
        have h1 := Int.emod_nonneg at_ (show (m : Int) + 1 ≠ 0 by omega)
        have h2 := Int.emod_lt_of_pos at_ (show (0 : Int) < (m : Int) + 1 by omega)
        exact ⟨(at_ % ((m : Int) + 1)).toNat, (Int.toNat_of_nonneg h1).symm, by omega⟩
      rw [hk]
      clear hk
      obtain ⟨y, hy, hyc⟩ := ho4.look (k := k) (by omega)
      have hyf := (World.ownsRow.frozenAt ho4) k
      have hyb := HF.out k
      rw [hy.out] at hyb
      obtain ⟨hy0, hy1⟩ := hyb
      have bx4 := bx.below hb4 bx.lt
      have hbq : bs ≠ bq := by have := bx.lt; omega
      have hx4 := hx.step hb4
      have hgs : Hid (∀ y' : Int, y' ≤ y → ∀ j, g (xs.set k y') j ≤ g xs j) := Lib.hid (fun y' hle j => by
        rw [g_set _ _ _ _ (by rw [HL.out]; omega)]
        split
        · rename_i e; subst e; rw [hy.out]; exact hle
        · exact Int.le_refl _)
      have hgv : Hid (∀ y' : Int, 0 ≤ y' → y' ≤ 1048576 → vA (xs.set k y') s ho = true) := Lib.hid (fun y' p0 p1 => vA_mk (by rw [List.length_set, HL.out]; exact hn16) (fun j => by
        rw [g_set _ _ _ _ (by rw [HL.out]; omega)]
        split
        · exact ⟨p0, p1⟩
        · exact HF.out j) s0 s1 h0 h1)
      by_cases hyW : y ≤ W
      · have hst := ho4.stored k y
        replace bx4 := bx4.far (p := ⟨bq, k, none⟩) (zne hbq) (.int .i64 y)
        replace hb4 := hb4.setCell (p := ⟨bq, k, none⟩) hqlt.1 (.int .i64 y)
        have HST := Lib.hid hst
        clear hst
        go_upto_region 17 with fail
        clear hyc hyf
        generalize w4.setCell ⟨bq, k, none⟩ (.int .i64 y) = we at *
        go_wp2_with fail
        refine (Size_yes HST.out.SIv HST.out.caps2 (hgv.out y hy0 hy1) _ rfl).mono ?_
        rintro e w6 ⟨D1, d1, D2, d2, rfl, _, _, hb6⟩
        have hle : szC (xs.set k y) s ho ≤ C := by rw [← HC.out]; exact less_law HV.out (hgv.out y hy0 hy1) (by rw [List.length_set]) (Int.le_refl _) (Int.le_refl _) (hgs.out y (Int.le_refl _))
        generalize szC (xs.set k y) s ho = Cc at *
        have bx6 := bx4.below hb6 bx4.lt
        have k1 : w6.cell? ⟨bs, 1, none⟩ = some (.int .i64 C) := bx6.cell 1
        have kl := bx6.lt
        have hb7 := hb4.trans (hb6.mono hb4.size)
        clear hb6 bx6
        go_wp2_with fail
        go_meet
        exact hb7.alloc hb7.size _
      · have hyW' : W < y := by omega
        have hst := ho4.stored k W
        replace bx4 := bx4.far (p := ⟨bq, k, none⟩) (zne hbq) (.int .i64 W)
        replace hb4 := hb4.setCell (p := ⟨bq, k, none⟩) hqlt.1 (.int .i64 W)
        have HST := Lib.hid hst
        clear hst
        go_upto_region 17 with fail
        clear hyc hyf
        generalize w4.setCell ⟨bq, k, none⟩ (.int .i64 W) = we at *
        go_wp2_with fail
        refine (Size_yes HST.out.SIv HST.out.caps2 (hgv.out W hW0 hW1) _ rfl).mono ?_
        rintro e w6 ⟨D1, d1, D2, d2, rfl, _, _, hb6⟩
        have hle : szC (xs.set k W) s ho ≤ C := by rw [← HC.out]; exact less_law HV.out (hgv.out W hW0 hW1) (by rw [List.length_set]) (Int.le_refl _) (Int.le_refl _) (hgs.out W (by omega))
        generalize szC (xs.set k W) s ho = Cc at *
        have bx6 := bx4.below hb6 bx4.lt
        have k1 : w6.cell? ⟨bs, 1, none⟩ = some (.int .i64 C) := bx6.cell 1
        have kl := bx6.lt
        have hb7 := hb4.trans (hb6.mono hb4.size)
        clear hb6 bx6
        go_wp2_with fail
        go_meet
        exact hb7.alloc hb7.size _
  case rest =>
  obtain ⟨we, hwe⟩ : ∃ we, we = wc := ⟨_, rfl⟩
  subst hwe
  replace bx := bx.below hcut bx.lt
  replace hL := hL.step hcut
  replace hx := hx.step hcut
  replace hb2 := hb2.trans (hcut.mono hb2.size)
  clear hcut
  go_upto_region 21 with (at_builtin; refine wpList_app_all rfl (.tmp 118) (.tmp 119) rfl (we.alloc (.cells #[] 3)) we.heap.size 0 n we.heap.size c A (.slice (some ⟨we.heap.size, 0, none⟩) 0 0) [] xs rfl rfl (OI.empty we _ (Nat.le_refl _)) (hx.alloc (Nat.le_refl _) _) (by omega) (by simp) ?_; intro v4 w4 ho4 hg4; rw [Nat.zero_add, List.nil_append] at ho4; obtain ⟨Q4, c4, rfl⟩ := ho4.form)
  have hb4 : Below we.heap.size we w4 := ((Below.refl _ we).alloc (Nat.le_refl _) _).grown hg4 (by simp) (fun k e => by simp [Value.ownBlock] at e; omega)
  clear hg4
  go_cut [127, 128] (fun m i wx => (∃ J : Nat, m = .int .i64 J ∧ n + J ≤ 16) ∧ i = .int .i64 0 ∧ wx = w4)
  case first =>
    obtain ⟨r, hr, hr4⟩ : ∃ r : Nat, more % 4 = (r : Int) ∧ r < 4 := ⟨(more % 4).toNat, by omega, by omega⟩
    obtain ⟨d, hd⟩ : ∃ d : Nat, (16 : Int) - n = (d : Int) := ⟨16 - n, by omega⟩
    go_wp2_with fail
    all_goals go_meet
    all_goals first | exact ⟨⟨d, rfl, by omega⟩, rfl, rfl⟩ | exact ⟨⟨r, rfl, by omega⟩, rfl, rfl⟩
  case rest =>
  obtain ⟨⟨J, rfl, hJ⟩, rfl, hw⟩ := hcut
  obtain ⟨wf, hwf⟩ : ∃ wf, wf = wc := ⟨_, rfl⟩
  subst hwf
  subst hw
  go_wp2_with fail
  go_loopw [23, 128] (fun v i wr => ∃ (k : Nat) (Q : Option Addr) (c' : Nat), k ≤ J ∧ i = .int .i64 k ∧ v = .slice Q (n + k) c' ∧ OI wr we.heap.size (.slice Q (n + k) c') (n + k) (xs ++ List.replicate k 0) ∧ Below we.heap.size we wr) (fun _ i _ => J - (intOf i).toNat)
  case atStart => exact ⟨0, Q4, c4, Nat.zero_le _, rfl, rfl, by simpa using ho4, hb4⟩
  case round =>
    obtain ⟨k, Q, c', hk, rfl, rfl, hown, hbl⟩ := hrel
    by_cases hlt : k < J
    · go_wp2_with (at_builtin; refine wpList_app1 rfl (.tmp 130) (.tmp 131) rfl wr we.heap.size _ (n + k) (xs ++ List.replicate k 0) 0 rfl rfl hown (by omega) hbl.size ?_; intro g' c5' w5 hown5 hgr5)
      go_roundw
      case rel =>
        exact ⟨k + 1, some ⟨g', 0, none⟩, c5', by omega, by go_num, rfl, by rw [List.replicate_succ', ← List.append_assoc]; exact hown5, (hbl.alloc hbl.size _).grown hgr5 (by have := hbl.size; simp; omega) (fun k e => (World.ownsRow.lt hown k e).1)⟩
      case measure => simp [intOf]; omega
    · obtain rfl : k = J := by omega
      have hxl := hown.SIv
      have hcl := hown.caps2
      have bxl := bx.below hbl bx.lt
      replace hL := hL.step hbl
      replace hb2 := hb2.trans (hbl.mono hb2.size)
      have HLV : Hid (vA (xs ++ List.replicate k 0) s ho = true) := Lib.hid (long_vA HV.out (by rw [HL.out]; exact hJ))
      have HLW := Lib.hid (long_law HV.out (j := k) (by rw [HL.out]; exact hJ))
      clear hown hbl
      go_wp2_with fail
      refine (Size_yes hxl hcl HLV.out C (by rw [HLW.out.1, HC.out])).mono ?_
      rintro e w6 ⟨E1, e1, E2, e2, rfl, hE, _, hb6⟩
      replace bxl := bxl.below hb6 bxl.lt
      replace hL := hL.step hb6
      replace hb2 := hb2.trans (hb6.mono hb2.size)
      clear hb6
      replace bxl := bxl.alloc (.cells #[.slice E1 (n + k) e1, .int .i64 C, .slice E2 (n + k) e2] 26)
      have bn := Blk.new w6 26 #[.slice E1 (n + k) e1, .int .i64 C, .slice E2 (n + k) e2]
      replace hL := hL.up (.cells #[.slice E1 (n + k) e1, .int .i64 C, .slice E2 (n + k) e2] 26)
      replace hE := hE.up (.cells #[.slice E1 (n + k) e1, .int .i64 C, .slice E2 (n + k) e2] 26)
      replace hb2 := hb2.alloc hb2.size (.cells #[.slice E1 (n + k) e1, .int .i64 C, .slice E2 (n + k) e2] 26)
      have kn0 : (w6.alloc (.cells #[.slice E1 (n + k) e1, .int .i64 C, .slice E2 (n + k) e2] 26)).cell? ⟨w6.heap.size, 0, none⟩ = some (.slice E1 (n + k) e1) := bn.cell 0
      have kn1 : (w6.alloc (.cells #[.slice E1 (n + k) e1, .int .i64 C, .slice E2 (n + k) e2] 26)).cell? ⟨w6.heap.size, 1, none⟩ = some (.int .i64 C) := bn.cell 1
      have ko0 : (w6.alloc (.cells #[.slice E1 (n + k) e1, .int .i64 C, .slice E2 (n + k) e2] 26)).cell? ⟨bs, 0, none⟩ = some (.slice A1 n c1) := bxl.cell 0
      have ko1 : (w6.alloc (.cells #[.slice E1 (n + k) e1, .int .i64 C, .slice E2 (n + k) e2] 26)).cell? ⟨bs, 1, none⟩ = some (.int .i64 C) := bxl.cell 1
      go_upto_region 26 with fail
      generalize w6.alloc (.cells #[.slice E1 (n + k) e1, .int .i64 C, .slice E2 (n + k) e2] 26) = wg at *
      generalize w6.heap.size = bl at *
      have hcc : (C != C) = false := by simp
      have hnk : (((n + k : Nat) : Int) != ((n + k : Nat) : Int)) = false := by simp
      clear bx bn bxl hxl
      go_wp2_with fail
      go_loopw [160] (fun i wr => ∃ t q : Nat, t ≤ n + k ∧ i = .int .i64 t ∧ wr = wg.drewN q) (fun i _ => n + k - (intOf i).toNat)
      case atStart => exact ⟨0, 0, Nat.zero_le _, rfl, rfl⟩
      case round =>
        obtain ⟨t, q, ht, rfl, rfl⟩ := hrel
        by_cases htl : t < n + k
        · obtain ⟨b, off, y, rfl, hb, hy, hyc⟩ := hE.look htl
          have ht0 : (0 : Int) ≤ (t : Int) := by omega
          have ht1 : (t : Int) < ((n + k : Nat) : Int) := by omega
          have hlaw := HLW.out.2 t
          rw [HL.out, hy.out] at hlaw
          by_cases htn : t < n
          · obtain ⟨b', off', z, rfl, hb', hz, hzc⟩ := hL.look htn
            rw [if_pos htn, hz.out] at hlaw
            subst hlaw
            have ht2 : (t : Int) < (n : Int) := by omega
            have hd : decide ((n : Int) ≤ (t : Int)) = false := by simp; omega
            have hd2 : decide ((t : Int) ≥ (n : Int)) = false := by simp; omega
            have hd3 : decide (n ≤ t) = false := by simp; omega
            have hzz : (y != y) = false := by simp
            clear hy hz
            go_wp2_with fail
            go_quiet (fail)
            go_wp2_with fail
            go_roundw
            case rel => exact ⟨t + 1, _, by omega, by go_num, rfl⟩
            case measure => simp [intOf]; omega
          · rw [if_neg htn] at hlaw
            subst hlaw
            have hd : decide ((t : Int) < (n : Int)) = false := by simp; omega
            have ht2 : (n : Int) ≤ (t : Int) := by omega
            have hzz : ((0 : Int) != 0) = false := rfl
            clear hy
            go_wp2_with fail
            go_quiet (fail)
            go_wp2_with fail
            go_roundw
            case rel => exact ⟨t + 1, _, by omega, by go_num, rfl⟩
            case measure => simp [intOf]; omega
        · go_wp2_with fail
          go_ret
          exact ⟨rfl, below_drewN hb2 _⟩
end Go.Proofs.Ytkbnbdpdmcnkiaa
