/- The reference of layer 23: Tight, Check. -/
import Derived.Test.YtkbnbdpdmcnkiaaBM
import Derived.Test.YtkbnbdpdmcnkiaaBK
namespace Go.Proofs.Ytkbnbdpdmcnkiaa
open Go.RowKit

/-- Is one of k pairs tight that begin on s? -/
def tgU (st h : Int) (xs ps : List Int) (s : Nat) : Nat → Bool
  | 0 => false
  | k + 1 => tgU st h xs ps s k || tgP st h xs ps s (s + k)
theorem tgU_iff {st h : Int} {xs ps : List Int} {s k : Nat} : tgU st h xs ps s k = true ↔ ∃ i, i < k ∧ tgP st h xs ps s (s + i) = true := by
  induction k with
  | zero => simp [tgU]
  | succ k ih =>
    rw [tgU, Bool.or_eq_true, ih]
    constructor
    · rintro (⟨i, h1, h2⟩ | h)
      · exact ⟨i, by omega, h2⟩
      · exact ⟨k, by omega, h⟩
    · rintro ⟨i, h1, h2⟩
      by_cases e : i = k
      · subst e; exact .inr h2
      · exact .inl ⟨i, by omega, h2⟩
theorem tgU_tgD {st h : Int} {xs ps : List Int} {s n : Nat} (hs : s < n) : tgU st h xs ps s (n - s) = tgD st h xs ps n s := by
  rw [Bool.eq_iff_iff, tgU_iff, tgD, List.any_eq_true]
  constructor
  · rintro ⟨i, h1, h2⟩
    exact ⟨s + i, List.mem_range.2 (by omega), by rw [Bool.and_eq_true, decide_eq_true_eq]; exact ⟨by omega, h2⟩⟩
  · rintro ⟨t, h1, h2⟩
    rw [Bool.and_eq_true, decide_eq_true_eq] at h2
    have := List.mem_range.1 h1
    exact ⟨t - s, by omega, by rw [show s + (t - s) = t by omega]; exact h2.2⟩
theorem tgD_ge {st h : Int} {xs ps : List Int} {n d : Nat} (hd : n ≤ d) : tgD st h xs ps n d = false := by
  rw [tgD, List.any_eq_false]
  intro t ht
  have := List.mem_range.1 ht
  rw [Bool.and_eq_true, decide_eq_true_eq]
  omega
theorem tgL_more {T : Nat → Bool} {n : Nat} (k : Nat) (h : ∀ d, n ≤ d → T d = false) : tgL T (n + k) = tgL T n := by
  induction k with
  | zero => rfl
  | succ k ih => rw [show n + (k + 1) = n + k + 1 by omega, tgL, if_neg (by rw [h (n + k) (by omega)]; decide), ih]
theorem tgL_16 {st h : Int} {xs ps : List Int} {n : Nat} (hn : n ≤ 16) : tgL (tgD st h xs ps n) 16 = tgL (tgD st h xs ps n) n := by
  have := tgL_more (T := tgD st h xs ps n) (n := n) (16 - n) (fun d hd => tgD_ge hd)
  rwa [show n + (16 - n) = 16 by omega] at this

set_option maxHeartbeats 1000000 in
theorem rTight_in (n cap capp : Nat) (A A' : Option Addr) (xs ps : List Int) (st h : Int) (w : World) (hx : SI w w.heap.size A n xs) (hp : SI w w.heap.size A' n ps) (hv : vA xs st h = true) (hvp : vP xs ps = true) :
    Calls Try.prog 36 #[.slice A n cap, .int .i64 st, .int .i64 h, .slice A' n capp] w fun e W' => ∃ B c, e = .returned (.tuple #[.slice B (tgL (tgD st h xs ps n) n).length c, .int .i64 0]) ∧ SI W' W'.heap.size B (tgL (tgD st h xs ps n) n).length (tgL (tgD st h xs ps n) n) ∧ Below w.heap.size w W' := by
  obtain ⟨hn, hf0, hs0, hs1, hh0, hh1⟩ := vA_all hv
  obtain ⟨hl, hP0⟩ := vP_iff.1 hvp
  rw [hx.len] at hn hl
  rw [hl] at hP0
  have hP := Lib.hid hP0
  have HX := Lib.hid (show Bd 1048576 (g xs) n from fun k _ => hf0 k)
  have HF := Lib.hid (fun k => (hf0 k).1)
  have hX1 : Hid (∀ d, d ≤ n → -1152921504606846976 ≤ pF ps d ∧ pF ps d ≤ 1152921504606846976) := Lib.hid (fun d hd => by
    match d, hd with
    | 0, _ => simp [pF]
    | d + 1, hd => exact hP.out d (by omega))
  have h26 := rValid_any w.heap.size n cap A xs st h w hx (by omega)
  have h57 := rvalidP_any w.heap.size n cap n capp A A' xs ps w hx hp (by omega)
  rw [hv] at h26
  rw [hvp] at h57
  have H26 := Lib.hid h26
  have H57 := Lib.hid h57
  clear hl hP0 hvp hv h26 h57 hf0
  go_enter Try.func36, Try.ntmps36
  go_wp2_with fail
  refine H26.out.mono ?_
  rintro e w' ⟨rfl, rfl⟩
  go_wp2_with fail
  refine H57.out.mono ?_
  rintro e w' ⟨rfl, rfl⟩
  go_wp2_with fail
  go_loopw [10, 11] (fun v i wr => ∃ (s : Nat) (L : List Int) (Q : Option Addr) (c : Nat), s ≤ n ∧ i = .int .i64 s ∧ v = .slice Q L.length c ∧ OI wr w.heap.size (.slice Q L.length c) L.length L ∧ Hid (L = tgL (tgD st h xs ps n) s) ∧ Below w.heap.size w wr) (fun _ i _ => n - (intOf i).toNat)
  case atStart => exact ⟨0, [], _, _, Nat.zero_le _, rfl, rfl, OI.lit w #[] 0 [] (Nat.le_refl _) (by omega) rfl rfl, Lib.hid rfl, (Below.refl _ _).alloc (Nat.le_refl _) _⟩
  case round =>
    obtain ⟨s, L, Q, c, hs, rfl, rfl, hown, hL, hbl⟩ := hrel
    by_cases hsn : s < n
    · go_wp2_with fail
      have hx' := hx.below hbl
      have hp' := hp.below hbl
      have hLl : Hid (L.length ≤ s) := Lib.hid (by rw [hL.out]; exact tgL_len _ _)
      obtain ⟨wo, hwo⟩ : ∃ wo : World, wo = wr := ⟨_, rfl⟩
      subst hwo
      go_loop [12, 13] (fun m i => ∃ (t : Nat) (M : Bool), s ≤ t ∧ t ≤ n ∧ i = .int .i64 t ∧ m = .bool M ∧ Hid (tgU st h xs ps s (t - s) = M)) (fun _ i => n - (intOf i).toNat)
      case atStart => exact ⟨s, false, Nat.le_refl _, hs, rfl, rfl, Lib.hid (by simp [tgU])⟩
      case round =>
        obtain ⟨t, M, hst, htn, rfl, rfl, hM⟩ := hrel
        by_cases htl : t < n
        · have hN : Hid (tgU st h xs ps s (t + 1 - s) = (M || tgP st h xs ps s t)) := Lib.hid (by rw [show t + 1 - s = (t - s) + 1 by omega, tgU, hM.out, show s + (t - s) = t by omega])
          cases M
          · have p0 := rsome_any w.heap.size n cap A xs s t wo hx' hn HF.out hst htl
            have p1 : Calls Try.prog 59 #[.slice A' n capp, .int .i64 ((t : Int) + 1)] wo fun e w' => e = .returned (.int .i64 (pF ps (t + 1))) ∧ wo = w' := rf_any _ n capp A' ps (t + 1) wo hp' (by omega) (by omega)
            have p2 : Calls Try.prog 59 #[.slice A' n capp, .int .i64 (s : Int)] wo fun e w' => e = .returned (.int .i64 (pF ps s)) ∧ wo = w' := rf_any _ n capp A' ps s wo hp' (by omega) (by omega)
            have p3 := between_any _ n cap A xs st h s t s t wo hx' hn HX.out hs0 hs1 hh0 hh1 rfl rfl hst htl
            have hXb := hX1.out (t + 1) (by omega)
            have hYb := hX1.out s (by omega)
            have hcb := btw_bd HX.out hn hs0 hs1 hh0 hh1 s (t + 1 - s) (by omega)
            have htg : tgP st h xs ps s t = (!decide (sm (g xs) s (t + 1 - s) = 0) && decide (pF ps (t + 1) = pF ps s + btw st h (g xs) s (t + 1 - s))) := rfl
            obtain ⟨X, hX'⟩ : ∃ X, pF ps (t + 1) = X := ⟨_, rfl⟩
            obtain ⟨Y, hY'⟩ : ∃ Y, pF ps s = Y := ⟨_, rfl⟩
            obtain ⟨C, hC'⟩ : ∃ C, btw st h (g xs) s (t + 1 - s) = C := ⟨_, rfl⟩
            obtain ⟨E, hE'⟩ : ∃ E, (!decide (sm (g xs) s (t + 1 - s) = 0)) = E := ⟨_, rfl⟩
            rw [hX'] at p1 hXb htg
            rw [hY'] at p2 hYb htg
            rw [hC'] at p3 hcb htg
            rw [hE'] at p0 htg
            clear hX' hY' hC' hE'
            cases E
            · have HT : Hid (tgP st h xs ps s t = false) := Lib.hid (by rw [htg]; rfl)
              have P0 := Lib.hid p0
              clear p0 p1 p2 p3 htg
              go_wp2_with fail
              refine P0.out.mono ?_
              rintro e w' ⟨rfl, rfl⟩
              go_wp2_with fail
              go_round
              case rel => exact ⟨t + 1, false, by omega, by omega, by go_num, rfl, Lib.hid (by rw [hN.out, HT.out]; rfl)⟩
              case measure => simp [intOf]; omega
            · have P0 := Lib.hid p0
              have P1 := Lib.hid p1
              have P2 := Lib.hid p2
              have P3 := Lib.hid p3
              clear p0 p1 p2 p3
              cases hd : (X == Y + C)
              · have HT : Hid (tgP st h xs ps s t = false) := Lib.hid (by rw [htg]; simpa using hd)
                clear htg
                go_wp2_with fail
                refine P0.out.mono ?_
                rintro e w' ⟨rfl, rfl⟩
                go_wp2_with fail
                refine P1.out.mono ?_
                rintro e w' ⟨rfl, rfl⟩
                go_wp2_with fail
                refine P2.out.mono ?_
                rintro e w' ⟨rfl, rfl⟩
                go_wp2_with fail
                refine P3.out.mono ?_
                rintro e w' ⟨rfl, rfl⟩
                go_wp2_with fail
                go_round
                case rel => exact ⟨t + 1, false, by omega, by omega, by go_num, rfl, Lib.hid (by rw [hN.out, HT.out]; rfl)⟩
                case measure => simp [intOf]; omega
              · have HT : Hid (tgP st h xs ps s t = true) := Lib.hid (by rw [htg]; simpa using hd)
                clear htg
                go_wp2_with fail
                refine P0.out.mono ?_
                rintro e w' ⟨rfl, rfl⟩
                go_wp2_with fail
                refine P1.out.mono ?_
                rintro e w' ⟨rfl, rfl⟩
                go_wp2_with fail
                refine P2.out.mono ?_
                rintro e w' ⟨rfl, rfl⟩
                go_wp2_with fail
                refine P3.out.mono ?_
                rintro e w' ⟨rfl, rfl⟩
                go_wp2_with fail
                go_round
                case rel => exact ⟨t + 1, true, by omega, by omega, by go_num, rfl, Lib.hid (by rw [hN.out, HT.out]; rfl)⟩
                case measure => simp [intOf]; omega
          · go_wp2_with fail
            go_round
            case rel => exact ⟨t + 1, true, by omega, by omega, by go_num, rfl, Lib.hid (by rw [hN.out]; rfl)⟩
            case measure => simp [intOf]; omega
        · have e := hM.out
          rw [show t = n by omega, tgU_tgD hsn] at e
          have HM := Lib.hid e
          clear e
          cases M
          · have HN : Hid (L = tgL (tgD st h xs ps n) (s + 1)) := Lib.hid (by rw [tgL, if_neg (by rw [HM.out]; decide)]; exact hL.out)
            go_wp2_with fail
            go_roundw
            case rel => exact ⟨s + 1, L, Q, c, by omega, by go_num, rfl, hown, HN, hbl⟩
            case measure => simp [intOf]; omega
          · have HN : Hid (L ++ [(s : Int)] = tgL (tgD st h xs ps n) (s + 1)) := Lib.hid (by rw [tgL, if_pos HM.out, hL.out])
            go_wp2_with (at_builtin; refine wpList_app1 rfl (.tmp 64) (.tmp 66) rfl wo w.heap.size _ L.length L (s : Int) rfl rfl hown (by have := hLl.out; omega) hbl.size ?_; intro g' c' w4 hown4 hgr4)
            go_roundw
            case rel =>
              have e : (L ++ [(s : Int)]).length = L.length + 1 := by simp
              exact ⟨s + 1, L ++ [(s : Int)], some ⟨g', 0, none⟩, c', by omega, by go_num, by rw [e], by rw [e]; exact hown4, HN, (hbl.alloc hbl.size _).grown hgr4 (by have := hbl.size; simp; omega) (fun k e => (World.ownsRow.lt hown k e).1)⟩
            case measure => simp [intOf]; omega
    · obtain rfl : s = n := by omega
      go_wp2_with fail
      go_ret2
      have hL' : tgL (tgD st h xs ps s) s = L := hL.out.symm
      rw [hL']
      exact ⟨Q, c, rfl, hown.SIv, hbl⟩

set_option maxHeartbeats 400000 in
theorem rTight_bad (n cap np capp : Nat) (A A' : Option Addr) (xs ps : List Int) (st h : Int) (w : World) (hx : SI w w.heap.size A n xs) (hp : SI w w.heap.size A' np ps) (hn : n ≤ 9223372036854775807) (hnp : np ≤ 9223372036854775807) (hk : okB xs st h ps = false) :
    Calls Try.prog 36 #[.slice A n cap, .int .i64 st, .int .i64 h, .slice A' np capp] w fun e w' => e = .returned (.tuple #[.slice none 0 0, .int .i64 230]) ∧ w = w' := by
  have h26 := rValid_any w.heap.size n cap A xs st h w hx hn
  cases hv : vA xs st h
  · rw [hv] at h26
    clear hv
    go_enter Try.func36, Try.ntmps36
    go_wp2_with fail
    refine h26.mono ?_
    rintro e w' ⟨rfl, rfl⟩
    go_wp2_with fail
    go_ret2
    exact ⟨rfl, rfl⟩
  · rw [hv] at h26
    have hvp : vP xs ps = false := by simpa [okB, hv] using hk
    have h57 := rvalidP_any w.heap.size n cap np capp A A' xs ps w hx hp hnp
    rw [hvp] at h57
    have H57 := Lib.hid h57
    clear hv hk hvp h57
    go_enter Try.func36, Try.ntmps36
    go_wp2_with fail
    refine h26.mono ?_
    rintro e w' ⟨rfl, rfl⟩
    go_wp2_with fail
    refine H57.out.mono ?_
    rintro e w' ⟨rfl, rfl⟩
    go_wp2_with fail
    go_ret2
    exact ⟨rfl, rfl⟩

theorem rTight_any (n cap np capp : Nat) (A A' : Option Addr) (xs ps : List Int) (st h : Int) (w : World) (hx : SI w w.heap.size A n xs) (hp : SI w w.heap.size A' np ps) (hn : n ≤ 9223372036854775807) (hnp : np ≤ 9223372036854775807) :
    Calls Try.prog 36 #[.slice A n cap, .int .i64 st, .int .i64 h, .slice A' np capp] w fun e w' => ∃ B c, e = .returned (.tuple #[.slice B (tigL xs st h ps).length c, .int .i64 (errP (okB xs st h ps))]) ∧ SI w' w'.heap.size B (tigL xs st h ps).length (tigL xs st h ps) ∧ Below w.heap.size w w' := by
  cases hk : okB xs st h ps
  · have e : tigL xs st h ps = [] := by simp [tigL, hk]
    refine (rTight_bad n cap np capp A A' xs ps st h w hx hp hn hnp hk).mono ?_
    rintro e w' ⟨rfl, rfl⟩
    rw [e]
    exact ⟨none, 0, rfl, SI.nil, Below.refl _ _⟩
  · simp only [okB, Bool.and_eq_true] at hk
    have hn16 : n ≤ 16 := by rw [← hx.len]; exact (vA_all hk.1).1
    have e : tigL xs st h ps = tgL (tgD st h xs ps n) n := by rw [← tgL_16 hn16, ← hx.len]; simp [tigL, okB, hk.1, hk.2]
    rw [e]
    have e2 : np = n := by have := (vP_iff.1 hk.2).1; have := hx.len; have := hp.len; omega
    subst e2
    exact rTight_in np cap capp A A' xs ps st h w hx hp hk.1 hk.2

set_option maxHeartbeats 1000000 in
theorem rCheck_any (n cap nl cl np cp : Nat) (A L P : Option Addr) (xs ls ps : List Int) (st h z : Int) (w : World) (hx : SI w w.heap.size A n xs) (hy : SI w w.heap.size L nl ls) (hp : SI w w.heap.size P np ps) (hn : n ≤ 9223372036854775807) (hnl : nl ≤ 9223372036854775807) (hnp : np ≤ 9223372036854775807) :
    Calls Try.prog 37 #[.slice A n cap, .int .i64 st, .int .i64 h, .agg #[.slice L nl cl, .int .i64 z, .slice P np cp]] w fun e w' => e = .returned (.tuple #[.bool (chkB xs st h ls z ps), .int .i64 (errP (vA xs st h))]) ∧ Below w.heap.size w w' := by
  have hl := Lib.hid hx.len
  have hB : Below w.heap.size w (w.alloc (.cells #[.slice L nl cl, .int .i64 z, .slice P np cp] 26)) := (Below.refl _ w).alloc (Nat.le_refl _) _
  have H26 := Lib.hid (rValid_any w.heap.size n cap A xs st h _ (hx.below hB) hn)
  have H25 := Lib.hid (rCost_any w.heap.size n cap nl cl A L xs ls st h _ (hx.below hB) (hy.below hB) hn hnl)
  have H35 := Lib.hid (fun q => rBound_any n cap np cp A P xs ps st h _ ((hx.step hB).drewN q) ((hp.step hB).drewN q) hn hnp)
  cases hv : vA xs st h
  · have h26 := H26.out
    rw [hv] at h26
    have HV := Lib.hid hv
    clear hv H26 H25 H35
    go_enter Try.func37, Try.ntmps37
    go_wp2_with fail
    refine h26.mono ?_
    rintro e w' ⟨rfl, rfl⟩
    go_wp2_with fail
    go_ret2
    exact ⟨by simp [chkB, k1B, okK, HV.out, errP], hB⟩
  · have h26 := H26.out
    have h25 := H25.out
    rw [hv] at h26
    obtain ⟨K, hK⟩ : ∃ K, costAns xs ls st h n = K := ⟨_, rfl⟩
    obtain ⟨C, hC⟩ : ∃ C, bndC xs st h ps = C := ⟨_, rfl⟩
    rw [hK] at h25
    have H26' := Lib.hid h26
    have hch : chkB xs st h ls z ps = (okK xs ls st h && ((K == z) && (okB xs st h ps && (bndB xs st h ps && (C == z))))) := by
      rw [Bool.eq_iff_iff]
      constructor
      · intro hc
        obtain ⟨c1, c2, c3, c4⟩ := chk_parts hc
        have c5 := (bnd_parts c3).1
        have e1 : K = z := by rw [← hK, costAns, if_pos c1, ← hl.out]; exact c2
        have e2 : C = z := by rw [← hC]; exact c4
        simp [c1, c3, c5, e1, e2]
      · intro hc
        simp only [Bool.and_eq_true, beq_iff_eq] at hc
        obtain ⟨c1, c2, c3, c4, c5⟩ := hc
        obtain ⟨_, _, d1, d2, d3⟩ := bnd_parts c4
        have e1 : costTo st h xs ls xs.length = z := by rw [← c2, ← hK, costAns, if_pos c1, hl.out]
        simp only [chkB, k1B, Bool.and_eq_true, decide_eq_true_eq]
        exact ⟨⟨c1, e1⟩, d1, d2, by rw [← d3, hC]; exact c5⟩
    rw [hch]
    have h35 := H35.out
    rw [hC] at h35
    clear hv hK hC hch H26 H25 H35 h26
    cases hk : okK xs ls st h
    · rw [hk] at h25
      have H25' := Lib.hid h25
      have H35' := Lib.hid h35
      cases hob : okB xs st h ps
      all_goals
        have HOB := Lib.hid hob
        have h35' := H35'.out
        rw [HOB.out] at h35'
        have H35'' := Lib.hid h35'
        clear hk h25 h35 h35' hob
        go_enter Try.func37, Try.ntmps37
        go_wp2_with fail
        refine H26'.out.mono ?_
        rintro e w' ⟨rfl, rfl⟩
        go_wp2_with fail
        refine H25'.out.mono ?_
        rintro e w' ⟨rfl, q, rfl⟩
        go_wp2_with fail
        refine (H35''.out q).mono ?_
        rintro e w' ⟨rfl, rfl⟩
        go_wp2_with fail
        go_ret2
        exact ⟨rfl, below_drewN hB q⟩
    · rw [hk] at h25
      have H25' := Lib.hid h25
      clear hk h25
      cases hd : (K == z)
      · cases hob : okB xs st h ps
        all_goals
          have h35' := h35
          rw [hob] at h35'
          have H35'' := Lib.hid h35'
          clear h35' hob h35
          go_enter Try.func37, Try.ntmps37
          go_wp2_with fail
          refine H26'.out.mono ?_
          rintro e w' ⟨rfl, rfl⟩
          go_wp2_with fail
          refine H25'.out.mono ?_
          rintro e w' ⟨rfl, q, rfl⟩
          go_wp2_with fail
          refine (H35''.out q).mono ?_
          rintro e w' ⟨rfl, rfl⟩
          go_wp2_with fail
          go_ret2
          exact ⟨rfl, below_drewN hB q⟩
      · cases hob : okB xs st h ps
        · have h35' := h35
          rw [hob] at h35'
          have H35'' := Lib.hid h35'
          clear h35' hob h35
          go_enter Try.func37, Try.ntmps37
          go_wp2_with fail
          refine H26'.out.mono ?_
          rintro e w' ⟨rfl, rfl⟩
          go_wp2_with fail
          refine H25'.out.mono ?_
          rintro e w' ⟨rfl, q, rfl⟩
          go_wp2_with fail
          refine (H35''.out q).mono ?_
          rintro e w' ⟨rfl, rfl⟩
          go_wp2_with fail
          go_ret2
          exact ⟨rfl, below_drewN hB q⟩
        · cases hbb : bndB xs st h ps
          · have h35' := h35
            rw [hob, hbb] at h35'
            have H35'' := Lib.hid h35'
            clear h35' hob hbb h35
            go_enter Try.func37, Try.ntmps37
            go_wp2_with fail
            refine H26'.out.mono ?_
            rintro e w' ⟨rfl, rfl⟩
            go_wp2_with fail
            refine H25'.out.mono ?_
            rintro e w' ⟨rfl, q, rfl⟩
            go_wp2_with fail
            refine (H35''.out q).mono ?_
            rintro e w' ⟨rfl, rfl⟩
            go_wp2_with fail
            go_ret2
            exact ⟨rfl, below_drewN hB q⟩
          · have h35' := h35
            rw [hob, hbb] at h35'
            have H35'' := Lib.hid h35'
            clear h35' hob hbb h35
            cases hdd : (C == z)
            all_goals
              go_enter Try.func37, Try.ntmps37
              go_wp2_with fail
              refine H26'.out.mono ?_
              rintro e w' ⟨rfl, rfl⟩
              go_wp2_with fail
              refine H25'.out.mono ?_
              rintro e w' ⟨rfl, q, rfl⟩
              go_wp2_with fail
              refine (H35''.out q).mono ?_
              rintro e w' ⟨rfl, rfl⟩
              go_wp2_with fail
              go_ret2
              exact ⟨rfl, below_drewN hB q⟩

end Go.Proofs.Ytkbnbdpdmcnkiaa
