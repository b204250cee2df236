/- PricesLower, walked. -/
import Derived.Test.YtkbnbdpdmcnkiaaBJ
import Derived.Test.YtkbnbdpdmcnkiaaCX
namespace Go.Proofs.Ytkbnbdpdmcnkiaa
open Go.RowKit

/-- The prices, lowered from a day on, behind k days. -/
def lowL (F y : Int) (ps : List Int) : Nat → List Int
  | 0 => ps
  | k + 1 => if F ≤ (k : Int) then (lowL F y ps k).set k (g (lowL F y ps k) k - y) else lowL F y ps k
theorem lowL_len (F y : Int) (ps : List Int) (k : Nat) : (lowL F y ps k).length = ps.length := by
  induction k with
  | zero => rfl
  | succ k ih =>
    rw [lowL]
    split
    · rw [List.length_set, ih]
    · exact ih
theorem lowL_at (F y : Int) (ps : List Int) (k : Nat) (hk : k ≤ ps.length) (j : Nat) : g (lowL F y ps k) j = if j < k ∧ F ≤ (j : Int) then g ps j - y else g ps j := by
  induction k with
  | zero => simp [lowL]
  | succ k ih =>
    rw [lowL]
    by_cases hF : F ≤ (k : Int)
    · rw [if_pos hF, g_set _ _ _ _ (by rw [lowL_len]; omega)]
      by_cases e : j = k
      · subst e
        rw [if_pos rfl, ih (by omega), if_neg (by omega), if_pos (by omega)]
      · rw [if_neg e, ih (by omega)]
        by_cases h : j < k ∧ F ≤ (j : Int)
        · rw [if_pos h, if_pos (by omega)]
        · rw [if_neg h, if_neg (by omega)]
    · rw [if_neg hF, ih (by omega)]
      by_cases h : j < k ∧ F ≤ (j : Int)
      · rw [if_pos h, if_pos (by omega)]
      · rw [if_neg h, if_neg (by omega)]

/-- What Bound says of the lowered prices. -/
theorem low_law {xs ps : List Int} {st h F y : Int} (hb : bndB xs st h ps = true) (y0 : 0 ≤ y) (y1 : y ≤ 65535) (F0 : 0 ≤ F) (hlo : ∀ j : Nat, j < ps.length → F ≤ (j : Int) → -576460752303423488 ≤ g ps j) :
    okB xs st h (lowL F y ps ps.length) = true ∧ bndB xs st h (lowL F y ps ps.length) = true ∧ bndC xs st h (lowL F y ps ps.length) = bndC xs st h ps - (if F < (ps.length : Int) then y else 0) := by
  obtain ⟨_, hv, hvp, hp, hC⟩ := bnd_parts hb
  obtain ⟨hl, hP⟩ := vP_iff.1 hvp
  have hat := fun j => lowL_at F y ps ps.length (Nat.le_refl _) j
  have hvp' : vP xs (lowL F y ps ps.length) = true := by
    rw [vP_iff]
    refine ⟨by rw [lowL_len, hl], fun k hk => ?_⟩
    rw [lowL_len] at hk
    have h1 := hP k hk
    rw [hat k]
    by_cases e : k < ps.length ∧ F ≤ (k : Int)
    · rw [if_pos e]
      have := hlo k hk e.2
      omega
    · rw [if_neg e]; exact h1
  have hF : ∀ t, pF (lowL F y ps ps.length) (t + 1) = if t < ps.length ∧ F ≤ (t : Int) then pF ps (t + 1) - y else pF ps (t + 1) := fun t => hat t
  have hp' : prfB st h xs (lowL F y ps ps.length) xs.length = true := by
    rw [prfB_iff]
    intro t s hst ht
    have h1 := prfB_iff.1 hp t s hst ht
    rw [hF t]
    have h2 : pF ps s - (if F ≤ (t : Int) then y else 0) ≤ pF (lowL F y ps ps.length) s := by
      match s, hst with
      | 0, _ =>
        show (0 : Int) - _ ≤ 0
        split <;> omega
      | s + 1, hst =>
        rw [hF s]
        by_cases e : s < ps.length ∧ F ≤ (s : Int)
        · rw [if_pos e, if_pos (by omega)]; exact Int.le_refl _
        · rw [if_neg e]
          split <;> omega
    by_cases e : F ≤ (t : Int)
    · rw [if_pos ⟨by omega, e⟩]
      rw [if_pos e] at h2
      omega
    · rw [if_neg (by omega)]
      rw [if_neg e] at h2
      omega
  have ho : okB xs st h (lowL F y ps ps.length) = true := by simp only [okB, hv, hvp', Bool.and_self]
  have hb' : bndB xs st h (lowL F y ps ps.length) = true := by simp only [bndB, ho, hp', Bool.and_self]
  refine ⟨ho, hb', ?_⟩
  rw [(bnd_parts hb').2.2.2.2, hC, ← hl]
  cases hn : ps.length with
  | zero =>
    show (0 : Int) = 0 - _
    rw [if_neg (by omega)]; rfl
  | succ m =>
    have := hF m
    rw [hn] at this
    rw [this]
    by_cases e : F ≤ (m : Int)
    · rw [if_pos ⟨by omega, e⟩, if_pos (by omega)]
    · rw [if_neg (by omega), if_neg (by omega)]; omega

set_option maxHeartbeats 1000000 in
theorem pricesLower_any (n c np cp : Nat) (A P : Option Addr) (xs ps : List Int) (s h F y : Int) (w : World) (hx : SI w w.heap.size A n xs) (hp : SI w w.heap.size P np ps) (F0 : 0 ≤ F) (F1 : F ≤ 255) (y0 : 0 ≤ y) (y1 : y ≤ 65535) :
    Calls Try.prog 16 #[.slice A n c, .int .i64 s, .int .i64 h, .slice P np cp, .int .u8 F, .int .u16 y] w fun e w' => e = .returned (.bool true) ∧ Below w.heap.size w w' := by
  by_cases a1 : (20 : Int) < n
  · go_enter Try.func16, Try.ntmps16
    go_wp2_with fail
    refine (sane23_any w).mono ?_
    rintro e w1 ⟨rfl, hb1⟩
    go_wp2_with fail
    go_ret
    exact ⟨rfl, hb1⟩
  by_cases a3 : (20 : Int) < np
  · go_enter Try.func16, Try.ntmps16
    go_wp2_with fail
    refine (sane23_any w).mono ?_
    rintro e w1 ⟨rfl, hb1⟩
    go_wp2_with fail
    go_ret
    exact ⟨rfl, hb1⟩
  have hl := Lib.hid hp.len
  obtain ⟨C, hC⟩ : ∃ C, bndC xs s h ps = C := ⟨_, rfl⟩
  cases hb : bndB xs s h ps
  · cases ho : okB xs s h ps
    all_goals
      have HF := Lib.hid (And.intro hC (And.intro hb (congrArg errP ho)))
      clear hC hb ho
      go_enter Try.func16, Try.ntmps16
      go_wp2_with fail
      refine (sane23_any w).mono ?_
      rintro e w1 ⟨rfl, hb1⟩
      go_wp2_with fail
      refine (Bound_at C false _ (hx.step hb1) (hp.step hb1) (by omega) (by omega) HF.out).mono ?_
      rintro e w2 ⟨rfl, hb2⟩
      go_wp2_with fail
      go_ret
      exact ⟨rfl, hb1.trans (hb2.mono hb1.size)⟩
  · have ho := (bnd_parts hb).1
    have hP := (vP_iff.1 (bnd_parts hb).2.2.1).2
    rw [hl.out] at hP
    have HPP := Lib.hid hP
    have HF := Lib.hid (And.intro hC (And.intro hb (congrArg errP ho)))
    clear hC hb ho hP
    have hcb : -1152921504606846976 ≤ C ∧ C ≤ 1152921504606846976 := by
      have e := (bnd_parts HF.out.2.1).2.2.2.2
      rw [HF.out.1] at e
      have hl2 := (vP_iff.1 (bnd_parts HF.out.2.1).2.2.1).1
      rw [e, ← hl2, hl.out]
      match np, HPP.out with
      | 0, _ => simp [pF]
      | m + 1, H => exact H m (by omega)
    go_enter Try.func16, Try.ntmps16
    go_wp2_with fail
    refine (sane23_any w).mono ?_
    rintro e w1 ⟨rfl, hb1⟩
    go_wp2_with fail
    refine (Bound_at C true 0 (hx.step hb1) (hp.step hb1) (by omega) (by omega) HF.out).mono ?_
    rintro e w2 ⟨rfl, hb2⟩
    replace hb2 := hb1.trans (hb2.mono hb1.size)
    clear hb1
    go_wp2_with (at_builtin; refine wpList_app_all rfl (.tmp 47) (.tmp 48) rfl (w2.alloc (.cells #[] 3)) w2.heap.size 0 np w.heap.size cp P (.slice (some ⟨w2.heap.size, 0, none⟩) 0 0) [] ps rfl rfl (OI.empty w2 _ (Nat.le_refl _)) ((hp.below hb2).alloc hb2.size _) (by omega) (by simp) ?_; intro v3 w3 ho3 hg3)
    rw [Nat.zero_add, List.nil_append] at ho3
    have hb3 : Below w.heap.size w w3 := (hb2.alloc hb2.size _).grown hg3 (by have := hb2.size; simp; omega) (fun k e => by simp [Value.ownBlock] at e; have := hb2.size; omega)
    obtain ⟨Q, cq, rfl, hform⟩ := ho3.form2
    have hwb := hb2.size
    have HFORM := Lib.hid hform
    clear hg3 hform hb2
    go_loopw [17, 18] (fun d i wr => ∃ k : Nat, k ≤ np ∧ i = .int .i64 k ∧ d = .bool (decide (F < (k : Int))) ∧ OI wr w2.heap.size (.slice Q np cq) np (lowL F y ps k) ∧ Below w.heap.size w wr ∧ Hid (∀ j : Nat, j < k → F ≤ (j : Int) → -576460752303423488 ≤ g ps j)) (fun _ i _ => np - (intOf i).toNat)
    case atStart => exact ⟨0, Nat.zero_le _, rfl, by rw [decide_eq_false (by omega)], ho3, hb3, Lib.hid (fun j hj => by omega)⟩
    case round =>
      obtain ⟨k, hk, rfl, rfl, hown, hbl, hlo⟩ := hrel
      by_cases hlt : k < np
      · obtain ⟨b, rfl⟩ := HFORM.out k hlt
        obtain ⟨z, hz, hcz⟩ := hown.look hlt
        have hfz := (World.ownsRow.frozenAt hown) k
        have hzp : Hid (g ps k = z) := Lib.hid (by rw [← hz.out, lowL_at _ _ _ _ (by rw [hl.out]; omega), if_neg (by omega)])
        have hzb := HPP.out k hlt
        rw [hzp.out] at hzb
        obtain ⟨hzb0, hzb1⟩ := hzb
        have hblk : w.heap.size ≤ b := by have := hown.lt.1; omega
        by_cases hkF : (k : Int) < F
        · have hN : Hid (lowL F y ps (k + 1) = lowL F y ps k) := Lib.hid (by rw [lowL, if_neg (by omega)])
          have hd1 : decide (F < (k : Int)) = false := by simp; omega
          rw [hd1]
          go_wp2
          go_roundw
          case rel => exact ⟨k + 1, by omega, by go_num, by rw [decide_eq_false (by omega)], by rw [hN.out]; exact hown, hbl, Lib.hid (fun j hj hF => by
            by_cases e : j = k
            · subst e; omega
            · exact hlo.out j (by omega) hF)⟩
          case measure => simp [intOf]; omega
        · by_cases hzl : z < -576460752303423488
          · go_wp2
            go_ret
            exact ⟨rfl, hbl⟩
          · have hN : Hid (lowL F y ps (k + 1) = (lowL F y ps k).set k (z - y)) := Lib.hid (by rw [lowL, if_pos (by omega), hz.out])
            have hst := hown.stored k (z - y)
            have HST := Lib.hid hst
            clear hst
            go_wp2
            go_roundw
            case rel => exact ⟨k + 1, by omega, by go_num, by rw [decide_eq_true (by omega)], by rw [hN.out]; exact HST.out, hbl.setCell (p := ⟨b, k, none⟩) hblk _, Lib.hid (fun j hj hF => by
              by_cases e : j = k
              · subst e; rw [hzp.out]; omega
              · exact hlo.out j (by omega) hF)⟩
            case measure => simp [intOf]; omega
      · obtain rfl : k = np := by omega
        have hlaw := low_law (F := F) (y := y) HF.out.2.1 y0 y1 F0 (by rw [hl.out]; exact hlo.out)
        rw [hl.out, HF.out.1] at hlaw
        have hx4 := (hx.below hbl).more hbl.size
        have hq4 := hown.SIv
        by_cases hFk : F < (k : Int)
        · rw [if_pos hFk] at hlaw
          rw [decide_eq_true hFk]
          have HL := Lib.hid (And.intro hlaw.2.2 (And.intro hlaw.2.1 (congrArg errP hlaw.1)))
          clear hlaw
          have hy0 : IntKind.i64.wrap (C - y) = C - y := IntWalk.i64_in _ (by omega)
          have hCC : (C - y == C - y) = true := by simp
          go_wp2_with fail
          refine (Bound_at (C - y) true 0 hx4 hq4 (by omega) (by omega) HL.out).mono ?_
          rintro e w5 ⟨rfl, hb5⟩
          go_wp2_with fail
          go_ret
          exact ⟨rfl, hbl.trans (hb5.mono hbl.size)⟩
        · rw [if_neg hFk, Int.sub_zero] at hlaw
          rw [decide_eq_false hFk]
          have HL := Lib.hid (And.intro hlaw.2.2 (And.intro hlaw.2.1 (congrArg errP hlaw.1)))
          clear hlaw
          have hCC : (C == C) = true := by simp
          go_wp2_with fail
          refine (Bound_at C true 0 hx4 hq4 (by omega) (by omega) HL.out).mono ?_
          rintro e w5 ⟨rfl, hb5⟩
          go_wp2_with fail
          go_ret
          exact ⟨rfl, hbl.trans (hb5.mono hbl.size)⟩

end Go.Proofs.Ytkbnbdpdmcnkiaa
