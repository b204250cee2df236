/- The reference of layer 23: valid, f, some, proof, Bound. -/
import Derived.Test.YtkbnbdpdmcnkiaaBI
import Derived.Test.YtkbnbdpdmcnkiaaF
namespace Go.Proofs.Ytkbnbdpdmcnkiaa
open Go.RowKit

set_option maxHeartbeats 400000 in
theorem rvalidP_any (B n cap n' cap' : Nat) (A A' : Option Addr) (xs ls : List Int) (w : World) (h : SI w B A n xs) (h' : SI w B A' n' ls) (hn' : n' ≤ 9223372036854775807) :
    Calls Try.prog 57 #[.slice A n cap, .slice A' n' cap'] w fun e w' => e = .returned (.bool (vP xs ls)) ∧ w = w' := by
  have hl := Lib.hid h.len
  have hl' := Lib.hid h'.len
  go_enter Try.func57, Try.ntmps57
  go_wp2
  go_loop [5] (fun i => ∃ k : Nat, k ≤ n' ∧ i = .int .i64 k ∧ Hid (allR (-1152921504606846976) 1152921504606846976 (ls.take k) = true)) (fun i => n' - (intOf i).toNat)
  case atStart => exact ⟨0, Nat.zero_le _, rfl, Lib.hid rfl⟩
  case round =>
    obtain ⟨k, hk, rfl, ha⟩ := hrel
    by_cases hlt : k < n'
    · obtain ⟨b, off, x, rfl, hb, hx, hc⟩ := h'.look hlt
      by_cases h1 : x < -1152921504606846976
      · go_wp2
        go_ret
        have hF : allR (-1152921504606846976) 1152921504606846976 ls = false := allR_false (k := k) (by rw [hl'.out]; exact hlt) (by rw [hx.out]; exact inR_lo h1)
        exact ⟨ret_bool (by rw [vP, hF, Bool.and_false]), rfl⟩
      · by_cases h2 : 1152921504606846976 < x
        · go_wp2
          go_ret
          have hF : allR (-1152921504606846976) 1152921504606846976 ls = false := allR_false (k := k) (by rw [hl'.out]; exact hlt) (by rw [hx.out]; exact inR_hi h2)
          exact ⟨ret_bool (by rw [vP, hF, Bool.and_false]), rfl⟩
        · go_wp2
          go_round
          case rel => exact ⟨k + 1, by omega, by go_num, Lib.hid (allR_take_succ ha.out (by rw [hl'.out]; exact hlt) (by rw [hx.out]; exact inR_t (by omega) (by omega)))⟩
          case measure => simp [intOf]; omega
    · obtain rfl : k = n' := by omega
      have hall : Hid (allR (-1152921504606846976) 1152921504606846976 ls = true) := Lib.hid (by have e := ha.out; rw [List.take_of_length_le (by rw [hl'.out]; omega)] at e; exact e)
      go_wp2
      go_ret
      exact ⟨ret_bool (by simp only [vP, hall.out, hl.out, hl'.out, beq_nat, Bool.and_true]), rfl⟩

set_option maxHeartbeats 400000 in
theorem rf_any (B n cap : Nat) (A : Option Addr) (ps : List Int) (d : Nat) (w : World) (h : SI w B A n ps) (hn : n ≤ 9223372036854775807) (hd : d ≤ n) :
    Calls Try.prog 59 #[.slice A n cap, .int .i64 d] w fun e w' => e = .returned (.int .i64 (pF ps d)) ∧ w = w' := by
  match d, hd with
  | 0, _ =>
    go_enter Try.func59, Try.ntmps59
    go_wp2
    go_ret
    exact ⟨rfl, rfl⟩
  | d + 1, hd =>
    obtain ⟨b, off, x, rfl, hb, hx, hc⟩ := h.look (k := d) (by omega)
    have i1 : (((d + 1 : Nat) : Int) == 0) = false := by simpa using (by omega : ¬ ((d + 1 : Nat) : Int) = 0)
    have i2 : IntKind.i64.wrap (((d + 1 : Nat) : Int) - 1) = (d : Int) := by rw [show ((d + 1 : Nat) : Int) - 1 = (d : Int) by omega]; exact IntWalk.i64_in _ (by omega)
    go_enter Try.func59, Try.ntmps59
    go_wp2
    go_ret
    exact ⟨ret_int hx.out.symm, rfl⟩

set_option maxHeartbeats 400000 in
theorem rsome_any (B n cap : Nat) (A : Option Addr) (xs : List Int) (s t : Nat) (w : World) (hx : SI w B A n xs) (hn : n ≤ 16) (hf : ∀ k, 0 ≤ g xs k) (hst : s ≤ t) (ht : t < n) :
    Calls Try.prog 60 #[.slice A n cap, .int .i64 s, .int .i64 t] w fun e w' => e = .returned (.bool (!decide (sm (g xs) s (t + 1 - s) = 0))) ∧ w = w' := by
  have HF := Lib.hid hf
  clear hf
  go_enter Try.func60, Try.ntmps60
  go_wp2
  go_loop [7] (fun i => ∃ u : Nat, s ≤ u ∧ u ≤ t + 1 ∧ i = .int .i64 u ∧ Hid (sm (g xs) s (u - s) = 0)) (fun i => n - (intOf i).toNat)
  case atStart => exact ⟨s, by omega, by omega, rfl, Lib.hid (by simp [sm])⟩
  case round =>
    obtain ⟨u, hsu, hut, rfl, hS⟩ := hrel
    by_cases hlt : u ≤ t
    · obtain ⟨b, off, x, rfl, hb, hxx, hc⟩ := hx.look (show u < n by omega)
      have e1 : Hid (sm (g xs) s (u + 1 - s) = x) := Lib.hid (by rw [show u + 1 - s = (u - s) + 1 by omega, sm, hS.out, show s + (u - s) = u by omega, hxx.out]; omega)
      by_cases hx0 : x = 0
      · have hxb : (x != 0) = false := by simp [hx0]
        have HX0 := Lib.hid hx0
        clear hx0
        go_wp2
        go_round
        case rel => exact ⟨u + 1, by omega, by omega, by go_num, Lib.hid (by rw [e1.out, HX0.out])⟩
        case measure => simp [intOf]; omega
      · have hxb : (x != 0) = true := by simp [hx0]
        have HX0 := Lib.hid hx0
        clear hx0
        go_wp2
        go_ret
        refine ⟨ret_bool ?_, rfl⟩
        symm
        rw [Bool.not_eq_true', decide_eq_false_iff_not]
        intro hz
        have := (sm_zero HF.out).1 hz (u - s) (by omega)
        rw [show s + (u - s) = u by omega, hxx.out] at this
        exact HX0.out this
    · obtain rfl : u = t + 1 := by omega
      go_wp2
      go_ret
      exact ⟨ret_bool (by rw [hS.out]; rfl), rfl⟩

set_option maxHeartbeats 1000000 in
theorem rproof_any {n cap np capp : Nat} {A A' : Option Addr} {xs ps : List Int} {st h : Int} {w : World} {B : Nat} (hx : SI w B A n xs) (hp : SI w B A' np ps) (hv : vA xs st h = true) (hvp : vP xs ps = true) :
    Calls Try.prog 58 #[.slice A n cap, .int .i64 st, .int .i64 h, .slice A' np capp] w fun e w' => e = .returned (.bool (prfB st h xs ps n)) ∧ w = w' := by
  obtain ⟨hn, hf, hs0, hs1, hh0, hh1⟩ := vA_all hv
  obtain ⟨hl, hP0⟩ := vP_iff.1 hvp
  have e1 := hx.len
  have e2 := hp.len
  obtain rfl : np = n := by omega
  have hX : Bd 1048576 (g xs) np := fun k _ => hf k
  have hP : Hid (∀ k, k < np → -1152921504606846976 ≤ g ps k ∧ g ps k ≤ 1152921504606846976) := Lib.hid (fun k hk => hP0 k (by omega))
  have hX1 : Hid (∀ d, d ≤ np → -1152921504606846976 ≤ pF ps d ∧ pF ps d ≤ 1152921504606846976) := Lib.hid (fun d hd => by
    match d, hd with
    | 0, _ => simp [pF]
    | d + 1, hd => exact hP.out d (by omega))
  have hn16 : np ≤ 16 := by omega
  have HBX := Lib.hid hX
  clear hP0 hl hvp hv hf e1 e2 hn hX
  go_enter Try.func58, Try.ntmps58
  go_wp2
  go_loop [9] (fun i => ∃ t : Nat, t ≤ np ∧ i = .int .i64 t ∧ Hid (∀ y : Pr np, y.1.2 < t → okP st h xs ps y)) (fun i => np - (intOf i).toNat)
  case atStart => exact ⟨0, Nat.zero_le _, rfl, Lib.hid (fun y hy => by omega)⟩
  case round =>
    obtain ⟨t, ht, rfl, hall⟩ := hrel
    by_cases htn : t < np
    · go_wp2
      obtain ⟨wo, rfl⟩ : ∃ wo : World, wo = w := ⟨_, rfl⟩
      go_loop [10] (fun i => ∃ s : Nat, s ≤ t + 1 ∧ i = .int .i64 s ∧ Hid (∀ y : Pr np, y.1.2 = t → y.1.1 < s → okP st h xs ps y)) (fun i => t + 1 - (intOf i).toNat)
      case atStart => exact ⟨0, Nat.zero_le _, rfl, Lib.hid (fun y _ hy => by omega)⟩
      case round =>
        obtain ⟨s, hs, rfl, hin⟩ := hrel
        by_cases hst : s ≤ t
        · have p1 : Calls Try.prog 59 #[.slice A' np capp, .int .i64 ((t : Int) + 1)] wo fun e w' => e = .returned (.int .i64 (pF ps (t + 1))) ∧ wo = w' := rf_any B np capp A' ps (t + 1) wo hp (by omega) (by omega)
          have p2 : Calls Try.prog 59 #[.slice A' np capp, .int .i64 (s : Int)] wo fun e w' => e = .returned (.int .i64 (pF ps s)) ∧ wo = w' := rf_any B np capp A' ps s wo hp (by omega) (by omega)
          have p3 := between_any B np cap A xs st h s t s t wo hx hn16 HBX.out hs0 hs1 hh0 hh1 rfl rfl hst htn
          have hXb := hX1.out (t + 1) (by omega)
          have hYb := hX1.out s (by omega)
          have hcb := btw_bd HBX.out hn16 hs0 hs1 hh0 hh1 s (t + 1 - s) (by omega)
          obtain ⟨yy, hyy⟩ : ∃ yy : Pr np, yy.1 = (s, t) := ⟨⟨(s, t), hst, htn⟩, rfl⟩
          have hok : okP st h xs ps yy ↔ pF ps (t + 1) ≤ pF ps s + btw st h (g xs) s (t + 1 - s) := by unfold okP; rw [hyy]
          obtain ⟨X, hX'⟩ : ∃ X, pF ps (t + 1) = X := ⟨_, rfl⟩
          obtain ⟨Y, hY'⟩ : ∃ Y, pF ps s = Y := ⟨_, rfl⟩
          obtain ⟨C, hC'⟩ : ∃ C, btw st h (g xs) s (t + 1 - s) = C := ⟨_, rfl⟩
          rw [hX'] at p1 hXb hok
          rw [hY'] at p2 hYb hok
          rw [hC'] at p3 hcb hok
          have P1 := Lib.hid p1
          have P2 := Lib.hid p2
          have P3 := Lib.hid p3
          have HOK := Lib.hid hok
          have HYY := Lib.hid hyy
          clear p1 p2 p3 hok hyy hX' hY' hC'
          by_cases hle : X ≤ Y + C
          · have hd : decide (Y + C < X) = false := by simpa using hle
            have HLE := Lib.hid hle
            clear hle
            go_wp2_with fail
            refine P1.out.mono ?_
            rintro e w' ⟨rfl, rfl⟩
            go_wp2_with fail
            refine P2.out.mono ?_
            rintro e w' ⟨rfl, rfl⟩
            go_wp2_with fail
            refine P3.out.mono ?_
            rintro e w' ⟨rfl, rfl⟩
            go_wp2_with fail
            go_round
            case rel => exact ⟨s + 1, by omega, by go_num, Lib.hid (fun y h1 h2 => by
              by_cases e : y.1.1 = s
              · have e3 : y = yy := Subtype.ext (by rw [HYY.out]; exact Prod.ext e h1)
                rw [e3]
                exact HOK.out.2 HLE.out
              · exact hin.out y h1 (by omega))⟩
            case measure => simp [intOf]; omega
          · have hd : decide (Y + C < X) = true := by simpa using hle
            have HLE := Lib.hid hle
            clear hle
            go_wp2_with fail
            refine P1.out.mono ?_
            rintro e w' ⟨rfl, rfl⟩
            go_wp2_with fail
            refine P2.out.mono ?_
            rintro e w' ⟨rfl, rfl⟩
            go_wp2_with fail
            refine P3.out.mono ?_
            rintro e w' ⟨rfl, rfl⟩
            go_wp2_with fail
            go_ret
            exact ⟨ret_bool (prfB_no yy (fun e => Int.not_le.2 HLE.out (HOK.out.1 e))).symm, rfl⟩
        · obtain rfl : s = t + 1 := by omega
          go_wp2_with fail
          go_round
          case rel => exact ⟨t + 1, by omega, by go_num, Lib.hid (fun y hy => by
            by_cases e : y.1.2 = t
            · exact hin.out y e (by have := y.2.1; omega)
            · exact hall.out y (by omega))⟩
          case measure => simp [intOf]; omega
    · obtain rfl : t = np := by omega
      go_wp2
      go_ret
      exact ⟨ret_bool (prfB_yes (fun y => hall.out y y.2.2)).symm, rfl⟩

set_option maxHeartbeats 400000 in
theorem rBound_any (n cap np capp : Nat) (A A' : Option Addr) (xs ps : List Int) (st h : Int) (w : World) (hx : SI w w.heap.size A n xs) (hp : SI w w.heap.size A' np ps) (hn : n ≤ 9223372036854775807) (hnp : np ≤ 9223372036854775807) :
    Calls Try.prog 35 #[.slice A n cap, .int .i64 st, .int .i64 h, .slice A' np capp] w fun e w' => e = .returned (.tuple #[.int .i64 (bndC xs st h ps), .bool (bndB xs st h ps), .int .i64 (errP (okB xs st h ps))]) ∧ w = w' := by
  have hl := Lib.hid hx.len
  have hl' := Lib.hid hp.len
  have h26 := rValid_any w.heap.size n cap A xs st h w hx hn
  cases hv : vA xs st h
  · have HV := Lib.hid hv
    rw [hv] at h26
    clear hv
    go_enter Try.func35, Try.ntmps35
    go_wp2_with fail
    refine h26.mono ?_
    rintro e w' ⟨rfl, rfl⟩
    go_wp2_with fail
    go_ret3
    exact ⟨by simp [bndC, bndB, okB, errP, HV.out], rfl⟩
  · have HV := Lib.hid hv
    rw [hv] at h26
    clear hv
    have h57 := rvalidP_any w.heap.size n cap np capp A A' xs ps w hx hp hnp
    cases hv : vP xs ps
    · have HP := Lib.hid hv
      rw [hv] at h57
      have H57 := Lib.hid h57
      clear hv h57
      go_enter Try.func35, Try.ntmps35
      go_wp2_with fail
      refine h26.mono ?_
      rintro e w' ⟨rfl, rfl⟩
      go_wp2_with fail
      refine H57.out.mono ?_
      rintro e w' ⟨rfl, rfl⟩
      go_wp2_with fail
      go_ret3
      exact ⟨by simp [bndC, bndB, okB, errP, HP.out], rfl⟩
    · have HP := Lib.hid hv
      rw [hv] at h57
      have H57 := Lib.hid h57
      clear hv h57
      have hnn : np = n := by have := (vP_iff.1 HP.out).1; have := hl.out; have := hl'.out; omega
      subst hnn
      have h58 := rproof_any (cap := cap) (capp := capp) hx hp HV.out HP.out
      cases hv : prfB st h xs ps np
      · have HB := Lib.hid hv
        rw [hv] at h58
        have H58 := Lib.hid h58
        clear hv h58
        go_enter Try.func35, Try.ntmps35
        go_wp2_with fail
        refine h26.mono ?_
        rintro e w' ⟨rfl, rfl⟩
        go_wp2_with fail
        refine H57.out.mono ?_
        rintro e w' ⟨rfl, rfl⟩
        go_wp2_with fail
        refine H58.out.mono ?_
        rintro e w' ⟨rfl, rfl⟩
        go_wp2_with fail
        go_ret3
        exact ⟨by simp [bndC, bndB, okB, errP, HV.out, HP.out, HB.out, hl.out], rfl⟩
      · have HB := Lib.hid hv
        rw [hv] at h58
        have H58 := Lib.hid h58
        clear hv h58
        have H59 := Lib.hid (rf_any w.heap.size np capp A' ps np w hp hnp (Nat.le_refl _))
        go_enter Try.func35, Try.ntmps35
        go_wp2_with fail
        refine h26.mono ?_
        rintro e w' ⟨rfl, rfl⟩
        go_wp2_with fail
        refine H57.out.mono ?_
        rintro e w' ⟨rfl, rfl⟩
        go_wp2_with fail
        refine H58.out.mono ?_
        rintro e w' ⟨rfl, rfl⟩
        go_wp2_with fail
        refine H59.out.mono ?_
        rintro e w' ⟨rfl, rfl⟩
        go_wp2_with fail
        go_ret3
        have e1 : bndB xs st h ps = true := by simp [bndB, okB, HV.out, HP.out, HB.out, hl.out]
        have e2 : okB xs st h ps = true := by simp [okB, HV.out, HP.out]
        have e3 : bndC xs st h ps = pF ps np := by simp only [bndC, e1, if_true, hl.out]
        rw [e1, e2, e3]
        exact ⟨rfl, rfl⟩

end Go.Proofs.Ytkbnbdpdmcnkiaa
