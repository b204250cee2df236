/- prices.Bound. -/
import Derived.Test.YtkbnbdpdmcnkiaaBE
import Derived.Test.YtkbnbdpdmcnkiaaAA
namespace Go.Proofs.Ytkbnbdpdmcnkiaa
open Go.RowKit

theorem vP_iff {xs ps : List Int} : vP xs ps = true ↔ ps.length = xs.length ∧ ∀ k, k < ps.length → -1152921504606846976 ≤ g ps k ∧ g ps k ≤ 1152921504606846976 := by
  simp only [vP, Bool.and_eq_true, decide_eq_true_eq, allR_iff]

theorem proof_any {n cap np capp : Nat} {A A' : Option Addr} {xs ps : List Int} {st h : Int} {w : World} (hx : SI w w.heap.size A n xs) (hp : SI w w.heap.size A' np ps) (hv : vA xs st h = true) (hvp : vP xs ps = true) :
    Calls Try.prog 53 #[.slice A n cap, .int .i64 st, .int .i64 h, .slice A' np capp] w fun e W' => e = .returned (.bool (prfB st h xs ps n)) ∧ Below w.heap.size w W' := by
  obtain ⟨hn, hf, s0, s1, h0, h1⟩ := vA_all hv
  obtain ⟨hl, hP⟩ := vP_iff.1 hvp
  have e1 := hx.len
  have e2 := hp.len
  obtain rfl : np = n := by omega
  exact callsIn_wide.1 (proof_in w.heap.size np cap capp A A' xs ps st h w hx hp (Nat.le_refl _) (by omega) (fun k _ => hf k) (fun k => (hf k).1) (fun k hk => hP k (by omega)) s0 s1 h0 h1)

/-- What Bound answers. -/
def okB (xs : List Int) (st h : Int) (ps : List Int) : Bool := vA xs st h && vP xs ps
def bndB (xs : List Int) (st h : Int) (ps : List Int) : Bool := okB xs st h ps && prfB st h xs ps xs.length
def bndC (xs : List Int) (st h : Int) (ps : List Int) : Int := if bndB xs st h ps = true then pF ps xs.length else 0
def errP (b : Bool) : Int := if b = true then 0 else 230

set_option maxHeartbeats 400000 in
theorem Bound_any (n cap np capp : Nat) (A A' : Option Addr) (xs ps : List Int) (st h : Int) (w : World) (hx : SI w w.heap.size A n xs) (hp : SI w w.heap.size A' np ps) (hn : n ≤ 9223372036854775807) (hnp : np ≤ 9223372036854775807) :
    Calls Try.prog 34 #[.slice A n cap, .int .i64 st, .int .i64 h, .slice A' np capp] w fun e w' => e = .returned (.tuple #[.int .i64 (bndC xs st h ps), .bool (bndB xs st h ps), .int .i64 (errP (okB xs st h ps))]) ∧ Below w.heap.size w w' := by
  have hl := Lib.hid hx.len
  have hl' := Lib.hid hp.len
  have h48 := pvalid_any w.heap.size n cap A xs st h w hx hn
  cases hv : vA xs st h
  · have HV := Lib.hid hv
    rw [hv] at h48
    clear hv
    go_enter Try.func34, Try.ntmps34
    go_wp2_with fail
    refine h48.mono ?_
    rintro e w1 ⟨rfl, hb1⟩
    go_wp2_with fail
    go_ret3
    exact ⟨by simp [bndC, bndB, okB, errP, HV.out], hb1⟩
  · have HV := Lib.hid hv
    rw [hv] at h48
    clear hv
    cases hv : vP xs ps
    · have HP := Lib.hid hv
      clear hv
      go_enter Try.func34, Try.ntmps34
      go_wp2_with fail
      refine h48.mono ?_
      rintro e w1 ⟨rfl, hb1⟩
      have h51 := validPrices_any w.heap.size n cap np capp A A' xs ps w1 (hx.below hb1) (hp.below hb1) hn hnp
      rw [HP.out] at h51
      have H51 := Lib.hid h51
      clear h51
      go_wp2_with fail
      refine H51.out.mono ?_
      rintro e w' ⟨rfl, rfl⟩
      go_wp2_with fail
      go_ret3
      exact ⟨by simp [bndC, bndB, okB, errP, HP.out], hb1⟩
    · have HP := Lib.hid hv
      clear hv
      have hnn : np = n := by have := (vP_iff.1 HP.out).1; have := hl.out; have := hl'.out; omega
      subst hnn
      cases hv : prfB st h xs ps np
      · have HB := Lib.hid hv
        clear hv
        go_enter Try.func34, Try.ntmps34
        go_wp2_with fail
        refine h48.mono ?_
        rintro e w1 ⟨rfl, hb1⟩
        have h51 := validPrices_any w.heap.size np cap np capp A A' xs ps w1 (hx.below hb1) (hp.below hb1) hn hnp
        rw [HP.out] at h51
        have H51 := Lib.hid h51
        have h53 := proof_any (cap := cap) (capp := capp) (hx.step hb1) (hp.step hb1) HV.out HP.out
        rw [HB.out] at h53
        have H53 := Lib.hid h53
        clear h51 h53
        go_wp2_with fail
        refine H51.out.mono ?_
        rintro e w' ⟨rfl, rfl⟩
        go_wp2_with fail
        refine H53.out.mono ?_
        rintro e w2 ⟨rfl, hb2⟩
        go_wp2_with fail
        go_ret3
        exact ⟨by simp [bndC, bndB, okB, errP, HV.out, HP.out, HB.out, hl.out], hb1.trans (hb2.mono hb1.size)⟩
      · have HB := Lib.hid hv
        clear hv
        go_enter Try.func34, Try.ntmps34
        go_wp2_with fail
        refine h48.mono ?_
        rintro e w1 ⟨rfl, hb1⟩
        have h51 := validPrices_any w.heap.size np cap np capp A A' xs ps w1 (hx.below hb1) (hp.below hb1) hn hnp
        rw [HP.out] at h51
        have H51 := Lib.hid h51
        have h53 := proof_any (cap := cap) (capp := capp) (hx.step hb1) (hp.step hb1) HV.out HP.out
        rw [HB.out] at h53
        have H53 := Lib.hid h53
        clear h51 h53
        go_wp2_with fail
        refine H51.out.mono ?_
        rintro e w' ⟨rfl, rfl⟩
        go_wp2_with fail
        refine H53.out.mono ?_
        rintro e w2 ⟨rfl, hb2⟩
        replace hb2 := hb1.trans (hb2.mono hb1.size)
        have h55 := price_any w.heap.size np capp A' ps np w2 (hp.below hb2) hnp (Nat.le_refl _)
        have H55 := Lib.hid h55
        clear h55
        go_wp2_with fail
        refine H55.out.mono ?_
        rintro e w' ⟨rfl, rfl⟩
        go_wp2_with fail
        go_ret3
        have e1 : bndB xs st h ps = true := by simp [bndB, okB, HV.out, HP.out, HB.out, hl.out]
        have e2 : okB xs st h ps = true := by simp [okB, HV.out, HP.out]
        have e3 : bndC xs st h ps = pF ps np := by simp only [bndC, e1, if_true, hl.out]
        rw [e1, e2, e3]
        exact ⟨rfl, hb2⟩

end Go.Proofs.Ytkbnbdpdmcnkiaa
