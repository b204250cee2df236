/- The walk of the reference's Cost; Cost in one statement. -/
import Derived.Test.YtkbnbdpdmcnkiaaD
namespace Go.Proofs.Ytkbnbdpdmcnkiaa
open Go.RowKit

/-- What Cost answers. -/
def costAns (xs ls : List Int) (s h : Int) (n : Nat) : Int := if okK xs ls s h = true then costTo s h xs ls n else 0

theorem Cost_any (B n cap n' cap' : Nat) (A A' : Option Addr) (xs ls : List Int) (s h : Int) (w : World) (hx : SI w B A n xs) (hy : SI w B A' n' ls) (hB : B ≤ w.heap.size) (hn : n ≤ 9223372036854775807) (hn' : n' ≤ 9223372036854775807) :
    Calls Try.prog 24 #[.slice A n cap, .slice A' n' cap', .int .i64 s, .int .i64 h] w fun e w' => e = .returned (.tuple #[.int .i64 (costAns xs ls s h n), .int .i64 (errOf (okK xs ls s h))]) ∧ Below w.heap.size w w' := by
  cases hv : okK xs ls s h
  · have h1 := Cost_bad B n cap n' cap' A A' xs ls s h w hx hy hB hn hn' hv
    simpa only [costAns, errOf, hv, Bool.false_eq_true, if_false] using h1
  · have e : n' = n := by
      have h1 : okK xs ls s h = true := hv
      simp only [okK, Bool.and_eq_true] at h1
      have := (vL_iff.1 h1.2.1).1
      have := hx.len; have := hy.len; omega
    subst e
    have h1 := Cost_good B n' cap cap' A A' xs ls s h w hx hy hB hv
    simpa only [costAns, errOf, hv, if_true] using h1

set_option maxHeartbeats 400000 in
theorem rCost_any (B n cap n' cap' : Nat) (A A' : Option Addr) (xs ls : List Int) (s h : Int) (w : World) (hx : SI w B A n xs) (hy : SI w B A' n' ls) (hn : n ≤ 9223372036854775807) (hn' : n' ≤ 9223372036854775807) :
    Calls Try.prog 25 #[.slice A n cap, .slice A' n' cap', .int .i64 s, .int .i64 h] w fun e w' => e = .returned (.tuple #[.int .i64 (costAns xs ls s h n), .int .i64 (errOf (okK xs ls s h))]) ∧ ∃ q, w.drewN q = w' := by
  have hl := Lib.hid hx.len
  have hl' := Lib.hid hy.len
  have h26 := rValid_any B n cap A xs s h w hx hn
  cases hv : vA xs s h
  · have HV := Lib.hid hv
    rw [hv] at h26
    clear hv
    go_enter Try.func25, Try.ntmps25
    go_wp2_with (go_at_call 26; refine h26.mono ?_; rintro e w' ⟨rfl, rfl⟩)
    go_ret2
    exact ⟨by simp [okK, costAns, HV.out, errOf], 0, rfl⟩
  · have HV := Lib.hid hv
    rw [hv] at h26
    clear hv
    have h45 := lots_any B n cap n' cap' A A' xs ls w hx hy hn'
    cases hv : vL xs ls
    · have HV' := Lib.hid hv
      rw [hv] at h45
      clear hv
      go_enter Try.func25, Try.ntmps25
      go_wp2_with (first | (go_at_call 26; refine h26.mono ?_; rintro e w' ⟨rfl, rfl⟩) | (go_at_call 45; refine h45.mono ?_; rintro e w' ⟨rfl, rfl⟩))
      go_ret2
      exact ⟨by simp [okK, costAns, HV'.out, errOf], 0, rfl⟩
    · have HV' := Lib.hid hv
      rw [hv] at h45
      clear hv
      obtain ⟨hv1, ⟨hs0, hs1⟩, hh0, hh1⟩ := vA_iff.1 HV.out
      have i1 := vN_iff.1 hv1
      have i2 := vL_iff.1 HV'.out
      have e1 : n' = n := by have := i2.1; have := hl.out; have := hl'.out; omega
      subst e1
      rw [hl.out] at i1
      rw [hl'.out] at i2
      have h46 := rcovers_any B n' cap cap' A A' xs ls w hx hy i1.1 i1.2 i2.2
      cases hv : covTo xs ls n'
      · have HV2 := Lib.hid hv
        rw [hv] at h46
        clear hv i1 i2 hv1
        go_enter Try.func25, Try.ntmps25
        go_wp2_with (first | (go_at_call 26; refine h26.mono ?_; rintro e w' ⟨rfl, rfl⟩) | (go_at_call 45; refine h45.mono ?_; rintro e w' ⟨rfl, rfl⟩) | (go_at_call 46; refine h46.mono ?_; rintro e w' ⟨rfl, q, rfl⟩))
        go_ret2
        exact ⟨by simp [okK, costAns, HV2.out, hl.out, errOf], _, rfl⟩
      · have HV2 := Lib.hid hv
        rw [hv] at h46
        have hcost := fun q => rcost_any B n' cap cap' A A' xs ls s h (w.drewN q) (hx.drewN q) (hy.drewN q) i1.1 i1.2 i2.2 hs0 hs1 hh0 hh1 (covTo_iff.1 hv)
        clear hv i1 i2 hv1
        have HC := Lib.hid hcost
        clear hcost
        go_enter Try.func25, Try.ntmps25
        go_wp2_with (first | (go_at_call 26; refine h26.mono ?_; rintro e w' ⟨rfl, rfl⟩) | (go_at_call 45; refine h45.mono ?_; rintro e w' ⟨rfl, rfl⟩) | (go_at_call 46; refine h46.mono ?_; rintro e w' ⟨rfl, q, rfl⟩) | (go_at_call 41; refine (HC.out _).mono ?_; rintro e w' ⟨rfl, q', rfl⟩))
        go_ret2
        refine ⟨?_, _, rfl⟩
        have e2 : okK xs ls s h = true := by simp [okK, HV.out, HV'.out, HV2.out, hl.out]
        simp [costAns, errOf, e2]

/-- Are there few days, or too many? -/
def few (n : Nat) : Bool := decide (n ≤ 9) || (decide (16 < n) && decide (n ≤ 40))

set_option maxHeartbeats 400000 in
theorem few_any (n cap : Nat) (A : Option Addr) (w : World) :
    Calls Try.prog 18 #[.slice A n cap] w fun e w' => e = .returned (.bool (few n)) ∧ w = w' := by
  by_cases h1 : n ≤ 9
  · go_enter Try.func18, Try.ntmps18
    go_wp2
    go_ret
    exact ⟨ret_bool (by rw [Bool.eq_iff_iff]; simp [few]; omega), rfl⟩
  · by_cases h2 : 16 < n
    · by_cases h3 : n ≤ 40
      · go_enter Try.func18, Try.ntmps18
        go_wp2
        go_ret
        exact ⟨ret_bool (by rw [Bool.eq_iff_iff]; simp [few]; omega), rfl⟩
      · go_enter Try.func18, Try.ntmps18
        go_wp2
        go_ret
        exact ⟨ret_bool (by rw [Bool.eq_iff_iff]; simp [few]; omega), rfl⟩
    · go_enter Try.func18, Try.ntmps18
      go_wp2
      go_ret
      exact ⟨ret_bool (by rw [Bool.eq_iff_iff]; simp [few]; omega), rfl⟩

theorem same_take {xs ys : List Int} {n : Nat} (hx : xs.length = n) (hy : ys.length = n) (h : ∀ j, j < n → g xs j = g ys j) : xs = ys := by
  apply List.ext_getElem (by omega)
  intro i h1 h2
  have := h i (by omega)
  simpa [g, List.getElem?_eq_getElem h1, List.getElem?_eq_getElem h2] using this

set_option maxHeartbeats 400000 in
theorem sameInts_any (B n cap n' cap' : Nat) (A A' : Option Addr) (xs ys : List Int) (w : World) (h : SI w B A n xs) (h' : SI w B A' n' ys) (hn : n ≤ 9223372036854775807) :
    Calls Try.prog 28 #[.slice A n cap, .slice A' n' cap'] w fun e w' => e = .returned (.bool (decide (xs = ys))) ∧ ∃ q, w.drewN q = w' := by
  have hl := Lib.hid h.len
  have hl' := Lib.hid h'.len
  by_cases hlen : n = n'
  · subst hlen
    have hb : ((n : Int) != (n : Int)) = false := by simp
    go_enter Try.func28, Try.ntmps28
    go_wp2
    go_loopw [5] (fun i wr => ∃ (k q : Nat), k ≤ n ∧ wr = w.drewN q ∧ i = .int .i64 k ∧ Hid (∀ j, j < k → g xs j = g ys j)) (fun i _ => n - (intOf i).toNat)
    case atStart => exact ⟨0, 0, Nat.zero_le _, rfl, rfl, Lib.hid (fun j hj => by omega)⟩
    case round =>
      obtain ⟨k, q, hk, rfl, rfl, ha⟩ := hrel
      by_cases hlt : k < n
      · obtain ⟨b, off, x, rfl, hb, hx, hc⟩ := h.look hlt
        obtain ⟨b', off', y, rfl, hb', hy, hc'⟩ := h'.look hlt
        have hkn : (k : Int) < (n : Int) := by omega
        have hk0 : (0 : Int) ≤ (k : Int) := by omega
        by_cases he : x = y
        · have HE := Lib.hid he
          have hne : (x != y) = false := by simp [he]
          clear he
          go_wp2
          go_quiet (fail)
          go_wp2
          go_roundw
          case rel => exact ⟨k + 1, _, by omega, rfl, by go_num, Lib.hid (fun j hj => by
            by_cases e : j = k
            · subst e; rw [hx.out, hy.out, HE.out]
            · exact ha.out j (by omega))⟩
          case measure => simp [intOf]; omega
        · have HE := Lib.hid he
          have hne : (x != y) = true := by simp [he]
          clear he
          go_wp2
          go_quiet (fail)
          go_wp2
          go_ret
          refine ⟨ret_bool ?_, _, by rw [World.drewN_drewN]⟩
          symm
          rw [decide_eq_false_iff_not]
          rintro rfl
          exact HE.out (hx.out.symm.trans hy.out)
      · go_wp2
        go_ret
        obtain rfl : k = n := by omega
        refine ⟨ret_bool ?_, _, rfl⟩
        symm
        rw [decide_eq_true_iff]
        exact same_take hl.out hl'.out ha.out
  · have hb : ((n : Int) != (n' : Int)) = true := by rw [bne_iff_ne]; omega
    go_enter Try.func28, Try.ntmps28
    go_wp2
    go_ret
    refine ⟨ret_bool ?_, 0, rfl⟩
    symm
    rw [decide_eq_false_iff_not]
    rintro rfl
    exact hlen (hl.out.symm.trans hl'.out)

end Go.Proofs.Ytkbnbdpdmcnkiaa
