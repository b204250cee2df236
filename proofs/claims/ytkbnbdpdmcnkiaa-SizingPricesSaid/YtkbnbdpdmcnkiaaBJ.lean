/- PricesLeast, walked. -/
import Derived.Test.YtkbnbdpdmcnkiaaBI
import Derived.Test.YtkbnbdpdmcnkiaaAA
namespace Go.Proofs.Ytkbnbdpdmcnkiaa
open Go.RowKit

theorem bnd_parts {xs ps : List Int} {st h : Int} (hb : bndB xs st h ps = true) : okB xs st h ps = true ∧ vA xs st h = true ∧ vP xs ps = true ∧ prfB st h xs ps xs.length = true ∧ bndC xs st h ps = pF ps xs.length := by
  have h1 := hb
  simp only [bndB, okB, Bool.and_eq_true] at h1
  exact ⟨by simp [okB, h1.1.1, h1.1.2], h1.1.1, h1.1.2, h1.2, by simp only [bndC, hb, if_true]⟩
/-- No lots that cover cost less than the bound. -/
theorem bnd_least {xs ls ps : List Int} {st h : Int} (hb : bndB xs st h ps = true) (hk : okK xs ls st h = true) : bndC xs st h ps ≤ costTo st h xs ls xs.length := by
  obtain ⟨_, hv, _, hp, e⟩ := bnd_parts hb
  obtain ⟨_, hf, s0, _, h0, _⟩ := vA_all hv
  simp only [okK, Bool.and_eq_true] at hk
  rw [e]
  exact dual_lots (fun k => (hf k).1) s0 h0 rfl (prfB_iff.1 hp) hk.2.2

set_option maxHeartbeats 1000000 in
theorem pricesLeast_any (n c n' c' np cp : Nat) (A A' P : Option Addr) (xs ls ps : List Int) (s h : Int) (w : World) (hx : SI w w.heap.size A n xs) (hy : SI w w.heap.size A' n' ls) (hp : SI w w.heap.size P np ps) :
    Calls Try.prog 14 #[.slice A n c, .slice A' n' c', .int .i64 s, .int .i64 h, .slice P np cp] w fun e w' => e = .returned (.bool true) ∧ Below w.heap.size w w' := by
  by_cases a1 : (20 : Int) < n
  · go_enter Try.func14, Try.ntmps14
    go_wp2_with fail
    refine (sane23_any w).mono ?_
    rintro e w1 ⟨rfl, hb1⟩
    go_wp2_with fail
    go_ret
    exact ⟨rfl, hb1⟩
  by_cases a2 : (20 : Int) < n'
  · go_enter Try.func14, Try.ntmps14
    go_wp2_with fail
    refine (sane23_any w).mono ?_
    rintro e w1 ⟨rfl, hb1⟩
    go_wp2_with fail
    go_ret
    exact ⟨rfl, hb1⟩
  by_cases a3 : (20 : Int) < np
  · go_enter Try.func14, Try.ntmps14
    go_wp2_with fail
    refine (sane23_any w).mono ?_
    rintro e w1 ⟨rfl, hb1⟩
    go_wp2_with fail
    go_ret
    exact ⟨rfl, hb1⟩
  have hl := Lib.hid hx.len
  obtain ⟨C, hC⟩ : ∃ C, bndC xs s h ps = C := ⟨_, rfl⟩
  obtain ⟨K, hK⟩ : ∃ K, costAns xs ls s h xs.length = K := ⟨_, rfl⟩
  cases hb : bndB xs s h ps
  · have hC0 : C = 0 := by rw [← hC, bndC, hb]; simp
    subst hC0
    cases ho : okB xs s h ps
    all_goals
      have HF := Lib.hid (And.intro hC (And.intro hb (congrArg errP ho)))
      have HK := Lib.hid hK
      clear hC hb ho hK
      go_enter Try.func14, Try.ntmps14
      go_wp2_with fail
      refine (sane23_any w).mono ?_
      rintro e w1 ⟨rfl, hb1⟩
      go_wp2_with fail
      refine (Bound_at 0 false _ (hx.step hb1) (hp.step hb1) (by omega) (by omega) HF.out).mono ?_
      rintro e w2 ⟨rfl, hb2⟩
      replace hb2 := hb1.trans (hb2.mono hb1.size)
      clear hb1
      go_wp2_with fail
      refine (Cost_at K _ (hx.step hb2) (hy.step hb2) (by omega) (by omega) HK.out rfl).mono ?_
      rintro e w3 ⟨rfl, hb3⟩
      go_wp2_with fail
      go_ret
      exact ⟨rfl, hb2.trans (hb3.mono hb2.size)⟩
  · have ho := (bnd_parts hb).1
    cases hk : okK xs ls s h
    · have HF := Lib.hid (And.intro hC (And.intro hb (congrArg errP ho)))
      have HK := Lib.hid (And.intro hK (congrArg errOf hk))
      clear hC hb ho hK hk
      go_enter Try.func14, Try.ntmps14
      go_wp2_with fail
      refine (sane23_any w).mono ?_
      rintro e w1 ⟨rfl, hb1⟩
      go_wp2_with fail
      refine (Bound_at C true _ (hx.step hb1) (hp.step hb1) (by omega) (by omega) HF.out).mono ?_
      rintro e w2 ⟨rfl, hb2⟩
      replace hb2 := hb1.trans (hb2.mono hb1.size)
      clear hb1
      go_wp2_with fail
      refine (Cost_at K 220 (hx.step hb2) (hy.step hb2) (by omega) (by omega) HK.out.1 HK.out.2).mono ?_
      rintro e w3 ⟨rfl, hb3⟩
      go_wp2_with fail
      go_ret
      exact ⟨rfl, hb2.trans (hb3.mono hb2.size)⟩
    · have hle := bnd_least hb hk
      have hle2 : C ≤ K := by rw [← hC, ← hK, costAns, if_pos hk]; exact hle
      have HF := Lib.hid (And.intro hC (And.intro hb (congrArg errP ho)))
      have HK := Lib.hid (And.intro hK (congrArg errOf hk))
      clear hC hb ho hK hk hle
      go_enter Try.func14, Try.ntmps14
      go_wp2_with fail
      refine (sane23_any w).mono ?_
      rintro e w1 ⟨rfl, hb1⟩
      go_wp2_with fail
      refine (Bound_at C true 0 (hx.step hb1) (hp.step hb1) (by omega) (by omega) HF.out).mono ?_
      rintro e w2 ⟨rfl, hb2⟩
      replace hb2 := hb1.trans (hb2.mono hb1.size)
      clear hb1
      go_wp2_with fail
      refine (Cost_at K 0 (hx.step hb2) (hy.step hb2) (by omega) (by omega) HK.out.1 HK.out.2).mono ?_
      rintro e w3 ⟨rfl, hb3⟩
      go_wp2_with fail
      go_ret
      exact ⟨rfl, hb2.trans (hb3.mono hb2.size)⟩
end Go.Proofs.Ytkbnbdpdmcnkiaa
