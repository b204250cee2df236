/- SizingSpec, walked. -/
import Derived.Test.YtkbnbdpdmcnkiaaCK
namespace Go.Proofs.Ytkbnbdpdmcnkiaa
open Go.RowKit

theorem rSize_yes {n cap : Nat} {A : Option Addr} {xs : List Int} {s h : Int} {w : World} (hx : SI w w.heap.size A n xs) (hv : vA xs s h = true) (C : Int) (hC : szC xs s h = C) :
    Calls Try.prog 20 #[.slice A n cap, .int .i64 s, .int .i64 h] w fun e w' => ∃ A1 c1 A2 c2, e = .returned (.tuple #[.agg #[.slice A1 n c1, .int .i64 C, .slice A2 n c2], .int .i64 0]) ∧
      SI w' w'.heap.size A1 n (szL xs s h) ∧ SI w' w'.heap.size A2 n (szP xs s h) ∧ Below w.heap.size w w' := by
  have hl := hx.len
  have e1 := szL_good hv
  have e2 := szP_good hv
  have e3 := szC_good hv
  rw [hl] at e1 e2 e3
  rw [e1, e2, ← hC, e3]
  exact rSize_good n cap A xs s h w hx hv

set_option maxHeartbeats 1000000 in
theorem sizingSpec_any (n c : Nat) (A : Option Addr) (xs : List Int) (s h : Int) (w : World) (hx : SI w w.heap.size A n xs) (hc : n ≤ c) :
    Calls Try.prog 3 #[.slice A n c, .int .i64 s, .int .i64 h] w fun e w' => e = .returned (.bool true) ∧ Below w.heap.size w w' := by
  cases hfew : few n
  · have h18 : ∀ w : World, Calls Try.prog 18 #[.slice A n c] w fun e w' => e = .returned (.bool false) ∧ w = w' := fun w => by rw [← hfew]; exact few_any n c A w
    have H18 := Lib.hid h18
    clear h18 hfew
    go_enter Try.func3, Try.ntmps3
    go_wp2_with fail
    refine (sane22_any w).mono ?_
    rintro e w1 ⟨rfl, hb1⟩
    go_wp2_with fail
    refine (H18.out _).mono ?_
    rintro e w' ⟨rfl, rfl⟩
    go_wp2_with fail
    go_ret
    exact ⟨rfl, hb1⟩
  have hn40 : n ≤ 40 := by simp [few] at hfew; omega
  have h18 : ∀ w : World, Calls Try.prog 18 #[.slice A n c] w fun e w' => e = .returned (.bool true) ∧ w = w' := fun w => by rw [← hfew]; exact few_any n c A w
  have H18 := Lib.hid h18
  clear h18 hfew
  cases hv : vA xs s h
  · have HV := Lib.hid hv
    clear hv
    go_enter Try.func3, Try.ntmps3
    go_wp2_with fail
    refine (sane22_any w).mono ?_
    rintro e w1 ⟨rfl, hb1⟩
    go_wp2_with fail
    refine (H18.out _).mono ?_
    rintro e w' ⟨rfl, rfl⟩
    go_wp2_with fail
    refine (Size_no (hx.step hb1) (by omega) hc HV.out).mono ?_
    rintro e w2 ⟨A1, c1, A2, c2, rfl, hb2⟩
    replace hb2 := hb1.trans (hb2.mono hb1.size)
    clear hb1
    go_wp2_with fail
    refine (rSize_bad n c A xs s h _ ((hx.step hb2).up _) (by omega) HV.out).mono ?_
    rintro e w3 ⟨rfl, hb3⟩
    have bx := (Blk.new w2 26 #[.slice A1 0 c1, .int .i64 0, .slice A2 0 c2]).below hb3 (by simp)
    have hB3 := (hb2.alloc hb2.size (.cells #[.slice A1 0 c1, .int .i64 0, .slice A2 0 c2] 26)).trans (hb3.mono (by have := hb2.size; simp; omega))
    have k0 : w3.cell? ⟨w2.heap.size, 0, none⟩ = some (.slice A1 0 c1) := bx.cell 0
    have k1 : w3.cell? ⟨w2.heap.size, 1, none⟩ = some (.int .i64 0) := bx.cell 1
    have k2 : w3.cell? ⟨w2.heap.size, 2, none⟩ = some (.slice A2 0 c2) := bx.cell 2
    have kl := bx.lt
    clear hb3 bx hb2
    go_wp2_with fail
    refine (Same_at (xs := []) (ps := []) (SI.none_ rfl) (SI.none_ rfl) SI.nil SI.nil (by omega) (by omega)).mono ?_
    rintro e w4 ⟨rfl, hb4⟩
    replace hb4 := (hB3.alloc hB3.size _).trans (hb4.mono (by have := hB3.size; simp; omega))
    go_wp2_with fail
    go_ret
    exact ⟨rfl, hb4⟩
  · obtain ⟨C, hC⟩ : ∃ C, szC xs s h = C := ⟨_, rfl⟩
    have HV := Lib.hid hv
    have HC := Lib.hid hC
    clear hv hC
    go_enter Try.func3, Try.ntmps3
    go_wp2_with fail
    refine (sane22_any w).mono ?_
    rintro e w1 ⟨rfl, hb1⟩
    go_wp2_with fail
    refine (H18.out _).mono ?_
    rintro e w' ⟨rfl, rfl⟩
    go_wp2_with fail
    refine (Size_yes (hx.step hb1) hc HV.out C HC.out).mono ?_
    rintro e w2 ⟨A1, c1, A2, c2, rfl, hL, hP, hb2⟩
    replace hb2 := hb1.trans (hb2.mono hb1.size)
    clear hb1
    go_wp2_with fail
    refine (rSize_yes ((hx.step hb2).up _) HV.out C HC.out).mono ?_
    rintro e w3 ⟨B1, d1, B2, d2, rfl, hL', hP', hb3⟩
    have bx := (Blk.new w2 26 #[.slice A1 n c1, .int .i64 C, .slice A2 n c2]).below hb3 (by simp)
    replace hL := (hL.up (.cells #[.slice A1 n c1, .int .i64 C, .slice A2 n c2] 26)).step hb3
    replace hP := (hP.up (.cells #[.slice A1 n c1, .int .i64 C, .slice A2 n c2] 26)).step hb3
    have hB3 := (hb2.alloc hb2.size (.cells #[.slice A1 n c1, .int .i64 C, .slice A2 n c2] 26)).trans (hb3.mono (by have := hb2.size; simp; omega))
    have k0 : w3.cell? ⟨w2.heap.size, 0, none⟩ = some (.slice A1 n c1) := bx.cell 0
    have k1 : w3.cell? ⟨w2.heap.size, 1, none⟩ = some (.int .i64 C) := bx.cell 1
    have k2 : w3.cell? ⟨w2.heap.size, 2, none⟩ = some (.slice A2 n c2) := bx.cell 2
    have kl := bx.lt
    clear hb3 bx hb2
    go_wp2_with fail
    refine (Same_at (hL.up _) (hP.up _) (hL'.up _) (hP'.up _) (by omega) (by omega)).mono ?_
    rintro e w4 ⟨rfl, hb4⟩
    replace hb4 := (hB3.alloc hB3.size _).trans (hb4.mono (by have := hB3.size; simp; omega))
    go_wp2_with fail
    go_ret
    exact ⟨rfl, hb4⟩
end Go.Proofs.Ytkbnbdpdmcnkiaa
