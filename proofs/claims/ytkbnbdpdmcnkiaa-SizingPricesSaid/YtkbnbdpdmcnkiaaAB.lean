/- SizingLeast, walked. -/
import Derived.Test.YtkbnbdpdmcnkiaaAA
namespace Go.Proofs.Ytkbnbdpdmcnkiaa
open Go.RowKit

/-- Size at requirements that are not valid. -/
theorem Size_no {n cap : Nat} {A : Option Addr} {xs : List Int} {s h : Int} {w : World} (hx : SI w w.heap.size A n xs) (hn : n ≤ 1000) (hcap : n ≤ cap) (hv : vA xs s h = false) :
    Calls Try.prog 19 #[.slice A n cap, .int .i64 s, .int .i64 h] w fun e w' => ∃ A1 c1 A2 c2, e = .returned (.tuple #[.agg #[.slice A1 0 c1, .int .i64 0, .slice A2 0 c2], .int .i64 220]) ∧ Below w.heap.size w w' :=
  (Size_at [] [] 0 220 0 0 hx hn hcap (by simp [szL, hv]) (by simp [szC, hv]) (by simp [szP, hv]) (by simp [errOf, hv]) rfl rfl).mono fun _ _ ⟨A1, c1, A2, c2, he, _, _, hb⟩ => ⟨A1, c1, A2, c2, he, hb⟩
/-- Size at valid ones. -/
theorem Size_yes {n cap : Nat} {A : Option Addr} {xs : List Int} {s h : Int} {w : World} (hx : SI w w.heap.size A n xs) (hcap : n ≤ cap) (hv : vA xs s h = true) (C : Int) (hC : szC xs s h = C) :
    Calls Try.prog 19 #[.slice A n cap, .int .i64 s, .int .i64 h] w fun e w' => ∃ A1 c1 A2 c2, e = .returned (.tuple #[.agg #[.slice A1 n c1, .int .i64 C, .slice A2 n c2], .int .i64 0]) ∧
      SI w' w'.heap.size A1 n (szL xs s h) ∧ SI w' w'.heap.size A2 n (szP xs s h) ∧ Below w.heap.size w w' := by
  have hl := hx.len
  have := (vA_all hv).1
  exact Size_at (szL xs s h) (szP xs s h) C 0 n n hx (by omega) hcap rfl hC rfl (by simp [errOf, hv]) ((szL_len hv).trans hl) ((szP_len hv).trans hl)

set_option maxHeartbeats 1000000 in
theorem sizingLeast_any (n c n' c' : Nat) (A A' : Option Addr) (xs ls : List Int) (s h : Int) (w : World) (hx : SI w w.heap.size A n xs) (hy : SI w w.heap.size A' n' ls) (hn : n ≤ 9223372036854775807) (hn' : n' ≤ 9223372036854775807) (hc : n ≤ c) :
    Calls Try.prog 5 #[.slice A n c, .slice A' n' c', .int .i64 s, .int .i64 h] w fun e w' => e = .returned (.bool true) ∧ Below w.heap.size w w' := by
  by_cases a1 : (40 : Int) < n
  · go_enter Try.func5, Try.ntmps5
    go_wp2_with fail
    refine (sane22_any w).mono ?_
    rintro e w1 ⟨rfl, hb1⟩
    go_wp2_with fail
    go_ret
    exact ⟨rfl, hb1⟩
  by_cases a2 : (40 : Int) < n'
  · go_enter Try.func5, Try.ntmps5
    go_wp2_with fail
    refine (sane22_any w).mono ?_
    rintro e w1 ⟨rfl, hb1⟩
    go_wp2_with fail
    go_ret
    exact ⟨rfl, hb1⟩
  cases hv : vA xs s h
  · go_enter Try.func5, Try.ntmps5
    go_wp2_with fail
    refine (sane22_any w).mono ?_
    rintro e w1 ⟨rfl, hb1⟩
    go_wp2_with fail
    refine (Size_no (hx.step hb1) (by omega) hc hv).mono ?_
    rintro e w2 ⟨A1, c1, A2, c2, rfl, hb2⟩
    replace hb2 := hb1.trans (hb2.mono hb1.size)
    go_wp2_with fail
    refine (rValid_any w.heap.size _ _ _ xs s h _ ((hx.below hb2).alloc hb2.size _) (by omega)).mono ?_
    rw [hv]
    rintro e w' ⟨rfl, rfl⟩
    go_wp2_with fail
    go_ret
    exact ⟨rfl, hb2.alloc hb2.size _⟩
  · obtain ⟨C, hC⟩ : ∃ C, szC xs s h = C := ⟨_, rfl⟩
    obtain ⟨k1, k2, k3, k4⟩ := szL_ok hv
    have hl := hx.len
    have f1 : costAns xs (szL xs s h) s h xs.length = C := by simp only [costAns, k1, if_true]; exact k4.trans hC
    have f2 : errOf (okK xs (szL xs s h) s h) = 0 := by simp [errOf, k1]
    have f3 : (okC xs (szL xs s h) && covTo xs (szL xs s h) xs.length) = true := by rw [k2, k3]; rfl
    have f4 : errOf (okC xs (szL xs s h)) = 0 := by simp [errOf, k2]
    have hn40 : n ≤ 1000 := by omega
    have hn40' : n' ≤ 1000 := by omega
    have F := Lib.hid (And.intro f1 (And.intro f2 (And.intro f3 (And.intro f4 k4))))
    clear f1 f2 f3 f4 k1 k2 k3 k4
    rcases Nat.eq_zero_or_pos n with h0 | h0
    · subst h0
      have hC0 : C = 0 := by
        obtain rfl := List.length_eq_zero_iff.1 hl
        rw [← hC, szC_good hv]; rfl
      subst hC0
      have HC := Lib.hid hC
      have HV := Lib.hid hv
      have HL := Lib.hid hl
      clear hC hv hl
      go_enter Try.func5, Try.ntmps5
      go_wp2_with fail
      refine (sane22_any w).mono ?_
      rintro e w1 ⟨rfl, hb1⟩
      go_wp2_with fail
      refine (Size_yes (hx.step hb1) hc HV.out 0 HC.out).mono ?_
      rintro e w2 ⟨A1, c1, A2, c2, rfl, hL, hP, hb2⟩
      replace hb2 := hb1.trans (hb2.mono hb1.size)
      replace hx := hx.step hb2
      replace hy := hy.step hb2
      clear hb1
      go_wp2_with fail
      refine (Cost_at 0 0 (hx.up _) (hL.up _) (by simp) (by simp) F.out.1 F.out.2.1).mono ?_
      rintro e w3 ⟨rfl, hb3⟩
      have bx := (Blk.new w2 26 #[.slice A1 0 c1, .int .i64 0, .slice A2 0 c2]).below hb3 (by simp)
      have hB3 := ((Below.refl w2.heap.size w2).alloc (Nat.le_refl _) _).trans (hb3.mono (by simp))
      replace hx := hx.step hB3
      replace hy := hy.step hB3
      replace hL := hL.step hB3
      replace hP := hP.step hB3
      clear hb3
      have t0 : w3.cell? ⟨w2.heap.size, 0, none⟩ = some (.slice A1 0 c1) := bx.cell 0
      have t1 : w3.cell? ⟨w2.heap.size, 1, none⟩ = some (.int .i64 0) := bx.cell 1
      have t2 : w3.cell? ⟨w2.heap.size, 2, none⟩ = some (.slice A2 0 c2) := bx.cell 2
      go_wp2_with fail
      refine (Covers_at true 0 hx hL (by simp) (by simp) F.out.2.2.1 F.out.2.2.2.1).mono ?_
      rintro e w' ⟨rfl, rfl⟩
      replace hb2 := hb2.trans (hB3.mono hb2.size)
      cases hk : okK xs ls s h
      · have e1 : costAns xs ls s h xs.length = 0 := by simp [costAns, hk]
        have e2 : errOf (okK xs ls s h) = 220 := by simp [errOf, hk]
        have E := Lib.hid (And.intro e1 e2)
        clear e1 e2 hk
        go_wp2_with fail
        refine (Cost_at 0 220 hx hy (by simp) hn40' E.out.1 E.out.2).mono ?_
        rintro e w4 ⟨rfl, hb4⟩
        go_wp2_with fail
        go_ret
        exact ⟨rfl, hb2.trans (hb4.mono hb2.size)⟩
      · obtain ⟨X, hX⟩ : ∃ X, costTo s h xs ls xs.length = X := ⟨_, rfl⟩
        have hge : 0 ≤ X := by have := sz_least hk; rw [HC.out, hX] at this; exact this
        have e1 : costAns xs ls s h xs.length = X := by simp only [costAns, hk, if_true]; exact hX
        have e2 : errOf (okK xs ls s h) = 0 := by simp [errOf, hk]
        have E := Lib.hid (And.intro e1 e2)
        clear e1 e2 hk hX
        go_wp2_with fail
        refine (Cost_at X 0 hx hy (by simp) hn40' E.out.1 E.out.2).mono ?_
        rintro e w4 ⟨rfl, hb4⟩
        go_wp2_with fail
        go_ret
        exact ⟨rfl, hb2.trans (hb4.mono hb2.size)⟩
    · obtain ⟨m, rfl⟩ : ∃ m, n = m + 1 := ⟨n - 1, by omega⟩
      have hPm : g (szP xs s h) m = C := by rw [szP_at hv (by omega), ← hC, szC_good hv, hl]
      have HC := Lib.hid hC
      have HV := Lib.hid hv
      have HL := Lib.hid hl
      have HP := Lib.hid hPm
      clear hC hv hl hPm h0
      have i1 : (0 : Int) < ((m + 1 : Nat) : Int) := by omega
      have i2 : ¬ ((m + 1 : Nat) : Int) = 0 := by omega
      have i3 : IntKind.i64.wrap (((m + 1 : Nat) : Int) - 1) = (m : Int) := by rw [show ((m + 1 : Nat) : Int) - 1 = (m : Int) by omega]; exact IntWalk.i64_in _ (by omega)
      go_enter Try.func5, Try.ntmps5
      go_wp2_with fail
      refine (sane22_any w).mono ?_
      rintro e w1 ⟨rfl, hb1⟩
      go_wp2_with fail
      refine (Size_yes (hx.step hb1) hc HV.out C HC.out).mono ?_
      rintro e w2 ⟨A1, c1, A2, c2, rfl, hL, hP, hb2⟩
      replace hb2 := hb1.trans (hb2.mono hb1.size)
      replace hx := hx.step hb2
      replace hy := hy.step hb2
      clear hb1
      go_wp2_with fail
      refine (Cost_at C 0 (hx.up _) (hL.up _) (by omega) (by omega) F.out.1 F.out.2.1).mono ?_
      rintro e w3 ⟨rfl, hb3⟩
      have bx := (Blk.new w2 26 #[.slice A1 (m + 1) c1, .int .i64 C, .slice A2 (m + 1) c2]).below hb3 (by simp)
      have hB3 := ((Below.refl w2.heap.size w2).alloc (Nat.le_refl _) _).trans (hb3.mono (by simp))
      replace hx := hx.step hB3
      replace hy := hy.step hB3
      replace hL := hL.step hB3
      replace hP := hP.step hB3
      clear hb3
      obtain ⟨b, off, x, rfl, _, hxx, hcell⟩ := hP.look (k := m) (by omega)
      obtain rfl : x = C := hxx.out.symm.trans HP.out
      have t0 : w3.cell? ⟨w2.heap.size, 0, none⟩ = some (.slice A1 (m + 1) c1) := bx.cell 0
      have t1 : w3.cell? ⟨w2.heap.size, 1, none⟩ = some (.int .i64 x) := bx.cell 1
      have t2 : w3.cell? ⟨w2.heap.size, 2, none⟩ = some (.slice (some ⟨b, off, none⟩) (m + 1) c2) := bx.cell 2
      go_wp2_with fail
      refine (Covers_at true 0 hx hL (by omega) (by omega) F.out.2.2.1 F.out.2.2.2.1).mono ?_
      rintro e w' ⟨rfl, rfl⟩
      replace hb2 := hb2.trans (hB3.mono hb2.size)
      cases hk : okK xs ls s h
      · have e1 : costAns xs ls s h xs.length = 0 := by simp [costAns, hk]
        have e2 : errOf (okK xs ls s h) = 220 := by simp [errOf, hk]
        have E := Lib.hid (And.intro e1 e2)
        clear e1 e2 hk
        go_wp2_with fail
        refine (Cost_at 0 220 hx hy (by omega) hn40' E.out.1 E.out.2).mono ?_
        rintro e w4 ⟨rfl, hb4⟩
        go_wp2_with fail
        go_ret
        exact ⟨rfl, hb2.trans (hb4.mono hb2.size)⟩
      · obtain ⟨X, hX⟩ : ∃ X, costTo s h xs ls xs.length = X := ⟨_, rfl⟩
        have hge : x ≤ X := by have := sz_least hk; rw [HC.out, hX] at this; exact this
        have e1 : costAns xs ls s h xs.length = X := by simp only [costAns, hk, if_true]; exact hX
        have e2 : errOf (okK xs ls s h) = 0 := by simp [errOf, hk]
        have E := Lib.hid (And.intro e1 e2)
        clear e1 e2 hk hX
        go_wp2_with fail
        refine (Cost_at X 0 hx hy (by omega) hn40' E.out.1 E.out.2).mono ?_
        rintro e w4 ⟨rfl, hb4⟩
        go_wp2_with fail
        go_ret
        exact ⟨rfl, hb2.trans (hb4.mono hb2.size)⟩
end Go.Proofs.Ytkbnbdpdmcnkiaa
