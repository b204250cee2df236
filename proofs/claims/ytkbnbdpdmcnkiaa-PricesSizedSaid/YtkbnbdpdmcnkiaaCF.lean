/- PricesSized, walked. -/
import Derived.Test.YtkbnbdpdmcnkiaaCE
import Derived.Test.YtkbnbdpdmcnkiaaCX
import Derived.RegionTactic
import Derived.BigRegion
import Derived.Deep.DeepCutAuto
namespace Go.Proofs.Ytkbnbdpdmcnkiaa
open Go.RowKit

/-- The three copies of a sizing lie in blocks of their own, in whatever order they were made. -/
def Z3 (w3 : World) (S : Array Value) (p q r : Value) (W : World) : Prop :=
  ∃ b1 b2 b3, p = .pointer (some ⟨b1, 0, none⟩) ∧ q = .pointer (some ⟨b2, 0, none⟩) ∧ r = .pointer (some ⟨b3, 0, none⟩) ∧ (Blk W b1 26 S ∧ Blk W b2 26 S ∧ Blk W b3 26 S) ∧ (b1 ≠ b2 ∧ b1 ≠ b3 ∧ b2 ≠ b3) ∧ (w3.heap.size ≤ b1 ∧ w3.heap.size ≤ b2 ∧ w3.heap.size ≤ b3) ∧ Below w3.heap.size w3 W

theorem wrap_ne {a y : Int} (y0 : -9223372036854775808 ≤ y) (y1 : y ≤ 9223372036854775807) (hy : ¬ y = 0) : wrap64 (a + y) ≠ a := by
  unfold wrap64; omega
/-- Another cost is refused; so are another last price, and fewer lots. -/
theorem sized_cost {xs : List Int} {s h C Z : Int} (hv : vA xs s h = true) (hC : szC xs s h = C) (hZ : Z ≠ C) (ps : List Int) : chkB xs s h (szL xs s h) Z ps = false := by
  cases e : chkB xs s h (szL xs s h) Z ps
  · rfl
  · have h1 := (chk_parts e).2.1
    have h2 := (szL_ok hv).2.2.2
    omega
theorem sized_last {xs ls ps : List Int} {s h C : Int} {m : Nat} (hl : xs.length = m + 1) (hp : g ps m ≠ C) : chkB xs s h ls C ps = false := by
  cases e : chkB xs s h ls C ps
  · rfl
  · obtain ⟨_, _, h3, h4⟩ := chk_parts e
    have h5 := (bnd_parts h3).2.2.2.2
    rw [hl] at h5
    exact absurd (h5.symm.trans h4) hp
theorem sized_less {xs : List Int} {s h C : Int} (hv : vA xs s h = true) (hC : szC xs s h = C) {k : Nat} (hk : k < xs.length) {x : Int} (hx : g (szL xs s h) k = x) : chkB xs s h ((szL xs s h).set k 0) C (szP xs s h) = decide (x = 0) := by
  have hl := szL_len hv
  by_cases e : x = 0
  · have e1 : (szL xs s h).set k 0 = szL xs s h := by
      refine same_take (n := xs.length) (by rw [List.length_set, hl]) hl (fun j hj => ?_)
      rw [g_set _ _ _ _ (by omega)]
      by_cases e2 : j = k
      · subst e2; rw [if_pos rfl, hx, e]
      · rw [if_neg e2]
    rw [e1, decide_eq_true e, ← hC]
    exact sz_chk hv
  · rw [decide_eq_false e]
    have h1 := less_uncovered hv hk (by rw [hx]; exact e)
    simp [chkB, k1B, h1]

theorem z3_facts (w3 : World) (S : Array Value) : Blk (((w3.alloc (.cells S 26)).alloc (.cells S 26)).alloc (.cells S 26)).drew w3.heap.size 26 S ∧ Blk (((w3.alloc (.cells S 26)).alloc (.cells S 26)).alloc (.cells S 26)).drew (w3.heap.size + 1) 26 S ∧
    Blk (((w3.alloc (.cells S 26)).alloc (.cells S 26)).alloc (.cells S 26)).drew (w3.heap.size + 1 + 1) 26 S ∧ Below w3.heap.size w3 (((w3.alloc (.cells S 26)).alloc (.cells S 26)).alloc (.cells S 26)).drew := by
  refine ⟨(((Blk.new _ _ _).alloc _).alloc _).drew, (((Blk.new _ _ _).at_ rfl (by simp)).alloc _).drew, ((Blk.new _ _ _).at_ rfl (by simp)).drew, ?_⟩
  exact below_drewN ((((Below.refl _ w3).alloc (Nat.le_refl _) _).alloc (by simp) _).alloc (by simp; omega) _) 1

set_option maxRecDepth 100000 in
set_option maxHeartbeats 20000000 in
theorem pricesSized_big (m c : Nat) (A : Option Addr) (xs : List Int) (s h y at_ : Int) (w : World) (hx : SI w w.heap.size A (m + 1) xs) (hc : m + 1 ≤ c) (y0 : -9223372036854775808 ≤ y) (y1 : y ≤ 9223372036854775807) (t0 : 0 ≤ at_) (t1 : at_ ≤ 18446744073709551615) (hn16 : m + 1 ≤ 16)
    (HL : Hid (xs.length = m + 1)) (H18 : Hid (∀ w : World, Calls Try.prog 18 #[.slice A (m + 1) c] w fun e w' => e = .returned (.bool true) ∧ w = w')) (C : Int) (HC : Hid (szC xs s h = C)) (HV : Hid (vA xs s h = true)) (hyz : ¬ y = 0) :
    Calls Try.prog 10 #[.slice A (m + 1) c, .int .i64 s, .int .i64 h, .int .i64 y, .int .u64 at_] w fun e w' => e = .returned (.bool true) ∧ Below w.heap.size w w' := by
  have HCHK : Hid (chkB xs s h (szL xs s h) C (szP xs s h) = true ∧ errP (vA xs s h) = 0) := Lib.hid ⟨by rw [← HC.out]; exact sz_chk HV.out, congrArg errP HV.out⟩
  have hnn : (((m + 1 : Nat) : Int) != ((m + 1 : Nat) : Int)) = false := by simp
  have hyb : (y == 0) = false := by simpa using hyz
  have i2 : (((m + 1 : Nat) : Int) == 0) = false := by simpa using (by omega : ¬ ((m + 1 : Nat) : Int) = 0)
  go_enter Try.func10, Try.ntmps10
  go_wp2_with fail
  refine (sane23_any w).mono ?_
  rintro e w1 ⟨rfl, hb1⟩
  go_wp2_with fail
  refine (H18.out _).mono ?_
  rintro e w' ⟨rfl, rfl⟩
  go_wp2_with fail
  refine (Size_yes (hx.step hb1) hc HV.out C HC.out).mono ?_
  rintro e w2 ⟨A1, c1, A2, c2, rfl, hL, hP, hb2⟩
  replace hb2 := hb1.trans (hb2.mono hb1.size)
  clear hb1
  go_wp2_with fail
  refine (Check_at true 0 ((hx.step hb2).up _) (hL.up _) (hP.up _) (by omega) (by omega) (by omega) HCHK.out).mono ?_
  rintro e w3 ⟨rfl, hb3⟩
  have bx := (Blk.new w2 26 #[.slice A1 (m + 1) c1, .int .i64 C, .slice A2 (m + 1) c2]).below hb3 (by simp)
  replace hL := (hL.up (.cells #[.slice A1 (m + 1) c1, .int .i64 C, .slice A2 (m + 1) c2] 26)).step hb3
  replace hP := (hP.up (.cells #[.slice A1 (m + 1) c1, .int .i64 C, .slice A2 (m + 1) c2] 26)).step hb3
  replace hb3 := (hb2.alloc hb2.size _).trans (hb3.mono (by have := hb2.size; simp; omega))
  replace hx := hx.step hb3
  have hlt := bx.lt
  clear hb2
  have k0 : w3.cell? ⟨w2.heap.size, 0, none⟩ = some (.slice A1 (m + 1) c1) := bx.cell 0
  have k1 : w3.cell? ⟨w2.heap.size, 1, none⟩ = some (.int .i64 C) := bx.cell 1
  have k2 : w3.cell? ⟨w2.heap.size, 2, none⟩ = some (.slice A2 (m + 1) c2) := bx.cell 2
  go_upto_region 13 with fail
  clear hnn hyb i2
  go_cut [15, 16, 17] (fun p q r wx => Z3 w3 #[.slice A1 (m + 1) c1, .int .i64 C, .slice A2 (m + 1) c2] p q r wx)
  case first =>
    have hlt1 : w2.heap.size < w3.heap.size + 1 := by omega
    have hlt2 : w2.heap.size < w3.heap.size + 1 + 1 := by omega
    have hlt3 : w2.heap.size < w3.heap.size + 1 + 1 + 1 := by omega
    clear HCHK HV HC HL H18 hL hP hx hb3 y0 y1 t0 t1 hc hn16 hyz
    have HQ := Lib.hid (z3_facts w3 #[.slice A1 (m + 1) c1, .int .i64 C, .slice A2 (m + 1) c2])
    go_region
    all_goals go_wp2_with fail
    all_goals go_meet
    all_goals (obtain ⟨q0, q1, q2, q3⟩ := HQ.out)
    all_goals exact ⟨_, _, _, rfl, rfl, rfl, ⟨by first | exact q0 | exact q1 | exact q2, by first | exact q0 | exact q1 | exact q2, by first | exact q0 | exact q1 | exact q2⟩, ⟨by omega, by omega, by omega⟩, ⟨by omega, by omega, by omega⟩, q3⟩
  case rest =>
    obtain ⟨b1, b2, b3, rfl, rfl, rfl, ⟨d1, d2, d3⟩, ⟨n12, n13, n23⟩, ⟨g1, g2, g3⟩, hbz⟩ := hcut
    have hlc := hbz.size
    have l1 := d1.lt
    have l2 := d2.lt
    have l3 := d3.lt
    replace bx := bx.below hbz hlt
    replace hL := hL.below hbz
    replace hP := hP.below hbz
    replace hx := hx.below hbz
    clear k0 k1 k2
    have e11 : wc.cell? ⟨b1, 1, none⟩ = some (.int .i64 C) := d1.cell 1
    have f11 := d1.frozen 1
    go_upto_region 15 with fail
    obtain ⟨Z, hZ⟩ : ∃ Z, wrap64 (C + y) = Z := ⟨_, rfl⟩
    rw [hZ]
    replace d1 := d1.set_ 1 (.int .i64 Z)
    replace d2 := d2.far (p := ⟨b1, 1, none⟩) (zne n12.symm) (.int .i64 Z)
    replace d3 := d3.far (p := ⟨b1, 1, none⟩) (zne n13.symm) (.int .i64 Z)
    replace bx := bx.far (p := ⟨b1, 1, none⟩) (zne (by omega)) (.int .i64 Z)
    replace hL := hL.setCell (p := ⟨b1, 1, none⟩) g1 (.int .i64 Z)
    replace hP := hP.setCell (p := ⟨b1, 1, none⟩) g1 (.int .i64 Z)
    replace hx := hx.setCell (p := ⟨b1, 1, none⟩) g1 (.int .i64 Z)
    replace hbz := hbz.setCell (p := ⟨b1, 1, none⟩) g1 (.int .i64 Z)
    simp only [List.setIfInBounds_toArray, List.set_cons_succ, List.set_cons_zero] at d1
    have HZ := Lib.hid hZ
    clear e11 f11 hZ
    generalize wc.setCell ⟨b1, 1, none⟩ (.int .i64 Z) = wd at *
    have k2 : wd.cell? ⟨w2.heap.size, 2, none⟩ = some (.slice A2 (m + 1) c2) := bx.cell 2
    clear hlc l1 l2 l3
    have hl2 : w2.heap.size < wd.heap.size := bx.lt
    have hlc := hbz.size
    have l2 := d2.lt
    go_upto_region 16 with (at_builtin; refine wpList_app_all rfl (.tmp 84) (.tmp 86) rfl (wd.alloc (.cells #[] 3)) wd.heap.size 0 (m + 1) w3.heap.size c2 A2 (.slice (some ⟨wd.heap.size, 0, none⟩) 0 0) [] (szP xs s h) rfl rfl (OI.empty wd _ (Nat.le_refl _)) (hP.alloc (by omega) _) (by omega) (by simp) ?_; intro v4 w4 ho4 hg4; rw [Nat.zero_add, List.nil_append] at ho4; obtain ⟨bq, cq, rfl⟩ := ownsRow_succ ho4; have d24 := (d2.alloc (.cells #[] 3)).grown hg4 (by simp [Value.ownBlock]; omega); have e22 := d24.cell 2; have f22 := d24.frozen 2)
    clear e22 f22 k2
    have hqlt := ho4.lt
    have hr4 : ∀ b, b < wd.heap.size → (Value.slice (some ⟨wd.heap.size, 0, none⟩) 0 0).ownBlock ≠ some b := fun b hb e => by simp [Value.ownBlock] at e; omega
    have d14 := (d1.alloc (.cells #[] 3)).grown hg4 (hr4 b1 d1.lt)
    have d34 := (d3.alloc (.cells #[] 3)).grown hg4 (hr4 b3 d3.lt)
    have bx4 := (bx.alloc (.cells #[] 3)).grown hg4 (hr4 _ bx.lt)
    have hb4 : Below w3.heap.size w3 w4 := (hbz.alloc hbz.size _).grown hg4 (by simp; omega) (fun k e => by simp [Value.ownBlock] at e; omega)
    have hP3 := hP
    have hL4 : SI w4 w3.heap.size A1 (m + 1) (szL xs s h) := hL.keep fun p hp => World.cell?_of_block ((hg4.block _ (by simp; omega) (fun e => hr4 _ (by omega) e.symm)).trans (Below.heap_alloc _ _ _ (by omega)))
    have hP4 : SI w4 w3.heap.size A2 (m + 1) (szP xs s h) := hP.keep fun p hp => World.cell?_of_block ((hg4.block _ (by simp; omega) (fun e => hr4 _ (by omega) e.symm)).trans (Below.heap_alloc _ _ _ (by omega)))
    have hx4 : SI w4 w3.heap.size A (m + 1) xs := hx.keep fun p hp => World.cell?_of_block ((hg4.block _ (by simp; omega) (fun e => hr4 _ (by omega) e.symm)).trans (Below.heap_alloc _ _ _ (by omega)))
    have q1 : b1 < bq := by have := d1.lt; omega
    have q2 : b2 < bq := by omega
    have q3 : b3 < bq := by have := d3.lt; omega
    have q4 : w3.heap.size ≤ bq := by omega
    clear hL hP hx hP3 d1 d2 d3 bx
    have hqb : b2 ≠ bq := by omega
    replace d14 := d14.far (p := ⟨b2, 2, none⟩) (zne n12) (.slice (some ⟨bq, 0, none⟩) (m + 1) cq)
    replace d24 := d24.set_ 2 (.slice (some ⟨bq, 0, none⟩) (m + 1) cq)
    replace d34 := d34.far (p := ⟨b2, 2, none⟩) (zne n23.symm) (.slice (some ⟨bq, 0, none⟩) (m + 1) cq)
    replace bx4 := bx4.far (p := ⟨b2, 2, none⟩) (zne (by omega)) (.slice (some ⟨bq, 0, none⟩) (m + 1) cq)
    replace hL4 := hL4.setCell (p := ⟨b2, 2, none⟩) g2 (.slice (some ⟨bq, 0, none⟩) (m + 1) cq)
    replace hP4 := hP4.setCell (p := ⟨b2, 2, none⟩) g2 (.slice (some ⟨bq, 0, none⟩) (m + 1) cq)
    replace hx4 := hx4.setCell (p := ⟨b2, 2, none⟩) g2 (.slice (some ⟨bq, 0, none⟩) (m + 1) cq)
    replace hb4 := hb4.setCell (p := ⟨b2, 2, none⟩) g2 (.slice (some ⟨bq, 0, none⟩) (m + 1) cq)
    replace ho4 := ho4.keptB (grownBy_setCell (p := ⟨b2, 2, none⟩) (.slice (some ⟨bq, 0, none⟩) (m + 1) cq)) (fun e => hqb (by simp [Value.ownBlock] at e; exact e.symm))
    simp only [List.setIfInBounds_toArray, List.set_cons_succ, List.set_cons_zero] at d24
    clear hg4 hr4 hbz
    generalize w4.setCell ⟨b2, 2, none⟩ (.slice (some ⟨bq, 0, none⟩) (m + 1) cq) = we at *
    have e22 : we.cell? ⟨b2, 2, none⟩ = some (.slice (some ⟨bq, 0, none⟩) (m + 1) cq) := d24.cell 2
    obtain ⟨p, hpm, hpc⟩ := ho4.look (k := m) (by omega)
    have hpf := (World.ownsRow.frozenAt ho4) m
    have i3 : IntKind.i64.wrap (((m + 1 : Nat) : Int) - 1) = (m : Int) := by rw [show ((m + 1 : Nat) : Int) - 1 = (m : Int) by omega]; exact IntWalk.i64_in _ (by omega)
    go_upto_region 17 with fail
    clear e22 hpc hpf i3
    obtain ⟨Y, hY⟩ : ∃ Y, wrap64 (p + y) = Y := ⟨_, rfl⟩
    rw [hY]
    replace d14 := d14.far (p := ⟨bq, m, none⟩) (zne (by omega)) (.int .i64 Y)
    replace d24 := d24.far (p := ⟨bq, m, none⟩) (zne (by omega)) (.int .i64 Y)
    replace d34 := d34.far (p := ⟨bq, m, none⟩) (zne (by omega)) (.int .i64 Y)
    replace bx4 := bx4.far (p := ⟨bq, m, none⟩) (zne (by omega)) (.int .i64 Y)
    replace hL4 := hL4.setCell (p := ⟨bq, m, none⟩) q4 (.int .i64 Y)
    replace hP4 := hP4.setCell (p := ⟨bq, m, none⟩) q4 (.int .i64 Y)
    replace hx4 := hx4.setCell (p := ⟨bq, m, none⟩) q4 (.int .i64 Y)
    replace hb4 := hb4.setCell (p := ⟨bq, m, none⟩) q4 (.int .i64 Y)
    replace ho4 := ho4.stored m Y
    have HY := Lib.hid hY
    clear hY
    generalize we.setCell ⟨bq, m, none⟩ (.int .i64 Y) = wf at *
    have k0 : wf.cell? ⟨w2.heap.size, 0, none⟩ = some (.slice A1 (m + 1) c1) := bx4.cell 0
    have hl4 : w2.heap.size < wf.heap.size := bx4.lt
    have hlf := hb4.size
    have l3 := d34.lt
    go_upto_region 18 with (at_builtin; refine wpList_app_all rfl (.tmp 99) (.tmp 101) rfl (wf.alloc (.cells #[] 3)) wf.heap.size 0 (m + 1) w3.heap.size c1 A1 (.slice (some ⟨wf.heap.size, 0, none⟩) 0 0) [] (szL xs s h) rfl rfl (OI.empty wf _ (Nat.le_refl _)) (hL4.alloc (by omega) _) (by omega) (by simp) ?_; intro v6 w6 ho6 hg6; rw [Nat.zero_add, List.nil_append] at ho6; obtain ⟨br, cr, rfl⟩ := ownsRow_succ ho6; have d36 := (d34.alloc (.cells #[] 3)).grown hg6 (by simp [Value.ownBlock]; omega); have e30 := d36.cell 0; have f30 := d36.frozen 0)
    clear e30 f30 k0
    have hrlt := ho6.lt
    have hr6 : ∀ b, b < wf.heap.size → (Value.slice (some ⟨wf.heap.size, 0, none⟩) 0 0).ownBlock ≠ some b := fun b hb e => by simp [Value.ownBlock] at e; omega
    have d16 := (d14.alloc (.cells #[] 3)).grown hg6 (hr6 b1 d14.lt)
    have d26 := (d24.alloc (.cells #[] 3)).grown hg6 (hr6 b2 d24.lt)
    have bx6 := (bx4.alloc (.cells #[] 3)).grown hg6 (hr6 _ bx4.lt)
    have hb6 : Below w3.heap.size w3 w6 := (hb4.alloc hb4.size _).grown hg6 (by simp; omega) (fun k e => by simp [Value.ownBlock] at e; omega)
    have hkeep : ∀ p : Addr, p.block < w3.heap.size → w6.cell? p = wf.cell? p := fun p hp => World.cell?_of_block ((hg6.block _ (by simp; omega) (fun e => hr6 _ (by omega) e.symm)).trans (Below.heap_alloc _ _ _ (by omega)))
    have hL6 : SI w6 w3.heap.size A1 (m + 1) (szL xs s h) := hL4.keep hkeep
    have hP6 : SI w6 w3.heap.size A2 (m + 1) (szP xs s h) := hP4.keep hkeep
    have hx6 : SI w6 w3.heap.size A (m + 1) xs := hx4.keep hkeep
    have hg6' : (wf.alloc (.cells #[] 3)).grownBy w6 (some wf.heap.size) := hg6
    have hq6 := (ho4.alloc (.cells #[] 3)).keptB hg6' (fun e => by have := ho4.lt.2; simp [Value.ownBlock] at e; omega)
    have r3 : b3 ≠ br := by omega
    have r0 : w3.heap.size ≤ br := by omega
    have r1 : b1 ≠ br := by have := d14.lt; omega
    have r2 : b2 ≠ br := by have := d24.lt; omega
    have rq : bq ≠ br := by have := ho4.lt.2; omega
    have rx : w2.heap.size ≠ br := by omega
    clear hL4 hP4 hx4 hb4 ho4 d14 d24 d34 bx4 hg6 hg6' hkeep hr6
    replace d16 := d16.far (p := ⟨b3, 0, none⟩) (zne n13) (.slice (some ⟨br, 0, none⟩) (m + 1) cr)
    replace d26 := d26.far (p := ⟨b3, 0, none⟩) (zne n23) (.slice (some ⟨br, 0, none⟩) (m + 1) cr)
    replace d36 := d36.set_ 0 (.slice (some ⟨br, 0, none⟩) (m + 1) cr)
    replace bx6 := bx6.far (p := ⟨b3, 0, none⟩) (zne (by omega)) (.slice (some ⟨br, 0, none⟩) (m + 1) cr)
    replace hL6 := hL6.setCell (p := ⟨b3, 0, none⟩) g3 (.slice (some ⟨br, 0, none⟩) (m + 1) cr)
    replace hP6 := hP6.setCell (p := ⟨b3, 0, none⟩) g3 (.slice (some ⟨br, 0, none⟩) (m + 1) cr)
    replace hx6 := hx6.setCell (p := ⟨b3, 0, none⟩) g3 (.slice (some ⟨br, 0, none⟩) (m + 1) cr)
    replace hb6 := hb6.setCell (p := ⟨b3, 0, none⟩) g3 (.slice (some ⟨br, 0, none⟩) (m + 1) cr)
    replace ho6 := ho6.keptB (grownBy_setCell (p := ⟨b3, 0, none⟩) (.slice (some ⟨br, 0, none⟩) (m + 1) cr)) (fun e => r3 (by simp [Value.ownBlock] at e; exact e.symm))
    replace hq6 := hq6.keptB (grownBy_setCell (p := ⟨b3, 0, none⟩) (.slice (some ⟨br, 0, none⟩) (m + 1) cr)) (fun e => by simp [Value.ownBlock] at e; omega)
    simp only [List.setIfInBounds_toArray, List.set_cons_zero] at d36
    generalize w6.setCell ⟨b3, 0, none⟩ (.slice (some ⟨br, 0, none⟩) (m + 1) cr) = wg at *
    have m0 : (0 : Int) < ((m + 1 : Nat) : Int) := by omega
    have m1 : ((m + 1 : Nat) : Int) ≤ 16 := by omega
    go_upto_region 19 with fail
    obtain ⟨k, hk, hkm⟩ : ∃ k : Nat, wrap64 (at_ % ((m : Int) + 1)) = (k : Int) ∧ k ≤ m := by
      have h1 := Int.emod_nonneg at_ (show (m : Int) + 1 ≠ 0 by omega)
      have h2 := Int.emod_lt_of_pos at_ (show (0 : Int) < (m : Int) + 1 by omega)
      refine ⟨(at_ % ((m : Int) + 1)).toNat, ?_, by omega⟩
      rw [Int.toNat_of_nonneg h1]
      unfold wrap64; omega
    rw [hk]
    clear hk
    have e30 : wg.cell? ⟨b3, 0, none⟩ = some (.slice (some ⟨br, 0, none⟩) (m + 1) cr) := d36.cell 0
    obtain ⟨xk, hxk, hxc⟩ := ho6.look (k := k) (by omega)
    have hxf := (World.ownsRow.frozenAt ho6) k
    go_upto_region 20 with fail
    clear e30 hxc hxf
    replace d16 := d16.far (p := ⟨br, k, none⟩) (zne r1) (.int .i64 0)
    replace d26 := d26.far (p := ⟨br, k, none⟩) (zne r2) (.int .i64 0)
    replace d36 := d36.far (p := ⟨br, k, none⟩) (zne r3) (.int .i64 0)
    replace bx6 := bx6.far (p := ⟨br, k, none⟩) (zne rx) (.int .i64 0)
    replace hL6 := hL6.setCell (p := ⟨br, k, none⟩) r0 (.int .i64 0)
    replace hP6 := hP6.setCell (p := ⟨br, k, none⟩) r0 (.int .i64 0)
    replace hx6 := hx6.setCell (p := ⟨br, k, none⟩) r0 (.int .i64 0)
    replace hb6 := hb6.setCell (p := ⟨br, k, none⟩) r0 (.int .i64 0)
    replace hq6 := hq6.keptB (grownBy_setCell (p := ⟨br, k, none⟩) (.int .i64 0)) (fun e => rq (by simp [Value.ownBlock] at e; exact e))
    replace ho6 := ho6.stored k 0
    generalize wg.setCell ⟨br, k, none⟩ (.int .i64 0) = wh at *
    have hqs := hq6.SI
    have hrs := ho6.SI
    replace hL6 := hL6.more hb6.size
    replace hP6 := hP6.more hb6.size
    replace hx6 := hx6.more hb6.size
    have hbh := hb3.trans (hb6.mono hb3.size)
    clear hb6 ho6 hq6
    have a0 : wh.cell? ⟨b1, 0, none⟩ = some (.slice A1 (m + 1) c1) := d16.cell 0
    have a1 : wh.cell? ⟨b1, 1, none⟩ = some (.int .i64 Z) := d16.cell 1
    have a2 : wh.cell? ⟨b1, 2, none⟩ = some (.slice A2 (m + 1) c2) := d16.cell 2
    have hpC : p = C := by rw [← hpm.out, szP_at HV.out (by rw [HL.out]; omega), ← HC.out, szC_good HV.out, HL.out]
    have hZC : Hid (chkB xs s h (szL xs s h) Z (szP xs s h) = false ∧ errP (vA xs s h) = 0) := Lib.hid ⟨sized_cost HV.out HC.out (by rw [← HZ.out]; exact wrap_ne y0 y1 hyz) _, HCHK.out.2⟩
    have hYC : Hid (chkB xs s h (szL xs s h) C ((szP xs s h).set m Y) = false ∧ errP (vA xs s h) = 0) := Lib.hid ⟨sized_last HL.out (by rw [g_set _ _ _ _ (by rw [szP_len HV.out, HL.out]; omega), if_pos rfl, ← HY.out, hpC]; exact wrap_ne y0 y1 hyz), HCHK.out.2⟩
    have hKC : Hid (chkB xs s h ((szL xs s h).set k 0) C (szP xs s h) = decide (xk = 0) ∧ errP (vA xs s h) = 0) := Lib.hid ⟨sized_less HV.out HC.out (by rw [HL.out]; omega) hxk.out, HCHK.out.2⟩
    clear hpC
    go_wp2_with fail
    refine (Check_at false 0 hx6 hL6 hP6 (by omega) (by omega) (by omega) hZC.out).mono ?_
    rintro e wi ⟨rfl, hbi⟩
    replace hbh := hbh.trans (hbi.mono hbh.size)
    replace hx6 := hx6.step hbi
    replace hL6 := hL6.step hbi
    replace hP6 := hP6.step hbi
    replace hqs := hqs.step hbi
    replace hrs := hrs.step hbi
    replace d26 := d26.below hbi d26.lt
    replace d36 := d36.below hbi d36.lt
    replace bx6 := bx6.below hbi bx6.lt
    clear a0 a1 a2 hbi d16
    have a0 : wi.cell? ⟨b2, 0, none⟩ = some (.slice A1 (m + 1) c1) := d26.cell 0
    have a1 : wi.cell? ⟨b2, 1, none⟩ = some (.int .i64 C) := d26.cell 1
    have a2 : wi.cell? ⟨b2, 2, none⟩ = some (.slice (some ⟨bq, 0, none⟩) (m + 1) cq) := d26.cell 2
    go_wp2_with fail
    refine (Check_at false 0 hx6 hL6 hqs (by omega) (by omega) (by omega) hYC.out).mono ?_
    rintro e wj ⟨rfl, hbj⟩
    replace hbh := hbh.trans (hbj.mono hbh.size)
    replace hx6 := hx6.step hbj
    replace hL6 := hL6.step hbj
    replace hP6 := hP6.step hbj
    replace hrs := hrs.step hbj
    replace d36 := d36.below hbj d36.lt
    replace bx6 := bx6.below hbj bx6.lt
    clear a0 a1 a2 hbj d26 hqs
    have a0 : wj.cell? ⟨b3, 0, none⟩ = some (.slice (some ⟨br, 0, none⟩) (m + 1) cr) := d36.cell 0
    have a1 : wj.cell? ⟨b3, 1, none⟩ = some (.int .i64 C) := d36.cell 1
    have a2 : wj.cell? ⟨b3, 2, none⟩ = some (.slice A2 (m + 1) c2) := d36.cell 2
    go_wp2_with fail
    refine (Check_at _ 0 hx6 hrs hP6 (by omega) (by omega) (by omega) hKC.out).mono ?_
    rintro e wl ⟨rfl, hbl⟩
    replace hbh := hbh.trans (hbl.mono hbh.size)
    replace hL6 := hL6.step hbl
    replace bx6 := bx6.below hbl bx6.lt
    clear a0 a1 a2 hbl d36 hrs hP6
    have a0 : wl.cell? ⟨w2.heap.size, 0, none⟩ = some (.slice A1 (m + 1) c1) := bx6.cell 0
    obtain ⟨bL, offL, xl, rfl, _, hxl, hcl⟩ := hL6.look (k := k) (by omega)
    obtain rfl : xl = xk := hxl.out.symm.trans hxk.out
    by_cases hx0 : xl = 0
    · have hb0 : (xl == 0) = true := by simp [hx0]
      have hd0 : decide (xl = 0) = true := by simp [hx0]
      rw [hd0]
      clear hx0
      go_wp2_with fail
      go_ret
      exact ⟨rfl, hbh⟩
    · have hb0 : (xl == 0) = false := by simpa using hx0
      have hd0 : decide (xl = 0) = false := by simpa using hx0
      rw [hd0]
      clear hx0
      go_wp2_with fail
      go_ret
      exact ⟨rfl, hbh⟩

set_option maxHeartbeats 2000000 in
theorem pricesSized_any (n c : Nat) (A : Option Addr) (xs : List Int) (s h y at_ : Int) (w : World) (hx : SI w w.heap.size A n xs) (hc : n ≤ c) (y0 : -9223372036854775808 ≤ y) (y1 : y ≤ 9223372036854775807) (t0 : 0 ≤ at_) (t1 : at_ ≤ 18446744073709551615) :
    Calls Try.prog 10 #[.slice A n c, .int .i64 s, .int .i64 h, .int .i64 y, .int .u64 at_] w fun e w' => e = .returned (.bool true) ∧ Below w.heap.size w w' := by
  cases hfew : few n
  · have h18 : ∀ w : World, Calls Try.prog 18 #[.slice A n c] w fun e w' => e = .returned (.bool false) ∧ w = w' := fun w => by rw [← hfew]; exact few_any n c A w
    have H18 := Lib.hid h18
    clear h18 hfew
    go_enter Try.func10, Try.ntmps10
    go_wp2_with fail
    refine (sane23_any w).mono ?_
    rintro e w1 ⟨rfl, hb1⟩
    go_wp2_with fail
    refine (H18.out _).mono ?_
    rintro e w' ⟨rfl, rfl⟩
    go_wp2_with fail
    go_ret
    exact ⟨rfl, hb1⟩
  have hn40 : n ≤ 40 := by simp [few] at hfew; omega
  have h18 : ∀ w : World, Calls Try.prog 18 #[.slice A n c] w fun e w' => e = .returned (.bool true) ∧ w = w' := fun w => by rw [← hfew]; exact few_any n c A w
  have H18 := Lib.hid h18
  clear h18 hfew
  cases hv : vA xs s h
  · have HV := Lib.hid hv
    clear hv
    go_enter Try.func10, Try.ntmps10
    go_wp2_with fail
    refine (sane23_any w).mono ?_
    rintro e w1 ⟨rfl, hb1⟩
    go_wp2_with fail
    refine (H18.out _).mono ?_
    rintro e w' ⟨rfl, rfl⟩
    go_wp2_with fail
    refine (Size_no (hx.step hb1) (by omega) hc HV.out).mono ?_
    rintro e w2 ⟨A1, c1, A2, c2, rfl, hb2⟩
    replace hb2 := hb1.trans (hb2.mono hb1.size)
    go_wp2_with fail
    go_ret
    exact ⟨rfl, hb2.alloc hb2.size _⟩
  obtain ⟨C, hC⟩ : ∃ C, szC xs s h = C := ⟨_, rfl⟩
  have hchk := sz_chk hv
  rw [hC] at hchk
  have hl := hx.len
  have hn16 : n ≤ 16 := by rw [← hl]; exact (vA_all hv).1
  have HCHK := Lib.hid (And.intro hchk (congrArg errP hv))
  have HV := Lib.hid hv
  have HC := Lib.hid hC
  have HL := Lib.hid hl
  clear hC hchk hl hv
  have hnn : ((n : Int) != (n : Int)) = false := by simp
  by_cases hyz : y = 0
  · subst hyz
    go_enter Try.func10, Try.ntmps10
    go_wp2_with fail
    refine (sane23_any w).mono ?_
    rintro e w1 ⟨rfl, hb1⟩
    go_wp2_with fail
    refine (H18.out _).mono ?_
    rintro e w' ⟨rfl, rfl⟩
    go_wp2_with fail
    refine (Size_yes (hx.step hb1) hc HV.out C HC.out).mono ?_
    rintro e w2 ⟨A1, c1, A2, c2, rfl, hL, hP, hb2⟩
    replace hb2 := hb1.trans (hb2.mono hb1.size)
    clear hb1
    go_wp2_with fail
    refine (Check_at true 0 ((hx.step hb2).up _) (hL.up _) (hP.up _) (by omega) (by omega) (by omega) HCHK.out).mono ?_
    rintro e w3 ⟨rfl, hb3⟩
    have bx := (Blk.new w2 26 #[.slice A1 n c1, .int .i64 C, .slice A2 n c2]).below hb3 (by simp)
    replace hb3 := (hb2.alloc hb2.size _).trans (hb3.mono (by have := hb2.size; simp; omega))
    have k0 : w3.cell? ⟨w2.heap.size, 0, none⟩ = some (.slice A1 n c1) := bx.cell 0
    have k2 : w3.cell? ⟨w2.heap.size, 2, none⟩ = some (.slice A2 n c2) := bx.cell 2
    go_wp2_with fail
    go_ret
    exact ⟨rfl, hb3⟩
  have hyb : (y == 0) = false := by simpa using hyz
  rcases Nat.eq_zero_or_pos n with hn0 | hn0
  · subst hn0
    go_enter Try.func10, Try.ntmps10
    go_wp2_with fail
    refine (sane23_any w).mono ?_
    rintro e w1 ⟨rfl, hb1⟩
    go_wp2_with fail
    refine (H18.out _).mono ?_
    rintro e w' ⟨rfl, rfl⟩
    go_wp2_with fail
    refine (Size_yes (hx.step hb1) hc HV.out C HC.out).mono ?_
    rintro e w2 ⟨A1, c1, A2, c2, rfl, hL, hP, hb2⟩
    replace hb2 := hb1.trans (hb2.mono hb1.size)
    clear hb1
    go_wp2_with fail
    refine (Check_at true 0 ((hx.step hb2).up _) (hL.up _) (hP.up _) (by omega) (by omega) (by omega) HCHK.out).mono ?_
    rintro e w3 ⟨rfl, hb3⟩
    have bx := (Blk.new w2 26 #[.slice A1 0 c1, .int .i64 C, .slice A2 0 c2]).below hb3 (by simp)
    replace hb3 := (hb2.alloc hb2.size _).trans (hb3.mono (by have := hb2.size; simp; omega))
    have k0 : w3.cell? ⟨w2.heap.size, 0, none⟩ = some (.slice A1 0 c1) := bx.cell 0
    have k2 : w3.cell? ⟨w2.heap.size, 2, none⟩ = some (.slice A2 0 c2) := bx.cell 2
    go_wp2_with fail
    go_ret
    exact ⟨rfl, hb3⟩
  obtain ⟨m, rfl⟩ : ∃ m, n = m + 1 := ⟨n - 1, by omega⟩
  exact pricesSized_big m c A xs s h y at_ w hx hc y0 y1 t0 t1 hn16 HL H18 C HC HV hyz
end Go.Proofs.Ytkbnbdpdmcnkiaa
