/- PricesBoundSpec, PricesCheckSpec, walked. -/
import Derived.Test.YtkbnbdpdmcnkiaaBN
namespace Go.Proofs.Ytkbnbdpdmcnkiaa
open Go.RowKit

theorem rBound_at {n cap np capp : Nat} {A A' : Option Addr} {xs ps : List Int} {st h : Int} {w : World} (C : Int) (B : Bool) (E : Int) (hx : SI w w.heap.size A n xs) (hp : SI w w.heap.size A' np ps) (hn : n ≤ 1000) (hnp : np ≤ 1000)
    (e : bndC xs st h ps = C ∧ bndB xs st h ps = B ∧ errP (okB xs st h ps) = E) :
    Calls Try.prog 35 #[.slice A n cap, .int .i64 st, .int .i64 h, .slice A' np capp] w fun e w' => e = .returned (.tuple #[.int .i64 C, .bool B, .int .i64 E]) ∧ w = w' := by
  obtain ⟨rfl, rfl, rfl⟩ := e
  exact rBound_any n cap np capp A A' xs ps st h w hx hp (by omega) (by omega)
theorem rTight_at {n cap np capp : Nat} {A A' : Option Addr} {xs ps : List Int} {st h : Int} {w : World} (L : List Int) (m : Nat) (E : Int) (hx : SI w w.heap.size A n xs) (hp : SI w w.heap.size A' np ps) (hn : n ≤ 1000) (hnp : np ≤ 1000)
    (e : tigL xs st h ps = L ∧ errP (okB xs st h ps) = E) (hm : L.length = m) :
    Calls Try.prog 36 #[.slice A n cap, .int .i64 st, .int .i64 h, .slice A' np capp] w fun e w' => ∃ B c, e = .returned (.tuple #[.slice B m c, .int .i64 E]) ∧ SI w' w'.heap.size B m L ∧ Below w.heap.size w w' := by
  obtain ⟨rfl, rfl⟩ := e
  subst hm
  exact rTight_any n cap np capp A A' xs ps st h w hx hp (by omega) (by omega)
theorem rCheck_at {n cap nl cl np cp : Nat} {A L P : Option Addr} {xs ls ps : List Int} {st h z : Int} {w : World} (B : Bool) (E : Int) (hx : SI w w.heap.size A n xs) (hy : SI w w.heap.size L nl ls) (hp : SI w w.heap.size P np ps) (hn : n ≤ 1000) (hnl : nl ≤ 1000) (hnp : np ≤ 1000)
    (e : chkB xs st h ls z ps = B ∧ errP (vA xs st h) = E) :
    Calls Try.prog 37 #[.slice A n cap, .int .i64 st, .int .i64 h, .agg #[.slice L nl cl, .int .i64 z, .slice P np cp]] w fun e w' => e = .returned (.tuple #[.bool B, .int .i64 E]) ∧ Below w.heap.size w w' := by
  obtain ⟨rfl, rfl⟩ := e
  exact rCheck_any n cap nl cl np cp A L P xs ls ps st h z w hx hy hp (by omega) (by omega) (by omega)

set_option maxHeartbeats 1000000 in
theorem pricesBoundSpec_any (n c np cp : Nat) (A P : Option Addr) (xs ps : List Int) (s h : Int) (w : World) (hx : SI w w.heap.size A n xs) (hp : SI w w.heap.size P np ps) :
    Calls Try.prog 12 #[.slice A n c, .int .i64 s, .int .i64 h, .slice P np cp] w fun e w' => e = .returned (.bool true) ∧ Below w.heap.size w w' := by
  by_cases a1 : (20 : Int) < n
  · go_enter Try.func12, Try.ntmps12
    go_wp2_with fail
    refine (sane23_any w).mono ?_
    rintro e w1 ⟨rfl, hb1⟩
    go_wp2_with fail
    go_ret
    exact ⟨rfl, hb1⟩
  by_cases a3 : (20 : Int) < np
  · go_enter Try.func12, Try.ntmps12
    go_wp2_with fail
    refine (sane23_any w).mono ?_
    rintro e w1 ⟨rfl, hb1⟩
    go_wp2_with fail
    go_ret
    exact ⟨rfl, hb1⟩
  obtain ⟨C, hC⟩ : ∃ C, bndC xs s h ps = C := ⟨_, rfl⟩
  obtain ⟨B, hB⟩ : ∃ B, bndB xs s h ps = B := ⟨_, rfl⟩
  obtain ⟨E, hE⟩ : ∃ E, errP (okB xs s h ps) = E := ⟨_, rfl⟩
  obtain ⟨L, hL⟩ : ∃ L, tigL xs s h ps = L := ⟨_, rfl⟩
  obtain ⟨m, hm⟩ : ∃ m, L.length = m := ⟨_, rfl⟩
  have hm16 : m ≤ 16 := by
    rw [← hm, ← hL, tigL]
    split
    · exact tgL_len _ _
    · simp
  have H1 := Lib.hid (And.intro hC (And.intro hB hE))
  have H2 := Lib.hid (And.intro hL hE)
  have HM := Lib.hid hm
  clear hC hB hE hL hm
  have q1 : (C == C) = true := by simp
  have q2 : (B == B) = true := by simp
  have q3 : (E == E) = true := by simp
  go_enter Try.func12, Try.ntmps12
  go_wp2_with fail
  refine (sane23_any w).mono ?_
  rintro e w1 ⟨rfl, hb1⟩
  replace hx := hx.step hb1
  replace hp := hp.step hb1
  go_wp2_with fail
  refine (Bound_at C B E hx hp (by omega) (by omega) H1.out).mono ?_
  rintro e w2 ⟨rfl, hb2⟩
  replace hx := hx.step hb2
  replace hp := hp.step hb2
  replace hb2 := hb1.trans (hb2.mono hb1.size)
  clear hb1
  go_wp2_with fail
  refine (rBound_at C B E hx hp (by omega) (by omega) H1.out).mono ?_
  rintro e w' ⟨rfl, rfl⟩
  go_wp2_with fail
  refine (Tight_at L m E hx hp (by omega) (by omega) H2.out HM.out).mono ?_
  rintro e w3 ⟨B3, c3, rfl, hL3, hb3⟩
  replace hx := hx.step hb3
  replace hp := hp.step hb3
  replace hb3 := hb2.trans (hb3.mono hb2.size)
  clear hb2
  go_wp2_with fail
  refine (rTight_at L m E hx hp (by omega) (by omega) H2.out HM.out).mono ?_
  rintro e w4 ⟨B4, c4, rfl, hL4, hb4⟩
  replace hL3 := hL3.step hb4
  replace hb4 := hb3.trans (hb4.mono hb3.size)
  clear hb3
  go_wp2_with fail
  refine (SameInts_at hL3 hL4 (by omega)).mono ?_
  rintro e w5 ⟨rfl, q, rfl⟩
  go_wp2_with fail
  go_ret
  exact ⟨rfl, below_drewN hb4 q⟩

set_option maxHeartbeats 1000000 in
theorem pricesCheckSpec_any (n c nl cl np cp : Nat) (A L P : Option Addr) (xs ls ps : List Int) (s h z : Int) (w : World) (hx : SI w w.heap.size A n xs) (hl : SI w w.heap.size L nl ls) (hp : SI w w.heap.size P np ps) :
    Calls Try.prog 13 #[.slice A n c, .int .i64 s, .int .i64 h, .agg #[.slice L nl cl, .int .i64 z, .slice P np cp]] w fun e w' => e = .returned (.bool true) ∧ Below w.heap.size w w' := by
  have hB0 : Below w.heap.size w (w.alloc (.cells #[.slice L nl cl, .int .i64 z, .slice P np cp] 26)) := (Below.refl _ w).alloc (Nat.le_refl _) _
  have b0 := Blk.new w 26 #[.slice L nl cl, .int .i64 z, .slice P np cp]
  obtain ⟨B, hB⟩ : ∃ B, chkB xs s h ls z ps = B := ⟨_, rfl⟩
  obtain ⟨E, hE⟩ : ∃ E, errP (vA xs s h) = E := ⟨_, rfl⟩
  have H1 := Lib.hid (And.intro hB hE)
  clear hB hE
  have q2 : (B == B) = true := by simp
  have q3 : (E == E) = true := by simp
  go_enter Try.func13, Try.ntmps13
  go_wp2_with fail
  refine (sane23_any _).mono ?_
  rintro e w1 ⟨rfl, hb1⟩
  have b1 := b0.below hb1 b0.lt
  have k0 : w1.cell? ⟨w.heap.size, 0, none⟩ = some (.slice L nl cl) := b1.cell 0
  have k1 : w1.cell? ⟨w.heap.size, 1, none⟩ = some (.int .i64 z) := b1.cell 1
  have k2 : w1.cell? ⟨w.heap.size, 2, none⟩ = some (.slice P np cp) := b1.cell 2
  have hB1 := hB0.trans (hb1.mono hB0.size)
  clear b0 hb1 hB0
  by_cases a1 : (20 : Int) < n
  · go_wp2_with fail
    go_ret
    exact ⟨rfl, hB1⟩
  by_cases a2 : (20 : Int) < nl
  · go_wp2_with fail
    go_ret
    exact ⟨rfl, hB1⟩
  by_cases a3 : (20 : Int) < np
  · go_wp2_with fail
    go_ret
    exact ⟨rfl, hB1⟩
  replace hx := hx.step hB1
  replace hl := hl.step hB1
  replace hp := hp.step hB1
  go_wp2_with fail
  refine (Check_at B E hx hl hp (by omega) (by omega) (by omega) H1.out).mono ?_
  rintro e w2 ⟨rfl, hb2⟩
  have b2 := b1.below hb2 b1.lt
  clear k0 k1 k2
  have k0 : w2.cell? ⟨w.heap.size, 0, none⟩ = some (.slice L nl cl) := b2.cell 0
  have k1 : w2.cell? ⟨w.heap.size, 1, none⟩ = some (.int .i64 z) := b2.cell 1
  have k2 : w2.cell? ⟨w.heap.size, 2, none⟩ = some (.slice P np cp) := b2.cell 2
  go_wp2_with fail
  refine (rCheck_at B E (hx.step hb2) (hl.step hb2) (hp.step hb2) (by omega) (by omega) (by omega) H1.out).mono ?_
  rintro e w3 ⟨rfl, hb3⟩
  have hB2 := hB1.trans (hb2.mono hB1.size)
  go_wp2_with fail
  go_ret
  exact ⟨rfl, hB2.trans (hb3.mono hB2.size)⟩
end Go.Proofs.Ytkbnbdpdmcnkiaa
