/- PricesOne, walked. -/
import Derived.Test.YtkbnbdpdmcnkiaaBJ
namespace Go.Proofs.Ytkbnbdpdmcnkiaa
open Go.RowKit

theorem chk_parts {xs ls ps : List Int} {st h z : Int} (hc : chkB xs st h ls z ps = true) : okK xs ls st h = true ∧ costTo st h xs ls xs.length = z ∧ bndB xs st h ps = true ∧ bndC xs st h ps = z := by
  simp only [chkB, k1B, Bool.and_eq_true, decide_eq_true_eq] at hc
  obtain ⟨⟨h1, h2⟩, h3, h4, h5⟩ := hc
  have hv : vA xs st h = true := by simp only [okK, Bool.and_eq_true] at h1; exact h1.1
  have hb : bndB xs st h ps = true := by simp only [bndB, okB, hv, h3, h4, Bool.and_self]
  exact ⟨h1, h2, hb, (bnd_parts hb).2.2.2.2.trans h5⟩
theorem chk_same {xs ls ps ls' ps' : List Int} {st h z z' : Int} (hc : chkB xs st h ls z ps = true) (hc' : chkB xs st h ls' z' ps' = true) : z = z' := by
  obtain ⟨a, b, c, d⟩ := chk_parts hc
  obtain ⟨a', b', c', d'⟩ := chk_parts hc'
  have h1 := bnd_least c a'
  have h2 := bnd_least c' a
  omega
theorem chk_least {xs ls ps ls' : List Int} {st h z : Int} (hc : chkB xs st h ls z ps = true) (hk : okK xs ls' st h = true) : z ≤ costTo st h xs ls' xs.length := by
  obtain ⟨a, b, c, d⟩ := chk_parts hc
  have h1 := bnd_least c hk
  omega
theorem chk_vA {xs ls ps : List Int} {st h z : Int} (hv : vA xs st h = false) : chkB xs st h ls z ps = false := by simp [chkB, k1B, okK, hv]

/-- The two sizings lie in blocks of their own. -/
structure TW (b : Nat) (L : Option Addr) (nl cl : Nat) (z : Int) (P : Option Addr) (np cp : Nat) (L' : Option Addr) (nl' cl' : Nat) (z' : Int) (P' : Option Addr) (np' cp' : Nat) (W : World) : Prop where
  bs : Blk W b 26 #[.slice L nl cl, .int .i64 z, .slice P np cp]
  bt : Blk W (b + 1) 26 #[.slice L' nl' cl', .int .i64 z', .slice P' np' cp']
section
variable {b : Nat} {L : Option Addr} {nl cl : Nat} {z : Int} {P : Option Addr} {np cp : Nat} {L' : Option Addr} {nl' cl' : Nat} {z' : Int} {P' : Option Addr} {np' cp' : Nat} {W W' : World}
theorem TW.step (k : TW b L nl cl z P np cp L' nl' cl' z' P' np' cp' W) (hb : Below W.heap.size W W') : TW b L nl cl z P np cp L' nl' cl' z' P' np' cp' W' := ⟨k.bs.below hb k.bs.lt, k.bt.below hb k.bt.lt⟩
theorem TW.cells (k : TW b L nl cl z P np cp L' nl' cl' z' P' np' cp' W) : W.cell? ⟨b, 0, none⟩ = some (.slice L nl cl) ∧ W.cell? ⟨b, 1, none⟩ = some (.int .i64 z) ∧ W.cell? ⟨b, 2, none⟩ = some (.slice P np cp) ∧
    W.cell? ⟨b + 1, 0, none⟩ = some (.slice L' nl' cl') ∧ W.cell? ⟨b + 1, 1, none⟩ = some (.int .i64 z') ∧ W.cell? ⟨b + 1, 2, none⟩ = some (.slice P' np' cp') := ⟨k.bs.cell 0, k.bs.cell 1, k.bs.cell 2, k.bt.cell 0, k.bt.cell 1, k.bt.cell 2⟩
end

set_option maxHeartbeats 1000000 in
theorem pricesOne_big (n c nl cl np cp nl' cl' np' cp' n' c' : Nat) (A L P L' P' A' : Option Addr) (s h z z' : Int) (w : World)
    (hbig : 20 < n ∨ 20 < nl ∨ 20 < np ∨ 20 < nl' ∨ 20 < np' ∨ 20 < n') :
    Calls Try.prog 15 #[.slice A n c, .int .i64 s, .int .i64 h, .agg #[.slice L nl cl, .int .i64 z, .slice P np cp], .agg #[.slice L' nl' cl', .int .i64 z', .slice P' np' cp'], .slice A' n' c'] w fun e w' => e = .returned (.bool true) ∧ Below w.heap.size w w' := by
  have t0 : TW w.heap.size L nl cl z P np cp L' nl' cl' z' P' np' cp' ((w.alloc (.cells #[.slice L nl cl, .int .i64 z, .slice P np cp] 26)).alloc (.cells #[.slice L' nl' cl', .int .i64 z', .slice P' np' cp'] 26)) :=
    ⟨(Blk.new w _ _).alloc _, (Blk.new _ _ _).at_ rfl (by simp)⟩
  have hB0 : Below w.heap.size w ((w.alloc (.cells #[.slice L nl cl, .int .i64 z, .slice P np cp] 26)).alloc (.cells #[.slice L' nl' cl', .int .i64 z', .slice P' np' cp'] 26)) := ((Below.refl _ w).alloc (Nat.le_refl _) _).alloc (by simp) _
  go_enter Try.func15, Try.ntmps15
  go_wp2_with fail
  refine (sane23_any _).mono ?_
  rintro e w1 ⟨rfl, hb1⟩
  have hB1 := hB0.trans (hb1.mono hB0.size)
  obtain ⟨k0, k1, k2, k3, k4, k5⟩ := (t0.step hb1).cells
  clear hB0 t0 hb1
  by_cases a1 : (20 : Int) < n
  · go_wp2_with fail
    go_ret
    exact ⟨rfl, hB1⟩
  by_cases a2 : (20 : Int) < nl
  · go_wp2_with fail
    go_ret
    exact ⟨rfl, hB1⟩
  by_cases a3 : (20 : Int) < np
  · go_wp2_with fail
    go_ret
    exact ⟨rfl, hB1⟩
  by_cases a4 : (20 : Int) < nl'
  · go_wp2_with fail
    go_ret
    exact ⟨rfl, hB1⟩
  by_cases a5 : (20 : Int) < np'
  · go_wp2_with fail
    go_ret
    exact ⟨rfl, hB1⟩
  have a6 : (20 : Int) < n' := by omega
  go_wp2_with fail
  go_ret
  exact ⟨rfl, hB1⟩

set_option maxHeartbeats 1000000 in
theorem pricesOne_any (n c nl cl np cp nl' cl' np' cp' n' c' : Nat) (A L P L' P' A' : Option Addr) (xs ls ps ls' ps' ys : List Int) (s h z z' : Int) (w : World) (hx : SI w w.heap.size A n xs) (hl : SI w w.heap.size L nl ls) (hp : SI w w.heap.size P np ps)
    (hl' : SI w w.heap.size L' nl' ls') (hp' : SI w w.heap.size P' np' ps') (hy : SI w w.heap.size A' n' ys) :
    Calls Try.prog 15 #[.slice A n c, .int .i64 s, .int .i64 h, .agg #[.slice L nl cl, .int .i64 z, .slice P np cp], .agg #[.slice L' nl' cl', .int .i64 z', .slice P' np' cp'], .slice A' n' c'] w fun e w' => e = .returned (.bool true) ∧ Below w.heap.size w w' := by
  by_cases hbig : 20 < n ∨ 20 < nl ∨ 20 < np ∨ 20 < nl' ∨ 20 < np' ∨ 20 < n'
  · exact pricesOne_big n c nl cl np cp nl' cl' np' cp' n' c' A L P L' P' A' s h z z' w hbig
  have a1 : (n : Int) ≤ 20 := by omega
  have a2 : (nl : Int) ≤ 20 := by omega
  have a3 : (np : Int) ≤ 20 := by omega
  have a4 : (nl' : Int) ≤ 20 := by omega
  have a5 : (np' : Int) ≤ 20 := by omega
  have a6 : (n' : Int) ≤ 20 := by omega
  clear hbig
  have t0 : TW w.heap.size L nl cl z P np cp L' nl' cl' z' P' np' cp' ((w.alloc (.cells #[.slice L nl cl, .int .i64 z, .slice P np cp] 26)).alloc (.cells #[.slice L' nl' cl', .int .i64 z', .slice P' np' cp'] 26)) :=
    ⟨(Blk.new w _ _).alloc _, (Blk.new _ _ _).at_ rfl (by simp)⟩
  have hB0 : Below w.heap.size w ((w.alloc (.cells #[.slice L nl cl, .int .i64 z, .slice P np cp] 26)).alloc (.cells #[.slice L' nl' cl', .int .i64 z', .slice P' np' cp'] 26)) := ((Below.refl _ w).alloc (Nat.le_refl _) _).alloc (by simp) _
  obtain ⟨K, hK⟩ : ∃ K, costAns xs ys s h xs.length = K := ⟨_, rfl⟩
  cases hv : vA xs s h
  · have HC1 := Lib.hid (And.intro (chk_vA (ls := ls) (ps := ps) (z := z) hv) (congrArg errP hv))
    have HC2 := Lib.hid (And.intro (chk_vA (ls := ls') (ps := ps') (z := z') hv) (congrArg errP hv))
    clear hv hK
    go_enter Try.func15, Try.ntmps15
    go_wp2_with fail
    refine (sane23_any _).mono ?_
    rintro e w1 ⟨rfl, hb1⟩
    have hB1 := hB0.trans (hb1.mono hB0.size)
    have t1 := t0.step hb1
    obtain ⟨k0, k1, k2, k3, k4, k5⟩ := t1.cells
    clear hB0 t0 hb1
    go_wp2_with fail
    refine (Check_at false 230 (hx.step hB1) (hl.step hB1) (hp.step hB1) (by omega) (by omega) (by omega) HC1.out).mono ?_
    rintro e w2 ⟨rfl, hb2⟩
    have hB2 := hB1.trans (hb2.mono hB1.size)
    have t2 := t1.step hb2
    clear k0 k1 k2 k3 k4 k5
    obtain ⟨k0, k1, k2, k3, k4, k5⟩ := t2.cells
    clear hB1 t1 hb2
    go_wp2_with fail
    refine (Check_at false 230 (hx.step hB2) (hl'.step hB2) (hp'.step hB2) (by omega) (by omega) (by omega) HC2.out).mono ?_
    rintro e w3 ⟨rfl, hb3⟩
    have hB3 := hB2.trans (hb3.mono hB2.size)
    clear k0 k1 k2 k3 k4 k5
    go_wp2_with fail
    go_ret
    exact ⟨rfl, hB3⟩
  cases hc1 : chkB xs s h ls z ps
  · have HC1 := Lib.hid (And.intro hc1 (congrArg errP hv))
    have HC2 := Lib.hid (congrArg errP hv)
    clear hv hK hc1
    go_enter Try.func15, Try.ntmps15
    go_wp2_with fail
    refine (sane23_any _).mono ?_
    rintro e w1 ⟨rfl, hb1⟩
    have hB1 := hB0.trans (hb1.mono hB0.size)
    have t1 := t0.step hb1
    obtain ⟨k0, k1, k2, k3, k4, k5⟩ := t1.cells
    clear hB0 t0 hb1
    go_wp2_with fail
    refine (Check_at false 0 (hx.step hB1) (hl.step hB1) (hp.step hB1) (by omega) (by omega) (by omega) HC1.out).mono ?_
    rintro e w2 ⟨rfl, hb2⟩
    have hB2 := hB1.trans (hb2.mono hB1.size)
    have t2 := t1.step hb2
    clear k0 k1 k2 k3 k4 k5
    obtain ⟨k0, k1, k2, k3, k4, k5⟩ := t2.cells
    clear hB1 t1 hb2
    go_wp2_with fail
    refine (Check_at _ 0 (hx.step hB2) (hl'.step hB2) (hp'.step hB2) (by omega) (by omega) (by omega) ⟨rfl, HC2.out⟩).mono ?_
    rintro e w3 ⟨rfl, hb3⟩
    have hB3 := hB2.trans (hb3.mono hB2.size)
    clear k0 k1 k2 k3 k4 k5
    go_wp2_with fail
    go_ret
    exact ⟨rfl, hB3⟩
  · have hzz : chkB xs s h ls' z' ps' = true → z' = z := fun hc2 => (chk_same hc1 hc2).symm
    have hge : okK xs ys s h = true → z ≤ K := fun hk => by rw [← hK, costAns, if_pos hk]; exact chk_least hc1 hk
    have HC1 := Lib.hid (And.intro hc1 (congrArg errP hv))
    have HZ := Lib.hid hzz
    have HG := Lib.hid hge
    have HK := Lib.hid hK
    have HE := Lib.hid (congrArg errP hv)
    clear hv hK hc1 hzz hge
    cases hc2 : chkB xs s h ls' z' ps'
    · have HC2 := Lib.hid (And.intro hc2 HE.out)
      clear hc2
      cases hk : okK xs ys s h
      · have HKK := Lib.hid (congrArg errOf hk)
        clear hk
        go_enter Try.func15, Try.ntmps15
        go_wp2_with fail
        refine (sane23_any _).mono ?_
        rintro e w1 ⟨rfl, hb1⟩
        have hB1 := hB0.trans (hb1.mono hB0.size)
        have t1 := t0.step hb1
        obtain ⟨k0, k1, k2, k3, k4, k5⟩ := t1.cells
        clear hB0 t0 hb1
        go_wp2_with fail
        refine (Check_at true 0 (hx.step hB1) (hl.step hB1) (hp.step hB1) (by omega) (by omega) (by omega) HC1.out).mono ?_
        rintro e w2 ⟨rfl, hb2⟩
        have hB2 := hB1.trans (hb2.mono hB1.size)
        have t2 := t1.step hb2
        clear k0 k1 k2 k3 k4 k5
        obtain ⟨k0, k1, k2, k3, k4, k5⟩ := t2.cells
        clear hB1 t1 hb2
        go_wp2_with fail
        refine (Check_at false 0 (hx.step hB2) (hl'.step hB2) (hp'.step hB2) (by omega) (by omega) (by omega) HC2.out).mono ?_
        rintro e w3 ⟨rfl, hb3⟩
        have hB3 := hB2.trans (hb3.mono hB2.size)
        have t3 := t2.step hb3
        clear k0 k1 k2 k3 k4 k5
        obtain ⟨k0, k1, k2, k3, k4, k5⟩ := t3.cells
        clear hB2 t2 hb3
        go_wp2_with fail
        refine (Cost_at K 220 (hx.step hB3) (hy.step hB3) (by omega) (by omega) HK.out HKK.out).mono ?_
        rintro e w4 ⟨rfl, hb4⟩
        go_wp2_with fail
        go_ret
        exact ⟨rfl, hB3.trans (hb4.mono hB3.size)⟩
      · have HKK := Lib.hid (congrArg errOf hk)
        have hzK := HG.out hk
        clear hk
        go_enter Try.func15, Try.ntmps15
        go_wp2_with fail
        refine (sane23_any _).mono ?_
        rintro e w1 ⟨rfl, hb1⟩
        have hB1 := hB0.trans (hb1.mono hB0.size)
        have t1 := t0.step hb1
        obtain ⟨k0, k1, k2, k3, k4, k5⟩ := t1.cells
        clear hB0 t0 hb1
        go_wp2_with fail
        refine (Check_at true 0 (hx.step hB1) (hl.step hB1) (hp.step hB1) (by omega) (by omega) (by omega) HC1.out).mono ?_
        rintro e w2 ⟨rfl, hb2⟩
        have hB2 := hB1.trans (hb2.mono hB1.size)
        have t2 := t1.step hb2
        clear k0 k1 k2 k3 k4 k5
        obtain ⟨k0, k1, k2, k3, k4, k5⟩ := t2.cells
        clear hB1 t1 hb2
        go_wp2_with fail
        refine (Check_at false 0 (hx.step hB2) (hl'.step hB2) (hp'.step hB2) (by omega) (by omega) (by omega) HC2.out).mono ?_
        rintro e w3 ⟨rfl, hb3⟩
        have hB3 := hB2.trans (hb3.mono hB2.size)
        have t3 := t2.step hb3
        clear k0 k1 k2 k3 k4 k5
        obtain ⟨k0, k1, k2, k3, k4, k5⟩ := t3.cells
        clear hB2 t2 hb3
        go_wp2_with fail
        refine (Cost_at K 0 (hx.step hB3) (hy.step hB3) (by omega) (by omega) HK.out HKK.out).mono ?_
        rintro e w4 ⟨rfl, hb4⟩
        have t4 := t3.step hb4
        clear k0 k1 k2 k3 k4 k5
        obtain ⟨k0, k1, k2, k3, k4, k5⟩ := t4.cells
        go_wp2_with fail
        go_ret
        exact ⟨rfl, hB3.trans (hb4.mono hB3.size)⟩
    · have HC2 := Lib.hid (And.intro hc2 HE.out)
      obtain rfl := HZ.out hc2
      clear hc2
      cases hk : okK xs ys s h
      · have HKK := Lib.hid (congrArg errOf hk)
        clear hk
        go_enter Try.func15, Try.ntmps15
        go_wp2_with fail
        refine (sane23_any _).mono ?_
        rintro e w1 ⟨rfl, hb1⟩
        have hB1 := hB0.trans (hb1.mono hB0.size)
        have t1 := t0.step hb1
        obtain ⟨k0, k1, k2, k3, k4, k5⟩ := t1.cells
        clear hB0 t0 hb1
        go_wp2_with fail
        refine (Check_at true 0 (hx.step hB1) (hl.step hB1) (hp.step hB1) (by omega) (by omega) (by omega) HC1.out).mono ?_
        rintro e w2 ⟨rfl, hb2⟩
        have hB2 := hB1.trans (hb2.mono hB1.size)
        have t2 := t1.step hb2
        clear k0 k1 k2 k3 k4 k5
        obtain ⟨k0, k1, k2, k3, k4, k5⟩ := t2.cells
        clear hB1 t1 hb2
        go_wp2_with fail
        refine (Check_at true 0 (hx.step hB2) (hl'.step hB2) (hp'.step hB2) (by omega) (by omega) (by omega) HC2.out).mono ?_
        rintro e w3 ⟨rfl, hb3⟩
        have hB3 := hB2.trans (hb3.mono hB2.size)
        have t3 := t2.step hb3
        clear k0 k1 k2 k3 k4 k5
        obtain ⟨k0, k1, k2, k3, k4, k5⟩ := t3.cells
        clear hB2 t2 hb3
        have hne : (z' != z') = false := by simp
        go_wp2_with fail
        refine (Cost_at K 220 (hx.step hB3) (hy.step hB3) (by omega) (by omega) HK.out HKK.out).mono ?_
        rintro e w4 ⟨rfl, hb4⟩
        go_wp2_with fail
        go_ret
        exact ⟨rfl, hB3.trans (hb4.mono hB3.size)⟩
      · have HKK := Lib.hid (congrArg errOf hk)
        have hzK := HG.out hk
        clear hk
        go_enter Try.func15, Try.ntmps15
        go_wp2_with fail
        refine (sane23_any _).mono ?_
        rintro e w1 ⟨rfl, hb1⟩
        have hB1 := hB0.trans (hb1.mono hB0.size)
        have t1 := t0.step hb1
        obtain ⟨k0, k1, k2, k3, k4, k5⟩ := t1.cells
        clear hB0 t0 hb1
        go_wp2_with fail
        refine (Check_at true 0 (hx.step hB1) (hl.step hB1) (hp.step hB1) (by omega) (by omega) (by omega) HC1.out).mono ?_
        rintro e w2 ⟨rfl, hb2⟩
        have hB2 := hB1.trans (hb2.mono hB1.size)
        have t2 := t1.step hb2
        clear k0 k1 k2 k3 k4 k5
        obtain ⟨k0, k1, k2, k3, k4, k5⟩ := t2.cells
        clear hB1 t1 hb2
        go_wp2_with fail
        refine (Check_at true 0 (hx.step hB2) (hl'.step hB2) (hp'.step hB2) (by omega) (by omega) (by omega) HC2.out).mono ?_
        rintro e w3 ⟨rfl, hb3⟩
        have hB3 := hB2.trans (hb3.mono hB2.size)
        have t3 := t2.step hb3
        clear k0 k1 k2 k3 k4 k5
        obtain ⟨k0, k1, k2, k3, k4, k5⟩ := t3.cells
        clear hB2 t2 hb3
        have hne : (z' != z') = false := by simp
        go_wp2_with fail
        refine (Cost_at K 0 (hx.step hB3) (hy.step hB3) (by omega) (by omega) HK.out HKK.out).mono ?_
        rintro e w4 ⟨rfl, hb4⟩
        have t4 := t3.step hb4
        clear k0 k1 k2 k3 k4 k5
        obtain ⟨k0, k1, k2, k3, k4, k5⟩ := t4.cells
        go_wp2_with fail
        go_ret
        exact ⟨rfl, hB3.trans (hb4.mono hB3.size)⟩
end Go.Proofs.Ytkbnbdpdmcnkiaa
