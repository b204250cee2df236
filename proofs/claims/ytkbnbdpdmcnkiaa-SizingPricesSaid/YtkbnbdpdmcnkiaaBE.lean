/- prices.proof. -/
import Derived.Test.YtkbnbdpdmcnkiaaBD
import Derived.Test.YtkbnbdpdmcnkiaaY
namespace Go.Proofs.Ytkbnbdpdmcnkiaa
open Go.RowKit Go.Shelf Go.BigFrame

theorem wide_fn (f : FuncId) : Fence.wide.fn f = True := eq_true trivial
attribute [local go_sem] Oper.semAt_some wide_fn

/-- Are the prices a proof? -/
def prfB (st h : Int) (xs ps : List Int) (n : Nat) : Bool := (List.range n).all fun t => (List.range (t + 1)).all fun s => decide (pF ps (t + 1) ≤ pF ps s + btw st h (g xs) s (t + 1 - s))
theorem prfB_iff {st h : Int} {xs ps : List Int} {n : Nat} : prfB st h xs ps n = true ↔ ineqs st h (g xs) (pF ps) n := by
  simp only [prfB, List.all_eq_true, List.mem_range, decide_eq_true_eq, ineqs]
  exact ⟨fun H t s hs ht => H t ht s (by omega), fun H t ht s hs => H t s (by omega) ht⟩
/-- The inequality of two days. -/
def okP (st h : Int) (xs ps : List Int) {n : Nat} (y : Pr n) : Prop := pF ps (y.1.2 + 1) ≤ pF ps y.1.1 + btw st h (g xs) y.1.1 (y.1.2 + 1 - y.1.1)
theorem prfB_yes {st h : Int} {xs ps : List Int} {n : Nat} (H : ∀ y : Pr n, okP st h xs ps y) : prfB st h xs ps n = true :=
  prfB_iff.2 fun t s hs ht => H ⟨(s, t), hs, ht⟩
theorem prfB_no {st h : Int} {xs ps : List Int} {n : Nat} (y : Pr n) (H : ¬ okP st h xs ps y) : prfB st h xs ps n = false := by
  cases e : prfB st h xs ps n
  · rfl
  · exact absurd (prfB_iff.1 e y.1.2 y.1.1 y.2.1 y.2.2) H

theorem below_kx {B : Nat} {w w' : World} (h : Below B w w') (x y : Nat) (hB : w.heap.size ≤ B) : Kx x y w w' := ⟨h.size, fun b _ _ h3 => h.block b (by omega)⟩

theorem grownBy_drewN (W : World) (k : Nat) : W.grownBy (W.drewN k) none := ⟨rfl, rfl, rfl, Nat.le_refl _, fun _ _ _ => rfl⟩

/-- What the round's variables hold in a range over the inequalities. -/
structure PM (w : World) (b0 b1 l : Nat) (A' : Option Addr) (n capp : Nat) (fl : Value) (i0 i1 i2 i3 : Value) (gi : Nat) (W : World) : Prop where
  p : Blk W b0 22 #[.slice A' n capp]
  r : Blk W b1 4 #[fl]
  i : Blk W gi 74 #[i0, i1, i2, i3]
  gi : l < gi
  below : Below w.heap.size w W

set_option maxRecDepth 100000 in
set_option maxHeartbeats 2000000 in
theorem proof_in (B n cap capp : Nat) (A A' : Option Addr) (xs ps : List Int) (st h : Int) (w : World) (hx : SI w B A n xs) (hp : SI w B A' n ps) (hB : B ≤ w.heap.size) (hn : n ≤ 16) (hX : Bd 1048576 (g xs) n) (hf : ∀ k, 0 ≤ g xs k)
    (hP : ∀ k, k < n → -1152921504606846976 ≤ g ps k ∧ g ps k ≤ 1152921504606846976) (hs0 : 0 ≤ st) (hs1 : st ≤ 1048576) (hh0 : 0 ≤ h) (hh1 : h ≤ 1048576) :
    CallsIn Fence.wide 4 Try.prog 53 #[.slice A n cap, .int .i64 st, .int .i64 h, .slice A' n capp] w fun e W' => e = .returned (.bool (prfB st h xs ps n)) ∧ Below w.heap.size w W' := by
  refine callsIn_of_wp_marks Try.func53 rfl trivial ?_ rfl
  simp only [Try.ntmps53, List.size_toArray, List.length_cons, List.length_nil, Nat.reduceAdd, Nat.reduceSub, Array.replicate_succ, Array.replicate_zero, List.push_toArray, List.append_toArray, List.nil_append, List.cons_append]
  gi_wp2_with (gi_at_call 56; refine (inequalities_in _ _ _ _ _ _).mono ?_; rintro e w' ⟨rfl, rfl⟩)
  have b0 := Blk.new w 22 #[.slice A' n capp]
  have b1 := Blk.new (w.alloc (.cells #[.slice A' n capp] 22)) 4 #[.bool false]
  have b2 := Blk.new ((w.alloc (.cells #[.slice A' n capp] 22)).alloc (.cells #[.bool false] 4)) 22 #[.slice A n cap]
  have b3 := Blk.new (((w.alloc (.cells #[.slice A' n capp] 22)).alloc (.cells #[.bool false] 4)).alloc (.cells #[.slice A n cap] 22)) 3 #[.int .i64 st]
  have b4 := Blk.new ((((w.alloc (.cells #[.slice A' n capp] 22)).alloc (.cells #[.bool false] 4)).alloc (.cells #[.slice A n cap] 22)).alloc (.cells #[.int .i64 st] 3)) 3 #[.int .i64 h]
  have hBl : Below w.heap.size w (((((w.alloc (.cells #[.slice A' n capp] 22)).alloc (.cells #[.bool false] 4)).alloc (.cells #[.slice A n cap] 22)).alloc (.cells #[.int .i64 st] 3)).alloc (.cells #[.int .i64 h] 3)) :=
    (((((Below.refl _ w).alloc (Nat.le_refl _) _).alloc (by simp) _).alloc (by simp; omega) _).alloc (by simp; omega) _).alloc (by simp; omega) _
  have hsz : (((((w.alloc (.cells #[.slice A' n capp] 22)).alloc (.cells #[.bool false] 4)).alloc (.cells #[.slice A n cap] 22)).alloc (.cells #[.int .i64 st] 3)).alloc (.cells #[.int .i64 h] 3)).heap.size = w.heap.size + 5 := by simp
  simp only [World.size_alloc] at b1 b2 b3 b4
  replace b0 := (((b0.alloc (.cells #[.bool false] 4)).alloc (.cells #[.slice A n cap] 22)).alloc (.cells #[.int .i64 st] 3)).alloc (.cells #[.int .i64 h] 3)
  replace b1 := ((b1.alloc (.cells #[.slice A n cap] 22)).alloc (.cells #[.int .i64 st] 3)).alloc (.cells #[.int .i64 h] 3)
  replace b2 := (b2.alloc (.cells #[.int .i64 st] 3)).alloc (.cells #[.int .i64 h] 3)
  replace b3 := b3.alloc (.cells #[.int .i64 h] 3)
  generalize ((((w.alloc (.cells #[.slice A' n capp] 22)).alloc (.cells #[.bool false] 4)).alloc (.cells #[.slice A n cap] 22)).alloc (.cells #[.int .i64 st] 3)).alloc (.cells #[.int .i64 h] 3) = w0 at *
  have hin : IN B n cap (w.heap.size + 1 + 1) (w.heap.size + 1 + 1 + 1) (w.heap.size + 1 + 1 + 1 + 1) w0.heap.size A xs st h w0 := ⟨b2, b3, b4, hx.below (hBl.mono hB), Nat.le_refl _⟩
  refine wpIn_range_own rfl (by omega) (gf := 66) (lb := #[.pointer (some ⟨w.heap.size + 1 + 1, 0, none⟩), .pointer (some ⟨w.heap.size + 1 + 1 + 1, 0, none⟩), .pointer (some ⟨w.heap.size + 1 + 1 + 1 + 1, 0, none⟩)]) rfl trivial (enters_of Try.func66 (by kernel_rfl) rfl)
    (x := w.heap.size + 1) (inequalities_stops B n cap _ _ _ (w.heap.size + 1) A xs st h w0 hn hX hf hs0 hs1 hh0 hh1 (by omega) (by omega) (by omega) (by omega) (by omega) (by omega) (by omega) (by omega) hin) (fun _ => rfl)
    (fun pre W => (∀ y : Pr n, y ∈ pre → okP st h xs ps y) ∧ Blk W w.heap.size 22 #[.slice A' n capp] ∧ Blk W (w.heap.size + 1) 4 #[.bool false] ∧ Below w.heap.size w W)
    (fun pre W => (∃ y : Pr n, ¬ okP st h xs ps y) ∧ Blk W (w.heap.size + 1) 4 #[.bool false] ∧ Below w.heap.size w W)
    (fun pre y a₁ W => (∀ z : Pr n, z ∈ pre → okP st h xs ps z) ∧ ∃ gi, PM w w.heap.size (w.heap.size + 1) (w0.heap.size + 1) A' n capp (.bool false) (.int .i64 (y.1.1 : Int)) (.int .i64 (y.1.2 : Int)) (.int .i64 (btw st h (g xs) y.1.1 (y.1.2 + 1 - y.1.1))) (.bool (decide (sm (g xs) y.1.1 (y.1.2 + 1 - y.1.1) = 0))) gi W ∧
      a₁ = { tmps := #[.slice A n cap, .int .i64 st, .int .i64 h, .slice A' n capp, undef, undef, undef, .pointer (some ⟨w.heap.size, 0, none⟩), .pointer (some ⟨w.heap.size + 1, 0, none⟩), .pointer (some ⟨gi, 0, none⟩), .slice A n cap, .int .i64 st, .int .i64 h,
        .func (.func 66) #[] #[.pointer (some ⟨w.heap.size + 1 + 1, 0, none⟩), .pointer (some ⟨w.heap.size + 1 + 1 + 1, 0, none⟩), .pointer (some ⟨w.heap.size + 1 + 1 + 1 + 1, 0, none⟩)],
        .agg #[.int .i64 (y.1.1 : Int), .int .i64 (y.1.2 : Int), .int .i64 (btw st h (g xs) y.1.1 (y.1.2 + 1 - y.1.1)), .bool (decide (sm (g xs) y.1.1 (y.1.2 + 1 - y.1.1) = 0))], undef, undef, undef, undef, undef, undef, undef, undef, undef, undef, undef, undef, undef], defers := [] })
    ?hI ?hIx ?hM ?h0 ?assign ?body ?done ?stop
  case hI =>
    rintro pre X Y row ⟨h1, h2, h3, h4⟩ hg hr
    have hr' : ∀ b, b < w0.heap.size → row ≠ some b := fun b hb e => by have := hr b e; omega
    exact ⟨h1, h2.grown hg (hr' _ (by omega)), h3.grown hg (hr' _ (by omega)), h4.grown hg h4.size (fun r e => by have := hr r e; omega)⟩
  case hIx =>
    rintro pre X Y row ⟨h1, h3, h4⟩ hg hr
    have hr' : ∀ b, b < w0.heap.size → row ≠ some b := fun b hb e => by have := hr b e; omega
    exact ⟨h1, h3.grown hg (hr' _ (by omega)), h4.grown hg h4.size (fun r e => by have := hr r e; omega)⟩
  case hM =>
    rintro pre y a₁ W o ⟨h1, gi, hpm, h2⟩
    have hg := grownBy_putObj' W (w0.heap.size + 1) o
    refine ⟨h1, gi, ⟨hpm.p.grown hg (fun e => by have := Option.some.inj e; omega), hpm.r.grown hg (fun e => by have := Option.some.inj e; omega), hpm.i.grown hg (fun e => by have := Option.some.inj e; have := hpm.gi; omega), hpm.gi, hpm.below.grown hg hpm.below.size (fun k e => by have := Option.some.inj e; omega)⟩, h2⟩
  case h0 => exact ⟨(fun y hy => by cases hy), b0, b1, hBl⟩
  case assign =>
    intro l pre y W ⟨hi, hp1, hp2, hbl⟩ hsz hlen
    unfold prV
    gi_wp2
    refine ⟨KeepsOthers.alloc _ _, below_kx ((Below.refl _ W).alloc (Nat.le_refl _) _) _ _ (Nat.le_refl _), hi, W.heap.size, ⟨hp1.alloc _, hp2.alloc _, Blk.new _ _ _, hsz, hbl.alloc hbl.size _⟩, rfl⟩
  case body =>
    rintro l pre y a₁ W ⟨hi, gi, hm, rfl⟩
    obtain ⟨yy, hyy⟩ : ∃ yy : Pr n, yy = y := ⟨y, rfl⟩
    obtain ⟨⟨s, t⟩, hst, htn⟩ := y
    dsimp only at *
    have q0 := hm.p.cell 0
    have q1 : W.cell? ⟨gi, 1, none⟩ = some (.int .i64 (t : Int)) := hm.i.cell 1
    have q2 : W.cell? ⟨gi, 0, none⟩ = some (.int .i64 (s : Int)) := hm.i.cell 0
    have q3 : W.cell? ⟨gi, 2, none⟩ = some (.int .i64 (btw st h (g xs) s (t + 1 - s))) := hm.i.cell 2
    have hp' := hp.below (hm.below.mono hB)
    have hcb := btw_bd hX hn hs0 hs1 hh0 hh1 s (t + 1 - s) (by omega)
    have hX1 : ∀ d, d ≤ n → -1152921504606846976 ≤ pF ps d ∧ pF ps d ≤ 1152921504606846976 := fun d hd => by
      match d, hd with
      | 0, _ => simp [pF]
      | d + 1, hd => exact hP d (by omega)
    have hXb := hX1 (t + 1) (by omega)
    have hYb := hX1 s (by omega)
    have p1 : ∀ k, Calls Try.prog 55 #[.slice A' n capp, .int .i64 ((t : Int) + 1)] (W.drewN k) fun e w' => e = .returned (.int .i64 (pF ps (t + 1))) ∧ W.drewN k = w' := fun k => price_any B n capp A' ps (t + 1) _ (hp'.drewN k) (by omega) (by omega)
    have p2 : ∀ k, Calls Try.prog 55 #[.slice A' n capp, .int .i64 (s : Int)] (W.drewN k) fun e w' => e = .returned (.int .i64 (pF ps s)) ∧ W.drewN k = w' := fun k => price_any B n capp A' ps s _ (hp'.drewN k) (by omega) (by omega)
    have hok : okP st h xs ps yy ↔ pF ps (t + 1) ≤ pF ps s + btw st h (g xs) s (t + 1 - s) := by rw [hyy]; exact Iff.rfl
    obtain ⟨X, hX'⟩ : ∃ X, pF ps (t + 1) = X := ⟨_, rfl⟩
    obtain ⟨Y, hY'⟩ : ∃ Y, pF ps s = Y := ⟨_, rfl⟩
    obtain ⟨C, hC'⟩ : ∃ C, btw st h (g xs) s (t + 1 - s) = C := ⟨_, rfl⟩
    rw [hX'] at p1 hXb hok
    rw [hY'] at p2 hYb hok
    rw [hC'] at hcb q3 hok hm
    rw [hC']
    generalize decide (sm (g xs) s (t + 1 - s) = 0) = E at *
    have P1 := Lib.hid (fun k => CallsIn.inRound l ((callsIn_wide (n := 1)).2 (quiet_left (p1 k))))
    have P2 := Lib.hid (fun k => CallsIn.inRound l ((callsIn_wide (n := 1)).2 (quiet_left (p2 k))))
    have HOK := Lib.hid hok
    have HYY := Lib.hid hyy
    clear p1 p2 hok hyy hX' hY' hC' hX1
    have w1 : IntKind.i64.wrap ((t : Int) + 1) = (t : Int) + 1 := IntWalk.i64_in _ (by omega)
    have w2 : IntKind.i64.wrap (Y + C) = Y + C := IntWalk.i64_in _ (by omega)
    by_cases hle : X ≤ Y + C
    · have hd : decide (Y + C < X) = false := by simpa using hle
      have HLE := Lib.hid hle
      clear hle
      gi_wp2
      refine wpIn_region_quiet_nd (by kernel_rfl) (by kernel_rfl) (by kernel_rfl) ?_
      repeat (gi_big_quiet_step (first | with_reducible exact P1.out _ | with_reducible exact P2.out _))
      refine wpQuietIn_nil ?_
      intro _ hw'
      obtain ⟨nq, hw''⟩ := hw'
      subst hw''
      gi_wp2
      refine ⟨keepsOthers_drewN W nq, Kx.of_grownBy (row := none) (grownBy_drewN W nq) (fun _ e => by cases e), ?_, hm.p.drewN nq, hm.r.drewN nq, below_drewN hm.below nq⟩
      intro y hy
      rcases List.mem_append.1 hy with hy | hy
      · exact hi y hy
      · obtain rfl := List.mem_singleton.1 hy
        rw [← HYY.out]
        exact HOK.out.2 HLE.out
    · have hd : decide (Y + C < X) = true := by simpa using hle
      have HLE := Lib.hid hle
      clear hle
      have c3 := hm.r.cell 0
      have f3 := hm.r.frozen 0
      gi_wp2
      refine wpIn_region_quiet_nd (by kernel_rfl) (by kernel_rfl) (by kernel_rfl) ?_
      repeat (gi_big_quiet_step (first | with_reducible exact P1.out _ | with_reducible exact P2.out _))
      refine wpQuietIn_nil ?_
      intro _ hw'
      obtain ⟨nq, hw''⟩ := hw'
      subst hw''
      gi_wp2
      refine ⟨(KeepsOthers.setCell W ⟨w.heap.size + 1, 0, none⟩ (.bool false)).trans (keepsOthers_drewN _ nq), ⟨yy, fun e => Int.not_le.2 HLE.out (HOK.out.1 e)⟩, (hm.r.set_ 0 (.bool false)).drewN nq, below_drewN (hm.below.setCell (p := ⟨w.heap.size + 1, 0, none⟩) (by simp) _) nq⟩
  case done =>
    rintro ys W hS ⟨hall, h1, h2, hB⟩ hK
    have c3 := h2.cell 0
    have f3 := h2.frozen 0
    gi_wp2
    have hK' := (KeepsOthers.setCell W ⟨w.heap.size + 1, 0, none⟩ (.bool true)).same w0.heap.size _ hK rfl
    refine ⟨by simp, .inl ⟨_, _, rfl, run_takeDeferred hK', ?_⟩⟩
    have hc5 := ((h2.set_ 0 (.bool true)).grown (grownBy_putObj' _ w0.heap.size (.deferred none)) (fun e => by have := Option.some.inj e; omega)).cell 0
    refine ⟨.bool true, ?_, ?_, (hB.setCell (p := ⟨w.heap.size + 1, 0, none⟩) (by simp) _).trans (belowK_b (w := w) (Nat.le_refl _) _ w0.heap.size _ _ (by omega) hK' rfl rfl)⟩
    · simp [results, Try.f53, go_sem, hc5]
    · rw [prfB_yes (fun y => hall y (hS y))]
  case stop =>
    rintro pre W ⟨⟨y, hy⟩, h2, hB⟩ hK
    gi_wp2
    refine ⟨by simp, .inl ⟨_, _, rfl, run_takeDeferred hK, ?_⟩⟩
    have hc5 := (h2.grown (grownBy_putObj' _ w0.heap.size (.deferred none)) (fun e => by have := Option.some.inj e; omega)).cell 0
    refine ⟨.bool false, ?_, ?_, hB.trans (belowK_b (w := w) (Nat.le_refl _) W w0.heap.size _ _ (by omega) hK rfl rfl)⟩
    · simp [results, Try.f53, go_sem, hc5]
    · rw [prfB_no y hy]
end Go.Proofs.Ytkbnbdpdmcnkiaa
