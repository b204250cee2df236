/- prices.Tight. -/
import Derived.Test.YtkbnbdpdmcnkiaaBF
import Derived.Test.YtkbnbdpdmcnkiaaP
namespace Go.Proofs.Ytkbnbdpdmcnkiaa
open Go.RowKit Go.Shelf Go.BigFrame

attribute [local go_sem] Oper.semAt_some wide_fn

/-- Are two days tight? -/
def tgP (st h : Int) (xs ps : List Int) (s t : Nat) : Bool := !decide (sm (g xs) s (t + 1 - s) = 0) && decide (pF ps (t + 1) = pF ps s + btw st h (g xs) s (t + 1 - s))
/-- The days that come first in a tight pair that has come. -/
def tgS (st h : Int) (xs ps : List Int) {n : Nat} (pre : List (Pr n)) : Nat → Bool := fun d => pre.any fun y => tgP st h xs ps y.1.1 y.1.2 && decide (y.1.1 = d)
/-- .. in whatever tight pair. -/
def tgD (st h : Int) (xs ps : List Int) (n : Nat) : Nat → Bool := fun d => (List.range n).any fun t => decide (d ≤ t) && tgP st h xs ps d t
theorem tgS_all {st h : Int} {xs ps : List Int} {n : Nat} {ys : List (Pr n)} (H : ∀ y, y ∈ ys) : tgS st h xs ps ys = tgD st h xs ps n := by
  funext d
  unfold tgS tgD
  rw [Bool.eq_iff_iff, List.any_eq_true, List.any_eq_true]
  constructor
  · rintro ⟨y, _, hy⟩
    rw [Bool.and_eq_true, decide_eq_true_eq] at hy
    obtain ⟨h1, rfl⟩ := hy
    exact ⟨y.1.2, List.mem_range.2 y.2.2, by rw [Bool.and_eq_true, decide_eq_true_eq]; exact ⟨y.2.1, h1⟩⟩
  · rintro ⟨t, ht, hy⟩
    rw [Bool.and_eq_true, decide_eq_true_eq] at hy
    exact ⟨⟨(d, t), hy.1, List.mem_range.1 ht⟩, H _, by simp [hy.2]⟩
theorem tgS_snoc_t {st h : Int} {xs ps : List Int} {n : Nat} {pre : List (Pr n)} {y : Pr n} (hy : tgP st h xs ps y.1.1 y.1.2 = true) : tgS st h xs ps (pre ++ [y]) = ins (tgS st h xs ps pre) y.1.1 := by
  funext d
  unfold tgS ins
  rw [List.any_append, List.any_cons, List.any_nil, hy, Bool.or_false, Bool.true_and]
  by_cases e : d = y.1.1
  · subst e; simp
  · rw [if_neg e, decide_eq_false (fun x => e x.symm), Bool.or_false]
theorem tgS_snoc_f {st h : Int} {xs ps : List Int} {n : Nat} {pre : List (Pr n)} {y : Pr n} (hy : tgP st h xs ps y.1.1 y.1.2 = false) : tgS st h xs ps (pre ++ [y]) = tgS st h xs ps pre := by
  funext d
  unfold tgS
  rw [List.any_append, List.any_cons, List.any_nil, hy, Bool.or_false, Bool.false_and, Bool.or_false]
/-- The days of a set below k. -/
def tgL (T : Nat → Bool) : Nat → List Int
  | 0 => []
  | k + 1 => if T k = true then tgL T k ++ [(k : Int)] else tgL T k
theorem tgL_len (T : Nat → Bool) (k : Nat) : (tgL T k).length ≤ k := by
  induction k with
  | zero => exact Nat.le_refl _
  | succ k ih =>
    rw [tgL]
    split
    · rw [List.length_append, List.length_singleton]; omega
    · omega

theorem run_index59 (T : Nat → Bool) (w : World) : ∀ d : Nat, d < 16 → (Instr.index 59 (.agg (BS T)) (.int .i64 (d : Int))).run Try.prog w = .ok (.bool (T d)) w
  | 0, _ => by kernel_rfl
  | 1, _ => by kernel_rfl
  | 2, _ => by kernel_rfl
  | 3, _ => by kernel_rfl
  | 4, _ => by kernel_rfl
  | 5, _ => by kernel_rfl
  | 6, _ => by kernel_rfl
  | 7, _ => by kernel_rfl
  | 8, _ => by kernel_rfl
  | 9, _ => by kernel_rfl
  | 10, _ => by kernel_rfl
  | 11, _ => by kernel_rfl
  | 12, _ => by kernel_rfl
  | 13, _ => by kernel_rfl
  | 14, _ => by kernel_rfl
  | 15, _ => by kernel_rfl
  | d + 16, h => by omega
theorem under59 : ∃ d, Try.prog.underlying 59 = some d ∧ d.isRow = true := ⟨_, Try.underlying59, rfl⟩
theorem size59 : (Try.prog.info? 59).map (·.size) = some 16 := by kernel_rfl

/-- append(s, z), z laid in a new block of one cell, inside a fence. -/
theorem wpListIn_app1 {F : Fence} {m : Nat} {ops : Array Oper} {rest : List Oper} {o : Oper} {a : Act} {Q : Exit → Act → World → Prop} (hgd : o.guard = none) (s x : Operand)
    (ho : o.op = .call { callee := .builtin .append, args := #[s, x], argTypes := #[22, 22] }) (W : World) (base : Nat) (v : Value) (n : Nat) (xs : List Int) (z : Int)
    (hs : a.eval s = v) (hx : a.eval x = .slice (some ⟨W.heap.size, 0, none⟩) 1 1) (hown : OI W base v n xs) (hn : n ≤ 1000) (hbase : base ≤ W.heap.size)
    (h : ∀ g' c' w', OI w' base (.slice (some ⟨g', 0, none⟩) (n + 1) c') (n + 1) (xs ++ [z]) → (W.alloc (.cells #[.int .i64 z] 3)).grownBy w' v.ownBlock → wpListIn F m Try.prog ops Q rest (a.put o.dst (.slice (some ⟨g', 0, none⟩) (n + 1) c')) w') :
    wpListIn F m Try.prog ops Q (o :: rest) a (W.alloc (.cells #[.int .i64 z] 3)) := by
  obtain ⟨i0, hi, hz0, hz1, hz2⟩ := info_parts info3
  refine wpListIn_append_own (W.alloc (.cells #[.int .i64 z] 3)) hgd s x 22 ho base 3 i0 (.int .i64 0) 1 8 Try.underlying22 hi hz0 hz1 hz2 rfl (by decide) v n (xs.map (Value.int .i64)) hs (World.ownsRow.alloc hown _)
    ⟨W.heap.size, 0, none⟩ 1 1 [.int .i64 z] hx rfl ?_ ?_ (by unfold maxLen; omega) (by omega) (by simp; omega) ?_
  · exact cell_one_new W _ _
  · simp [Value.oneCell']
  · intro v' w' hown' hgrow _
    obtain ⟨g', c', rfl⟩ := ownsRow_succ hown'
    exact h g' c' w' (by simpa [OI] using hown') hgrow

/-- The world in which the range begins. -/
def tightW (w1 : World) (n cap : Nat) (A : Option Addr) (st h : Int) : World :=
  (((w1.alloc (.cells (BS (fun _ => false)) 59)).alloc (.cells #[.slice A n cap] 22)).alloc (.cells #[.int .i64 st] 3)).alloc (.cells #[.int .i64 h] 3)

/-- The frame of a round. -/
def tightF (A A' : Option Addr) (n cap capp b0 bt gi : Nat) (st h : Int) (v : Value) : Act :=
  { tmps := #[.slice A n cap, .int .i64 st, .int .i64 h, .slice A' n capp, undef, undef, undef, .pointer (some ⟨b0, 0, none⟩), .slice none 0 0, .int .i64 0, .pointer (some ⟨bt, 0, none⟩), .pointer (some ⟨gi, 0, none⟩), undef, undef, .slice A n cap, .int .i64 st, .int .i64 h, .bool true, .bool false, .bool false,
    .slice A n cap, .slice A' n capp, .bool true, .bool false, .bool false, .slice A n cap, .int .i64 st, .int .i64 h, .func (.func 66) #[] #[.pointer (some ⟨bt + 1, 0, none⟩), .pointer (some ⟨bt + 1 + 1, 0, none⟩), .pointer (some ⟨bt + 1 + 1 + 1, 0, none⟩)], v, undef, undef, undef, undef, undef, undef, undef, undef, undef, undef, undef, undef, undef, undef, undef, undef, undef, undef, undef, undef, undef, undef, undef, undef, undef, undef, undef, undef, undef, undef, undef, undef, undef], defers := [] }

set_option maxHeartbeats 400000 in
theorem Tight_bad (n cap np capp : Nat) (A A' : Option Addr) (xs ps : List Int) (st h : Int) (w : World) (hx : SI w w.heap.size A n xs) (hp : SI w w.heap.size A' np ps) (hn : n ≤ 9223372036854775807) (hnp : np ≤ 9223372036854775807) (hk : okB xs st h ps = false) :
    Calls Try.prog 32 #[.slice A n cap, .int .i64 st, .int .i64 h, .slice A' np capp] w fun e w' => e = .returned (.tuple #[.slice none 0 0, .int .i64 230]) ∧ Below w.heap.size w w' := by
  have h48 := pvalid_any w.heap.size n cap A xs st h (w.alloc (.cells #[.slice A' np capp] 22)) (hx.alloc (Nat.le_refl _) _) hn
  cases hv : vA xs st h
  · rw [hv] at h48
    clear hv
    go_enter Try.func32, Try.ntmps32
    go_wp2_with fail
    refine h48.mono ?_
    rintro e w1 ⟨rfl, hb1⟩
    go_wp2_with fail
    go_ret2
    exact ⟨rfl, ((Below.refl _ w).alloc (Nat.le_refl _) _).trans (hb1.mono (by simp))⟩
  · rw [hv] at h48
    have hvp : vP xs ps = false := by simpa [okB, hv] using hk
    have HVP := Lib.hid hvp
    clear hv hk hvp
    go_enter Try.func32, Try.ntmps32
    go_wp2_with fail
    refine h48.mono ?_
    rintro e w1 ⟨rfl, hb1⟩
    have hB := ((Below.refl w.heap.size w).alloc (Nat.le_refl _) (.cells #[.slice A' np capp] 22)).trans (hb1.mono (by simp))
    have c0 : w1.cell? ⟨w.heap.size, 0, none⟩ = some (.slice A' np capp) := ((Blk.new w 22 #[.slice A' np capp]).below hb1 (by simp)).cell 0
    have h51 := validPrices_any w.heap.size n cap np capp A A' xs ps w1 (hx.below hB) (hp.below hB) hn hnp
    rw [HVP.out] at h51
    have H51 := Lib.hid h51
    clear h51
    go_wp2_with fail
    refine H51.out.mono ?_
    rintro e w' ⟨rfl, rfl⟩
    go_wp2_with fail
    go_ret2
    exact ⟨rfl, hB⟩

set_option maxRecDepth 100000 in
set_option maxHeartbeats 2000000 in
theorem Tight_in (n cap capp : Nat) (A A' : Option Addr) (xs ps : List Int) (st h : Int) (w : World) (hx : SI w w.heap.size A n xs) (hp : SI w w.heap.size A' n ps) (hv : vA xs st h = true) (hvp : vP xs ps = true) :
    CallsIn Fence.wide 4 Try.prog 32 #[.slice A n cap, .int .i64 st, .int .i64 h, .slice A' n capp] w fun e W' => ∃ B c, e = .returned (.tuple #[.slice B (tgL (tgD st h xs ps n) 16).length c, .int .i64 0]) ∧ SI W' W'.heap.size B (tgL (tgD st h xs ps n) 16).length (tgL (tgD st h xs ps n) 16) ∧ Below w.heap.size w W' := by
  obtain ⟨hn, hf0, hs0, hs1, hh0, hh1⟩ := vA_all hv
  obtain ⟨hl, hP0⟩ := vP_iff.1 hvp
  rw [hx.len] at hn hl
  rw [hl] at hP0
  have hP := Lib.hid hP0
  have hX : Bd 1048576 (g xs) n := fun k _ => hf0 k
  have hf : ∀ k, 0 ≤ g xs k := fun k => (hf0 k).1
  have h48 := pvalid_any w.heap.size n cap A xs st h (w.alloc (.cells #[.slice A' n capp] 22)) (hx.alloc (Nat.le_refl _) _) (by omega)
  rw [hv] at h48
  have HVP := Lib.hid hvp
  have H48 := Lib.hid ((callsIn_wide (n := 3)).2 h48)
  clear hl hP0 hvp hv h48 hf0
  refine callsIn_of_wp_marks Try.func32 rfl trivial ?_ rfl
  simp only [Try.ntmps32, List.size_toArray, List.length_cons, List.length_nil, Nat.reduceAdd, Nat.reduceSub, Array.replicate_succ, Array.replicate_zero, List.push_toArray, List.append_toArray, List.nil_append, List.cons_append]
  gi_wp2_with fail
  refine H48.out.mono ?_
  rintro e w1 ⟨rfl, hb1⟩
  have hB1 := ((Below.refl w.heap.size w).alloc (Nat.le_refl _) (.cells #[.slice A' n capp] 22)).trans (hb1.mono (by simp))
  have bp := (Blk.new w 22 #[.slice A' n capp]).below hb1 (by simp)
  have c0 : w1.cell? ⟨w.heap.size, 0, none⟩ = some (.slice A' n capp) := bp.cell 0
  have h51 := validPrices_any w.heap.size n cap n capp A A' xs ps w1 (hx.below hB1) (hp.below hB1) (by omega) (by omega)
  rw [HVP.out] at h51
  have H51 := Lib.hid ((callsIn_wide (n := 3)).2 h51)
  clear h51
  gi_wp2_with fail
  refine H51.out.mono ?_
  rintro e w' ⟨rfl, rfl⟩
  clear c0
  gi_wp2_with (gi_at_call 56; refine (inequalities_in _ _ _ _ _ _).mono ?_; rintro e w' ⟨rfl, rfl⟩)
  change Code.wpIn _ _ _ _ _ _ (tightW w1 n cap A st h)
  have z1 := Blk.new w1 59 (BS (fun _ => false))
  have z2 := Blk.new (w1.alloc (.cells (BS (fun _ => false)) 59)) 22 #[.slice A n cap]
  have z3 := Blk.new ((w1.alloc (.cells (BS (fun _ => false)) 59)).alloc (.cells #[.slice A n cap] 22)) 3 #[.int .i64 st]
  have z4 := Blk.new (((w1.alloc (.cells (BS (fun _ => false)) 59)).alloc (.cells #[.slice A n cap] 22)).alloc (.cells #[.int .i64 st] 3)) 3 #[.int .i64 h]
  simp only [World.size_alloc] at z2 z3 z4
  replace z1 : Blk (tightW w1 n cap A st h) w1.heap.size 59 (BS (fun _ => false)) := ((z1.alloc _).alloc _).alloc _
  replace z2 : Blk (tightW w1 n cap A st h) (w1.heap.size + 1) 22 #[.slice A n cap] := (z2.alloc _).alloc _
  replace z3 : Blk (tightW w1 n cap A st h) (w1.heap.size + 1 + 1) 3 #[.int .i64 st] := z3.alloc _
  replace z4 : Blk (tightW w1 n cap A st h) (w1.heap.size + 1 + 1 + 1) 3 #[.int .i64 h] := z4
  have z0 : Blk (tightW w1 n cap A st h) w.heap.size 22 #[.slice A' n capp] := (((bp.alloc _).alloc _).alloc _).alloc _
  have hsz : (tightW w1 n cap A st h).heap.size = w1.heap.size + 4 := by simp [tightW]
  have hB0 : Below w.heap.size w (tightW w1 n cap A st h) := (((hB1.alloc hB1.size _).alloc (by have := hB1.size; simp; omega) _).alloc (by have := hB1.size; simp; omega) _).alloc (by have := hB1.size; simp; omega) _
  have hlt := bp.lt
  generalize tightW w1 n cap A st h = w0 at *
  have hin : IN w.heap.size n cap (w1.heap.size + 1) (w1.heap.size + 1 + 1) (w1.heap.size + 1 + 1 + 1) w0.heap.size A xs st h w0 := ⟨z2, z3, z4, hx.below hB0, Nat.le_refl _⟩
  refine wpIn_range_own rfl (by omega) (gf := 66) (lb := #[.pointer (some ⟨w1.heap.size + 1, 0, none⟩), .pointer (some ⟨w1.heap.size + 1 + 1, 0, none⟩), .pointer (some ⟨w1.heap.size + 1 + 1 + 1, 0, none⟩)]) rfl trivial (enters_of Try.func66 (by kernel_rfl) rfl)
    (x := w1.heap.size) (inequalities_stops w.heap.size n cap _ _ _ w1.heap.size A xs st h w0 hn hX hf hs0 hs1 hh0 hh1 (by omega) (by omega) (by omega) (by omega) (by omega) (by omega) (by omega) (by omega) hin) (fun _ => rfl)
    (fun pre W => Blk W w.heap.size 22 #[.slice A' n capp] ∧ Blk W w1.heap.size 59 (BS (tgS st h xs ps pre)) ∧ Below w.heap.size w W)
    (fun pre W => False)
    (fun pre y a₁ W => ∃ gi, Blk W w.heap.size 22 #[.slice A' n capp] ∧ Blk W w1.heap.size 59 (BS (tgS st h xs ps pre)) ∧ Below w.heap.size w W ∧
      Blk W gi 74 #[.int .i64 (y.1.1 : Int), .int .i64 (y.1.2 : Int), .int .i64 (btw st h (g xs) y.1.1 (y.1.2 + 1 - y.1.1)), .bool (decide (sm (g xs) y.1.1 (y.1.2 + 1 - y.1.1) = 0))] ∧ w0.heap.size + 1 < gi ∧ a₁ = tightF A A' n cap capp w.heap.size w1.heap.size gi st h (prV xs st h y))
    ?hI ?hIx ?hM ?h0 ?assign ?body ?done ?stop
  case hI =>
    rintro pre X Y row ⟨h2, h3, h4⟩ hg hr
    have hr' : ∀ b, b < w0.heap.size → row ≠ some b := fun b hb e => by have := hr b e; omega
    exact ⟨h2.grown hg (hr' _ (by omega)), h3.grown hg (hr' _ (by omega)), h4.grown hg h4.size (fun r e => by have := hr r e; omega)⟩
  case hIx => exact fun _ _ _ _ hs _ _ => hs
  case hM =>
    rintro pre y a₁ W o ⟨gi, h1, h2, h3, h4, h5, h6⟩
    have hg := grownBy_putObj' W (w0.heap.size + 1) o
    exact ⟨gi, h1.grown hg (fun e => by have := Option.some.inj e; omega), h2.grown hg (fun e => by have := Option.some.inj e; omega), h3.grown hg h3.size (fun k e => by have := Option.some.inj e; omega), h4.grown hg (fun e => by have := Option.some.inj e; omega), h5, h6⟩
  case h0 => exact ⟨z0, z1, hB0⟩
  case assign =>
    intro l pre y W ⟨hp1, hp2, hbl⟩ hsz hlen
    unfold prV
    gi_wp2
    exact ⟨KeepsOthers.alloc _ _, below_kx ((Below.refl _ W).alloc (Nat.le_refl _) _) _ _ (Nat.le_refl _), W.heap.size, hp1.alloc _, hp2.alloc _, hbl.alloc hbl.size _, Blk.new _ _ _, hsz, rfl⟩
  case body =>
    rintro l pre y a₁ W ⟨gi, h1, h2, h3, h4, h5, rfl⟩
    obtain ⟨yy, hyy⟩ : ∃ yy : Pr n, yy = y := ⟨y, rfl⟩
    have hst := y.2.1
    have htn := y.2.2
    unfold tightF prV
    obtain ⟨s, hs⟩ : ∃ s, y.1.1 = s := ⟨_, rfl⟩
    obtain ⟨t, ht⟩ : ∃ t, y.1.2 = t := ⟨_, rfl⟩
    rw [hs, ht] at h4 hst
    rw [ht] at htn
    rw [hs, ht]
    have q0 := h1.cell 0
    have q1 : W.cell? ⟨gi, 1, none⟩ = some (.int .i64 (t : Int)) := h4.cell 1
    have q2 : W.cell? ⟨gi, 0, none⟩ = some (.int .i64 (s : Int)) := h4.cell 0
    have q3 : W.cell? ⟨gi, 2, none⟩ = some (.int .i64 (btw st h (g xs) s (t + 1 - s))) := h4.cell 2
    have q4 : W.cell? ⟨gi, 3, none⟩ = some (.bool (decide (sm (g xs) s (t + 1 - s) = 0))) := h4.cell 3
    have q5 := (h2.cell s).trans (BS_at (tgS st h xs ps pre) (show s < 16 by omega))
    have q6 := h2.frozen s
    have hp' := hp.below h3
    have hcb := btw_bd hX hn hs0 hs1 hh0 hh1 s (t + 1 - s) (by omega)
    have hX1 : ∀ d, d ≤ n → -1152921504606846976 ≤ pF ps d ∧ pF ps d ≤ 1152921504606846976 := fun d hd => by
      match d, hd with
      | 0, _ => simp [pF]
      | d + 1, hd => exact hP.out d (by omega)
    have hXb := hX1 (t + 1) (by omega)
    have hYb := hX1 s (by omega)
    have p1 : ∀ k, Calls Try.prog 55 #[.slice A' n capp, .int .i64 ((t : Int) + 1)] (W.drewN k) fun e w' => e = .returned (.int .i64 (pF ps (t + 1))) ∧ W.drewN k = w' := fun k => price_any _ n capp A' ps (t + 1) _ (hp'.drewN k) (by omega) (by omega)
    have p2 : ∀ k, Calls Try.prog 55 #[.slice A' n capp, .int .i64 (s : Int)] (W.drewN k) fun e w' => e = .returned (.int .i64 (pF ps s)) ∧ W.drewN k = w' := fun k => price_any _ n capp A' ps s _ (hp'.drewN k) (by omega) (by omega)
    have htg : tgP st h xs ps yy.1.1 yy.1.2 = (!decide (sm (g xs) s (t + 1 - s) = 0) && decide (pF ps (t + 1) = pF ps s + btw st h (g xs) s (t + 1 - s))) := by rw [hyy, hs, ht]; rfl
    have hys : yy.1.1 = s := by rw [hyy]; exact hs
    obtain ⟨X, hX'⟩ : ∃ X, pF ps (t + 1) = X := ⟨_, rfl⟩
    obtain ⟨Y, hY'⟩ : ∃ Y, pF ps s = Y := ⟨_, rfl⟩
    obtain ⟨C, hC'⟩ : ∃ C, btw st h (g xs) s (t + 1 - s) = C := ⟨_, rfl⟩
    rw [hX'] at p1 hXb htg
    rw [hY'] at p2 hYb htg
    rw [hC'] at hcb q3 htg
    rw [hC']
    generalize decide (sm (g xs) s (t + 1 - s) = 0) = E at *
    have P1 := Lib.hid (fun k => CallsIn.inRound l ((callsIn_wide (n := 1)).2 (quiet_left (p1 k))))
    have P2 := Lib.hid (fun k => CallsIn.inRound l ((callsIn_wide (n := 1)).2 (quiet_left (p2 k))))
    have HTG := Lib.hid htg
    have HYY := Lib.hid hyy
    have HYS := Lib.hid hys
    clear p1 p2 htg hyy hys hX' hY' hC' hX1 hs ht h4
    have w1' : IntKind.i64.wrap ((t : Int) + 1) = (t : Int) + 1 := IntWalk.i64_in _ (by omega)
    have w2' : IntKind.i64.wrap (Y + C) = Y + C := IntWalk.i64_in _ (by omega)
    generalize hT : tgS st h xs ps pre = T at *
    have HT := Lib.hid hT
    clear hT
    have hs16 : (s : Int) < 16 := by omega
    have hs0' : (0 : Int) ≤ (s : Int) := by omega
    cases E
    · cases hd : (X == Y + C)
      · have HN : Hid (tgP st h xs ps yy.1.1 yy.1.2 = false) := Lib.hid (by rw [HTG.out]; simpa using hd)
        gi_wp2
        refine wpIn_region_quiet_nd (by kernel_rfl) (by kernel_rfl) (by kernel_rfl) ?_
        repeat (gi_big_quiet_step (first | with_reducible exact P1.out _ | with_reducible exact P2.out _))
        refine wpQuietIn_nil ?_
        intro _ hw'
        obtain ⟨nq, hw''⟩ := hw'
        subst hw''
        gi_wp2
        refine ⟨keepsOthers_drewN W nq, Kx.of_grownBy (row := none) (grownBy_drewN W nq) (fun _ e => by cases e), h1.drewN nq, ?_, below_drewN h3 nq⟩
        rw [← HYY.out, tgS_snoc_f HN.out, HT.out]
        exact h2.drewN nq
      · have HN : Hid (tgP st h xs ps yy.1.1 yy.1.2 = true) := Lib.hid (by rw [HTG.out]; simpa using hd)
        gi_wp2
        refine wpIn_region_quiet_nd (by kernel_rfl) (by kernel_rfl) (by kernel_rfl) ?_
        repeat (gi_big_quiet_step (first | with_reducible exact P1.out _ | with_reducible exact P2.out _))
        refine wpQuietIn_nil ?_
        intro _ hw'
        obtain ⟨nq, hw''⟩ := hw'
        subst hw''
        gi_wp2
        refine ⟨(KeepsOthers.setCell W ⟨w1.heap.size, s, none⟩ (.bool true)).trans (keepsOthers_drewN _ nq), (Kx.of_grownBy (grownBy_set W ⟨w1.heap.size, s, none⟩ (.bool true)) (fun r e => .inl (Option.some.inj e).symm)).trans (Kx.of_grownBy (row := none) (grownBy_drewN _ nq) (fun _ e => by cases e)), (h1.far (p := ⟨w1.heap.size, s, none⟩) (zne (by omega)) _).drewN nq, ?_, below_drewN (h3.setCell (p := ⟨w1.heap.size, s, none⟩) (Nat.le_of_lt hlt) _) nq⟩
        rw [← HYY.out, tgS_snoc_t HN.out, HT.out, HYS.out, ← BS_set]
        exact (h2.set_ s (.bool true)).drewN nq
    · have HN : Hid (tgP st h xs ps yy.1.1 yy.1.2 = false) := Lib.hid (by rw [HTG.out]; rfl)
      gi_wp2
      refine wpIn_region_quiet_nd (by kernel_rfl) (by kernel_rfl) (by kernel_rfl) ?_
      repeat (gi_big_quiet_step (first | with_reducible exact P1.out _ | with_reducible exact P2.out _))
      refine wpQuietIn_nil ?_
      intro _ hw'
      obtain ⟨nq, hw''⟩ := hw'
      subst hw''
      gi_wp2
      refine ⟨keepsOthers_drewN W nq, Kx.of_grownBy (row := none) (grownBy_drewN W nq) (fun _ e => by cases e), h1.drewN nq, ?_, below_drewN h3 nq⟩
      rw [← HYY.out, tgS_snoc_f HN.out, HT.out]
      exact h2.drewN nq
  case done =>
    rintro ys W hS ⟨h1, h2, hB⟩ hK
    rw [tgS_all hS] at h2
    obtain ⟨T, hT⟩ : ∃ T, tgD st h xs ps n = T := ⟨_, rfl⟩
    rw [hT] at h2
    have HTT := Lib.hid hT
    clear hT
    have hr2 := h2.rangeAt
    have hDlt := (Array.getElem?_eq_some_iff.1 hK).1
    gi_wp2_with (refine wpListIn_load_mid rfl 59 (.tmp 10) rfl w1.heap.size 0 rfl (BS T) hr2 under59 (by rw [BS_size]; exact size59) ?_)
    clear hr2 h1 h2
    obtain ⟨Wo, hWo⟩ : ∃ Wo : World, Wo = W := ⟨_, rfl⟩
    have hsz' : Wo.heap.size = W.heap.size := by rw [hWo]
    gi_loopw [8, 52] (fun v i wr => ∃ (d : Nat) (L : List Int), d ≤ 16 ∧ i = .int .i64 d ∧ OI wr Wo.heap.size v L.length L ∧ Hid (L = tgL T d) ∧ wr.heap[w0.heap.size]? = some (.deferred (some [])) ∧ Below w.heap.size w wr ∧ Wo.heap.size ≤ wr.heap.size) (fun _ i _ => 16 - (intOf i).toNat)
    case atStart => exact ⟨0, [], by omega, rfl, OI.nil _ _, Lib.hid rfl, hK, hB, by omega⟩
    case round =>
      obtain ⟨d, L, hd, rfl, hown, hL, hD, hbl, hge⟩ := hrel
      by_cases hlt16 : d < 16
      · have hix : ∀ w : World, (Instr.index 59 (.agg (BS T)) (.int .i64 (d : Int))).run Try.prog w = .ok (.bool (T d)) w := fun w => run_index59 T w d hlt16
        have hlen : Hid (L.length ≤ d) := Lib.hid (by rw [hL.out]; exact tgL_len T d)
        cases hT : T d
        · have HN : Hid (L = tgL T (d + 1)) := Lib.hid (by rw [tgL, if_neg (by rw [hT]; decide)]; exact hL.out)
          rw [hT] at hix
          have HT := Lib.hid hT
          clear hT
          gi_wp2
          go_roundw
          case rel => exact ⟨d + 1, L, by omega, by go_num, hown, HN, hD, hbl, hge⟩
          case measure => simp [intOf]; omega
        · have HN : Hid (L ++ [(d : Int)] = tgL T (d + 1)) := Lib.hid (by rw [tgL, if_pos hT, hL.out])
          rw [hT] at hix
          have HT := Lib.hid hT
          clear hT
          gi_wp2_with (gi_at_builtin; refine wpListIn_app1 rfl (.tmp 57) (.tmp 59) rfl wr Wo.heap.size _ L.length L (d : Int) rfl rfl hown (by have := hlen.out; omega) hge ?_; intro g' c' w4 hown4 hgr4)
          go_roundw
          case rel =>
            have e : (L ++ [(d : Int)]).length = L.length + 1 := by simp
            refine ⟨d + 1, L ++ [(d : Int)], by omega, by go_num, by rw [e]; exact hown4, HN, ?_, ?_, ?_⟩
            · have h5 := hgr4.block w0.heap.size (by simp; omega) (fun e => by have := hown.off (b := w0.heap.size) (by omega); exact this e.symm)
              rw [h5]
              exact (Below.heap_alloc _ _ _ (by omega)).trans hD
            · exact (hbl.alloc hbl.size _).grown hgr4 (by have := hbl.size; simp; omega) (fun k e => by have := (World.ownsRow.lt hown k e).1; have := hB.size; omega)
            · have := hgr4.size; simp at this; omega
          case measure => simp [intOf]; omega
      · obtain rfl : d = 16 := by omega
        obtain ⟨A1, c1, rfl⟩ := hown.form
        rw [hsz] at hD
        gi_wp2
        refine ⟨by simp, .inl ⟨_, _, rfl, run_takeDeferred hD, ?_⟩⟩
        have hL' : L = tgL (tgD st h xs ps n) 16 := by rw [HTT.out]; exact hL.out
        have hfin := hown.kept (grownBy_putObj' wr (w1.heap.size + 4) (.deferred none)) (.inr (fun e => by have := hown.off (b := w1.heap.size + 4) (by omega); exact this e))
        refine ⟨.tuple #[.slice A1 L.length c1, .int .i64 0], ?_, A1, c1, by rw [hL'], ?_, hbl.trans (belowK_b (w := w) (Nat.le_refl _) wr (w1.heap.size + 4) _ _ (by omega) hD rfl rfl)⟩
        · simp [results, Try.f32, go_sem]
        · rw [← hL']
          exact hfin.SIv
  case stop => exact fun _ _ hF _ => hF.elim

/-- What Tight answers. -/
def tigL (xs : List Int) (st h : Int) (ps : List Int) : List Int := if okB xs st h ps = true then tgL (tgD st h xs ps xs.length) 16 else []
theorem Tight_any (n cap np capp : Nat) (A A' : Option Addr) (xs ps : List Int) (st h : Int) (w : World) (hx : SI w w.heap.size A n xs) (hp : SI w w.heap.size A' np ps) (hn : n ≤ 9223372036854775807) (hnp : np ≤ 9223372036854775807) :
    Calls Try.prog 32 #[.slice A n cap, .int .i64 st, .int .i64 h, .slice A' np capp] w fun e w' => ∃ B c, e = .returned (.tuple #[.slice B (tigL xs st h ps).length c, .int .i64 (errP (okB xs st h ps))]) ∧ SI w' w'.heap.size B (tigL xs st h ps).length (tigL xs st h ps) ∧ Below w.heap.size w w' := by
  cases hk : okB xs st h ps
  · have e : tigL xs st h ps = [] := by simp [tigL, hk]
    refine (Tight_bad n cap np capp A A' xs ps st h w hx hp hn hnp hk).mono ?_
    rintro e w' ⟨rfl, hb⟩
    rw [e]
    exact ⟨none, 0, rfl, SI.nil, hb⟩
  · have e : tigL xs st h ps = tgL (tgD st h xs ps n) 16 := by rw [← hx.len]; simp [tigL, hk]
    rw [e]
    simp only [okB, Bool.and_eq_true] at hk
    have e2 : np = n := by have := (vP_iff.1 hk.2).1; have := hx.len; have := hp.len; omega
    subst e2
    exact callsIn_wide.1 (Tight_in np cap capp A A' xs ps st h w hx hp hk.1 hk.2)

end Go.Proofs.Ytkbnbdpdmcnkiaa
