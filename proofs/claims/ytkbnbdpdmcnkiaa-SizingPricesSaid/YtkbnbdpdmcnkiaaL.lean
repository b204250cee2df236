/- sizing.last. -/
import Derived.Test.YtkbnbdpdmcnkiaaR
import Derived.Laws.EntriesVeiled
namespace Go.Proofs.Ytkbnbdpdmcnkiaa
open Go.RowKit Go.Shelf Go.BigFrame

attribute [local go_sem] Oper.semAt_some

/-- The slice of m uptos lies in block gb below B. -/
def Best (w : World) (B : Nat) (gb m : Nat) (bS : Nat → Nat → Bool) (bC : Nat → Int) : Prop := gb < B ∧ ∀ j, j < m → UpAt w gb j (bS j) (bC j)
theorem Best.below {w w' : World} {B gb m : Nat} {bS : Nat → Nat → Bool} {bC : Nat → Int} (h : Best w B gb m bS bC) (hb : Below B w w') : Best w' B gb m bS bC :=
  ⟨h.1, fun j hj => (h.2 j hj).below hb h.1⟩

/-- The world in which last's loop begins. -/
def lastW (w : World) (n cap gb m capb : Nat) (A : Option Addr) (st h : Int) : World :=
  (((((((((w.alloc (.cells #[.slice A n cap] 22)).alloc (.cells #[.slice (some ⟨gb, 0, none⟩) m capb] 63)).alloc (.cells #[.int .i64 st] 3)).alloc (.cells #[.int .i64 h] 3)).alloc (.cells (UP (fun _ => false) 0) 62)).alloc (.cells #[.int .i64 0] 3)).alloc (.cells #[.int .i64 0] 3)).alloc
    (.cells #[.func (.func 62) #[] #[.pointer (some ⟨w.heap.size + 1 + 1 + 1 + 1 + 1 + 1, 0, none⟩), .pointer (some ⟨w.heap.size + 1 + 1 + 1 + 1 + 1, 0, none⟩), .pointer (some ⟨w.heap.size, 0, none⟩), .pointer (some ⟨w.heap.size + 1 + 1, 0, none⟩), .pointer (some ⟨w.heap.size + 1 + 1 + 1, 0, none⟩)]] 42)).alloc (.cells #[.bool false] 4)).alloc (.cells #[.int .i64 n] 3)

/-- What last's variables hold. -/
structure LI (w : World) (n cap gb m capb : Nat) (A : Option Addr) (st h : Int) (s : LS) (W : World) : Prop where
  b0 : Blk W (w.heap.size) 22 #[.slice A n cap]
  b1 : Blk W (w.heap.size + 1) 63 #[.slice (some ⟨gb, 0, none⟩) m capb]
  b2 : Blk W (w.heap.size + 1 + 1) 3 #[.int .i64 st]
  b3 : Blk W (w.heap.size + 1 + 1 + 1) 3 #[.int .i64 h]
  b4 : Blk W (w.heap.size + 1 + 1 + 1 + 1) 62 (UP s.set s.c)
  b5 : Blk W (w.heap.size + 1 + 1 + 1 + 1 + 1) 3 #[.int .i64 s.S]
  b6 : Blk W (w.heap.size + 1 + 1 + 1 + 1 + 1 + 1) 3 #[.int .i64 s.H]
  b7 : Blk W (w.heap.size + 1 + 1 + 1 + 1 + 1 + 1 + 1) 42 #[.func (.func 62) #[] #[.pointer (some ⟨w.heap.size + 1 + 1 + 1 + 1 + 1 + 1, 0, none⟩), .pointer (some ⟨w.heap.size + 1 + 1 + 1 + 1 + 1, 0, none⟩), .pointer (some ⟨w.heap.size, 0, none⟩), .pointer (some ⟨w.heap.size + 1 + 1, 0, none⟩), .pointer (some ⟨w.heap.size + 1 + 1 + 1, 0, none⟩)]]
  b8 : Blk W (w.heap.size + 1 + 1 + 1 + 1 + 1 + 1 + 1 + 1) 4 #[.bool s.fd]
  below : Below w.heap.size w W

theorem Blk.at_ {w w' : World} {b b' : Nat} {t : TypeId} {cs : Array Value} (h : Blk w b t cs) (hw : w = w') (e : b = b') : Blk w' b' t cs := by subst e; subst hw; exact h

theorem lastW_I (w : World) (n cap gb m capb : Nat) (A : Option Addr) (st h : Int) :
    LI w n cap gb m capb A st h LS0 (lastW w n cap gb m capb A st h) ∧ Blk (lastW w n cap gb m capb A st h) (w.heap.size + 1 + 1 + 1 + 1 + 1 + 1 + 1 + 1 + 1) 3 #[.int .i64 n] ∧ (lastW w n cap gb m capb A st h).heap.size = w.heap.size + 10 := by
  unfold lastW
  refine ⟨⟨?_, ?_, ?_, ?_, ?_, ?_, ?_, ?_, ?_, ?_⟩, ?_, ?_⟩
  · exact (((((((((Blk.new _ _ _).alloc _).alloc _).alloc _).alloc _).alloc _).alloc _).alloc _).alloc _).alloc _
  · exact (((((((((Blk.new _ _ _).alloc _).alloc _).alloc _).alloc _).alloc _).alloc _).alloc _).alloc _).at_ rfl (by simp)
  · exact ((((((((Blk.new _ _ _).alloc _).alloc _).alloc _).alloc _).alloc _).alloc _).alloc _).at_ rfl (by simp)
  · exact (((((((Blk.new _ _ _).alloc _).alloc _).alloc _).alloc _).alloc _).alloc _).at_ rfl (by simp)
  · exact ((((((Blk.new _ _ _).alloc _).alloc _).alloc _).alloc _).alloc _).at_ rfl (by simp)
  · exact (((((Blk.new _ _ _).alloc _).alloc _).alloc _).alloc _).at_ rfl (by simp)
  · exact ((((Blk.new _ _ _).alloc _).alloc _).alloc _).at_ rfl (by simp)
  · exact (((Blk.new _ _ _).alloc _).alloc _).at_ rfl (by simp)
  · exact ((Blk.new _ _ _).alloc _).at_ rfl (by simp)
  · exact ((((((((((Below.refl _ w).alloc (Nat.le_refl _) _).alloc (by simp) _).alloc (by simp; omega) _).alloc (by simp; omega) _).alloc (by simp; omega) _).alloc (by simp; omega) _).alloc (by simp; omega) _).alloc (by simp; omega) _).alloc (by simp; omega) _).alloc (by simp; omega) _
  · exact (Blk.new _ _ _).at_ rfl (by simp)
  · simp

theorem LI.kept {w : World} {n cap gb m capb : Nat} {A : Option Addr} {st h : Int} {s : LS} {X Y : World} {row : Option Nat} (hi : LI w n cap gb m capb A st h s X) (hg : X.grownBy Y row)
    (hr : ∀ r, row = some r → w.heap.size ≤ r ∧ ∃ o : Obj, X.heap[r]? = some o ∧ o.isCells = false) : LI w n cap gb m capb A st h s Y := by
  have hr' : ∀ r, row = some r → ∃ o : Obj, X.heap[r]? = some o ∧ o.isCells = false := fun r e => (hr r e).2
  exact ⟨hi.b0.kept hg hr', hi.b1.kept hg hr', hi.b2.kept hg hr', hi.b3.kept hg hr', hi.b4.kept hg hr', hi.b5.kept hg hr', hi.b6.kept hg hr', hi.b7.kept hg hr', hi.b8.kept hg hr', hi.below.grown hg hi.below.size (fun r e => (hr r e).1)⟩

theorem zne {a b : Nat} (h : a ≠ b) : a ≠ (⟨b, 0, none⟩ : Addr).block := h
theorem zle {a b : Nat} (h : a ≤ b) : a ≤ (⟨b, 0, none⟩ : Addr).block := h

theorem keepsOthers_setRow {W : World} {b : Nat} {t : TypeId} {old : Array Value} (hb : Blk W b t old) (cs : Array Value) : KeepsOthers W (W.setRow b cs) := by
  refine ⟨by simp, fun k _ hk ho => ?_⟩
  by_cases e : k = b
  · subst e
    unfold Blk at hb
    rw [hb] at hk
    cases hk
    cases ho
  · exact (setRow_other W b k cs e).trans hk
theorem keepsOthers_below {B : Nat} {a b : World} (h : Below B a b) (hB : a.heap.size ≤ B) : KeepsOthers a b :=
  ⟨h.size, fun k _ hk _ => (h.block k (Nat.lt_of_lt_of_le (Array.getElem?_eq_some_iff.1 hk).1 hB)).trans hk⟩

theorem LI.later {w : World} {n cap gb m capb : Nat} {A : Option Addr} {st h : Int} {s : LS} {X Y : World} (hi : LI w n cap gb m capb A st h s X) (hb : Below X.heap.size X Y) : LI w n cap gb m capb A st h s Y :=
  ⟨hi.b0.below hb hi.b0.lt, hi.b1.below hb hi.b1.lt, hi.b2.below hb hi.b2.lt, hi.b3.below hb hi.b3.lt, hi.b4.below hb hi.b4.lt, hi.b5.below hb hi.b5.lt, hi.b6.below hb hi.b6.lt, hi.b7.below hb hi.b7.lt, hi.b8.below hb hi.b8.lt, hi.below.trans (hb.mono hi.below.size)⟩

set_option maxRecDepth 100000 in
theorem LI.take {w : World} {n cap gb m capb : Nat} {A : Option Addr} {st h : Int} {H S C : Int} {fd : Bool} {SS : Nat → Bool} {X : World} (hi : LI w n cap gb m capb A st h ⟨H, S, fd, SS, C⟩ X) (ns : Nat → Bool) (c : Int) :
    LI w n cap gb m capb A st h ⟨H, S, true, ns, c⟩ ((X.setRow (w.heap.size + 1 + 1 + 1 + 1) (UP ns c)).setCell ⟨w.heap.size + 1 + 1 + 1 + 1 + 1 + 1 + 1 + 1, 0, none⟩ (.bool true)) :=
  ⟨(hi.b0.rowFar (by omega) _).far (zne (by omega)) _, (hi.b1.rowFar (by omega) _).far (zne (by omega)) _, (hi.b2.rowFar (by omega) _).far (zne (by omega)) _, (hi.b3.rowFar (by omega) _).far (zne (by omega)) _, (hi.b4.row _).far (zne (by omega)) _, (hi.b5.rowFar (by omega) _).far (zne (by omega)) _, (hi.b6.rowFar (by omega) _).far (zne (by omega)) _, (hi.b7.rowFar (by omega) _).far (zne (by omega)) _, (hi.b8.rowFar (by omega) _).set_ 0 _,
    (below_setRow hi.below (by omega) _).setCell (zle (by omega)) _⟩

/-- The relation at the next round. -/
def INext (w : World) (n cap gb m capb : Nat) (A : Option Addr) (st h : Int) (f : Nat → Int) (bS : Nat → Nat → Bool) (bC : Nat → Int) (pre : List (Fin n)) (W : World) : Prop :=
  LI w n cap gb m capb A st h (foldL st h f bS bC pre) W ∧ (0 ≤ (foldL st h f bS bC pre).S ∧ (foldL st h f bS bC pre).S ≤ pre.length * 1048576 ∧ 0 ≤ (foldL st h f bS bC pre).H ∧ (foldL st h f bS bC pre).H ≤ pre.length * 16777216)
theorem INext.mk_ {w : World} {n cap gb m capb : Nat} {A : Option Addr} {st h : Int} {f : Nat → Int} {bS : Nat → Nat → Bool} {bC : Nat → Int} {pre : List (Fin n)} {x : Fin n} {W : World} {H S C : Int} {fd : Bool} {SS : Nat → Bool}
    (hst : foldL st h f bS bC (pre ++ [x]) = ⟨H, S, fd, SS, C⟩) (hi : LI w n cap gb m capb A st h ⟨H, S, fd, SS, C⟩ W) (h1 : 0 ≤ S) (h2 : S ≤ (pre.length + 1 : Nat) * 1048576) (h3 : 0 ≤ H) (h4 : H ≤ (pre.length + 1 : Nat) * 16777216) :
    INext w n cap gb m capb A st h f bS bC (pre ++ [x]) W := by
  unfold INext
  rw [hst]
  exact ⟨hi, h1, by rw [List.length_append, List.length_singleton]; exact h2, h3, by rw [List.length_append, List.length_singleton]; exact h4⟩

set_option maxRecDepth 100000 in
set_option maxHeartbeats 1000000 in
theorem last_in (n cap gb m capb : Nat) (A : Option Addr) (xs : List Int) (bS : Nat → Nat → Bool) (bC : Nat → Int) (st h : Int) (w : World) (hx : SI w w.heap.size A n xs) (hb : Best w w.heap.size gb m bS bC) (hn : n ≤ 16) (hnm : n ≤ m)
    (hX : Bd 1048576 (g xs) n) (hC : ∀ j, j < m → 0 ≤ bC j ∧ bC j ≤ 9007199254740992) (hs0 : 0 ≤ st) (hs1 : st ≤ 1048576) (hh0 : 0 ≤ h) (hh1 : h ≤ 1048576) :
    CallsIn Fence.wide 4 Try.prog 40 #[.slice A n cap, .slice (some ⟨gb, 0, none⟩) m capb, .int .i64 st, .int .i64 h] w fun e W' =>
      e = .returned (.agg (UP (foldL st h (g xs) bS bC (dn n n)).set (foldL st h (g xs) bS bC (dn n n)).c)) ∧ Below w.heap.size w W' := by
  refine callsIn_of_wp_marks Try.func40 rfl trivial ?_ rfl
  simp only [Try.ntmps40, List.size_toArray, List.length_cons, List.length_nil, Nat.reduceAdd, Nat.reduceSub, Array.replicate_succ, Array.replicate_zero, List.push_toArray, List.append_toArray, List.nil_append, List.cons_append]
  gi_wp2_with (refine ⟨trivial, ?_⟩; gi_at_call 63; refine (backwards_in _ _).mono ?_; rintro e w' ⟨rfl, rfl⟩)
  obtain ⟨hi0, he0, hz0⟩ := lastW_I w n cap gb m capb A st h
  change Code.wpIn _ _ _ _ _ _ (lastW w n cap gb m capb A st h)
  generalize lastW w n cap gb m capb A st h = w0 at *
  refine wpIn_rangeFunc_ownF rfl (by omega) (gf := 68) (lb := #[.pointer (some ⟨w.heap.size + 1 + 1 + 1 + 1 + 1 + 1 + 1 + 1 + 1, 0, none⟩)]) rfl trivial (enters_of Try.func68 (by kernel_rfl) rfl)
    (backwards_stops (w.heap.size + 1 + 1 + 1 + 1 + 1 + 1 + 1 + 1 + 1) n (by omega) w0 he0.lt (he0.cell 0)) (fun _ _ => trivial) (fun _ _ _ _ _ _ _ _ => trivial) (Below.refl _ _) (fun _ => rfl)
    (fun pre W => LI w n cap gb m capb A st h (foldL st h (g xs) bS bC pre) W ∧ (0 ≤ (foldL st h (g xs) bS bC pre).S ∧ (foldL st h (g xs) bS bC pre).S ≤ pre.length * 1048576 ∧ 0 ≤ (foldL st h (g xs) bS bC pre).H ∧ (foldL st h (g xs) bS bC pre).H ≤ pre.length * 16777216))
    (fun _ _ _ => False)
    ?hI ?hIx ?h0
    (fun x => { tmps := #[.slice A n cap, .slice (some ⟨gb, 0, none⟩) m capb, .int .i64 st, .int .i64 h, .pointer (some ⟨w.heap.size, 0, none⟩), .pointer (some ⟨w.heap.size + 1, 0, none⟩), .pointer (some ⟨w.heap.size + 1 + 1, 0, none⟩), .pointer (some ⟨w.heap.size + 1 + 1 + 1, 0, none⟩), .pointer (some ⟨w.heap.size + 1 + 1 + 1 + 1, 0, none⟩), .pointer (some ⟨w.heap.size + 1 + 1 + 1 + 1 + 1, 0, none⟩), .pointer (some ⟨w.heap.size + 1 + 1 + 1 + 1 + 1 + 1, 0, none⟩), .pointer (some ⟨w.heap.size + 1 + 1 + 1 + 1 + 1 + 1 + 1, 0, none⟩), .pointer (some ⟨w.heap.size + 1 + 1 + 1 + 1 + 1 + 1 + 1 + 1, 0, none⟩), .int .i64 (x.1 : Int), undef, undef, .func (.func 62) #[] #[.pointer (some ⟨w.heap.size + 1 + 1 + 1 + 1 + 1 + 1, 0, none⟩), .pointer (some ⟨w.heap.size + 1 + 1 + 1 + 1 + 1, 0, none⟩), .pointer (some ⟨w.heap.size, 0, none⟩), .pointer (some ⟨w.heap.size + 1 + 1, 0, none⟩), .pointer (some ⟨w.heap.size + 1 + 1 + 1, 0, none⟩)], .slice A n cap, .int .i64 n, .func (.func 68) #[] #[.pointer (some ⟨w.heap.size + 1 + 1 + 1 + 1 + 1 + 1 + 1 + 1 + 1, 0, none⟩)], .int .i64 (x.1 : Int), undef, undef, undef, undef, undef, undef, undef, undef, undef, undef, undef, undef, undef, undef, undef, undef, undef, undef, undef, undef, undef, undef, undef, undef, undef, undef, undef, undef, undef, undef, undef, undef, undef, undef, undef, undef, undef, undef, undef, undef, undef, undef, undef, undef, undef, undef], defers := [] }) ?assign ?body ?done ?stop
  case hI =>
    intro pre X Y row hs hg hr
    exact ⟨hs.1.kept hg (fun r e => ⟨by have := (hr r e).1; omega, (hr r e).2⟩), hs.2⟩
  case hIx => exact fun _ _ _ _ _ hs _ _ => hs
  case h0 => exact ⟨hi0, by simp [foldL, LS0], by simp [foldL, LS0], by simp [foldL, LS0], by simp [foldL, LS0]⟩
  case assign =>
    intro l x W K hK
    gi_wp2
    exact hK
  case body =>
    rintro l pre x W ⟨hi, hS0, hS1, hH0, hH1⟩ hlen
    generalize hs : foldL st h (g xs) bS bC pre = s at *
    have HS := Lib.hid hs
    clear hs
    obtain ⟨H, S, fd, SS, C⟩ := s
    dsimp only at hS0 hS1 hH0 hH1
    have hxn := x.2
    have hx' := hx.below hi.below
    have hb' := hb.below hi.below
    have hyb := hX x.1 hxn
    have huc := (hb'.2 x.1 (by omega)).cost
    obtain ⟨V, hV⟩ : ∃ V, Hid (c1V st h H S (g xs x.1) = V) := ⟨_, Lib.hid rfl⟩
    have h62 := cost1_any (w.heap.size + 1 + 1 + 1 + 1 + 1 + 1) (w.heap.size + 1 + 1 + 1 + 1 + 1) (w.heap.size) (w.heap.size + 1 + 1) (w.heap.size + 1 + 1 + 1) w.heap.size n cap A xs H S st h (x.1 : Int) x.1 W.drew hx'.drew hxn rfl hi.b6.drew hi.b5.drew hi.b0.drew hi.b2.drew hi.b3.drew
      (by omega) (by omega) (by omega) (by omega) (by omega) (by omega) (by omega) hH0 (by omega) hS0 (by omega) hs0 hs1 hh0 hh1 hyb.1 hyb.2
    rw [hV.out] at h62
    obtain ⟨W3, hW3⟩ : ∃ W3, Hid (((W.drew.setCell ⟨w.heap.size + 1 + 1 + 1 + 1 + 1 + 1, 0, none⟩ (.int .i64 (H + S))).setCell ⟨w.heap.size + 1 + 1 + 1 + 1 + 1, 0, none⟩ (.int .i64 (S + g xs x.1))).drew = W3) := ⟨_, Lib.hid rfl⟩
    replace h62 := h62.mono (R' := fun e w' => e = .returned (.int .i64 V) ∧ w' = W3) (by rintro e w' ⟨h1, h2⟩; exact ⟨h1, h2.trans hW3.out⟩)
    have hi3 : LI w n cap gb m capb A st h ⟨H + S, S + g xs x.1, fd, SS, C⟩ W3 := by
      rw [← hW3.out]
      exact ⟨(((hi.b0.drew).far (zne (by omega)) _).far (zne (by omega)) _).drew, (((hi.b1.drew).far (zne (by omega)) _).far (zne (by omega)) _).drew, (((hi.b2.drew).far (zne (by omega)) _).far (zne (by omega)) _).drew, (((hi.b3.drew).far (zne (by omega)) _).far (zne (by omega)) _).drew, (((hi.b4.drew).far (zne (by omega)) _).far (zne (by omega)) _).drew, (((hi.b5.drew).far (zne (by omega)) _).set_ 0 _).drew, (((hi.b6.drew).set_ 0 _).far (zne (by omega)) _).drew, (((hi.b7.drew).far (zne (by omega)) _).far (zne (by omega)) _).drew, (((hi.b8.drew).far (zne (by omega)) _).far (zne (by omega)) _).drew, (((hi.below.drew).setCell (zle (by omega)) _).setCell (zle (by omega)) _).drew⟩
    have hk3 : KeepsOthers W W3 := by
      rw [← hW3.out]
      exact (((KeepsOthers.drew W).trans (KeepsOthers.setCell _ _ _)).trans (KeepsOthers.setCell _ _ _)).trans (KeepsOthers.drew _)
    have hb3 := hb.below hi3.below
    have huc3 := (hb3.2 x.1 (by omega)).cost
    have c1 := hi.b1.cell 0
    have c7 := hi.b7.cell 0
    have c1' := hi3.b1.cell 0
    have c7' := hi3.b7.cell 0
    have hxi : (x.1 : Int) < (m : Int) := by omega
    have hx0 : (0 : Int) ≤ (x.1 : Int) := by omega
    have hmx : Try.prog.follows .mixedOrders = true := by kernel_rfl
    have H62 := Lib.hid h62
    clear h62
    have hVb : 0 ≤ V ∧ V ≤ 562949953421312 := by
      have := c1V_bd hs0 hs1 hh0 hh1 hH0 (show H ≤ 268435456 by omega) hS0 (show S ≤ 16777216 by omega) (g xs x.1)
      rw [hV.out] at this
      exact this
    have hcb := hC x.1 (by omega)
    have hw1 : IntKind.i64.wrap (bC x.1 + V) = bC x.1 + V := IntWalk.i64_in _ (by omega)
    gi_wp2
    refine Go.wpIn_mono (Q := fun e a' w' => e = .normal ∧ w' = W3 ∧ ∃ u21 u22 u23 u24 u25 u26 u27 u28 u29, a' = { tmps := #[.slice A n cap, .slice (some ⟨gb, 0, none⟩) m capb, .int .i64 st, .int .i64 h, .pointer (some ⟨w.heap.size, 0, none⟩), .pointer (some ⟨w.heap.size + 1, 0, none⟩), .pointer (some ⟨w.heap.size + 1 + 1, 0, none⟩), .pointer (some ⟨w.heap.size + 1 + 1 + 1, 0, none⟩), .pointer (some ⟨w.heap.size + 1 + 1 + 1 + 1, 0, none⟩), .pointer (some ⟨w.heap.size + 1 + 1 + 1 + 1 + 1, 0, none⟩), .pointer (some ⟨w.heap.size + 1 + 1 + 1 + 1 + 1 + 1, 0, none⟩), .pointer (some ⟨w.heap.size + 1 + 1 + 1 + 1 + 1 + 1 + 1, 0, none⟩), .pointer (some ⟨w.heap.size + 1 + 1 + 1 + 1 + 1 + 1 + 1 + 1, 0, none⟩), .int .i64 (x.1 : Int), .int .i64 (bC x.1 + V), undef, .func (.func 62) #[] #[.pointer (some ⟨w.heap.size + 1 + 1 + 1 + 1 + 1 + 1, 0, none⟩), .pointer (some ⟨w.heap.size + 1 + 1 + 1 + 1 + 1, 0, none⟩), .pointer (some ⟨w.heap.size, 0, none⟩), .pointer (some ⟨w.heap.size + 1 + 1, 0, none⟩), .pointer (some ⟨w.heap.size + 1 + 1 + 1, 0, none⟩)], .slice A n cap, .int .i64 n, .func (.func 68) #[] #[.pointer (some ⟨w.heap.size + 1 + 1 + 1 + 1 + 1 + 1 + 1 + 1 + 1, 0, none⟩)], .int .i64 (x.1 : Int), u21, u22, u23, u24, u25, u26, u27, u28, u29, undef, undef, undef, undef, undef, undef, undef, undef, undef, undef, undef, undef, undef, undef, undef, undef, undef, undef, undef, undef, undef, undef, undef, undef, undef, undef, undef, undef, undef, undef, undef, undef, undef, undef, undef, undef, undef], defers := [] }) ?_ ?_
    · clear hi0 he0 hz0 hi hS0 hS1 hH0 hH1 hX hC HS hyb hi3 hk3 hb3 hb' hx' hb hx hn hnm hs0 hs1 hh0 hh1 hlen hVb hcb hV hxn
      have g1 : ∀ (b : Bool) (w' : World), (if b = true then w' = W3 else w' = W.drew) → w'.cell? ⟨w.heap.size + 1, 0, none⟩ = some (.slice (some ⟨gb, 0, none⟩) m capb) := by
        intro b w' hw'; cases b
        · subst hw'; exact c1
        · subst hw'; exact c1'
      have g2 : ∀ (b : Bool) (w' : World), (if b = true then w' = W3 else w' = W.drew) → w'.cell? ⟨w.heap.size + 1 + 1 + 1 + 1 + 1 + 1 + 1, 0, none⟩ = some (.func (.func 62) #[] #[.pointer (some ⟨w.heap.size + 1 + 1 + 1 + 1 + 1 + 1, 0, none⟩), .pointer (some ⟨w.heap.size + 1 + 1 + 1 + 1 + 1, 0, none⟩), .pointer (some ⟨w.heap.size, 0, none⟩), .pointer (some ⟨w.heap.size + 1 + 1, 0, none⟩), .pointer (some ⟨w.heap.size + 1 + 1 + 1, 0, none⟩)]) := by
        intro b w' hw'; cases b
        · subst hw'; exact c7
        · subst hw'; exact c7'
      have g3 : ∀ (b : Bool) (w' : World), (if b = true then w' = W3 else w' = W.drew) → w'.cell? ⟨gb, x.1 * 17 + 16, none⟩ = some (.int .i64 (bC x.1)) := by
        intro b w' hw'; cases b
        · subst hw'; exact huc
        · subst hw'; exact huc3
      refine wpIn_region_confl (c := 7) (C := fun b w' => if b = true then w' = W3 else w' = W.drew)
        (vals := fun i => match i with | 0 => .slice (some ⟨gb, 0, none⟩) m capb | 1 => .int .i64 x.1 | 2 => .pointer (some ⟨gb, x.1 * 17, none⟩) | 3 => .pointer (some ⟨gb, x.1 * 17 + 16, none⟩) | 4 => .int .i64 (bC x.1) | 5 => .func (.func 62) #[] #[.pointer (some ⟨w.heap.size + 1 + 1 + 1 + 1 + 1 + 1, 0, none⟩), .pointer (some ⟨w.heap.size + 1 + 1 + 1 + 1 + 1, 0, none⟩), .pointer (some ⟨w.heap.size, 0, none⟩), .pointer (some ⟨w.heap.size + 1 + 1, 0, none⟩), .pointer (some ⟨w.heap.size + 1 + 1 + 1, 0, none⟩)] | 6 => .int .i64 x.1 | 7 => .int .i64 V | 8 => .int .i64 (bC x.1 + V) | _ => .int .i64 (bC x.1 + V))
        hmx (by kernel_rfl) (by kernel_rfl) (by decide) ?_ rfl ?_
      · intro i o ho
        match i, ho with
        | 0, ho =>
          cases ho
          refine stepOk_run rfl rfl rfl (fun _ _ => rfl) ?_
          intro L a w' ha hL hC
          have e5 : a.tmps[5]?.getD undef = .pointer (some ⟨w.heap.size + 1, 0, none⟩) := ha.base' (d := 5) (by kernel_rfl)
          have e := g1 _ _ hC
          unfold execOp
          simp [go_sem, e5, e]
        | 1, ho =>
          cases ho
          refine stepOk_run rfl rfl rfl (fun _ _ => rfl) ?_
          intro L a w' ha hL hC
          have e13 : a.tmps[13]?.getD undef = .int .i64 x.1 := ha.base' (d := 13) (by kernel_rfl)
          unfold execOp
          simp [go_sem, e13]
        | 2, ho =>
          cases ho
          refine stepOk_run rfl rfl rfl (fun _ _ => rfl) ?_
          intro L a w' ha hL hC
          have e21 : a.tmps[21]?.getD undef = .slice (some ⟨gb, 0, none⟩) m capb := ha.at' (d := 21) (i := 0) (by kernel_rfl) (hL { on := 0, ground := Ground.data } (by simp) rfl)
          have e22 : a.tmps[22]?.getD undef = .int .i64 x.1 := ha.at' (d := 22) (i := 1) (by kernel_rfl) (hL { on := 1, ground := Ground.data } (by simp) rfl)
          unfold execOp
          simp [go_sem, e21, e22, hxi]
        | 3, ho =>
          cases ho
          refine stepOk_run rfl rfl rfl (fun _ _ => rfl) ?_
          intro L a w' ha hL hC
          have e23 : a.tmps[23]?.getD undef = .pointer (some ⟨gb, x.1 * 17, none⟩) := ha.at' (d := 23) (i := 2) (by kernel_rfl) (hL { on := 2, ground := Ground.data } (by simp) rfl)
          unfold execOp
          simp [go_sem, e23]
        | 4, ho =>
          cases ho
          refine stepOk_run rfl rfl rfl (fun _ _ => rfl) ?_
          intro L a w' ha hL hC
          have e24 : a.tmps[24]?.getD undef = .pointer (some ⟨gb, x.1 * 17 + 16, none⟩) := ha.at' (d := 24) (i := 3) (by kernel_rfl) (hL { on := 3, ground := Ground.data } (by simp) rfl)
          have e := g3 _ _ hC
          unfold execOp
          simp [go_sem, e24, e]
        | 5, ho =>
          cases ho
          refine stepOk_run rfl rfl rfl (fun _ _ => rfl) ?_
          intro L a w' ha hL hC
          have e11 : a.tmps[11]?.getD undef = .pointer (some ⟨w.heap.size + 1 + 1 + 1 + 1 + 1 + 1 + 1, 0, none⟩) := ha.base' (d := 11) (by kernel_rfl)
          have e := g2 _ _ hC
          unfold execOp
          simp [go_sem, e11, e]
        | 6, ho =>
          cases ho
          refine stepOk_run rfl rfl rfl (fun _ _ => rfl) ?_
          intro L a w' ha hL hC
          have e13 : a.tmps[13]?.getD undef = .int .i64 x.1 := ha.base' (d := 13) (by kernel_rfl)
          unfold execOp
          simp [go_sem, e13]
        | 7, ho =>
          simp at ho
          subst ho
          intro L a w' ha hL hL7 hC
          have e26 : a.tmps[26]?.getD undef = .func (.func 62) #[] #[.pointer (some ⟨w.heap.size + 1 + 1 + 1 + 1 + 1 + 1, 0, none⟩), .pointer (some ⟨w.heap.size + 1 + 1 + 1 + 1 + 1, 0, none⟩), .pointer (some ⟨w.heap.size, 0, none⟩), .pointer (some ⟨w.heap.size + 1 + 1, 0, none⟩), .pointer (some ⟨w.heap.size + 1 + 1 + 1, 0, none⟩)] := ha.at' (d := 26) (i := 5) (by kernel_rfl) (hL { on := 5, ground := Ground.data } (by simp) rfl)
          have e27 : a.tmps[27]?.getD undef = .int .i64 x.1 := ha.at' (d := 27) (i := 6) (by kernel_rfl) (hL { on := 6, ground := Ground.data } (by simp) rfl)
          rw [hL7] at hC
          obtain rfl : w' = W.drew := hC
          refine ⟨rfl, fun K hK => ?_⟩
          simp [go_sem, e26, e27]
          refine ⟨trivial, (CallsIn.inRound l (callsIn_wide.2 H62.out)).mono ?_⟩
          rintro e w'' ⟨rfl, rfl⟩
          exact hK _ (by simp)
        | 8, ho =>
          cases ho
          refine stepOk_run rfl rfl rfl (fun _ _ => rfl) ?_
          intro L a w' ha hL hC
          have e25 : a.tmps[25]?.getD undef = .int .i64 (bC x.1) := ha.at' (d := 25) (i := 4) (by kernel_rfl) (hL { on := 4, ground := Ground.data } (by simp) rfl)
          have e28 : a.tmps[28]?.getD undef = .int .i64 V := ha.at' (d := 28) (i := 7) (by kernel_rfl) (hL { on := 7, ground := Ground.data } (by simp) rfl)
          unfold execOp
          simp [go_sem, e25, e28, hw1]
        | 9, ho =>
          cases ho
          refine stepOk_run rfl rfl rfl (fun _ _ => rfl) ?_
          intro L a w' ha hL hC
          have e29 : a.tmps[29]?.getD undef = .int .i64 (bC x.1 + V) := ha.at' (d := 29) (i := 8) (by kernel_rfl) (hL { on := 8, ground := Ground.data } (by simp) rfl)
          unfold execOp
          simp [go_sem, e29]
        | k + 10, ho => simp at ho
      · intro w' hw'
        obtain rfl : w' = W3 := hw'
        exact ⟨rfl, rfl, .slice (some ⟨gb, 0, none⟩) m capb, .int .i64 x.1, .pointer (some ⟨gb, x.1 * 17, none⟩), .pointer (some ⟨gb, x.1 * 17 + 16, none⟩), .int .i64 (bC x.1), .func (.func 62) #[] #[.pointer (some ⟨w.heap.size + 1 + 1 + 1 + 1 + 1 + 1, 0, none⟩), .pointer (some ⟨w.heap.size + 1 + 1 + 1 + 1 + 1, 0, none⟩), .pointer (some ⟨w.heap.size, 0, none⟩), .pointer (some ⟨w.heap.size + 1 + 1, 0, none⟩), .pointer (some ⟨w.heap.size + 1 + 1 + 1, 0, none⟩)], .int .i64 x.1, .int .i64 V, .int .i64 (bC x.1 + V), by kernel_rfl⟩
    · rintro e a' w' ⟨rfl, rfl, u21, u22, u23, u24, u25, u26, u27, u28, u29, rfl⟩
      have c5 := hi3.b5.cell 0
      have hbd1 : 0 ≤ S + g xs x.1 := by omega
      have hbd2 : S + g xs x.1 ≤ (pre.length + 1 : Nat) * 1048576 := by omega
      have hbd3 : 0 ≤ H + S := by omega
      have hbd4 : H + S ≤ (pre.length + 1 : Nat) * 16777216 := by omega
      by_cases hz : S + g xs x.1 = 0
      · have hzb : (S + g xs x.1 == 0) = true := by simp [hz]
        have HZ := Lib.hid hz
        clear hz
        gi_wp2
        have hst : foldL st h (g xs) bS bC (pre ++ [x]) = ⟨H + S, S + g xs x.1, fd, SS, C⟩ := by
          rw [foldL_snoc, HS.out]; simp only [stepL]; rw [if_pos HZ.out]
        exact ⟨hk3, trivial, INext.mk_ hst hi3 hbd1 hbd2 hbd3 hbd4⟩
      · have hzb : (S + g xs x.1 == 0) = false := by simp [hz]
        have HZ := Lib.hid hz
        clear hz
        have hup := hb3.2 x.1 (by omega)
        have hcu := UP_set (bS x.1) (bC x.1 + V) (i := x.1) (by omega)
        have hins := UP_ins (bS x.1) (bC x.1 + V) (d := x.1) (by omega)
        have hcc := UP_cost (ins (bS x.1) x.1) (bC x.1 + V)
        have c8 := hi3.b8.cell 0
        have c4 := hi3.b4.cell 16
        rw [UP_cost] at c4
        have hzz : w.heap.size + 1 + 1 + 1 + 1 + 1 + 1 + 1 + 1 < w'.heap.size := hi3.b8.lt
        have hi4 := hi3.later (((Below.refl _ w').alloc (Nat.le_refl _) (.cells (UP (ins (bS x.1) x.1) (bC x.1 + V)) 62)))
        have hbn := Blk.new w' 62 (UP (ins (bS x.1) x.1) (bC x.1 + V))
        have c44 := hi4.b4.cell 16
        rw [UP_cost] at c44
        have hk4 := hk3.trans (KeepsOthers.alloc w' (.cells (UP (ins (bS x.1) x.1) (bC x.1 + V)) 62))
        cases fd
        · gi_wp2_with (first
            | (refine wpListIn_load_mid rfl 60 (.tmp 35) rfl gb (x.1 * 17) rfl (BS (bS x.1)) hup.range under60 (by rw [BS_size]; exact size60) ?_)
            | (refine wpListIn_build62 rfl (.tmp 36) (.tmp 37) rfl (bS x.1) (bC x.1 + V) rfl rfl ?_)
            | (refine wpListIn_store_row rfl 62 (.tmp 15) (.tmp 38) rfl w'.heap.size 62 _ (UP (bS x.1) (bC x.1 + V)) rfl rfl (Blk.new w' 62 _) (by rw [UP_size]; exact size62) (by rw [UP_size]; rfl) (UP_one _ _) ?_; rw [setRow_new])
            | (refine wpListIn_skipW (o := ⟨some 62, _, _, _, _, _⟩) rfl (fun _ => trivial) ?_)
            | (refine wpListIn_load_mid rfl 62 (.tmp 15) rfl w'.heap.size 0 rfl (UP (ins (bS x.1) x.1) (bC x.1 + V)) (Blk.rangeAt hbn) under62 (by rw [UP_size]; exact size62) ?_)
            | (refine wpListIn_store_row rfl 62 (.tmp 8) (.tmp 65) rfl (w.heap.size + 1 + 1 + 1 + 1) 62 (UP SS C) (UP (ins (bS x.1) x.1) (bC x.1 + V)) rfl rfl hi4.b4 (by rw [UP_size]; exact size62) (by rw [UP_size, UP_size]) (UP_one _ _) ?_; have c8' := (hi4.b8.rowFar (b' := w.heap.size + 1 + 1 + 1 + 1) (by omega) (UP (ins (bS x.1) x.1) (bC x.1 + V))).cell 0; have f8' := (hi4.b8.rowFar (b' := w.heap.size + 1 + 1 + 1 + 1) (by omega) (UP (ins (bS x.1) x.1) (bC x.1 + V))).frozen 0))
          have hst := (foldL_snoc st h (g xs) bS bC pre x).trans ((congrArg (fun s => stepL st h (g xs) bS bC s x.1) HS.out).trans (stepL_take HZ.out hV.out rfl))
          exact ⟨(hk4.trans (keepsOthers_setRow hi4.b4 _)).trans (KeepsOthers.setCell _ _ _), trivial, INext.mk_ hst (hi4.take _ _) hbd1 hbd2 hbd3 hbd4⟩
        · by_cases hlt : bC x.1 + V < C
          · gi_wp2_with (first
            | (refine wpListIn_load_mid rfl 60 (.tmp 35) rfl gb (x.1 * 17) rfl (BS (bS x.1)) hup.range under60 (by rw [BS_size]; exact size60) ?_)
            | (refine wpListIn_build62 rfl (.tmp 36) (.tmp 37) rfl (bS x.1) (bC x.1 + V) rfl rfl ?_)
            | (refine wpListIn_store_row rfl 62 (.tmp 15) (.tmp 38) rfl w'.heap.size 62 _ (UP (bS x.1) (bC x.1 + V)) rfl rfl (Blk.new w' 62 _) (by rw [UP_size]; exact size62) (by rw [UP_size]; rfl) (UP_one _ _) ?_; rw [setRow_new])
            | (refine wpListIn_skipW (o := ⟨some 62, _, _, _, _, _⟩) rfl (fun _ => trivial) ?_)
            | (refine wpListIn_load_mid rfl 62 (.tmp 15) rfl w'.heap.size 0 rfl (UP (ins (bS x.1) x.1) (bC x.1 + V)) (Blk.rangeAt hbn) under62 (by rw [UP_size]; exact size62) ?_)
            | (refine wpListIn_store_row rfl 62 (.tmp 8) (.tmp 65) rfl (w.heap.size + 1 + 1 + 1 + 1) 62 (UP SS C) (UP (ins (bS x.1) x.1) (bC x.1 + V)) rfl rfl hi4.b4 (by rw [UP_size]; exact size62) (by rw [UP_size, UP_size]) (UP_one _ _) ?_; have c8' := (hi4.b8.rowFar (b' := w.heap.size + 1 + 1 + 1 + 1) (by omega) (UP (ins (bS x.1) x.1) (bC x.1 + V))).cell 0; have f8' := (hi4.b8.rowFar (b' := w.heap.size + 1 + 1 + 1 + 1) (by omega) (UP (ins (bS x.1) x.1) (bC x.1 + V))).frozen 0))
            have hst := (foldL_snoc st h (g xs) bS bC pre x).trans ((congrArg (fun s => stepL st h (g xs) bS bC s x.1) HS.out).trans (stepL_take HZ.out hV.out (by simp [takes, hlt])))
            exact ⟨(hk4.trans (keepsOthers_setRow hi4.b4 _)).trans (KeepsOthers.setCell _ _ _), trivial, INext.mk_ hst (hi4.take _ _) hbd1 hbd2 hbd3 hbd4⟩
          · by_cases heq : bC x.1 + V = C
            · have HEQ := Lib.hid heq
              have heb : (bC x.1 + V == C) = true := by simp [heq]
              clear heq
              have h64 := fun w1 => callsIn_wide.1 (before_in (ins (bS x.1) x.1) SS w1)
              cases hbv : bef (ins (bS x.1) x.1) SS 16
              · rw [hbv] at h64
                have HBV := Lib.hid hbv
                have H64 := Lib.hid h64
                clear h64 hbv
                gi_wp2_with (first
            | (refine wpListIn_load_mid rfl 60 (.tmp 35) rfl gb (x.1 * 17) rfl (BS (bS x.1)) hup.range under60 (by rw [BS_size]; exact size60) ?_)
            | (refine wpListIn_build62 rfl (.tmp 36) (.tmp 37) rfl (bS x.1) (bC x.1 + V) rfl rfl ?_)
            | (refine wpListIn_store_row rfl 62 (.tmp 15) (.tmp 38) rfl w'.heap.size 62 _ (UP (bS x.1) (bC x.1 + V)) rfl rfl (Blk.new w' 62 _) (by rw [UP_size]; exact size62) (by rw [UP_size]; rfl) (UP_one _ _) ?_; rw [setRow_new])
            | (refine wpListIn_load_midG rfl 60 (.tmp 58) rfl w'.heap.size 0 rfl (BS (ins (bS x.1) x.1)) hbn.rangeUp under60 (by rw [BS_size]; exact size60) ?_)
            | (refine wpListIn_load_midG rfl 60 (.tmp 60) rfl (w.heap.size + 1 + 1 + 1 + 1) 0 rfl (BS SS) hi4.b4.rangeUp under60 (by rw [BS_size]; exact size60) ?_)
            | (refine ⟨trivial, ?_⟩; gi_at_call 64; refine (CallsIn.inRound l (callsIn_wide.2 (H64.out _))).mono ?_; rintro e wb ⟨rfl, hbb⟩))
                have hst := (foldL_snoc st h (g xs) bS bC pre x).trans ((congrArg (fun s => stepL st h (g xs) bS bC s x.1) HS.out).trans (stepL_keep HZ.out hV.out (by simp [takes, HBV.out, hlt])))
                exact ⟨hk4.trans (keepsOthers_below hbb (Nat.le_refl _)), trivial, INext.mk_ hst (hi4.later hbb) hbd1 hbd2 hbd3 hbd4⟩
              · rw [hbv] at h64
                have HBV := Lib.hid hbv
                have H64 := Lib.hid h64
                clear h64 hbv
                gi_wp2_with (first
            | (refine wpListIn_load_mid rfl 60 (.tmp 35) rfl gb (x.1 * 17) rfl (BS (bS x.1)) hup.range under60 (by rw [BS_size]; exact size60) ?_)
            | (refine wpListIn_build62 rfl (.tmp 36) (.tmp 37) rfl (bS x.1) (bC x.1 + V) rfl rfl ?_)
            | (refine wpListIn_store_row rfl 62 (.tmp 15) (.tmp 38) rfl w'.heap.size 62 _ (UP (bS x.1) (bC x.1 + V)) rfl rfl (Blk.new w' 62 _) (by rw [UP_size]; exact size62) (by rw [UP_size]; rfl) (UP_one _ _) ?_; rw [setRow_new])
            | (refine wpListIn_load_midG rfl 60 (.tmp 58) rfl w'.heap.size 0 rfl (BS (ins (bS x.1) x.1)) hbn.rangeUp under60 (by rw [BS_size]; exact size60) ?_)
            | (refine wpListIn_load_midG rfl 60 (.tmp 60) rfl (w.heap.size + 1 + 1 + 1 + 1) 0 rfl (BS SS) hi4.b4.rangeUp under60 (by rw [BS_size]; exact size60) ?_)
            | (refine ⟨trivial, ?_⟩; gi_at_call 64; refine (CallsIn.inRound l (callsIn_wide.2 (H64.out _))).mono ?_; rintro e wb ⟨rfl, hbb⟩)
            | (refine wpListIn_load_mid rfl 62 (.tmp 15) rfl w'.heap.size 0 rfl (UP (ins (bS x.1) x.1) (bC x.1 + V)) (Blk.rangeAt (hbn.below (by assumption) hbn.lt)) under62 (by rw [UP_size]; exact size62) ?_)
            | (refine wpListIn_store_row rfl 62 (.tmp 8) (.tmp 65) rfl (w.heap.size + 1 + 1 + 1 + 1) 62 (UP SS C) (UP (ins (bS x.1) x.1) (bC x.1 + V)) rfl rfl (hi4.later (by assumption)).b4 (by rw [UP_size]; exact size62) (by rw [UP_size, UP_size]) (UP_one _ _) ?_; have c8' := ((hi4.later (by assumption)).b8.rowFar (b' := w.heap.size + 1 + 1 + 1 + 1) (by omega) (UP (ins (bS x.1) x.1) (bC x.1 + V))).cell 0; have f8' := ((hi4.later (by assumption)).b8.rowFar (b' := w.heap.size + 1 + 1 + 1 + 1) (by omega) (UP (ins (bS x.1) x.1) (bC x.1 + V))).frozen 0))
                have hst := (foldL_snoc st h (g xs) bS bC pre x).trans ((congrArg (fun s => stepL st h (g xs) bS bC s x.1) HS.out).trans (stepL_take HZ.out hV.out (by simp [takes, HBV.out, HEQ.out])))
                exact ⟨((hk4.trans (keepsOthers_below hbb (Nat.le_refl _))).trans (keepsOthers_setRow (hi4.later hbb).b4 _)).trans (KeepsOthers.setCell _ _ _), trivial, INext.mk_ hst ((hi4.later hbb).take _ _) hbd1 hbd2 hbd3 hbd4⟩
            · have HEQ := Lib.hid heq
              have heb : (bC x.1 + V == C) = false := by simp [heq]
              clear heq
              gi_wp2_with (first
            | (refine wpListIn_load_mid rfl 60 (.tmp 35) rfl gb (x.1 * 17) rfl (BS (bS x.1)) hup.range under60 (by rw [BS_size]; exact size60) ?_)
            | (refine wpListIn_build62 rfl (.tmp 36) (.tmp 37) rfl (bS x.1) (bC x.1 + V) rfl rfl ?_)
            | (refine wpListIn_store_row rfl 62 (.tmp 15) (.tmp 38) rfl w'.heap.size 62 _ (UP (bS x.1) (bC x.1 + V)) rfl rfl (Blk.new w' 62 _) (by rw [UP_size]; exact size62) (by rw [UP_size]; rfl) (UP_one _ _) ?_; rw [setRow_new])
            | (refine wpListIn_skipW (o := ⟨some 62, _, _, _, _, _⟩) rfl (fun _ => trivial) ?_))
              have hst := (foldL_snoc st h (g xs) bS bC pre x).trans ((congrArg (fun s => stepL st h (g xs) bS bC s x.1) HS.out).trans (stepL_keep HZ.out hV.out (by simp [takes, HEQ.out, hlt])))
              exact ⟨hk4, trivial, INext.mk_ hst hi4 hbd1 hbd2 hbd3 hbd4⟩
  case done =>
    rintro D ys W hD rfl ⟨hi, hS0, hS1, hH0, hH1⟩ hK
    gi_wp2_with (first
      | (refine wpListIn_load_mid rfl 62 (.tmp 8) rfl (w.heap.size + 1 + 1 + 1 + 1) 0 rfl (UP (foldL st h (g xs) bS bC (dn n n)).set (foldL st h (g xs) bS bC (dn n n)).c) (Blk.rangeAt hi.b4) under62 (by rw [UP_size]; exact size62) ?_)
      | (refine wpListIn_store_row rfl 62 (.tmp 8) (.tmp 66) rfl (w.heap.size + 1 + 1 + 1 + 1) 62 (UP (foldL st h (g xs) bS bC (dn n n)).set (foldL st h (g xs) bS bC (dn n n)).c) (UP (foldL st h (g xs) bS bC (dn n n)).set (foldL st h (g xs) bS bC (dn n n)).c) rfl rfl hi.b4 (by rw [UP_size]; exact size62) rfl (UP_one _ _) ?_))
    have hK' := (keepsOthers_setRow hi.b4 (UP (foldL st h (g xs) bS bC (dn n n)).set (foldL st h (g xs) bS bC (dn n n)).c)).same D _ hK rfl
    have hb4 := hi.b4.row (UP (foldL st h (g xs) bS bC (dn n n)).set (foldL st h (g xs) bS bC (dn n n)).c)
    have hbl := below_setRow hi.below (b := w.heap.size + 1 + 1 + 1 + 1) (by omega) (UP (foldL st h (g xs) bS bC (dn n n)).set (foldL st h (g xs) bS bC (dn n n)).c)
    refine ⟨by simp, .inl ⟨_, _, rfl, run_takeDeferred hK', ?_⟩⟩
    have hb5 := hb4.grown (grownBy_putObj' _ D (.deferred none)) (fun e => by have := Option.some.inj e; omega)
    exact ⟨_, results_cell_row (p := 8) rfl _ _ (w.heap.size + 1 + 1 + 1 + 1) 62 _ (0, 0) _ rfl hb5 Try.underlying62 rfl (by rw [UP_size]; exact size62), rfl, hbl.trans (belowK_b (w := w) (Nat.le_refl _) _ D _ _ (by omega) hK' rfl rfl)⟩
  case stop =>
    rintro D c pre W _ _ hf
    exact hf.elim

end Go.Proofs.Ytkbnbdpdmcnkiaa
