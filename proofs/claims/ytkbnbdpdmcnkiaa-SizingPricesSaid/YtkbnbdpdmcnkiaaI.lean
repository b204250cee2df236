/- sizing.days.before. -/
import Derived.Test.YtkbnbdpdmcnkiaaH
import Derived.Sort.QuietIn
namespace Go.Proofs.Ytkbnbdpdmcnkiaa
open Go.RowKit Go.Shelf Go.BigFrame

attribute [local go_sem] Oper.semAt_some

/-- The cells of a set of days. -/
def BS (S : Nat → Bool) : Array Value := ((List.range 16).map fun i => Value.bool (S i)).toArray
theorem BS_size (S : Nat → Bool) : (BS S).size = 16 := by simp [BS]
theorem BS_at (S : Nat → Bool) {i : Nat} (h : i < 16) : (BS S)[i]? = some (.bool (S i)) := by simp [BS, h]
theorem BS_set (S : Nat → Bool) (d : Nat) : (BS S).setIfInBounds d (.bool true) = BS (ins S d) := by
  apply Array.ext
  · simp [BS]
  · intro i h1 h2
    have hi : i < 16 := by simpa [BS] using h2
    rw [Array.getElem_setIfInBounds (by simpa using h1)]
    by_cases e : d = i
    · subst e; simp [BS, ins]
    · simp [BS, ins, e, Ne.symm e]

section
variable {F : Fence} {n : Nat} {P : Program} {ops : Array Oper} {md : Region.Mode} {C : World → Prop}

theorem semAt_nd {o : Oper} (hd : ∀ c, o.op ≠ .defer c) (r : Option Nat) (ρ : Operand → Value) : o.semAt r ρ = execOp ρ o := by
  cases r with
  | none => exact Oper.semAt_none _ _
  | some l => exact Oper.semAt_some l _ _ hd

/-- A quiet operation that is no defer statement, in a round or not. -/
theorem wpIn_of_quiet_nd {o : Oper} {a : Act} {K : Act → Prop} {K' : Act → World → Prop} {Q' : Exit → Act → World → Prop} {w : World} (hd : ∀ c, o.op ≠ .defer c) (hw : C w) (h : ∀ a w', C w' → K a → K' a w')
    (ha : o.askedIn F P a C) (hh : o.quietIn F n P a C K) : o.wpIn F n P a w K' Q' := by
  obtain ⟨v, h1, h2⟩ := hh
  have h3 := h1 w hw
  unfold Oper.quietAtIn at h3
  unfold Oper.wpIn
  refine ⟨ha w hw, ?_⟩
  rw [semAt_nd hd]
  generalize (execOp a.eval o).run P w = r at *
  cases r with
  | ok x w' =>
    cases x <;> simp only [Oper.quietUponIn] at h3 <;> simp only [Oper.uponIn]
    case value u =>
      obtain ⟨e1, e2⟩ := h3
      rw [e1, e2]
      exact h _ _ hw h2
    case skip =>
      obtain ⟨e1, e2⟩ := h3
      rw [e1, ← e2]
      exact h _ _ hw h2
    case enter f args =>
      obtain ⟨e1, hd, hc⟩ := h3
      rw [e1]
      exact ⟨hd, hc.mono fun e w'' ⟨he, hw''⟩ => by subst he; exact h _ _ hw'' h2⟩
  | halt x w' => simp only [Oper.quietUponIn] at h3

theorem wpOpIn_of_qOpIn_nd {i : Nat} {a : Act} {K : Act → Prop} {K' : Act → World → Prop} {Q' : Exit → Act → World → Prop} {w : World} (hd : ∀ o c, ops[i]? = some o → o.op ≠ .defer c) (hC : C w) (h : ∀ a w', C w' → K a → K' a w')
    (hh : qOpIn F n P ops C i K a) : wpOpIn F n P ops Q' i K' a w := by
  unfold qOpIn at hh
  unfold wpOpIn
  split
  · rename_i ho; simp only [ho] at hh; exact h _ _ hC hh
  · rename_i o ho
    simp only [ho] at hh
    obtain ⟨ha, hh⟩ := hh
    split
    · rename_i hw; simp only [hw, if_true] at hh; exact wpIn_of_quiet_nd (fun c => hd o c ho) hC h ha hh
    · rename_i hw; simp only [hw] at hh; exact ⟨ha w hC, h _ _ hC hh⟩

theorem wpAnyIn_of_quiet_nd {Q : Act → Prop} {Q' : Exit → Act → World → Prop} (hd : ∀ (i : Nat) o c, ops[i]? = some o → o.op ≠ .defer c) (hQ : ∀ a w, C w → Q a → Q' .normal a w) : ∀ (fuel : Nat) (listed : Array Bool) (a : Act) (w : World), C w →
    wpAnyQIn F n P md ops C Q fuel listed a → wpAnyIn F n P md ops Q' fuel listed a w
  | 0, _, _, _, hw, h => ⟨h.1, hQ _ _ hw h.2⟩
  | fuel + 1, _, _, _, hw, h => ⟨fun h0 => hQ _ _ hw (h.1 h0), fun i hi => wpOpIn_of_qOpIn_nd (hd i) hw (fun a' w' hw' => wpAnyIn_of_quiet_nd hd hQ fuel _ a' w' hw') (h.2 i hi)⟩

def noDefer : Oper → Bool
  | ⟨_, .defer _, _, _, _, _⟩ => false
  | _ => true
theorem noDefer_of {o : Oper} (h : noDefer o = true) (c : Call) : o.op ≠ .defer c := by
  intro e
  obtain ⟨_, op, _, _, _, _⟩ := o
  dsimp only at e
  subst e
  cases h

/-- A region that draws its order and only reads, in a round or not: one walk of the order of the text. -/
theorem wpIn_region_quiet_nd {id : Nat} {Q : Exit → Act → World → Prop} {a : Act} {w : World} {l : List Oper} (hnd : l.all noDefer = true) (hm : P.follows .mixedOrders = true) (hB : Region.lexB .any l.toArray = true)
    (h : wpQuietIn F n P l.toArray (fun w' => ∃ n, w' = w.drewN n) (fun a' => ∀ w', (∃ n, w' = w.drewN n) → Q .normal a' w') l a) : (Code.region id l.toArray true).wpIn F n P Q a w := by
  simp only [Region.lexB, Bool.and_eq_true] at hB
  refine wpIn_region_any hm (wpAnyIn_of_quiet_nd (C := fun w' => ∃ n, w' = w.drewN n) (Q := fun a' => ∀ w', (∃ n, w' = w.drewN n) → Q .normal a' w') ?_ (fun _ w' hw' h => h w' hw') _ _ _ _ ⟨1, rfl⟩ ?_)
  · intro i o c ho
    refine noDefer_of ?_ c
    rw [List.all_eq_true] at hnd
    exact hnd o (by
      have : l[i]? = some o := by simpa using ho
      exact List.mem_of_getElem? this)
  · have := wpAnyQIn_lex (F := F) (n := n) (C := fun w' => ∃ n, w' = w.drewN n) (md := .any) hB.1 l.toArray.toList 0 (Array.replicate l.toArray.size false) a (by simp) (by simpa using hB.2) (by simpa using h)
    simpa using this
end

/-- A block that is known whole. -/
def Blk (w : World) (b : Nat) (t : TypeId) (cs : Array Value) : Prop := w.heap[b]? = some (.cells cs t (0, 0))
section
variable {w w' : World} {b : Nat} {t : TypeId} {cs : Array Value}
theorem Blk.lt (h : Blk w b t cs) : b < w.heap.size := by
  rcases Nat.lt_or_ge b w.heap.size with hlt | hge
  · exact hlt
  · unfold Blk at h; rw [Array.getElem?_eq_none hge] at h; cases h
theorem Blk.cell (h : Blk w b t cs) (i : Nat) : w.cell? ⟨b, i, none⟩ = cs[i]? := cell_of_row w b i cs t (0, 0) h
theorem Blk.frozen (h : Blk w b t cs) (i : Nat) : w.frozen? ⟨b, i, none⟩ = false := by
  unfold Blk at h
  simp [World.frozen?, h]
theorem Blk.new (w : World) (t : TypeId) (cs : Array Value) : Blk (w.alloc (.cells cs t)) w.heap.size t cs := heap_alloc_new w _
theorem Blk.drew (h : Blk w b t cs) : Blk w.drew b t cs := h
theorem Blk.drewN (h : Blk w b t cs) (n : Nat) : Blk (w.drewN n) b t cs := h
theorem Blk.alloc (h : Blk w b t cs) (o : Obj) : Blk (w.alloc o) b t cs := (Below.heap_alloc w o b h.lt).trans h
theorem Blk.set_ (h : Blk w b t cs) (i : Nat) (u : Value) : Blk (w.setCell ⟨b, i, none⟩ u) b t (cs.setIfInBounds i u) := by
  unfold Blk at h ⊢
  simp [World.setCell, Array.getElem?_modify, h]
theorem Blk.far (h : Blk w b t cs) {p : Addr} (hp : b ≠ p.block) (u : Value) : Blk (w.setCell p u) b t cs := (Below.heap_setCell w p u b hp).trans h
theorem Blk.below {B : Nat} (h : Blk w b t cs) (hb : Below B w w') (hg : b < B) : Blk w' b t cs := (hb.block b hg).trans h
theorem Blk.grown {row : Option Nat} (h : Blk w b t cs) (hb : w.grownBy w' row) (hg : row ≠ some b) : Blk w' b t cs := (hb.block b h.lt (fun e => hg e.symm)).trans h
theorem Blk.kept {row : Option Nat} (h : Blk w b t cs) (hb : w.grownBy w' row) (hr : ∀ r, row = some r → ∃ o : Obj, w.heap[r]? = some o ∧ o.isCells = false) : Blk w' b t cs :=
  h.grown hb (fun e => by
    obtain ⟨o, ho, hc⟩ := hr b e
    unfold Blk at h
    rw [h] at ho
    cases ho
    cases hc)
end

theorem keepsOthers_drewN (W : World) (n : Nat) : KeepsOthers W (W.drewN n) := ⟨Nat.le_refl _, fun _ _ h _ => h⟩

set_option maxRecDepth 100000 in
set_option maxHeartbeats 1000000 in
theorem before_in (S T : Nat → Bool) (w : World) :
    CallsIn Fence.wide 4 Try.prog 64 #[.agg (BS S), .agg (BS T)] w fun e W' => e = .returned (.bool (bef S T 16)) ∧ Below w.heap.size w W' := by
  refine callsIn_of_wp_marks Try.func64 rfl trivial ?_ rfl
  simp only [Try.ntmps64, List.size_toArray, List.length_cons, List.length_nil, Nat.reduceAdd, Nat.reduceSub, Array.replicate_succ, Array.replicate_zero, List.push_toArray, List.append_toArray, List.nil_append, List.cons_append]
  gi_wp2_with (refine ⟨trivial, ?_⟩; gi_at_call 63; refine (backwards_in _ _).mono ?_; rintro e w' ⟨rfl, rfl⟩)
  have b0 := Blk.new w 60 (BS S)
  have b1 := Blk.new (w.alloc (.cells (BS S) 60)) 60 (BS T)
  have b2 := Blk.new ((w.alloc (.cells (BS S) 60)).alloc (.cells (BS T) 60)) 4 #[.bool false]
  have b3 := Blk.new (((w.alloc (.cells (BS S) 60)).alloc (.cells (BS T) 60)).alloc (.cells #[.bool false] 4)) 3 #[.int .i64 16]
  simp only [World.size_alloc] at b1 b2 b3
  have hB0 : Below w.heap.size w ((((w.alloc (.cells (BS S) 60)).alloc (.cells (BS T) 60)).alloc (.cells #[.bool false] 4)).alloc (.cells #[.int .i64 16] 3)) :=
    ((((Below.refl _ w).alloc (Nat.le_refl _) _).alloc (by simp) _).alloc (by simp; omega) _).alloc (by simp; omega) _
  replace b0 := ((b0.alloc (.cells (BS T) 60)).alloc (.cells #[.bool false] 4)).alloc (.cells #[.int .i64 16] 3)
  replace b1 := (b1.alloc (.cells #[.bool false] 4)).alloc (.cells #[.int .i64 16] 3)
  replace b2 := b2.alloc (.cells #[.int .i64 16] 3)
  refine wpIn_rangeFunc_ownF rfl (by omega) (gf := 68) (lb := #[.pointer (some ⟨w.heap.size + 1 + 1 + 1, 0, none⟩)]) rfl trivial (enters_of Try.func68 (by kernel_rfl) rfl)
    (backwards_stops (w.heap.size + 1 + 1 + 1) 16 (by omega) _ b3.lt (b3.cell 0)) (fun _ _ => trivial) (fun _ _ _ _ _ _ _ _ => trivial) (Below.refl _ _) (fun _ => rfl)
    (fun pre W => (∀ d : Fin 16, d ∈ pre → S d.1 = T d.1) ∧ ((Blk W w.heap.size 60 (BS S) ∧ Blk W (w.heap.size + 1) 60 (BS T) ∧ Blk W (w.heap.size + 1 + 1) 4 #[.bool false]) ∧ Below w.heap.size w W))
    (fun c pre W => c = .ret ∧ (∃ (ini : List (Fin 16)) (d : Fin 16), pre = ini ++ [d] ∧ (∀ d : Fin 16, d ∈ ini → S d.1 = T d.1) ∧ S d.1 ≠ T d.1 ∧ Blk W (w.heap.size + 1 + 1) 4 #[.bool (S d.1)]) ∧ Below w.heap.size w W)
    ?hI ?hIx ?h0
    (fun x => { tmps := #[.agg (BS S), .agg (BS T), .pointer (some ⟨w.heap.size, 0, none⟩), .pointer (some ⟨w.heap.size + 1, 0, none⟩), .pointer (some ⟨w.heap.size + 1 + 1, 0, none⟩), .int .i64 (x.1 : Int), .func (.func 68) #[] #[.pointer (some ⟨w.heap.size + 1 + 1 + 1, 0, none⟩)], .int .i64 (x.1 : Int), undef, undef, undef, undef, undef, undef, undef, undef, undef, undef], defers := [] }) ?assign ?body ?done ?stop
  case hI =>
    intro pre X Y row hs hg hr
    obtain ⟨h1, ⟨h2, h3, h4⟩, h5⟩ := hs
    have hr' : ∀ r, row = some r → ∃ o : Obj, X.heap[r]? = some o ∧ o.isCells = false := fun r e => (hr r e).2
    exact ⟨h1, ⟨h2.kept hg hr', h3.kept hg hr', h4.kept hg hr'⟩, h5.grown hg h5.size (fun r e => by have := (hr r e).1; simp at this; omega)⟩
  case hIx =>
    intro c pre X Y row hs hg hr
    obtain ⟨h1, ⟨ini, d, h2, h3, h4, h5⟩, h6⟩ := hs
    have hr' : ∀ r, row = some r → ∃ o : Obj, X.heap[r]? = some o ∧ o.isCells = false := fun r e => (hr r e).2
    exact ⟨h1, ⟨ini, d, h2, h3, h4, h5.kept hg hr'⟩, h6.grown hg h6.size (fun r e => by have := (hr r e).1; simp at this; omega)⟩
  case h0 => exact ⟨by simp, ⟨b0, b1, b2⟩, hB0⟩
  case assign =>
    intro l x W K hK
    gi_wp2
    exact hK
  case body =>
    rintro l pre x W ⟨hp, ⟨h1, h2, h3⟩, hB⟩ hlen
    have hx := x.2
    have c1 := h1.cell x.1
    have c2 := h2.cell x.1
    rw [BS_at S hx] at c1
    rw [BS_at T hx] at c2
    have hx0 : (0 : Int) ≤ (x.1 : Int) := by omega
    have hx1 : (x.1 : Int) < 16 := by omega
    by_cases he : S x.1 = T x.1
    · have HE := Lib.hid he
      have hne : (!S x.1 == T x.1) = false := by simp [he]
      clear he
      gi_wp2
      refine wpIn_region_quiet_nd (by kernel_rfl) (by kernel_rfl) (by kernel_rfl) ?_
      repeat (gi_big_quiet_step (fail))
      refine wpQuietIn_nil ?_
      intro _ hw'
      obtain ⟨nq, hw''⟩ := hw'
      subst hw''
      gi_wp2
      refine ⟨keepsOthers_drewN W nq, trivial, ?_, ⟨h1.drewN nq, h2.drewN nq, h3.drewN nq⟩, below_drewN hB nq⟩
      intro d hd
      rcases List.mem_append.1 hd with hd | hd
      · exact hp d hd
      · obtain rfl := List.mem_singleton.1 hd
        exact HE.out
    · have HE := Lib.hid he
      have hne : (!S x.1 == T x.1) = true := by simpa using he
      clear he
      have c3 := h3.cell 0
      have f3 := h3.frozen 0
      gi_wp2
      refine wpIn_region_quiet_nd (by kernel_rfl) (by kernel_rfl) (by kernel_rfl) ?_
      repeat (gi_big_quiet_step (fail))
      refine wpQuietIn_nil ?_
      intro _ hw'
      obtain ⟨nq, hw''⟩ := hw'
      subst hw''
      gi_wp2
      refine ⟨(KeepsOthers.setCell W ⟨w.heap.size + 1 + 1, 0, none⟩ (.bool (S x.1))).trans (keepsOthers_drewN _ nq), rfl, ⟨pre, x, rfl, hp, HE.out, (h3.set_ 0 (.bool (S x.1))).drewN nq⟩, below_drewN (hB.setCell (p := ⟨w.heap.size + 1 + 1, 0, none⟩) (by simp; omega) _) nq⟩
  case done =>
    rintro D ys W hD rfl ⟨hp, ⟨h1, h2, h3⟩, hB⟩ hK
    have c3 := h3.cell 0
    have f3 := h3.frozen 0
    gi_wp2
    have hK' := (KeepsOthers.setCell W ⟨w.heap.size + 1 + 1, 0, none⟩ (.bool false)).same D _ hK rfl
    have hDne : D ≠ w.heap.size + 1 + 1 := by simp at hD; omega
    refine ⟨by simp, .inl ⟨_, _, rfl, run_takeDeferred hK', ?_⟩⟩
    have hc5 := ((h3.set_ 0 (.bool false)).grown (grownBy_putObj' _ D (.deferred none)) (fun e => hDne (Option.some.inj e))).cell 0
    refine ⟨.bool false, ?_, ?_, (hB.setCell (p := ⟨w.heap.size + 1 + 1, 0, none⟩) (by simp; omega) _).trans (belowK_b (w := w) (Nat.le_refl _) _ D _ _ (by simp at hD; omega) hK' rfl rfl)⟩
    · simp [results, Try.f64, go_sem, hc5]
    · have e := bef_skip (S := S) (T := T) (k := 0) (fun i _ h16 => hp ⟨i, h16⟩ ((dn_mem (Nat.le_refl _) _).2 (by simp))) (by omega)
      rw [e]
      rfl
  case stop =>
    rintro D c pre W hD ⟨k, hk, rfl⟩ ⟨rfl, ⟨ini, d, e1, h2, h3, h4⟩, hB⟩ hK
    gi_wp2
    have hDne : D ≠ w.heap.size + 1 + 1 := by simp at hD; omega
    refine ⟨by simp, .inl ⟨_, _, rfl, run_takeDeferred hK, ?_⟩⟩
    have hc5 := (h4.grown (grownBy_putObj' _ D (.deferred none)) (fun e => hDne (Option.some.inj e))).cell 0
    refine ⟨.bool (S d.1), ?_, ?_, hB.trans (belowK_b (w := w) (Nat.le_refl _) W D _ _ (by simp at hD; omega) hK rfl rfl)⟩
    · simp [results, Try.f64, go_sem, hc5]
    · obtain ⟨k', rfl⟩ : ∃ k', k = k' + 1 := by
        cases k with
        | zero => simp [dn] at e1
        | succ k' => exact ⟨k', rfl⟩
      rw [dn_succ (by omega)] at e1
      obtain ⟨rfl, e5⟩ := List.append_inj' e1 rfl
      obtain rfl : _ = d := by simpa using e5
      have e := bef_skip (S := S) (T := T) (k := 16 - k') (fun i hi h16 => h2 ⟨i, h16⟩ ((dn_mem (by omega) _).2 hi)) (by omega)
      rw [e, show 16 - k' = (16 - 1 - k') + 1 by omega]
      simp only [bef]
      rw [if_neg h3]

end Go.Proofs.Ytkbnbdpdmcnkiaa
