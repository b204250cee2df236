/- Words and laws for sizing.upto, a struct of 17 cells, in a block of its own or in a slice. -/
import Derived.Test.YtkbnbdpdmcnkiaaJ
import Derived.Deep.MidRow
namespace Go.Proofs.Ytkbnbdpdmcnkiaa
open Go.RowKit Go.Shelf

/-- The cells of an upto. -/
def UP (S : Nat → Bool) (c : Int) : Array Value := (BS S).push (.int .i64 c)
theorem UP_size (S : Nat → Bool) (c : Int) : (UP S c).size = 17 := by simp [UP, BS]
theorem UP_set (S : Nat → Bool) (c : Int) {i : Nat} (h : i < 16) : (UP S c)[i]? = some (.bool (S i)) := by
  unfold UP
  rw [Array.getElem?_push, if_neg (by rw [BS_size]; omega)]
  exact BS_at S h
theorem UP_cost (S : Nat → Bool) (c : Int) : (UP S c)[16]? = some (.int .i64 c) := by
  unfold UP
  rw [Array.getElem?_push, if_pos (by rw [BS_size])]
theorem UP_ins (S : Nat → Bool) (c : Int) {d : Nat} (h : d < 16) : (UP S c).setIfInBounds d (.bool true) = UP (ins S d) c := by
  unfold UP
  rw [← BS_set S d]
  apply Array.ext
  · simp
  · intro i h1 h2
    rw [Array.getElem_setIfInBounds (by simpa using h1)]
    have hb : (BS S).size = 16 := BS_size S
    by_cases e : i = 16
    · subst e
      rw [if_neg (by omega)]
      simp [Array.getElem_push, hb]
    · have hi : i < 16 := by simp [BS] at h2; omega
      simp only [Array.getElem_push, hb, Array.size_setIfInBounds]
      rw [dif_pos hi, dif_pos hi, Array.getElem_setIfInBounds (by omega)]
theorem UP_one (S : Nat → Bool) (c : Int) : (UP S c).all (·.oneCell') = true := by kernel_rfl
theorem BS_one (S : Nat → Bool) : (BS S).all (·.oneCell') = true := by kernel_rfl

theorem under60 : ∃ d, Try.prog.underlying 60 = some d ∧ d.isRow = true := ⟨_, Try.underlying60, rfl⟩
theorem under62 : ∃ d, Try.prog.underlying 62 = some d ∧ d.isRow = true := ⟨_, Try.underlying62, rfl⟩
theorem size60 : (Try.prog.info? 60).map (·.size) = some 16 := by kernel_rfl
theorem size62 : (Try.prog.info? 62).map (·.size) = some 17 := by kernel_rfl

theorem run_build62 (S : Nat → Bool) (c : Int) (w : World) : (Instr.build 62 #[(0, .agg (BS S)), (1, .int .i64 c)]).run Try.prog w = .ok (.agg (UP S c)) w := by kernel_rfl
theorem run_build62_0 (w : World) : (Instr.build 62 #[]).run Try.prog w = .ok (.agg (UP (fun _ => false) 0)) w := by kernel_rfl

/-- The element j of a slice of uptos, in block b. -/
def UpAt (w : World) (b j : Nat) (S : Nat → Bool) (c : Int) : Prop := ∀ i v, (UP S c)[i]? = some v → w.cell? ⟨b, j * 17 + i, none⟩ = some v
theorem UpAt.cost {w : World} {b j : Nat} {S : Nat → Bool} {c : Int} (h : UpAt w b j S c) : w.cell? ⟨b, j * 17 + 16, none⟩ = some (.int .i64 c) := h 16 _ (UP_cost S c)
theorem UpAt.range {w : World} {b j : Nat} {S : Nat → Bool} {c : Int} (h : UpAt w b j S c) : w.rangeAt b (j * 17) (BS S).toList := fun i v hv => by
  have hi : i < 16 := by have := (List.getElem?_eq_some_iff.1 hv).1; simpa [BS] using this
  have e : (BS S)[i]? = some v := by simpa using hv
  rw [BS_at S hi] at e
  cases e
  exact h i _ (UP_set S c hi)
theorem UpAt.below {w w' : World} {b j B : Nat} {S : Nat → Bool} {c : Int} (h : UpAt w b j S c) (hb : Below B w w') (hB : b < B) : UpAt w' b j S c :=
  fun i v hv => (hb.cell (p := ⟨b, j * 17 + i, none⟩) hB).trans (h i v hv)

section
variable {w : World} {b b' : Nat} {t t' : TypeId} {cs cs' : Array Value}
theorem Blk.row (h : Blk w b t cs) (cs' : Array Value) : Blk (w.setRow b cs') b t cs' := setRow_heap w b cs cs' t (0, 0) h
theorem Blk.rowFar (h : Blk w b t cs) (hne : b ≠ b') (cs' : Array Value) : Blk (w.setRow b' cs') b t cs := (setRow_other w b' b cs' hne).trans h
end

theorem below_setRow {B : Nat} {a w : World} (h : Below B a w) {b : Nat} (hb : B ≤ b) (cs : Array Value) : Below B a (w.setRow b cs) :=
  h.trans ⟨rfl, rfl, rfl, by simp, fun k hk => setRow_other w b k cs (by omega)⟩

section
variable {F : Fence} {n : Nat} {P : Program}
/-- An operation that yields a value, told by its run. -/
theorem wpListIn_run {ops : Array Oper} {rest : List Oper} {o : Oper} {a : Act} {Q : Exit → Act → World → Prop} {w w' : World} {v : Value} (hgd : o.guard = none) (hnd : noDefer o = true) (hab : o.about P w a.eval = none)
    (hrun : (execOp a.eval o).run P w = .ok (.value v) w') (h : wpListIn F n P ops Q rest (a.put o.dst v) w') : wpListIn F n P ops Q (o :: rest) a w := by
  refine wpListIn_plain hgd fun K hK => ?_
  unfold Oper.wpIn
  refine ⟨(fun f hf => by rw [hab] at hf; cases hf), ?_⟩
  rw [semAt_nd (noDefer_of hnd), hrun]
  exact hK _ _ h

/-- .. a guarded one that is wanted. -/
theorem wpListIn_runG {ops : Array Oper} {rest : List Oper} {o : Oper} {a : Act} {Q : Exit → Act → World → Prop} {w w' : World} {v : Value} (hgd : Region.wanted o (yielded ops a.tmps) = true) (hnd : noDefer o = true) (hab : o.about P w a.eval = none)
    (hrun : (execOp a.eval o).run P w = .ok (.value v) w') (h : wpListIn F n P ops Q rest (a.put o.dst v) w') : wpListIn F n P ops Q (o :: rest) a w := by
  simp only [wpListIn, hgd, if_true]
  unfold Oper.wpIn
  refine ⟨(fun f hf => by rw [hab] at hf; cases hf), ?_⟩
  rw [semAt_nd (noDefer_of hnd), hrun]
  exact h
theorem wpListIn_load_midG {ops : Array Oper} {rest : List Oper} {o : Oper} {a : Act} {Q : Exit → Act → World → Prop} {w : World} (hgd : Region.wanted o (yielded ops a.tmps) = true) (ty : TypeId) (x : Operand) (ho : o.op = .load ty x)
    (b off : Nat) (hx : a.eval x = .pointer (some ⟨b, off, none⟩)) (cs : Array Value) (hc : w.rangeAt b off cs.toList)
    (hu : ∃ d, P.underlying ty = some d ∧ d.isRow = true) (hi : (P.info? ty).map (·.size) = some cs.size)
    (h : wpListIn F n P ops Q rest (a.put o.dst (.agg cs)) w) : wpListIn F n P ops Q (o :: rest) a w := by
  obtain ⟨d, hu, hd⟩ := hu
  obtain ⟨dst, op, ty', pos, aft, gd⟩ := o
  dsimp only at ho
  subst ho
  refine wpListIn_runG (v := .agg cs) (w' := w) hgd rfl rfl ?_ h
  have e := run_loadAt_mid (P := P) w b off ty cs.toList d hc hu hd (by simpa using hi)
  rw [Array.toArray_toList] at e
  unfold execOp
  simp only [hx, Sem.run_bind, e, Result.andThen_ok, Sem.run_pure]

/-- A whole struct or array is loaded, from the middle of a block or from its head. -/
theorem wpListIn_load_mid {ops : Array Oper} {rest : List Oper} {o : Oper} {a : Act} {Q : Exit → Act → World → Prop} {w : World} (hgd : o.guard = none) (ty : TypeId) (x : Operand) (ho : o.op = .load ty x)
    (b off : Nat) (hx : a.eval x = .pointer (some ⟨b, off, none⟩)) (cs : Array Value) (hc : w.rangeAt b off cs.toList)
    (hu : ∃ d, P.underlying ty = some d ∧ d.isRow = true) (hi : (P.info? ty).map (·.size) = some cs.size)
    (h : wpListIn F n P ops Q rest (a.put o.dst (.agg cs)) w) : wpListIn F n P ops Q (o :: rest) a w := by
  obtain ⟨d, hu, hd⟩ := hu
  obtain ⟨dst, op, ty', pos, aft, gd⟩ := o
  dsimp only at ho
  subst ho
  refine wpListIn_run (v := .agg cs) (w' := w) hgd rfl rfl ?_ h
  have e := run_loadAt_mid (P := P) w b off ty cs.toList d hc hu hd (by simpa using hi)
  rw [Array.toArray_toList] at e
  unfold execOp
  simp only [hx, Sem.run_bind, e, Result.andThen_ok, Sem.run_pure]

/-- A guarded call that is passed over. -/
theorem wpListIn_skipW {ops : Array Oper} {rest : List Oper} {o : Oper} {a : Act} {Q : Exit → Act → World → Prop} {w : World} (hw : Region.wanted o (yielded ops a.tmps) = false) (ha : ∀ f, F.fn f)
    (h : wpListIn F n P ops Q rest (a.put o.dst undef) w) : wpListIn F n P ops Q (o :: rest) a w := by
  simp only [wpListIn, hw]
  exact ⟨fun f _ => ha f, h⟩

/-- A whole struct or array is stored into a block of its own. -/
theorem wpListIn_store_row {ops : Array Oper} {rest : List Oper} {o : Oper} {a : Act} {Q : Exit → Act → World → Prop} {w : World} (hgd : o.guard = none) (ty : TypeId) (x y : Operand) (ho : o.op = .store ty x y)
    (b : Nat) (t : TypeId) (old cs : Array Value) (hx : a.eval x = .pointer (some ⟨b, 0, none⟩)) (hy : a.eval y = .agg cs) (hb : Blk w b t old)
    (hi : (P.info? ty).map (·.size) = some cs.size) (hs : old.size = cs.size) (h1 : cs.all (·.oneCell') = true)
    (h : wpListIn F n P ops Q rest (a.put o.dst undef) (w.setRow b cs)) : wpListIn F n P ops Q (o :: rest) a w := by
  obtain ⟨dst, op, ty', pos, aft, gd⟩ := o
  dsimp only at ho
  subst ho
  refine wpListIn_plain hgd fun K hK => ?_
  unfold Oper.wpIn
  refine ⟨(fun f hf => by cases hf), ?_⟩
  rw [semAt_nd (noDefer_of rfl)]
  unfold execOp
  simp only [hx, hy, Instr.storeAt, Instr.sureAddr, Sem.run_bind, Sem.run_pure, Result.andThen_ok, run_storeVar_row w b t ty old cs hb hi hs h1]
  exact hK _ _ h
end

theorem wpListIn_build62 {F : Fence} {n : Nat} {ops : Array Oper} {rest : List Oper} {o : Oper} {a : Act} {Q : Exit → Act → World → Prop} {w : World} (hgd : o.guard = none) (x y : Operand) (ho : o.op = .build 62 #[(0, x), (1, y)]) (S : Nat → Bool) (c : Int)
    (hx : a.eval x = .agg (BS S)) (hy : a.eval y = .int .i64 c) (h : wpListIn F n Try.prog ops Q rest (a.put o.dst (.agg (UP S c))) w) : wpListIn F n Try.prog ops Q (o :: rest) a w := by
  obtain ⟨dst, op, ty', pos, aft, gd⟩ := o
  dsimp only at ho
  subst ho
  refine wpListIn_run (v := .agg (UP S c)) (w' := w) hgd rfl rfl ?_ h
  have e := run_build62 S c w
  unfold execOp
  simp only [List.map_toArray, List.map_cons, List.map_nil, hx, hy, Sem.run_bind, e, Result.andThen_ok, Sem.run_pure]

theorem world_ext {a b : World} (h1 : a.heap = b.heap) (h2 : a.tape = b.tape) (h3 : a.drawn = b.drawn) (h4 : a.os = b.os) (h5 : a.output = b.output) : a = b := by
  cases a; cases b
  dsimp only at h1 h2 h3 h4 h5
  subst h1; subst h2; subst h3; subst h4; subst h5
  rfl
theorem setRow_new (w : World) (t : TypeId) (old cs : Array Value) : (w.alloc (.cells old t)).setRow w.heap.size cs = w.alloc (.cells cs t) := by
  have hb := Blk.row (Blk.new w t old) cs
  have hn := Blk.new w t cs
  refine world_ext ?_ rfl rfl rfl rfl
  apply Array.ext_getElem?
  intro k
  by_cases e : k = w.heap.size
  · subst e; exact hb.trans hn.symm
  · have h1 := setRow_other (w.alloc (.cells old t)) w.heap.size k cs e
    refine Eq.trans h1 ?_
    show (w.heap.push _)[k]? = (w.heap.push _)[k]?
    rw [Array.getElem?_push, Array.getElem?_push, if_neg e, if_neg e]

theorem Blk.rangeAt {w : World} {b : Nat} {t : TypeId} {cs : Array Value} (h : Blk w b t cs) : w.rangeAt b 0 cs.toList := fun j v hv => by
  rw [Nat.zero_add, h.cell j]; simpa using hv
theorem Blk.rangeUp {w : World} {b : Nat} {t : TypeId} {S : Nat → Bool} {c : Int} (h : Blk w b t (UP S c)) : w.rangeAt b 0 (BS S).toList := fun j v hv => by
  have hi : j < 16 := by have := (List.getElem?_eq_some_iff.1 hv).1; simpa [BS] using this
  have e : (BS S)[j]? = some v := by simpa using hv
  rw [BS_at S hi] at e
  cases e
  rw [Nat.zero_add, h.cell j]
  exact UP_set S c hi

end Go.Proofs.Ytkbnbdpdmcnkiaa
