/- Slices of uptos of the call's own: append, reading; the laws that sizing.Size wants. -/
import Derived.Test.YtkbnbdpdmcnkiaaL
import Derived.Test.YtkbnbdpdmcnkiaaN
namespace Go.Proofs.Ytkbnbdpdmcnkiaa
open Go.RowKit

theorem info62 : (Try.prog.info? 62).map (fun i => (i.zero, i.size, i.bytes)) = some (some (.agg (UP (fun _ => false) 0)), 17, 24) := by kernel_rfl
theorem info26 : (Try.prog.info? 26).map (·.size) = some 3 := by kernel_rfl
theorem run_buildSlice63 (S : Nat → Bool) (c : Int) (w : World) : (Instr.buildSlice 63 1 #[(0, .agg (UP S c))]).run Try.prog w = .ok (.slice (some ⟨w.heap.size, 0, none⟩) 1 1) (w.alloc (.cells (UP S c) 62)) := by kernel_rfl

/-- The cells of a list of uptos. -/
def flatU (l : List ((Nat → Bool) × Int)) : List Value := l.flatMap fun p => (UP p.1 p.2).toList
theorem flatU_app (l : List ((Nat → Bool) × Int)) (p : (Nat → Bool) × Int) : flatU (l ++ [p]) = flatU l ++ (UP p.1 p.2).toList := by simp [flatU]
theorem flatU_at (l : List ((Nat → Bool) × Int)) : ∀ (j i : Nat), j < l.length → i < 17 → (flatU l)[j * 17 + i]? = (UP (dS l j) (dC l j))[i]? := by
  induction l with
  | nil => intro j i h; simp at h
  | cons p l ih =>
    intro j i hj hi
    have hlen : (UP p.1 p.2).toList.length = 17 := by simp [UP, BS]
    have e : flatU (p :: l) = (UP p.1 p.2).toList ++ flatU l := by simp [flatU]
    rw [e]
    cases j with
    | zero =>
      rw [List.getElem?_append_left (by omega)]
      simp [dS, dC]
    | succ j =>
      rw [List.getElem?_append_right (by omega)]
      have e2 : (j + 1) * 17 + i - (UP p.1 p.2).toList.length = j * 17 + i := by omega
      rw [e2, ih j i (by simp at hj; omega) hi]
      simp [dS, dC]

def OU (w : World) (base : Nat) (v : Value) (n : Nat) (l : List ((Nat → Bool) × Int)) : Prop := w.ownsRow base 62 17 v n (flatU l) ∧ l.length = n
section
variable {w w' : World} {base n g0 cap : Nat} {v : Value} {l : List ((Nat → Bool) × Int)}
theorem OU.lt (h : OU w base (.slice (some ⟨g0, 0, none⟩) n cap) n l) : base ≤ g0 ∧ g0 < w.heap.size := World.ownsRow.lt h.1 g0 rfl
theorem OU.alloc (h : OU w base v n l) (o : Obj) : OU (w.alloc o) base v n l := ⟨World.ownsRow.alloc h.1 o, h.2⟩
theorem OU.kept {row : Option Nat} (h : OU w base v n l) (hg : w.grownBy w' row) (hne : v.ownBlock = none ∨ v.ownBlock ≠ row) : OU w' base v n l := ⟨World.ownsRow.kept h.1 hg hne, h.2⟩
theorem OU.best (h : OU w base (.slice (some ⟨g0, 0, none⟩) n cap) n l) : Best w w.heap.size g0 n (dS l) (dC l) :=
  ⟨h.lt.2, fun j hj i v hv => by
    have hi : i < 17 := by have := (Array.getElem?_eq_some_iff.1 hv).1; rwa [UP_size] at this
    rw [World.ownsRow.cellAt h.1 (j * 17 + i) (by omega), flatU_at l j i (by rw [h.2]; exact hj) hi]
    exact hv⟩
theorem OU.lit (w : World) (base : Nat) (p : (Nat → Bool) × Int) (hb : base ≤ w.heap.size) : OU (w.alloc (.cells (UP p.1 p.2) 62)) base (.slice (some ⟨w.heap.size, 0, none⟩) 1 1) 1 [p] := by
  have := World.ownsRow_lit (e := 62) (size := 17) w (UP p.1 p.2) 1 hb (by unfold maxLen; omega) (by rw [UP_size])
  exact ⟨by simpa [flatU] using this, rfl⟩
theorem OU.blk (h : OU w base (.slice (some ⟨g0, 0, none⟩) n cap) n l) : ∃ cs, Blk w g0 62 cs := by
  rcases h.1.2 with ⟨h0, _⟩ | ⟨g', cap', cur, h0, _, hh, _⟩
  · cases h0
  · cases h0; exact ⟨cur, hh⟩
theorem OI.blk {xs : List Int} (h : OI w base v n xs) : v.ownBlock = none ∨ ∃ b cs, v.ownBlock = some b ∧ Blk w b 3 cs := by
  rcases h.2 with ⟨rfl, _⟩ | ⟨g', cap', cur, rfl, _, hh, _⟩
  · exact .inl rfl
  · exact .inr ⟨g', cur, rfl, hh⟩
theorem OI.form {xs : List Int} (h : OI w base v n xs) : ∃ A c, v = .slice A n c := by
  rcases h.2 with ⟨rfl, rfl⟩ | ⟨g', cap', cur, rfl, _⟩
  · exact ⟨none, 0, rfl⟩
  · exact ⟨_, _, rfl⟩
theorem OI.SIv {xs : List Int} {A : Option Addr} {c : Nat} (h : OI w base (.slice A n c) n xs) : Ytkbnbdpdmcnkiaa.SI w w.heap.size A n xs := by
  have hl := h.len
  rcases h.2 with ⟨h0, h1⟩ | ⟨g', cap', cur, h0, _⟩
  · subst h1; exact SI.none_ hl
  · cases h0; exact OI.SI h
theorem Blk.ne_ {b b' : Nat} {t t' : TypeId} {cs cs' : Array Value} (h : Blk w b t cs) (h' : Blk w b' t' cs') (hne : t ≠ t') : b ≠ b' := by
  rintro rfl
  unfold Blk at h h'
  rw [h] at h'
  injection h' with h'
  injection h' with _ ht
  exact hne ht
end

theorem grownBy_of_below {a b : World} (h : Below a.heap.size a b) (row : Option Nat) : a.grownBy b row := ⟨h.os, h.tape, h.output, h.size, fun i hi _ => h.block i hi⟩
theorem grownBy_setCell {w : World} {p : Addr} (v : Value) : w.grownBy (w.setCell p v) (some p.block) :=
  ⟨rfl, rfl, rfl, by simp [World.setCell], fun k _ hk => Below.heap_setCell w p v k (fun e => hk (by rw [e]))⟩
theorem grownBy_setRow {w : World} {b : Nat} (cs : Array Value) : w.grownBy (w.setRow b cs) (some b) :=
  ⟨rfl, rfl, rfl, by simp, fun k _ hk => setRow_other w b k cs (fun e => hk (by rw [e]))⟩
theorem OU.later {w w' : World} {base n : Nat} {v : Value} {l : List ((Nat → Bool) × Int)} (h : OU w base v n l) (hb : Below w.heap.size w w') : OU w' base v n l := h.kept (grownBy_of_below hb (some w.heap.size)) (by
  cases e : v.ownBlock with
  | none => exact .inl rfl
  | some k => refine .inr (fun e2 => ?_); have h1 := (World.ownsRow.lt h.1 k e).2; have := Option.some.inj e2; omega)
theorem OI.later {w w' : World} {base n : Nat} {v : Value} {l : List Int} (h : OI w base v n l) (hb : Below w.heap.size w w') : OI w' base v n l := h.kept (grownBy_of_below hb (some w.heap.size)) (by
  cases e : v.ownBlock with
  | none => exact .inl rfl
  | some k => refine .inr (fun e2 => ?_); have h1 := (World.ownsRow.lt h k e).2; have := Option.some.inj e2; omega)
theorem OI.off {w : World} {base n b : Nat} {v : Value} {l : List Int} (h : OI w base v n l) (hb : b < base) : v.ownBlock ≠ some b := fun e => by have := (World.ownsRow.lt h b e).1; omega
theorem OI.offBlk {w : World} {base n b : Nat} {v : Value} {l : List Int} {t : TypeId} {cs : Array Value} (h : OI w base v n l) (hb : Blk w b t cs) (hne : (3 : TypeId) ≠ t) : v.ownBlock ≠ some b := fun e => by
  rcases h.blk with h0 | ⟨b', cs', h1, h2⟩
  · rw [h0] at e; cases e
  · rw [h1] at e; cases e; exact Blk.ne_ h2 hb hne rfl
theorem OI.keptB {w w' : World} {base n b : Nat} {v : Value} {l : List Int} (h : OI w base v n l) (hg : w.grownBy w' (some b)) (hne : v.ownBlock ≠ some b) : OI w' base v n l := h.kept hg (.inr hne)

/-- A whole struct or array is loaded, from the middle of a block or from its head. -/
theorem wpList_load_midA {P : Program} {ops : Array Oper} {rest : List Oper} {o : Oper} {a : Act} {Q : Exit → Act → World → Prop} {w : World} (hgd : o.guard = none) (ty : TypeId) (x : Operand) (ho : o.op = .load ty x)
    (b off : Nat) (hx : a.eval x = .pointer (some ⟨b, off, none⟩)) (cs : Array Value) (hc : w.rangeAt b off cs.toList)
    (hu : ∃ d, P.underlying ty = some d ∧ d.isRow = true) (hi : (P.info? ty).map (·.size) = some cs.size)
    (h : wpList P ops Q rest (a.put o.dst (.agg cs)) w) : wpList P ops Q (o :: rest) a w := by
  obtain ⟨d, hu, hd⟩ := hu
  exact wpList_load_mid hgd ty x ho b off hx cs.toList d hc hu hd (by simpa using hi) (by rw [Array.toArray_toList]; exact h)
theorem UpAt.rangeU {w : World} {b j : Nat} {S : Nat → Bool} {c : Int} (h : UpAt w b j S c) : w.rangeAt b (j * 17) (UP S c).toList := fun i v hv => h i v (by simpa using hv)

theorem sz_one (A1 A2 : Option Addr) (n1 c1 n2 c2 : Nat) (x : Int) : (#[.slice A1 n1 c1, .int .i64 x, .slice A2 n2 c2] : Array Value).all (·.oneCell') = true := by kernel_rfl

/-- make([]int, n). -/
theorem wpList_make22 {ops : Array Oper} {rest : List Oper} {o : Oper} {a : Act} {Q : Exit → Act → World → Prop} (hgd : o.guard = none) (l c : Operand) (ho : o.op = .makeSlice 22 l c) (W : World) (base n : Nat)
    (hl : a.eval l = .int .i64 n) (hc : a.eval c = .int .i64 n) (hn : n ≤ 1000) (hbase : base ≤ W.heap.size)
    (h : ∀ w', OI w' base (.slice (some ⟨W.heap.size, 0, none⟩) n n) n (List.replicate n 0) → W.grownBy w' none → wpList Try.prog ops Q rest (a.put o.dst (.slice (some ⟨W.heap.size, 0, none⟩) n n)) w') :
    wpList Try.prog ops Q (o :: rest) a W := by
  obtain ⟨i0, hi, hz0, hz1, hz2⟩ := info_parts info3
  refine wpList_make_full W hgd l c 22 ho base 3 i0 (.int .i64 0) 1 Try.underlying22 hi hz0 hz1 .i64 .i64 n n n hl hc rfl rfl (by rw [hz2]; omega) (by unfold maxLen; omega) hbase ?_
  intro w' h1 h2
  refine h w' ?_ h2
  unfold OI
  have e : (madeCells (Value.cells (.int .i64 0)) (n * 1)).toList = (List.replicate n (0 : Int)).map (Value.int .i64) := by
    have := toList_madeCells_one (.int .i64 0) n
    rw [List.map_replicate, Nat.mul_one]
    exact this
  rw [e] at h1
  exact h1

/-- buildSlice of one upto. -/
theorem wpList_buildSlice63 {ops : Array Oper} {rest : List Oper} {o : Oper} {a : Act} {Q : Exit → Act → World → Prop} {w : World} (hgd : o.guard = none) (x : Operand) (ho : o.op = .buildSlice 63 1 #[(0, x)]) (S : Nat → Bool) (c : Int)
    (hx : a.eval x = .agg (UP S c)) (h : wpList Try.prog ops Q rest (a.put o.dst (.slice (some ⟨w.heap.size, 0, none⟩) 1 1)) (w.alloc (.cells (UP S c) 62))) : wpList Try.prog ops Q (o :: rest) a w := by
  refine wpList_plain hgd fun K hK => ?_
  have e := run_buildSlice63 S c w
  unfold Oper.wp execOp
  simp only [ho, List.map_toArray, List.map_cons, List.map_nil, hx, Sem.run_bind, e, Result.andThen_ok, Sem.run_pure]
  exact hK _ _ h

/-- append(s, p), p laid in a new block. -/
theorem wpList_appU {ops : Array Oper} {rest : List Oper} {o : Oper} {a : Act} {Q : Exit → Act → World → Prop} (hgd : o.guard = none) (s x : Operand)
    (ho : o.op = .call { callee := .builtin .append, args := #[s, x], argTypes := #[63, 63] }) (W : World) (base : Nat) (v : Value) (n : Nat) (l : List ((Nat → Bool) × Int)) (S : Nat → Bool) (c : Int)
    (Bz : Nat) (hs : a.eval s = v) (hx : a.eval x = .slice (some ⟨Bz, 0, none⟩) 1 1) (hBz : Bz = W.heap.size) (hown : OU W base v n l) (hn : n ≤ 1000) (hbase : base ≤ W.heap.size)
    (h : ∀ g' c' w', OU w' base (.slice (some ⟨g', 0, none⟩) (n + 1) c') (n + 1) (l ++ [(S, c)]) → (W.alloc (.cells (UP S c) 62)).grownBy w' v.ownBlock → wpList Try.prog ops Q rest (a.put o.dst (.slice (some ⟨g', 0, none⟩) (n + 1) c')) w') :
    wpList Try.prog ops Q (o :: rest) a (W.alloc (.cells (UP S c) 62)) := by
  subst hBz
  obtain ⟨i0, hi, hz0, hz1, hz2⟩ := info_parts info62
  refine wpList_append_own (W.alloc (.cells (UP S c) 62)) hgd s x 63 ho base 62 i0 (.agg (UP (fun _ => false) 0)) 17 24 Try.underlying63 hi hz0 hz1 hz2 (UP_size _ _) (by decide) v n (flatU l) hs (World.ownsRow.alloc hown.1 _)
    ⟨W.heap.size, 0, none⟩ 1 1 (UP S c).toList hx (by simp [UP, BS]) ?_ ?_ (by unfold maxLen; omega) (by omega) (by simp; omega) ?_
  · intro j u hu
    have hadd : (⟨W.heap.size, 0, none⟩ : Addr).add j = ⟨W.heap.size, j, none⟩ := by unfold Addr.add; split <;> simp_all
    rw [hadd, (Blk.new W 62 (UP S c)).cell j]
    simpa using hu
  · intro u hu
    exact (Array.all_eq_true_iff_forall_mem.1 (UP_one S c)) u (by simpa using hu)
  · intro v' w' hown' hgrow _
    obtain ⟨g', c', rfl⟩ := ownsRow_succ hown'
    exact h g' c' w' ⟨by rw [flatU_app]; exact hown', by simp [hown.2]⟩ hgrow

end Go.Proofs.Ytkbnbdpdmcnkiaa
