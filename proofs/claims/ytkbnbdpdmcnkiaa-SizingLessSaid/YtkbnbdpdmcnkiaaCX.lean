/- append of a whole slice of ints to one of the call's own. -/
import Derived.Test.YtkbnbdpdmcnkiaaP
namespace Go.Proofs.Ytkbnbdpdmcnkiaa
open Go.RowKit

theorem run_append_all (ty base n m B c : Nat) (A : Option Addr) (v : Value) (xs ys : List Int) (W : World) (hown : OI W base v n xs) (hr : SI W B A m ys) (hn : n + m ≤ 1000) (hbase : base ≤ W.heap.size) :
    ∃ v' w', (Builtin.append_ #[22, 22] ty #[v, .slice A m c]).run Try.prog W = .ok v' w' ∧ OI w' base v' (n + m) (xs ++ ys) ∧ W.grownBy w' v.ownBlock := by
  obtain ⟨i0, hi, hz0, hz1, hz2⟩ := info_parts info3
  cases A with
  | none =>
    have hm : m = 0 := by
      rcases Nat.eq_zero_or_pos m with h0 | h0
      · exact h0
      · obtain ⟨b, off, e, _⟩ := hr.2 h0; cases e
    subst hm
    obtain rfl : ys = [] := List.eq_nil_of_length_eq_zero hr.1
    refine ⟨v, W, ?_, by simpa using hown, World.grownBy.refl W _⟩
    rcases hown.2 with ⟨rfl, _⟩ | ⟨g0, cap, cur, rfl, _, _, hnc, _⟩
    · simp [Builtin.append_, run_underlying Try.underlying22, sizeOf, typeInfo, hi, Builtin.lenOf, Builtin.firstCells]
    · simp [Builtin.append_, run_underlying Try.underlying22, sizeOf, typeInfo, hi, Builtin.lenOf, Builtin.firstCells, hnc, storeCells]
  | some ad =>
    have hcells : ∀ j u, (ys.map (Value.int .i64))[j]? = some u → W.cell? (ad.add j) = some u := by
      intro j u hu
      have hj : j < m := by
        have := (List.getElem?_eq_some_iff.1 hu).1
        rw [List.length_map, hr.1] at this
        exact this
      obtain ⟨b, off, e, _, hc⟩ := hr.2 (by omega)
      cases e
      have hadd : (⟨b, off, none⟩ : Addr).add j = ⟨b, off + j, none⟩ := by unfold Addr.add; split <;> simp_all
      rw [hadd, hc j hj]
      rw [List.getElem?_map] at hu
      cases hy : ys[j]? with
      | none => rw [hy] at hu; cases hu
      | some y => rw [hy] at hu; simp only [g, hy, Option.getD_some]; exact hu
    obtain ⟨v', w', hrun, h2, h3, _⟩ := run_append_own (P := Try.prog) W base 22 ty 3 i0 (.int .i64 0) 1 8 Try.underlying22 hi hz0 hz1 hz2 rfl (by decide) v n (xs.map (Value.int .i64)) hown ad m c (ys.map (Value.int .i64)) (by simp [hr.1]) hcells
      (by intro u hu; obtain ⟨y, _, rfl⟩ := List.mem_map.1 hu; rfl) (by unfold maxLen; omega) (by omega) hbase
    exact ⟨v', w', hrun, by unfold OI; rw [List.map_append]; exact h2, h3⟩

theorem wpList_app_all {ops : Array Oper} {rest : List Oper} {o : Oper} {a : Act} {Q : Exit → Act → World → Prop} (hgd : o.guard = none) (s x : Operand)
    (ho : o.op = .call { callee := .builtin .append, args := #[s, x], argTypes := #[22, 22] }) (W : World) (base n m B c : Nat) (A : Option Addr) (v : Value) (xs ys : List Int)
    (hs : a.eval s = v) (hx : a.eval x = .slice A m c) (hown : OI W base v n xs) (hr : SI W B A m ys) (hn : n + m ≤ 1000) (hbase : base ≤ W.heap.size)
    (h : ∀ v' w', OI w' base v' (n + m) (xs ++ ys) → W.grownBy w' v.ownBlock → wpList Try.prog ops Q rest (a.put o.dst v') w') : wpList Try.prog ops Q (o :: rest) a W := by
  refine wpList_plain hgd fun K hK => ?_
  obtain ⟨v', w', hrun, h2, h3⟩ := run_append_all o.type base n m B c A v xs ys W hown hr hn hbase
  unfold Oper.wp execOp
  simp only [ho, resolve, invoke, builtin, Sem.run_bind, Sem.run_pure, Result.andThen_ok, List.map_toArray, List.map_cons, List.map_nil, hs, hx, hrun]
  exact hK _ _ (h v' w' h2 h3)

theorem OI.form2 {w : World} {base n : Nat} {v : Value} {xs : List Int} (h : OI w base v n xs) : ∃ A c, v = .slice A n c ∧ ∀ k, k < n → ∃ b, A = some ⟨b, 0, none⟩ := by
  rcases h.2 with ⟨rfl, rfl⟩ | ⟨g', cap', cur, rfl, _⟩
  · exact ⟨none, 0, rfl, fun k hk => by omega⟩
  · exact ⟨_, _, rfl, fun _ _ => ⟨g', rfl⟩⟩

/-- append([]int{}, x...) in one word: the empty literal lies in a block of its own. -/
theorem OI.empty (w : World) (base : Nat) (hb : base ≤ w.heap.size) : OI (w.alloc (.cells #[] 3)) base (.slice (some ⟨w.heap.size, 0, none⟩) 0 0) 0 [] := OI.lit w #[] 0 [] hb (by omega) rfl rfl

/-- One number of an own slice is stored. -/
theorem OI.stored {w : World} {base n b c : Nat} {xs : List Int} (h : OI w base (.slice (some ⟨b, 0, none⟩) n c) n xs) (k : Nat) (z : Int) : OI (w.setCell ⟨b, k, none⟩ (.int .i64 z)) base (.slice (some ⟨b, 0, none⟩) n c) n (xs.set k z) := by
  have hst := World.ownsRow.stored h k (.int .i64 z)
  unfold OI
  rw [List.map_set]
  exact hst.1

end Go.Proofs.Ytkbnbdpdmcnkiaa
