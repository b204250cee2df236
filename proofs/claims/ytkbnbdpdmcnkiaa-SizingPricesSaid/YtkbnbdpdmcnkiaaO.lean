/- Slices of ints of the call's own: append of one number; reading; and quiet calls behind draws. -/
import Derived.Test.YtkbnbdpdmcnkiaaE
import Derived.Maps.AppendAt
import Derived.Deep.AppendLies
import Derived.RangeFuncBox
namespace Go.Proofs.Ytkbnbdpdmcnkiaa
open Go.RowKit

theorem info3 : (Try.prog.info? 3).map (fun i => (i.zero, i.size, i.bytes)) = some (some (.int .i64 0), 1, 8) := by kernel_rfl

/-- The slice value v of n ints, in a row of the call's own from block base on, holds xs. -/
def OI (w : World) (base : Nat) (v : Value) (n : Nat) (xs : List Int) : Prop := w.ownsRow base 3 1 v n (xs.map (Value.int .i64))

section
variable {w w' : World} {base n g0 cap : Nat} {v : Value} {xs : List Int}
theorem OI.len (h : OI w base v n xs) : xs.length = n := by have := h.1; simpa using this
theorem OI.drewN (h : OI w base v n xs) (q : Nat) : OI (w.drewN q) base v n xs := h
theorem OI.alloc (h : OI w base v n xs) (o : Obj) : OI (w.alloc o) base v n xs := World.ownsRow.alloc h o
theorem OI.cell (h : OI w base (.slice (some ⟨g0, 0, none⟩) n cap) n xs) {k : Nat} (hk : k < n) : w.cell? ⟨g0, k, none⟩ = some (.int .i64 (g xs k)) := by
  rw [World.ownsRow.cellAt h k (by omega)]
  have hl := h.len
  simp [g, List.getElem?_eq_getElem (show k < xs.length by omega)]
theorem OI.look (h : OI w base (.slice (some ⟨g0, 0, none⟩) n cap) n xs) {k : Nat} (hk : k < n) : ∃ x, Hid (g xs k = x) ∧ w.cell? ⟨g0, k, none⟩ = some (.int .i64 x) :=
  ⟨_, Lib.hid rfl, h.cell hk⟩
theorem OI.lt (h : OI w base (.slice (some ⟨g0, 0, none⟩) n cap) n xs) : base ≤ g0 ∧ g0 < w.heap.size := World.ownsRow.lt h g0 rfl
theorem OI.lit (w : World) (cs : Array Value) (n : Nat) (xs : List Int) (hb : base ≤ w.heap.size) (hm : n ≤ 1000) (hs : cs = (xs.map (Value.int .i64)).toArray) (hl : xs.length = n) :
    OI (w.alloc (.cells cs 3)) base (.slice (some ⟨w.heap.size, 0, none⟩) n n) n xs := by
  have := World.ownsRow_lit (e := 3) (size := 1) w cs n hb (by unfold maxLen; omega) (by subst hs; simp [hl])
  subst hs
  simpa [OI] using this
theorem OI.SI (h : OI w base (.slice (some ⟨g0, 0, none⟩) n cap) n xs) : SI w w.heap.size (some ⟨g0, 0, none⟩) n xs :=
  ⟨h.len, fun _ => ⟨g0, 0, rfl, h.lt.2, fun k hk => by rw [Nat.zero_add]; exact h.cell hk⟩⟩
theorem OI.caps (h : OI w base (.slice (some ⟨g0, 0, none⟩) n cap) n xs) : n ≤ cap ∧ cap ≤ 9223372036854775807 := by
  rcases h.2 with ⟨h0, _⟩ | ⟨g', cap', cur, h0, _, _, h1, h2, _⟩
  · cases h0
  · cases h0; exact ⟨h1, h2⟩
theorem OI.drop1 (h : OI w base (.slice (some ⟨g0, 0, none⟩) (n + 1) cap) (n + 1) xs) : Ytkbnbdpdmcnkiaa.SI w w.heap.size (some ⟨g0, 1, none⟩) n (xs.drop 1) := by
  have hl := h.len
  refine ⟨by simp [hl], fun _ => ⟨g0, 1, rfl, h.lt.2, fun k hk => ?_⟩⟩
  have e : g (xs.drop 1) k = g xs (1 + k) := by simp [g, Nat.add_comm]
  rw [e]
  exact h.cell (by omega)
theorem SI.none_ {B : Nat} {A : Option Addr} (hl : xs.length = 0) : Ytkbnbdpdmcnkiaa.SI w B A 0 xs := ⟨hl, fun h => absurd h (by omega)⟩
theorem OI.nil (w : World) (base : Nat) : OI w base (.slice none 0 0) 0 [] := World.ownsRow_nil w base 3 1
theorem OI.kept {row : Option Nat} (h : OI w base v n xs) (hg : w.grownBy w' row) (hne : v.ownBlock = none ∨ v.ownBlock ≠ row) : OI w' base v n xs := World.ownsRow.kept h hg hne
end

/-- append(s, z), z laid in a new block of one cell. -/
theorem wpList_app1 {ops : Array Oper} {rest : List Oper} {o : Oper} {a : Act} {Q : Exit → Act → World → Prop} (hgd : o.guard = none) (s x : Operand)
    (ho : o.op = .call { callee := .builtin .append, args := #[s, x], argTypes := #[22, 22] }) (W : World) (base : Nat) (v : Value) (n : Nat) (xs : List Int) (z : Int)
    (hs : a.eval s = v) (hx : a.eval x = .slice (some ⟨W.heap.size, 0, none⟩) 1 1) (hown : OI W base v n xs) (hn : n ≤ 1000) (hbase : base ≤ W.heap.size)
    (h : ∀ g' c' w', OI w' base (.slice (some ⟨g', 0, none⟩) (n + 1) c') (n + 1) (xs ++ [z]) → (W.alloc (.cells #[.int .i64 z] 3)).grownBy w' v.ownBlock → wpList Try.prog ops Q rest (a.put o.dst (.slice (some ⟨g', 0, none⟩) (n + 1) c')) w') :
    wpList Try.prog ops Q (o :: rest) a (W.alloc (.cells #[.int .i64 z] 3)) := by
  obtain ⟨i0, hi, hz0, hz1, hz2⟩ := info_parts info3
  refine wpList_append_own (W.alloc (.cells #[.int .i64 z] 3)) hgd s x 22 ho base 3 i0 (.int .i64 0) 1 8 Try.underlying22 hi hz0 hz1 hz2 rfl (by decide) v n (xs.map (Value.int .i64)) hs (World.ownsRow.alloc hown _)
    ⟨W.heap.size, 0, none⟩ 1 1 [.int .i64 z] hx rfl ?_ ?_ (by unfold maxLen; omega) (by omega) (by simp; omega) ?_
  · exact cell_one_new W _ _
  · simp [Value.oneCell']
  · intro v' w' hown' hgrow _
    obtain ⟨g', c', rfl⟩ := ownsRow_succ hown'
    exact h g' c' w' (by simpa [OI] using hown') hgrow

theorem quiet_add_left {P : Program} {f : FuncId} {args : Array Value} {w : World} {a n : Nat} {v : Value}
    (h : Calls P f args (w.drewN (a + n)) fun e w' => e = .returned v ∧ w.drewN (a + n) = w') :
    Calls P f args (w.drewN (a + n)) fun e w'' => e = .returned v ∧ ∃ m, w'' = w.drewN (a + m) :=
  h.mono fun _ _ ⟨he, hm⟩ => ⟨he, n, hm.symm⟩
theorem quiet_left {P : Program} {f : FuncId} {args : Array Value} {w : World} {n : Nat} {v : Value}
    (h : Calls P f args (w.drewN n) fun e w' => e = .returned v ∧ w.drewN n = w') : Calls P f args (w.drewN n) fun e w'' => e = .returned v ∧ ∃ m, w'' = w.drewN m :=
  h.mono fun _ _ ⟨he, hm⟩ => ⟨he, n, hm.symm⟩

end Go.Proofs.Ytkbnbdpdmcnkiaa
