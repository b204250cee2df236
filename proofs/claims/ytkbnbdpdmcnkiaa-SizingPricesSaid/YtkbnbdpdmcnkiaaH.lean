/- sizing.backwards: the iterator and its contract. -/
import Derived.RangeFuncNested
import Derived.RangeFuncBound
import Derived.RangeFuncCalls
import Derived.RangeFuncLeaves
import Derived.RangeFuncBox
import Derived.Shelf.Abstract
import Derived.Shelf.RegionOpen
import Derived.WalkKit
import Derived.OwnWalkIn
import Derived.TacticsInMore
import Derived.LoopNIn
import Derived.LoopIn
import Derived.Test.YtkbnbdpdmcnkiaaO
namespace Go.Proofs.Ytkbnbdpdmcnkiaa
open Go.RowKit Go.Shelf

attribute [local go_sem] Oper.semAt_some

/-- What has come when k rounds are over: m - 1, .., m - k. -/
def dn (m : Nat) : Nat → List (Fin m)
  | 0 => []
  | k + 1 => dn m k ++ (if h : k < m then [⟨m - 1 - k, by omega⟩] else [])
theorem dn_succ {m k : Nat} (h : k < m) : dn m (k + 1) = dn m k ++ [⟨m - 1 - k, by omega⟩] := by simp [dn, h]
theorem dn_length {m k : Nat} (h : k ≤ m) : (dn m k).length = k := by
  induction k with
  | zero => rfl
  | succ k ih => rw [dn_succ (by omega)]; simp [ih (by omega)]
theorem dn_mem {m k : Nat} (h : k ≤ m) (i : Fin m) : i ∈ dn m k ↔ m - k ≤ i.1 := by
  induction k with
  | zero => simp [dn]
  | succ k ih =>
    rw [dn_succ (by omega), List.mem_append, ih (by omega), List.mem_singleton, Fin.ext_iff]
    have := i.2
    simp only
    omega

set_option maxHeartbeats 400000 in
/-- backwards(end): the day is boxed; the function value captures the box. -/
theorem backwards_in (m : Int) (w : World) :
    CallsIn Fence.wide 3 Try.prog 63 #[.int .i64 m] w fun e w' => e = .returned (.func (.func 68) #[] #[.pointer (some ⟨w.heap.size, 0, none⟩)]) ∧ w' = w.alloc (.cells #[.int .i64 m] 3) := by
  refine callsIn_of_wp Try.func63 rfl trivial ?_ rfl
  simp only [Try.ntmps63, List.size_toArray, List.length_cons, List.length_nil, Nat.reduceAdd, Nat.reduceSub, Array.replicate_succ, Array.replicate_zero, List.push_toArray, List.append_toArray, List.nil_append, List.cons_append]
  gi_wp2
  go_ret
  exact ⟨rfl, rfl⟩

set_option maxRecDepth 100000 in
set_option maxHeartbeats 1000000 in
theorem backwards1_in (l Be m : Nat) (hm : m ≤ 1000) (J Jx : List (Fin m) → World → Prop)
    (hY : ∀ pre x W, J pre W → pre.length < m → YieldAt Fence.wide (3 - 1) Try.prog l #[.int .i64 (x.1 : Int)] W fun e W' =>
      (e = .returned (.bool true) ∧ J (pre ++ [x]) W' ∧ True) ∨ (e = .returned (.bool false) ∧ Jx (pre ++ [x]) W'))
    (W : World) (hBe : W.cell? ⟨Be, 0, none⟩ = some (.int .i64 m)) (h0 : J [] W) :
    CallsIn Fence.wide 3 Try.prog 68 #[.func (.yield l) #[] #[], .pointer (some ⟨Be, 0, none⟩)] W fun e W' => (∃ v, e = .returned v) ∧
      ((∃ ys, ys = dn m m ∧ J ys W') ∨ (∃ pre, (∃ k, k ≤ m ∧ pre = dn m k) ∧ Jx pre W')) := by
  refine callsIn_of_wp Try.func68 rfl trivial ?_ rfl
  simp only [Try.ntmps68, List.size_toArray, List.length_cons, List.length_nil, Nat.reduceAdd, Nat.reduceSub, Array.replicate_succ, Array.replicate_zero, List.push_toArray, List.append_toArray, List.nil_append, List.cons_append]
  gi_wp2
  gi_loopw [3] (fun i wr => ∃ k : Nat, k ≤ m ∧ i = .int .i64 ((m : Int) - 1 - k) ∧ J (dn m k) wr)
    (fun i _ => (intOf i + 1).toNat)
  case atStart => exact ⟨0, Nat.zero_le _, by simp, h0⟩
  case round =>
    obtain ⟨k, hk, rfl, hJs⟩ := hrel
    by_cases hlt : k < m
    · have hx : Hid (((m - 1 - k : Nat) : Int) = (m : Int) - 1 - k) := Lib.hid (by omega)
      obtain ⟨fn, tmps, assign, body, hy, hR⟩ := hY _ ⟨m - 1 - k, by omega⟩ wr hJs (by rw [dn_length (by omega)]; exact hlt)
      dsimp only at hy
      rw [hx.out] at hy
      gi_wp2
      refine hR.mono ?_
      rintro e W3 (⟨rfl, hJ3, hk3⟩ | ⟨rfl, hJx3⟩)
      · gi_wp2
        go_roundw
        case rel => exact ⟨k + 1, by omega, by go_num, by rw [dn_succ hlt]; exact hJ3⟩
        case measure => simp [intOf]; omega
      · gi_wp2
        refine bodyPost_ret (results_none rfl _ _ _) rfl ?_
        exact ⟨⟨_, rfl⟩, .inr ⟨_, ⟨k + 1, by omega, (dn_succ hlt).symm⟩, hJx3⟩⟩
    · obtain rfl : k = m := by omega
      gi_wp2
      go_end0
      exact ⟨⟨_, rfl⟩, .inl ⟨_, rfl, hJs⟩⟩

theorem backwards_stops (Be m : Nat) (hm : m ≤ 1000) (w : World) (hBe : Be < w.heap.size) (hc : w.cell? ⟨Be, 0, none⟩ = some (.int .i64 m)) :
    SeqStopsK Fence.wide 3 Try.prog 68 #[.pointer (some ⟨Be, 0, none⟩)] (fun x : Fin m => #[Value.int .i64 (x.1 : Int)]) (fun _ _ => True) (fun ys => ys = dn m m)
      (fun pre => ∃ k, k ≤ m ∧ pre = dn m k) m w := fun l J Jx W hW _ _ hY h0 =>
  backwards1_in l Be m hm J Jx hY W ((hW.cell (p := ⟨Be, 0, none⟩) hBe).trans hc) h0

end Go.Proofs.Ytkbnbdpdmcnkiaa
