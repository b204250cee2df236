/- The words for memory: a slice of ints that reads as a list, below a block number; kept over new blocks, draws and stores elsewhere. -/
import Derived.Test.YtkbnbdpdmcnkiaaRows
import Derived.Test.YtkbnbdpdmcnkiaaM
import Derived.WalkKit
import Derived.WalkSpells
import Derived.WalkLawsBesides
import Derived.Deep.Draws
import Derived.Lib.Hide
namespace Go.Proofs.Ytkbnbdpdmcnkiaa
open Go.RowKit

/-- The slice (A, n) holds the ints xs, in cells of blocks below B. -/
def SI (w : World) (B : Nat) (A : Option Addr) (n : Nat) (xs : List Int) : Prop :=
  xs.length = n ∧ (0 < n → ∃ b off, A = some ⟨b, off, none⟩ ∧ b < B ∧ ∀ k, k < n → w.cell? ⟨b, off + k, none⟩ = some (.int .i64 (g xs k)))

section
variable {w w' : World} {B B' n : Nat} {A : Option Addr} {xs : List Int}
theorem SI.nil : SI w B A 0 [] := ⟨rfl, fun h => absurd h (by omega)⟩
theorem SI.len (h : SI w B A n xs) : xs.length = n := h.1
theorem SI.at_ (h : SI w B A n xs) {k : Nat} (hk : k < n) :
    ∃ b off, A = some ⟨b, off, none⟩ ∧ b < B ∧ w.cell? ⟨b, off + k, none⟩ = some (.int .i64 (g xs k)) := by
  obtain ⟨b, off, e, hb, hc⟩ := h.2 (by omega)
  exact ⟨b, off, e, hb, hc k hk⟩
/-- The cell of place k, its number under a name; what the name stands for is hidden from the walk. -/
theorem SI.look (h : SI w B A n xs) {k : Nat} (hk : k < n) :
    ∃ b off x, A = some ⟨b, off, none⟩ ∧ b < B ∧ Hid (g xs k = x) ∧ w.cell? ⟨b, off + k, none⟩ = some (.int .i64 x) := by
  obtain ⟨b, off, e, hb, hc⟩ := h.at_ hk
  exact ⟨b, off, _, e, hb, Lib.hid rfl, hc⟩
theorem SI.keep (h : SI w B A n xs) (hk : ∀ p : Addr, p.block < B → w'.cell? p = w.cell? p) : SI w' B A n xs :=
  ⟨h.1, fun hn => by
    obtain ⟨b, off, e, hb, hc⟩ := h.2 hn
    exact ⟨b, off, e, hb, fun k hkn => (hk _ hb).trans (hc k hkn)⟩⟩
theorem SI.more (h : SI w B A n xs) (hB : B ≤ B') : SI w B' A n xs :=
  ⟨h.1, fun hn => by
    obtain ⟨b, off, e, hb, hc⟩ := h.2 hn
    exact ⟨b, off, e, by omega, hc⟩⟩
theorem SI.below (h : SI w B A n xs) (hb : Below B w w') : SI w' B A n xs := h.keep fun _ hp => hb.cell hp
theorem SI.drew (h : SI w B A n xs) : SI w.drew B A n xs := h
theorem SI.drewN (h : SI w B A n xs) (k : Nat) : SI (w.drewN k) B A n xs := h
theorem SI.alloc (h : SI w B A n xs) (hB : B ≤ w.heap.size) (o : Obj) : SI (w.alloc o) B A n xs := h.keep fun p hp => World.cell?_alloc_lt w o p (by omega)
theorem SI.setCell (h : SI w B A n xs) {p : Addr} (hB : B ≤ p.block) (u : Value) : SI (w.setCell p u) B A n xs :=
  h.keep fun q hq => World.cell?_setCell_other w p q u (fun e => by subst e; omega)
theorem SI.take (h : SI w B A n xs) {k : Nat} (hk : k ≤ n) : SI w B A k (xs.take k) := by
  refine ⟨by rw [List.length_take, h.1]; omega, fun h0 => ?_⟩
  obtain ⟨b, off, e, hb, hc⟩ := h.2 (by omega)
  refine ⟨b, off, e, hb, fun j hj => ?_⟩
  have e : g (xs.take k) j = g xs j := by unfold g; rw [List.getElem?_take, if_pos hj]
  rw [e]; exact hc j (by omega)
end

theorem ret_eq {a b : Value} (h : a = b) : Ending.returned a = Ending.returned b := by rw [h]
theorem ret_bool {a b : Bool} (h : a = b) : Ending.returned (.bool a) = Ending.returned (.bool b) := by rw [h]
theorem ret_int {a b : Int} (h : a = b) : Ending.returned (.int .i64 a) = Ending.returned (.int .i64 b) := by rw [h]

/-- x is between 0 and m. -/
def inB (m x : Int) : Bool := decide (0 ≤ x) && decide (x ≤ m)
/-- All of a list are between 0 and m. -/
def allB (m : Int) (xs : List Int) : Bool := xs.all (inB m)
theorem inB_t {m x : Int} (h1 : 0 ≤ x) (h2 : x ≤ m) : inB m x = true := by simp [inB, h1, h2]
theorem inB_lo {m x : Int} (h1 : x < 0) : inB m x = false := by simp [inB]; omega
theorem inB_hi {m x : Int} (h1 : m < x) : inB m x = false := by simp [inB]; omega
theorem inB_iff {m x : Int} : inB m x = true ↔ 0 ≤ x ∧ x ≤ m := by simp [inB]
theorem allB_iff {m : Int} {xs : List Int} : allB m xs = true ↔ ∀ k, k < xs.length → 0 ≤ g xs k ∧ g xs k ≤ m := by
  unfold allB
  rw [List.all_eq_true]
  constructor
  · intro h k hk
    have := h (xs[k]) (List.getElem_mem hk)
    rw [inB_iff] at this
    simpa [g, List.getElem?_eq_getElem hk] using this
  · intro h x hx
    obtain ⟨k, hk, rfl⟩ := List.getElem_of_mem hx
    rw [inB_iff]
    simpa [g, List.getElem?_eq_getElem hk] using h k hk
theorem allB_take_succ {m : Int} {xs : List Int} {k : Nat} (h : allB m (xs.take k) = true) (hk : k < xs.length) (hx : inB m (g xs k) = true) : allB m (xs.take (k + 1)) = true := by
  unfold allB at *
  rw [List.take_succ_eq_append_getElem hk, List.all_append, h]
  simpa [g, List.getElem?_eq_getElem hk] using hx
theorem allB_false {m : Int} {xs : List Int} {k : Nat} (hk : k < xs.length) (hx : inB m (g xs k) = false) : allB m xs = false := by
  unfold allB
  rw [List.all_eq_false]
  refine ⟨xs[k], List.getElem_mem hk, ?_⟩
  simpa [g, List.getElem?_eq_getElem hk] using hx

end Go.Proofs.Ytkbnbdpdmcnkiaa
