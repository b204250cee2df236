/- Prices of the first days, plain; the closure of SizingPrices. -/
import Derived.Test.YtkbnbdpdmcnkiaaCD
import Derived.Test.YtkbnbdpdmcnkiaaAB
namespace Go.Proofs.Ytkbnbdpdmcnkiaa
open Go.RowKit

theorem btwN_zero {h : Int} {f : Nat → Int} {s : Nat} : ∀ k, btwS f s k = false → btwN h f s k = 0
  | 0, _ => rfl
  | k + 1, e => by
    simp only [btwS, Bool.or_eq_false_iff] at e
    have h1 := btwN_zero (h := h) k e.1
    have h2 : f (s + k) = 0 := by simpa using e.2
    simp only [btwN, h1, h2, Int.mul_zero, Int.add_zero]
theorem btw_sum {st h : Int} {f : Nat → Int} {s k : Nat} : btw st h f s k = btwN h f s k + (if btwS f s k = true then st else 0) := by
  unfold btw
  split
  · rfl
  · rename_i e
    rw [btwN_zero k (by simpa using e)]
    rfl
theorem take_g {xs : List Int} {k i : Nat} (h : k ≤ i) : g (xs.take k) i = 0 := by
  unfold g
  rw [List.getElem?_eq_none (by rw [List.length_take]; omega)]
  rfl
theorem take_vA {xs : List Int} {s h : Int} (hv : vA xs s h = true) (k : Nat) : vA (xs.take k) s h = true := by
  obtain ⟨hn, hf, s0, s1, h0, h1⟩ := vA_all hv
  refine vA_iff.2 ⟨vN_iff.2 ⟨by rw [List.length_take]; omega, fun i _ => ?_⟩, ⟨s0, s1⟩, h0, h1⟩
  by_cases hi : i < k
  · rw [g_take xs hi]; exact hf i
  · rw [take_g (by omega)]; omega
theorem take_len {xs : List Int} {k : Nat} (hk : k ≤ xs.length) : (xs.take k).length = k := by rw [List.length_take]; omega
theorem take_szC {xs : List Int} {s h : Int} (hv : vA xs s h = true) {k : Nat} (hk : k ≤ xs.length) : szC (xs.take k) s h = pF (szP xs s h) k := by
  rw [szC_good (take_vA hv k), take_len hk, pF_szP hv hk]
  exact (best_congr s h (fun i hi => g_take xs hi)).2
theorem take_szP {xs : List Int} {s h : Int} (hv : vA xs s h = true) {k : Nat} (hk : k ≤ xs.length) : szP (xs.take k) s h = (szP xs s h).take k := by
  have hv' := take_vA hv k
  refine same_take (n := k) ((szP_len hv').trans (take_len hk)) (take_len (by rw [szP_len hv]; exact hk)) (fun j hj => ?_)
  rw [szP_at hv' (by rw [take_len hk]; exact hj), g_take _ hj, szP_at hv (by omega)]
  exact (best_congr s h (fun i hi => g_take xs (by omega))).2

/-- The closure: the price of the first d days, of the prices in the boxed Size. -/
theorem priceS_any {b n c1 c2 m : Nat} {A1 A2 : Option Addr} {C : Int} (ps : List Int) (d : Nat) {w : World} (hb : Blk w b 26 #[.slice A1 m c1, .int .i64 C, .slice A2 n c2]) (h : SI w w.heap.size A2 n ps) (hn : n ≤ 1000) (hd : d ≤ n) (x : Int) (hx : pF ps d = x) :
    Calls Try.prog 29 #[.int .i64 d, .pointer (some ⟨b, 0, none⟩)] w fun e w' => e = .returned (.int .i64 x) ∧ w = w' := by
  subst hx
  have c2 := hb.cell 2
  match d, hd with
  | 0, _ =>
    go_enter Try.func29, Try.ntmps29
    go_wp2
    go_ret
    exact ⟨rfl, rfl⟩
  | d + 1, hd =>
    obtain ⟨b, off, x, rfl, hb, hx, hc⟩ := h.look (k := d) (by omega)
    have i1 : (((d + 1 : Nat) : Int) == 0) = false := by simpa using (by omega : ¬ ((d + 1 : Nat) : Int) = 0)
    have i2 : IntKind.i64.wrap (((d + 1 : Nat) : Int) - 1) = (d : Int) := by rw [show ((d + 1 : Nat) : Int) - 1 = (d : Int) by omega]; exact IntWalk.i64_in _ (by omega)
    go_enter Try.func29, Try.ntmps29
    go_wp2
    go_ret
    exact ⟨ret_int hx.out.symm, rfl⟩

end Go.Proofs.Ytkbnbdpdmcnkiaa
