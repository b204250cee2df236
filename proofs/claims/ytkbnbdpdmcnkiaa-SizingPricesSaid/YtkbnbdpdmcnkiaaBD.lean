/- prices.inequalities: the iterator and its contract. -/
import Derived.Test.YtkbnbdpdmcnkiaaBC
import Derived.Test.YtkbnbdpdmcnkiaaX
import Derived.Test.YtkbnbdpdmcnkiaaL
namespace Go.Proofs.Ytkbnbdpdmcnkiaa
open Go.RowKit Go.Shelf

attribute [local go_sem] Oper.semAt_some

/-- Two days, the first one not behind the last one. -/
def Pr (n : Nat) : Type := { p : Nat × Nat // p.1 ≤ p.2 ∧ p.2 < n }
/-- The inequality of two days. -/
def prV (xs : List Int) (st h : Int) {n : Nat} (y : Pr n) : Value :=
  .agg #[.int .i64 (y.1.1 : Int), .int .i64 (y.1.2 : Int), .int .i64 (btw st h (g xs) y.1.1 (y.1.2 + 1 - y.1.1)), .bool (decide (sm (g xs) y.1.1 (y.1.2 + 1 - y.1.1) = 0))]

theorem grownBy_set (W : World) (p : Addr) (v : Value) : W.grownBy (W.setCell p v) (some p.block) :=
  ⟨rfl, rfl, rfl, (KeepsWalks.setCell W _ v).size, fun k _ hk => Below.heap_setCell _ _ _ k (fun e => hk (by rw [e]))⟩
theorem grownBy_drew' {w w' : World} {row : Option Nat} (h : w.grownBy w' row) : w.grownBy w'.drew row := ⟨h.os, h.tape, h.output, h.size, h.block⟩
theorem AbA.set {α : Type} {B : Nat} {J : α → World → Prop} (h : AbA B J) {s : α} {W : World} (hs : J s W) {p : Addr} (hl : B ≤ p.block) (v : Value) : J s (W.setCell p v) :=
  h s W _ _ hs (grownBy_set W p v) (fun r e => by cases e; exact hl)
theorem AbA.drew {α : Type} {B : Nat} {J : α → World → Prop} (h : AbA B J) {s : α} {W : World} (hs : J s W) : J s W.drew :=
  h s W _ none hs (grownBy_drew' ⟨rfl, rfl, rfl, Nat.le_refl _, fun _ _ _ => rfl⟩) (fun _ e => by cases e)
theorem Blk.kx {w w' : World} {b : Nat} {t : TypeId} {cs : Array Value} {x y : Nat} (h : Blk w b t cs) (hk : Kx x y w w') (h1 : b ≠ x) (h2 : b ≠ y) : Blk w' b t cs := (hk.2 b h1 h2 h.lt).trans h
theorem SI.kx {w w' : World} {B n : Nat} {A : Option Addr} {xs : List Int} {x y : Nat} (h : SI w B A n xs) (hB : B ≤ w.heap.size) (hk : Kx x y w w') (h1 : B ≤ x) (h2 : B ≤ y) : SI w' B A n xs :=
  h.keep fun p hp => World.cell?_of_block (hk.2 p.block (by omega) (by omega) (by omega))

/-- inequalities(need, setup, hold): the three are boxed. -/
theorem inequalities_in (A : Option Addr) (n cap : Nat) (st h : Int) (w : World) :
    CallsIn Fence.wide 3 Try.prog 56 #[.slice A n cap, .int .i64 st, .int .i64 h] w fun e w' =>
      e = .returned (.func (.func 66) #[] #[.pointer (some ⟨w.heap.size, 0, none⟩), .pointer (some ⟨w.heap.size + 1, 0, none⟩), .pointer (some ⟨w.heap.size + 1 + 1, 0, none⟩)]) ∧
      w' = ((w.alloc (.cells #[.slice A n cap] 22)).alloc (.cells #[.int .i64 st] 3)).alloc (.cells #[.int .i64 h] 3) := by
  refine callsIn_of_wp Try.func56 rfl trivial ?_ rfl
  simp only [Try.ntmps56, List.size_toArray, List.length_cons, List.length_nil, Nat.reduceAdd, Nat.reduceSub, Array.replicate_succ, Array.replicate_zero, List.push_toArray, List.append_toArray, List.nil_append, List.cons_append]
  gi_wp2
  go_ret
  exact ⟨rfl, rfl⟩

theorem sm_bd {f : Nat → Int} {n : Nat} (hf : Bd 1048576 f n) (s k : Nat) (hk : s + k ≤ n) : 0 ≤ sm f s k ∧ sm f s k ≤ k * 1048576 := by
  induction k with
  | zero => exact ⟨Int.le_refl _, by simp [sm]⟩
  | succ k ih =>
    have := ih (by omega)
    have := hf (s + k) (by omega)
    rw [sm]
    omega
theorem hd_bd {f : Nat → Int} {n : Nat} (hf : Bd 1048576 f n) (hn : n ≤ 16) (s k : Nat) (hk : s + k ≤ n) : 0 ≤ hd f s k ∧ hd f s k ≤ k * 16777216 := by
  induction k with
  | zero => exact ⟨Int.le_refl _, by simp [hd]⟩
  | succ k ih =>
    have h1 := ih (by omega)
    have h2 := hf (s + k) (by omega)
    have h3 := Int.mul_nonneg (show (0 : Int) ≤ (k : Int) by omega) h2.1
    have h4 : (k : Int) * f (s + k) ≤ 16 * 1048576 := Int.mul_le_mul (by omega) h2.2 h2.1 (by omega)
    rw [hd]
    omega

/-- What lies between two rounds. -/
structure IN (B n cap bn bs bh lo : Nat) (A : Option Addr) (xs : List Int) (st h : Int) (wr : World) : Prop where
  bn : Blk wr bn 22 #[.slice A n cap]
  bs : Blk wr bs 3 #[.int .i64 st]
  bh : Blk wr bh 3 #[.int .i64 h]
  si : SI wr B A n xs
  lo : lo ≤ wr.heap.size

theorem IN.set {B n cap bn bs bh lo gs : Nat} {A : Option Addr} {xs : List Int} {st h : Int} {wr : World} (hi : IN B n cap bn bs bh lo A xs st h wr) (o : Nat) (u : Value) (hB : B ≤ gs) (h1 : bn ≠ gs) (h2 : bs ≠ gs) (h3 : bh ≠ gs) :
    IN B n cap bn bs bh lo A xs st h (wr.setCell ⟨gs, o, none⟩ u) :=
  ⟨hi.bn.far (p := ⟨gs, o, none⟩) h1 u, hi.bs.far (p := ⟨gs, o, none⟩) h2 u, hi.bh.far (p := ⟨gs, o, none⟩) h3 u, hi.si.setCell (p := ⟨gs, o, none⟩) hB u, by have := hi.lo; simpa using this⟩
theorem IN.drew {B n cap bn bs bh lo : Nat} {A : Option Addr} {xs : List Int} {st h : Int} {wr : World} (hi : IN B n cap bn bs bh lo A xs st h wr) : IN B n cap bn bs bh lo A xs st h wr.drew := ⟨hi.bn, hi.bs, hi.bh, hi.si, hi.lo⟩
theorem IN.alloc {B n cap bn bs bh lo : Nat} {A : Option Addr} {xs : List Int} {st h : Int} {wr : World} (hi : IN B n cap bn bs bh lo A xs st h wr) (hB : B ≤ wr.heap.size) (o : Obj) : IN B n cap bn bs bh lo A xs st h (wr.alloc o) :=
  ⟨hi.bn.alloc o, hi.bs.alloc o, hi.bh.alloc o, hi.si.alloc hB o, by have := hi.lo; simp; omega⟩
theorem IN.kx {B n cap bn bs bh lo x y : Nat} {A : Option Addr} {xs : List Int} {st h : Int} {wr w' : World} (hi : IN B n cap bn bs bh lo A xs st h wr) (hk : Kx x y wr w') (hB : B ≤ wr.heap.size) (b1 : B ≤ x) (b2 : B ≤ y) (d1 : bn ≠ x) (d2 : bs ≠ x) (d3 : bh ≠ x) (d4 : bn ≠ y) (d5 : bs ≠ y) (d6 : bh ≠ y) :
    IN B n cap bn bs bh lo A xs st h w' :=
  ⟨hi.bn.kx hk d1 d4, hi.bs.kx hk d2 d5, hi.bh.kx hk d3 d6, hi.si.kx hB hk b1 b2, Nat.le_trans hi.lo hk.1⟩
theorem added {gs : Nat} {w : World} {m nd hl m' nd' hl' : Value} (hb : Blk w gs 83 #[m, nd, hl]) : Blk (((w.setCell ⟨gs, 1, none⟩ nd').setCell ⟨gs, 2, none⟩ hl').setCell ⟨gs, 0, none⟩ m').drew gs 83 #[m', nd', hl'] := by
  have := (((hb.set_ 1 nd').set_ 2 hl').set_ 0 m').drew
  simpa using this
theorem addedJ {α : Type} {B gs : Nat} {J : α → World → Prop} (hJ : AbA B J) {s : α} {w : World} (hs : J s w) (hg : B ≤ gs) (a b c : Value) : J s (((w.setCell ⟨gs, 1, none⟩ a).setCell ⟨gs, 2, none⟩ b).setCell ⟨gs, 0, none⟩ c).drew :=
  hJ.drew (hJ.set (p := ⟨gs, 0, none⟩) (hJ.set (p := ⟨gs, 2, none⟩) (hJ.set (p := ⟨gs, 1, none⟩) hs hg a) hg b) hg c)

set_option maxRecDepth 100000 in
set_option maxHeartbeats 2000000 in
theorem inequalities1_in (l B n cap bn bs bh gt lr lo : Nat) (A : Option Addr) (xs : List Int) (st h : Int) (hn : n ≤ 16) (hX : Bd 1048576 (g xs) n) (hf : ∀ k, 0 ≤ g xs k) (hs0 : 0 ≤ st) (hs1 : st ≤ 1048576) (hh0 : 0 ≤ h) (hh1 : h ≤ 1048576)
    (e1 : B ≤ bn) (e2 : B ≤ bs) (_e3 : B ≤ bh) (e4 : B ≤ gt) (e5 : B ≤ lr) (k1 : bn < lo) (k2 : bs < lo) (k3 : bh < lo) (k4 : gt < lo) (k5 : lr < lo) (d1 : bn ≠ gt) (d2 : bs ≠ gt) (d3 : bh ≠ gt) (d4 : bn ≠ lr) (d5 : bs ≠ lr) (d6 : bh ≠ lr)
    (J Jx : List (Pr n) → World → Prop) (hJ : AbA lo J) (hJx : AbA lo Jx)
    (hY : ∀ pre x W, J pre W → pre.length < 1000 → YieldAt Fence.wide (3 - 1) Try.prog l #[prV xs st h x] W fun e W' =>
      (e = .returned (.bool true) ∧ J (pre ++ [x]) W' ∧ Kx gt lr W W') ∨ (e = .returned (.bool false) ∧ Jx (pre ++ [x]) W'))
    (W : World) (hin : IN B n cap bn bs bh lo A xs st h W) (hlo : lo = W.heap.size) (h0 : J [] W) :
    CallsIn Fence.wide 3 Try.prog 66 #[.func (.yield l) #[] #[], .pointer (some ⟨bn, 0, none⟩), .pointer (some ⟨bs, 0, none⟩), .pointer (some ⟨bh, 0, none⟩)] W fun e W' => (∃ v, e = .returned v) ∧
      ((∃ ys : List (Pr n), (∀ y, y ∈ ys) ∧ J ys W') ∨ (∃ pre, Jx pre W')) := by
  refine callsIn_of_wp Try.func66 rfl trivial ?_ rfl
  simp only [Try.ntmps66, List.size_toArray, List.length_cons, List.length_nil, Nat.reduceAdd, Nat.reduceSub, Array.replicate_succ, Array.replicate_zero, List.push_toArray, List.append_toArray, List.nil_append, List.cons_append]
  have c0 := hin.bn.cell 0
  gi_wp2
  clear c0
  gi_loopw [11] (fun i wr => ∃ (k : Nat) (pre : List (Pr n)), k ≤ n ∧ i = .int .i64 k ∧ J pre wr ∧ pre.length ≤ k * 16 ∧ (∀ y : Pr n, y.1.1 < k → y ∈ pre) ∧ IN B n cap bn bs bh lo A xs st h wr)
    (fun i _ => n - (intOf i).toNat)
  case atStart => exact ⟨0, [], Nat.zero_le _, rfl, h0, by simp, fun y hy => by omega, hin⟩
  case round =>
    obtain ⟨k, pre, hk, rfl, hJs, hlen, hall, hi⟩ := hrel
    by_cases hlt : k < n
    · gi_wp2
      have hb6 := Blk.new wr 83 #[.int .i64 0, .int .i64 0, .int .i64 0]
      have hi6 : IN B n cap bn bs bh lo A xs st h (wr.alloc (.cells #[.int .i64 0, .int .i64 0, .int .i64 0] 83)) :=
        ⟨hi.bn.alloc _, hi.bs.alloc _, hi.bh.alloc _, hi.si.alloc (by have := hi.bn.lt; omega) _, by have := hi.lo; simp; omega⟩
      have hJ6 := hJ.alloc hJs (.cells #[.int .i64 0, .int .i64 0, .int .i64 0] 83)
      have hgs := hi.lo
      clear hi hJs
      generalize wr.alloc (.cells #[.int .i64 0, .int .i64 0, .int .i64 0] 83) = wo at *
      generalize wr.heap.size = gs at *
      gi_loopw [7] (fun i wi => ∃ (j : Nat) (pre : List (Pr n)), k ≤ j ∧ j ≤ n ∧ i = .int .i64 j ∧ J pre wi ∧ pre.length ≤ k * 16 + (j - k) ∧ (∀ y : Pr n, y.1.1 < k → y ∈ pre) ∧ (∀ y : Pr n, y.1.1 = k → y.1.2 < j → y ∈ pre) ∧ IN B n cap bn bs bh lo A xs st h wi ∧
        Blk wi gs 83 #[.int .i64 ((j - k : Nat) : Int), .int .i64 (sm (g xs) k (j - k)), .int .i64 (hd (g xs) k (j - k))])
        (fun i _ => n - (intOf i).toNat)
      case atStart => exact ⟨k, pre, Nat.le_refl _, hk, rfl, hJ6, by omega, hall, fun y h1 h2 => by have := y.2; omega, hi6, by simpa [sm, hd] using hb6⟩
      case round =>
        rename_i wi hrel
        obtain ⟨j, pre, hkj, hj, rfl, hJs, hlen, hall1, hall2, hi, hb⟩ := hrel
        have c0 := hi.bn.cell 0
        by_cases hjl : j < n
        · obtain ⟨b, off, x, rfl, hbB, hx, hc⟩ := hi.si.look hjl
          have hxb := hX j hjl
          rw [hx.out] at hxb
          have hS := sm_bd hX k (j - k) (by omega)
          have hH := hd_bd hX hn k (j - k) (by omega)
          have hS' : Hid (sm (g xs) k (j + 1 - k) = sm (g xs) k (j - k) + x) := Lib.hid (by rw [show j + 1 - k = (j - k) + 1 by omega, sm, show k + (j - k) = j by omega, hx.out])
          have hH' : Hid (hd (g xs) k (j + 1 - k) = hd (g xs) k (j - k) + ((j - k : Nat) : Int) * x) := Lib.hid (by rw [show j + 1 - k = (j - k) + 1 by omega, hd, show k + (j - k) = j by omega, hx.out])
          obtain ⟨S, hSe⟩ : ∃ S, sm (g xs) k (j - k) = S := ⟨_, rfl⟩
          obtain ⟨H, hHe⟩ : ∃ H, hd (g xs) k (j - k) = H := ⟨_, rfl⟩
          rw [hSe] at hb hS hS'
          rw [hHe] at hb hH hH'
          clear hSe hHe
          have hadd := add_any gs ((j - k : Nat) : Int) S H x _ hb (by omega) (by omega) hS.1 (by omega) hH.1 (by omega) hxb.1 hxb.2
          have ADD := Lib.hid hadd
          clear hadd
          gi_wp2_with fail
          refine ⟨trivial, ?_⟩
          gi_at_call 67
          refine (callsIn_wide.2 ADD.out).mono ?_
          rintro e w2 ⟨⟨v, rfl⟩, hw2⟩
          obtain ⟨hJ2, hi2, hb2⟩ : J pre w2 ∧ IN B n cap bn bs bh lo (some ⟨b, off, none⟩) xs st h w2 ∧ Blk w2 gs 83 #[.int .i64 (((j - k : Nat) : Int) + 1), .int .i64 (S + x), .int .i64 (H + ((j - k : Nat) : Int) * x)] := by
            rw [hw2]
            exact ⟨addedJ hJ hJs hgs _ _ _, ((((hi.set 1 _ (by omega) (by omega) (by omega) (by omega)).set 2 _ (by omega) (by omega) (by omega) (by omega)).set 0 _ (by omega) (by omega) (by omega) (by omega))).drew, added hb⟩
          clear hw2 hb hi hJs hc c0
          have q0 := hi2.bn.cell 0
          have q1 := hi2.bs.cell 0
          have q2 := hi2.bh.cell 0
          have q3 : w2.cell? ⟨gs, 1, none⟩ = some (.int .i64 (S + x)) := hb2.cell 1
          have q4 : w2.cell? ⟨gs, 2, none⟩ = some (.int .i64 (H + ((j - k : Nat) : Int) * x)) := hb2.cell 2
          have q5 := hb2.lt
          have q6 := hi2.bs.lt
          have q7 := hi2.bh.lt
          by_cases hz : S + x = 0
          · have hJ3 := hJ.alloc hJ2 (.cells #[.int .i64 (k : Int), .int .i64 (j : Int), .int .i64 0, .bool true] 74)
            have hi3 := hi2.alloc (by have := hi2.lo; omega) (.cells #[.int .i64 (k : Int), .int .i64 (j : Int), .int .i64 0, .bool true] 74)
            have hb3 := hb2.alloc (.cells #[.int .i64 (k : Int), .int .i64 (j : Int), .int .i64 0, .bool true] 74)
            obtain ⟨y0, hy0⟩ : ∃ y0 : Pr n, y0.1 = (k, j) := ⟨⟨(k, j), hkj, hjl⟩, rfl⟩
            have hv : prV xs st h y0 = .agg #[.int .i64 (k : Int), .int .i64 (j : Int), .int .i64 0, .bool true] := by
              have hz' : sm (g xs) k (j + 1 - k) = 0 := by rw [hS'.out]; exact hz
              simp only [prV, hy0, btw_zero hf hz', hz', decide_true]
            obtain ⟨fn, tmps, assign, body, hy, hR⟩ := hY pre y0 _ hJ3 (by omega)
            rw [hv] at hy
            have HY0 := Lib.hid hy0
            clear hy0 hv
            have HR := Lib.hid hR
            clear hR
            gi_wp2_with fail
            refine HR.out.mono ?_
            rintro e W3 (⟨rfl, hJ4, hk4⟩ | ⟨rfl, hJx4⟩)
            · have hi4 := hi3.kx hk4 (by have := hi3.lo; omega) e4 e5 d1 d2 d3 d4 d5 d6
              have hb4 := hb3.kx hk4 (by omega) (by omega)
              clear hy HR hk4 q0 q1 q2 q3 q4 q5 q6 q7
              gi_wp2
              go_roundw
              case rel =>
                refine ⟨j + 1, pre ++ [y0], by omega, by omega, by go_num, hJ4, by rw [List.length_append, List.length_singleton]; omega, fun y hy => List.mem_append_left _ (hall1 y hy), fun y h1 h2 => ?_, hi4, ?_⟩
                · by_cases e : y.1.2 = j
                  · exact List.mem_append_right _ (List.mem_singleton.2 (Subtype.ext (by rw [HY0.out]; exact Prod.ext h1 e)))
                  · exact List.mem_append_left _ (hall2 y h1 (by omega))
                · rw [hS'.out, hH'.out, show ((j + 1 - k : Nat) : Int) = ((j - k : Nat) : Int) + 1 by omega]
                  exact hb4
              case measure => simp [intOf]; omega
            · clear hy HR q0 q1 q2 q3 q4 q5 q6 q7
              gi_wp2
              refine bodyPost_ret (results_none rfl _ _ _) rfl ?_
              exact ⟨⟨_, rfl⟩, .inr ⟨_, hJx4⟩⟩
          · have hm := mul_bd hh0 hh1 (show 0 ≤ H + ((j - k : Nat) : Int) * x by have := hd_bd hX hn k (j + 1 - k) (by omega); rw [hH'.out] at this; exact this.1) (show H + ((j - k : Nat) : Int) * x ≤ 285212672 by have := hd_bd hX hn k (j + 1 - k) (by omega); rw [hH'.out] at this; omega)
            obtain ⟨hm1, hm2⟩ := hm
            have hw1 : IntKind.i64.wrap (h * (H + ((j - k : Nat) : Int) * x)) = h * (H + ((j - k : Nat) : Int) * x) := IntWalk.i64_in _ (by omega)
            have hw2 : IntKind.i64.wrap (st + h * (H + ((j - k : Nat) : Int) * x)) = st + h * (H + ((j - k : Nat) : Int) * x) := IntWalk.i64_in _ (by omega)
            have hzb : (S + x == 0) = false := by simp [hz]
            have HZ := Lib.hid hz
            clear hz
            have hJ3 := hJ.alloc hJ2 (.cells #[.int .i64 (k : Int), .int .i64 (j : Int), .int .i64 (st + h * (H + ((j - k : Nat) : Int) * x)), .bool false] 74)
            have hi3 := hi2.alloc (by have := hi2.lo; omega) (.cells #[.int .i64 (k : Int), .int .i64 (j : Int), .int .i64 (st + h * (H + ((j - k : Nat) : Int) * x)), .bool false] 74)
            have hb3 := hb2.alloc (.cells #[.int .i64 (k : Int), .int .i64 (j : Int), .int .i64 (st + h * (H + ((j - k : Nat) : Int) * x)), .bool false] 74)
            obtain ⟨y0, hy0⟩ : ∃ y0 : Pr n, y0.1 = (k, j) := ⟨⟨(k, j), hkj, hjl⟩, rfl⟩
            have hv : prV xs st h y0 = .agg #[.int .i64 (k : Int), .int .i64 (j : Int), .int .i64 (st + h * (H + ((j - k : Nat) : Int) * x)), .bool false] := by
              have hz' : sm (g xs) k (j + 1 - k) ≠ 0 := by rw [hS'.out]; exact HZ.out
              simp only [prV, hy0, btw_pos hf hz', hz', decide_false, hH'.out]
            obtain ⟨fn, tmps, assign, body, hy, hR⟩ := hY pre y0 _ hJ3 (by omega)
            rw [hv] at hy
            have HY0 := Lib.hid hy0
            clear hy0 hv
            have HR := Lib.hid hR
            clear hR
            gi_wp2_with fail
            refine HR.out.mono ?_
            rintro e W3 (⟨rfl, hJ4, hk4⟩ | ⟨rfl, hJx4⟩)
            · have hi4 := hi3.kx hk4 (by have := hi3.lo; omega) e4 e5 d1 d2 d3 d4 d5 d6
              have hb4 := hb3.kx hk4 (by omega) (by omega)
              clear hy HR hk4 hw1 hw2 q0 q1 q2 q3 q4 q5 q6 q7
              gi_wp2
              go_roundw
              case rel =>
                refine ⟨j + 1, pre ++ [y0], by omega, by omega, by go_num, hJ4, by rw [List.length_append, List.length_singleton]; omega, fun y hy => List.mem_append_left _ (hall1 y hy), fun y h1 h2 => ?_, hi4, ?_⟩
                · by_cases e : y.1.2 = j
                  · exact List.mem_append_right _ (List.mem_singleton.2 (Subtype.ext (by rw [HY0.out]; exact Prod.ext h1 e)))
                  · exact List.mem_append_left _ (hall2 y h1 (by omega))
                · rw [hS'.out, hH'.out, show ((j + 1 - k : Nat) : Int) = ((j - k : Nat) : Int) + 1 by omega]
                  exact hb4
              case measure => simp [intOf]; omega
            · clear hy HR hw1 hw2 q0 q1 q2 q3 q4 q5 q6 q7
              gi_wp2
              refine bodyPost_ret (results_none rfl _ _ _) rfl ?_
              exact ⟨⟨_, rfl⟩, .inr ⟨_, hJx4⟩⟩
        · have ej : j = n := by omega
          subst ej
          gi_wp2
          go_roundw
          case rel => exact ⟨k + 1, pre, by omega, by go_num, hJs, by omega, fun y hy => by
            by_cases e : y.1.1 = k
            · exact hall2 y e (by have := y.2; omega)
            · exact hall1 y (by omega), hi⟩
          case measure => simp [intOf]; omega
    · have ek : k = n := by omega
      subst ek
      gi_wp2
      go_end0
      exact ⟨⟨_, rfl⟩, .inl ⟨pre, fun y => hall y (by have := y.2; omega), hJs⟩⟩

theorem inequalities_stops (B n cap bn bs bh gt : Nat) (A : Option Addr) (xs : List Int) (st h : Int) (w : World) (hn : n ≤ 16) (hX : Bd 1048576 (g xs) n) (hf : ∀ k, 0 ≤ g xs k) (hs0 : 0 ≤ st) (hs1 : st ≤ 1048576) (hh0 : 0 ≤ h) (hh1 : h ≤ 1048576)
    (e1 : B ≤ bn) (e2 : B ≤ bs) (e3 : B ≤ bh) (e4 : B ≤ gt) (k4 : gt < w.heap.size) (d1 : bn ≠ gt) (d2 : bs ≠ gt) (d3 : bh ≠ gt) (hin : IN B n cap bn bs bh w.heap.size A xs st h w) :
    SeqO Fence.wide 3 Try.prog 66 #[.pointer (some ⟨bn, 0, none⟩), .pointer (some ⟨bs, 0, none⟩), .pointer (some ⟨bh, 0, none⟩)] (fun y : Pr n => #[prV xs st h y]) (Kx gt (w.heap.size + 1)) (fun ys => ∀ y, y ∈ ys) 1000 w := by
  intro l J Jx W hW hsz hJ hJx hY h0
  have l1 := hin.bn.lt
  have l2 := hin.bs.lt
  have l3 := hin.bh.lt
  refine inequalities1_in l B n cap bn bs bh gt (w.heap.size + 1) W.heap.size A xs st h hn hX hf hs0 hs1 hh0 hh1 e1 e2 e3 e4 (by omega) (by omega) (by omega) (by omega) (by omega) (by omega) d1 d2 d3 (by omega) (by omega) (by omega) J Jx hJ hJx hY W
    ⟨hin.bn.below hW l1, hin.bs.below hW l2, hin.bh.below hW l3, hin.si.below (hW.mono (by omega)), Nat.le_refl _⟩ rfl h0

end Go.Proofs.Ytkbnbdpdmcnkiaa
