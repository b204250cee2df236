/- The walk of the reference's Size. -/
import Derived.Test.YtkbnbdpdmcnkiaaCH
import Derived.Test.YtkbnbdpdmcnkiaaCI
import Derived.Test.YtkbnbdpdmcnkiaaCJ
import Derived.Test.YtkbnbdpdmcnkiaaG
namespace Go.Proofs.Ytkbnbdpdmcnkiaa
open Go.RowKit

theorem pow_start (n : Nat) (hn : n ≤ 16) : wrap64 (wrap64 ((2 : Int) ^ n) - 1) = ((2 ^ n : Nat) : Int) - 1 := by
  have h1 : (2 : Nat) ^ n ≤ 2 ^ 16 := Nat.pow_le_pow_right (by decide) hn
  have h2 : 0 < (2 : Nat) ^ n := Nat.pow_pos (by decide)
  have e : ((2 : Int) ^ n) = ((2 ^ n : Nat) : Int) := by simp
  rw [e]
  generalize (2 ^ n : Nat) = P at *
  unfold wrap64; omega

theorem NoneR.skip {f : Nat → Int} {n k : Nat} (h : NoneR f n (k + 1)) (hp : ¬ pos f k.testBit n) : NoneR f n k := fun N h1 h2 => by
  by_cases e : N = k
  · subst e; exact hp
  · exact h N (by omega) h2
theorem NoneR.take {st h : Int} {f : Nat → Int} {n k : Nat} (hN : NoneR f n (k + 1)) (hk : k < 2 ^ n) (hp : pos f k.testBit n) {c : Int} (hc : c = sc st h f k.testBit n) : FoundR st h f n k c k :=
  ⟨Nat.le_refl _, hk, hp, hc, fun N h1 h2 h3 => by
    by_cases e : N = k
    · subst e; exact .inr ⟨hc, Nat.le_refl _⟩
    · exact absurd h3 (hN N (by omega) h2)⟩
theorem FoundR.skip {st h : Int} {f : Nat → Int} {n k N0 : Nat} {c : Int} (hF : FoundR st h f n (k + 1) c N0) (hp : pos f k.testBit n → c ≤ sc st h f k.testBit n) : FoundR st h f n k c N0 := by
  obtain ⟨h1, h2, h3, h4, h5⟩ := hF
  refine ⟨by omega, h2, h3, h4, fun N h6 h7 h8 => ?_⟩
  by_cases e : N = k
  · subst e
    have := hp h8
    omega
  · exact h5 N (by omega) h7 h8
theorem FoundR.take {st h : Int} {f : Nat → Int} {n k N0 : Nat} {c c' : Int} (hF : FoundR st h f n (k + 1) c N0) (hk : k < 2 ^ n) (hp : pos f k.testBit n) (hc : c' = sc st h f k.testBit n) (hlt : c' < c) : FoundR st h f n k c' k := by
  obtain ⟨h1, h2, h3, h4, h5⟩ := hF
  refine ⟨Nat.le_refl _, hk, hp, hc, fun N h6 h7 h8 => ?_⟩
  by_cases e : N = k
  · subst e; exact .inr ⟨hc, Nat.le_refl _⟩
  · have := h5 N (by omega) h7 h8
    omega

theorem OI.base {w : World} {base base' n : Nat} {v : Value} {xs : List Int} (h : OI w base v n xs) (hb : base' ≤ base) : OI w base' v n xs :=
  ⟨h.1, h.2.imp id fun ⟨g0, c, cur, e, h1, h2⟩ => ⟨g0, c, cur, e, Nat.le_trans hb h1, h2⟩⟩

/-- What the search holds. -/
structure RS (w : World) (v : Value) (c : Int) (W : World) : Prop where
  b6 : Blk W w.heap.size 26 #[.slice none 0 0, .int .i64 0, .slice none 0 0]
  b8 : Blk W (w.heap.size + 1) 26 #[v, .int .i64 c, .slice none 0 0]
  below : Below w.heap.size w W
theorem RS.step {w : World} {v : Value} {c : Int} {W W' : World} (r : RS w v c W) (hb : Below W.heap.size W W') : RS w v c W' := ⟨r.b6.below hb r.b6.lt, r.b8.below hb r.b8.lt, r.below.trans (hb.mono r.below.size)⟩
/-- .. and what is known of it. -/
def SR (st h : Int) (f : Nat → Int) (n k base : Nat) (v : Value) (c : Int) (W : World) : Prop :=
  (c = -1 ∧ NoneR f n k) ∨ (0 ≤ c ∧ ∃ N0, FoundR st h f n k c N0 ∧ OI W base v n (lotL N0.testBit f n n))
theorem SR.step {st h : Int} {f : Nat → Int} {n k base : Nat} {v : Value} {c : Int} {W W' : World} (s : SR st h f n k base v c W) (hb : Below W.heap.size W W') : SR st h f n k base v c W' := by
  rcases s with s | ⟨h0, N0, h1, h2⟩
  · exact .inl s
  · exact .inr ⟨h0, N0, h1, h2.later hb⟩
theorem SR.skip {st h : Int} {f : Nat → Int} {n k base : Nat} {v : Value} {c : Int} {W : World} (s : SR st h f n (k + 1) base v c W) (hp : ¬ pos f k.testBit n) : SR st h f n k base v c W := by
  rcases s with ⟨s1, s2⟩ | ⟨h0, N0, h1, h2⟩
  · exact .inl ⟨s1, s2.skip hp⟩
  · exact .inr ⟨h0, N0, h1.skip (fun e => absurd e hp), h2⟩

set_option maxHeartbeats 2000000 in
theorem rSize_bad (n cap : Nat) (A : Option Addr) (xs : List Int) (s h : Int) (w : World) (hx : SI w w.heap.size A n xs) (hn : n ≤ 9223372036854775807) (hv : vA xs s h = false) :
    Calls Try.prog 20 #[.slice A n cap, .int .i64 s, .int .i64 h] w fun e w' => e = .returned (.tuple #[.agg #[.slice none 0 0, .int .i64 0, .slice none 0 0], .int .i64 220]) ∧ Below w.heap.size w w' := by
  have h26 := rValid_any w.heap.size n cap A xs s h (w.alloc (.cells #[.slice none 0 0, .int .i64 0, .slice none 0 0] 26)) (hx.alloc (Nat.le_refl _) _) hn
  rw [hv] at h26
  clear hv
  go_enter Try.func20, Try.ntmps20
  go_wp2_with fail
  refine h26.mono ?_
  rintro e w' ⟨rfl, rfl⟩
  go_wp2_with fail
  exact bodyPost_ret (v := .tuple #[.agg #[.slice none 0 0, .int .i64 0, .slice none 0 0], .int .i64 220]) (by simp [results, Try.results20, go_sem]) rfl ⟨rfl, (Below.refl _ _).alloc (Nat.le_refl _) _⟩

set_option maxRecDepth 100000 in
set_option maxHeartbeats 4000000 in
theorem rSize_good (n cap : Nat) (A : Option Addr) (xs : List Int) (s h : Int) (w : World) (hx : SI w w.heap.size A n xs) (hv : vA xs s h = true) :
    Calls Try.prog 20 #[.slice A n cap, .int .i64 s, .int .i64 h] w fun e w' => ∃ A1 c1 A2 c2, e = .returned (.tuple #[.agg #[.slice A1 n c1, .int .i64 (bestC s h (g xs) n), .slice A2 n c2], .int .i64 0]) ∧
      SI w' w'.heap.size A1 n (lotL (bestS s h (g xs) n) (g xs) n n) ∧ SI w' w'.heap.size A2 n (dpP s h (g xs) n) ∧ Below w.heap.size w w' := by
  obtain ⟨hn, hf, s0, s1, h0, h1⟩ := vA_all hv
  rw [hx.len] at hn
  have h26 := rValid_any w.heap.size n cap A xs s h (w.alloc (.cells #[.slice none 0 0, .int .i64 0, .slice none 0 0] 26)) (hx.alloc (Nat.le_refl _) _) (by omega)
  rw [hv] at h26
  have HX := Lib.hid (show Bd 1048576 (g xs) n from fun k _ => hf k)
  have HF := Lib.hid (fun k => (hf k).1)
  have HP := Lib.hid (pow_start n hn)
  clear hv hf
  go_enter Try.func20, Try.ntmps20
  go_wp2_with fail
  refine h26.mono ?_
  rintro e w' ⟨rfl, rfl⟩
  clear h26
  go_wp2_with fail
  obtain ⟨Z, hZ⟩ : ∃ Z, wrap64 (wrap64 ((2 : Int) ^ n) - 1) = Z := ⟨_, rfl⟩
  rw [hZ]
  have HZ : Hid (Z = ((2 ^ n : Nat) : Int) - 1) := Lib.hid (hZ.symm.trans HP.out)
  clear hZ HP
  have hst : RS w (.slice none 0 0) (-1) ((w.alloc (.cells #[.slice none 0 0, .int .i64 0, .slice none 0 0] 26)).alloc (.cells #[.slice none 0 0, .int .i64 (-1), .slice none 0 0] 26)) :=
    ⟨(Blk.new w _ _).alloc _, (Blk.new _ _ _).at_ rfl (by simp), ((Below.refl _ w).alloc (Nat.le_refl _) _).alloc (by simp) _⟩
  have hpl : (2 : Nat) ^ n ≤ 65536 := Nat.pow_le_pow_right (n := 2) (by decide) hn
  have HPL := Lib.hid (And.intro hpl (rfl : (2 : Nat) ^ n = 2 ^ n))
  clear hpl
  go_loopw [9] (fun i wr => ∃ (k : Nat) (v : Value) (c : Int), Hid (k ≤ 2 ^ n) ∧ (k : Int) ≤ 65536 ∧ i = .int .i64 ((k : Int) - 1) ∧ (∃ B m bc, v = .slice B m bc) ∧ RS w v c wr ∧ SR s h (g xs) n k (w.heap.size + 2) v c wr) (fun i _ => (intOf i + 1).toNat)
  case atStart => exact ⟨2 ^ n, _, _, Lib.hid (Nat.le_refl _), by have := HPL.out.1; omega, by rw [HZ.out], ⟨_, _, _, rfl⟩, hst, .inl ⟨rfl, fun N h1 h2 => by omega⟩⟩
  case round =>
    obtain ⟨k, v, c, hk, hk16, rfl, ⟨B, bm, bc, rfl⟩, hr, hs⟩ := hrel
    rcases Nat.eq_zero_or_pos k with hkz | hkz
    · subst hkz
      rw [show ((0 : Nat) : Int) - 1 = -1 from rfl]
      rcases hs with ⟨_, hnone⟩ | ⟨hc0, N0, hfound, hown⟩
      · exact (none_all (st := s) (h := h) HF.out hn hnone).elim
      · obtain ⟨e1, e2⟩ := found_all HF.out hn hfound
        rw [e2] at hown
        have hbm : bm = n := by
          rcases hown.form with ⟨A9, c9, e9⟩
          cases e9; rfl
        subst hbm
        have HC := Lib.hid e1
        have hxr := hx.below hr.below
        have H42 := Lib.hid (rPrices_any w.heap.size bm cap A xs s h wr hxr hr.below.size hn HX.out s0 s1 h0 h1)
        clear e1 e2 hfound
        go_wp2_with fail
        refine H42.out.mono ?_
        rintro e w5 ⟨A5, c5, rfl, hP5, hb5, hup⟩
        have hr5 := hr.step hb5
        have hown5 := hown.later hb5
        rw [prL_dpP s h HF.out bm hn] at hP5
        have k8 : w5.cell? ⟨w.heap.size + 1, 2, none⟩ = some (.slice none 0 0) := hr5.b8.cell 2
        have f8 := hr5.b8.frozen 2
        have hb8 := hr5.b8.set_ 2 (.slice A5 bm c5)
        have hb6 := hr5.b6.far (p := ⟨w.heap.size + 1, 2, none⟩) (zne (by omega)) (.slice A5 bm c5)
        simp only [List.setIfInBounds_toArray, List.set_cons_succ, List.set_cons_zero] at hb8
        have hP6 : SI ((w5.setCell ⟨w.heap.size + 1, 2, none⟩ (.slice A5 bm c5)).setRow w.heap.size #[.slice B bm bc, .int .i64 c, .slice A5 bm c5]) ((w5.setCell ⟨w.heap.size + 1, 2, none⟩ (.slice A5 bm c5)).setRow w.heap.size #[.slice B bm bc, .int .i64 c, .slice A5 bm c5]).heap.size A5 bm (dpP s h (g xs) bm) := by
          refine ⟨hP5.1, fun hn0 => ?_⟩
          obtain ⟨b, off, e, hb, hcell⟩ := hP5.2 hn0
          have hge := hup b off none e hn0
          have h2 := hr.b8.lt
          refine ⟨b, off, e, by simp; exact hb, fun j hj => ?_⟩
          rw [World.cell?_of_block (setRow_other _ _ _ _ (show (⟨b, off + j, none⟩ : Addr).block ≠ w.heap.size from by simp; omega)), World.cell?_setCell_other _ _ _ _ (by intro e; have := congrArg Addr.block e; simp at this; omega)]
          exact hcell j hj
        have hL6 := (hown5.keptB (grownBy_setCell (p := ⟨w.heap.size + 1, 2, none⟩) (.slice A5 bm c5)) (hown5.off (by simp))).keptB (grownBy_setRow (b := w.heap.size) #[.slice B bm bc, .int .i64 c, .slice A5 bm c5]) (hown5.off (by omega))
        have hbl := below_setRow (hr5.below.setCell (p := ⟨w.heap.size + 1, 2, none⟩) (by simp) (.slice A5 bm c5)) (Nat.le_refl w.heap.size) #[.slice B bm bc, .int .i64 c, .slice A5 bm c5]
        have hb66 := hb6.row #[.slice B bm bc, .int .i64 c, .slice A5 bm c5]
        have cs0 := hb66.cell 0
        have cs1 := hb66.cell 1
        have cs2 := hb66.cell 2
        go_wp2_with (first
          | (refine wpList_load_row rfl 26 (.tmp 8) rfl (w.heap.size + 1) rfl 26 #[.slice B bm bc, .int .i64 c, .slice A5 bm c5] (0, 0) _ hb8 Try.underlying26 rfl info26 ?_)
          | (refine wpList_store_row rfl 26 (.tmp 6) (.tmp 58) rfl w.heap.size #[.slice B bm bc, .int .i64 c, .slice A5 bm c5] rfl rfl 26 _ hb6 info26 rfl (sz_one _ _ _ _ _ _ _) ?_))
        have hfin : ∃ A1 c1 A2 c2, Ending.returned (.tuple #[.agg #[.slice B bm bc, .int .i64 c, .slice A5 bm c5], .int .i64 0]) = .returned (.tuple #[.agg #[.slice A1 bm c1, .int .i64 (bestC s h (g xs) bm), .slice A2 bm c2], .int .i64 0]) ∧
            SI ((w5.setCell ⟨w.heap.size + 1, 2, none⟩ (.slice A5 bm c5)).setRow w.heap.size #[.slice B bm bc, .int .i64 c, .slice A5 bm c5]) ((w5.setCell ⟨w.heap.size + 1, 2, none⟩ (.slice A5 bm c5)).setRow w.heap.size #[.slice B bm bc, .int .i64 c, .slice A5 bm c5]).heap.size A1 bm (lotL (bestS s h (g xs) bm) (g xs) bm bm) ∧
            SI ((w5.setCell ⟨w.heap.size + 1, 2, none⟩ (.slice A5 bm c5)).setRow w.heap.size #[.slice B bm bc, .int .i64 c, .slice A5 bm c5]) ((w5.setCell ⟨w.heap.size + 1, 2, none⟩ (.slice A5 bm c5)).setRow w.heap.size #[.slice B bm bc, .int .i64 c, .slice A5 bm c5]).heap.size A2 bm (dpP s h (g xs) bm) ∧
            Below w.heap.size w ((w5.setCell ⟨w.heap.size + 1, 2, none⟩ (.slice A5 bm c5)).setRow w.heap.size #[.slice B bm bc, .int .i64 c, .slice A5 bm c5]) :=
          ⟨_, _, _, _, by rw [HC.out], hL6.SIv, hP6, hbl⟩
        refine bodyPost_ret (v := .tuple #[.agg #[.slice B bm bc, .int .i64 c, .slice A5 bm c5], .int .i64 0]) ?_ rfl ?_
        · simp [results, Try.results20, go_sem, cs0, cs1, cs2]
        · exact hfin
    · obtain ⟨k, rfl⟩ : ∃ k', k = k' + 1 := ⟨k - 1, by omega⟩
      clear hkz
      rw [show ((k + 1 : Nat) : Int) - 1 = (k : Int) by omega]
      have hkn : Hid (k < 2 ^ n) := Lib.hid hk.out
      have hk0 : (0 : Int) ≤ (k : Int) := by omega
      have hxr := (hx.below hr.below).more hr.below.size
      go_wp2_with fail
      refine (Of_any n cap A xs k wr hxr hn HX.out HF.out hkn.out).mono ?_
      rintro e w3 ⟨hb3, hof⟩
      have hr3 := hr.step hb3
      have hs3 := hs.step hb3
      rcases hof with ⟨hp, B3, rfl, hB3⟩ | ⟨hp, rfl⟩
      · obtain ⟨M, hM⟩ : ∃ M, sc s h (g xs) k.testBit n = M := ⟨_, rfl⟩
        have hlc := hx.len
        have hcov := lots_cover HF.out k.testBit n
        have hcost := lots_cost (xs := xs) HF.out s h (n := n) hp
        rw [hM] at hcost
        have h41 := rcost_any w3.heap.size n cap n A B3 xs (lotL k.testBit (g xs) n n) s h w3 (hxr.step hb3) hB3.SIv hn HX.out (fun j hj => by have := lotL_bd (S := k.testBit) HX.out n (Nat.le_refl _) j; omega) s0 s1 h0 h1 (covTo_iff.1 hcov)
        rw [hcost] at h41
        have H41 := Lib.hid h41
        have HM := Lib.hid hM
        have HPOS := Lib.hid hp
        have hM0 : 0 ≤ M := by rw [← hM]; exact sc_nonneg HF.out s0 h0 _ _
        clear h41 hcost hcov hM hp
        go_wp2_with fail
        refine H41.out.mono ?_
        rintro e w' ⟨rfl, q, rfl⟩
        have k8 : w3.cell? ⟨w.heap.size + 1, 1, none⟩ = some (.int .i64 c) := hr3.b8.cell 1
        have hb8 := hr3.b8.drewN q
        rcases hs3 with ⟨rfl, hnone⟩ | ⟨hc0, N0, hfound, hown⟩
        · have HTK : Hid (SR s h (g xs) n k (w.heap.size + 2) (.slice B3 n n) M ((w3.drewN q).setRow (w.heap.size + 1) #[.slice B3 n n, .int .i64 M, .slice none 0 0])) := Lib.hid (.inr ⟨hM0, k, hnone.take hkn.out HPOS.out HM.out.symm, ((hB3.drewN q).base (by have := hr.b8.lt; omega)).keptB (grownBy_setRow _) (((hB3.drewN q).base (base' := w.heap.size + 2) (by have := hr.b8.lt; omega)).off (by omega))⟩)
          go_wp2_with (refine wpList_store_row rfl 26 (.tmp 8) (.tmp 52) rfl (w.heap.size + 1) #[.slice B3 n n, .int .i64 M, .slice none 0 0] rfl rfl 26 _ hb8 info26 rfl (sz_one _ _ _ _ _ _ _) ?_)
          go_roundw
          case rel => exact ⟨k, _, M, Lib.hid (Nat.le_of_lt hkn.out), by omega, by go_num, ⟨_, _, _, rfl⟩, ⟨(hr3.b6.drewN q).rowFar (by omega) _, hb8.row _, below_setRow (below_drewN hr3.below q) (by omega) _⟩, HTK.out⟩
          case measure => simp [intOf]
        · by_cases hlt : M < c
          · have HTK : Hid (SR s h (g xs) n k (w.heap.size + 2) (.slice B3 n n) M ((w3.drewN q).setRow (w.heap.size + 1) #[.slice B3 n n, .int .i64 M, .slice none 0 0])) := Lib.hid (.inr ⟨hM0, k, hfound.take hkn.out HPOS.out HM.out.symm hlt, ((hB3.drewN q).base (by have := hr.b8.lt; omega)).keptB (grownBy_setRow _) (((hB3.drewN q).base (base' := w.heap.size + 2) (by have := hr.b8.lt; omega)).off (by omega))⟩)
            go_wp2_with (refine wpList_store_row rfl 26 (.tmp 8) (.tmp 52) rfl (w.heap.size + 1) #[.slice B3 n n, .int .i64 M, .slice none 0 0] rfl rfl 26 _ hb8 info26 rfl (sz_one _ _ _ _ _ _ _) ?_)
            go_roundw
            case rel => exact ⟨k, _, M, Lib.hid (Nat.le_of_lt hkn.out), by omega, by go_num, ⟨_, _, _, rfl⟩, ⟨(hr3.b6.drewN q).rowFar (by omega) _, hb8.row _, below_setRow (below_drewN hr3.below q) (by omega) _⟩, HTK.out⟩
            case measure => simp [intOf]
          · have HTK : Hid (SR s h (g xs) n k (w.heap.size + 2) (.slice B bm bc) c (w3.drewN q)) := Lib.hid (.inr ⟨hc0, N0, hfound.skip (fun _ => by rw [HM.out]; omega), hown.drewN q⟩)
            have hle : c ≤ M := by omega
            have hd1 : decide (c < 0) = false := by simp; omega
            have hd2 : decide (M < c) = false := by simp; omega
            clear hlt hfound
            go_wp2_with fail
            go_roundw
            case rel => exact ⟨k, _, c, Lib.hid (Nat.le_of_lt hkn.out), by omega, by go_num, ⟨_, _, _, rfl⟩, ⟨hr3.b6.drewN q, hb8, below_drewN hr3.below q⟩, HTK.out⟩
            case measure => simp [intOf]
      · have HTK := Lib.hid (hs3.skip hp)
        clear hp
        go_wp2_with fail
        go_roundw
        case rel => exact ⟨k, _, c, Lib.hid (Nat.le_of_lt hkn.out), by omega, by go_num, ⟨_, _, _, rfl⟩, hr3, HTK.out⟩
        case measure => simp [intOf]

end Go.Proofs.Ytkbnbdpdmcnkiaa
