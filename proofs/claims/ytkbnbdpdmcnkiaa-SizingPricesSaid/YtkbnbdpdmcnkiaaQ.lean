/- sizing.Size. -/
import Derived.Test.YtkbnbdpdmcnkiaaP
namespace Go.Proofs.Ytkbnbdpdmcnkiaa
open Go.RowKit

set_option maxHeartbeats 400000 in
theorem Size_bad (B n cap : Nat) (A : Option Addr) (xs : List Int) (s h : Int) (w : World) (hx : SI w B A n xs) (hB : B ≤ w.heap.size) (hn : n ≤ 9223372036854775807) (hv : vA xs s h = false) :
    Calls Try.prog 19 #[.slice A n cap, .int .i64 s, .int .i64 h] w fun e w' => e = .returned (.tuple #[.agg #[.slice none 0 0, .int .i64 0, .slice none 0 0], .int .i64 220]) ∧ Below w.heap.size w w' := by
  have h38 := validNeed_any B n cap A xs (w.alloc (.cells #[.slice none 0 0, .int .i64 0, .slice none 0 0] 26)) (hx.alloc hB _) hn
  cases hv1 : vN xs
  · rw [hv1] at h38
    clear hv hv1
    go_enter Try.func19, Try.ntmps19
    go_wp2_with (go_at_call 38; refine h38.mono ?_; rintro e w' ⟨rfl, rfl⟩)
    exact bodyPost_ret (v := .tuple #[.agg #[.slice none 0 0, .int .i64 0, .slice none 0 0], .int .i64 220]) (by simp [results, Try.results19, go_sem]) rfl ⟨rfl, (Below.refl _ _).alloc (Nat.le_refl _) _⟩
  · have hv2 : (inB 1048576 s && inB 1048576 h) = false := by simpa [vA, hv1] using hv
    have h39 := within_any 1048576 (w.heap.size + 2) 2 2 (some ⟨w.heap.size + 1, 0, none⟩) [s, h] ((w.alloc (.cells #[.slice none 0 0, .int .i64 0, .slice none 0 0] 26)).alloc (.cells #[.int .i64 s, .int .i64 h] 3)) (by have := SI.two (w.alloc (.cells #[.slice none 0 0, .int .i64 0, .slice none 0 0] 26)) (w.heap.size + 2) s h (by simp); simpa using this) (by omega)
    rw [allB_two, hv2] at h39
    rw [hv1] at h38
    clear hv hv1 hv2
    go_enter Try.func19, Try.ntmps19
    go_wp2_with (first | (go_at_call 38; refine h38.mono ?_; rintro e w' ⟨rfl, rfl⟩) | (go_at_call 39; refine h39.mono ?_; rintro e w' ⟨rfl, rfl⟩))
    exact bodyPost_ret (v := .tuple #[.agg #[.slice none 0 0, .int .i64 0, .slice none 0 0], .int .i64 220]) (by simp [results, Try.results19, go_sem]) rfl ⟨rfl, ((Below.refl _ _).alloc (Nat.le_refl _) _).alloc (by simp) _⟩

theorem g_take (xs : List Int) {k x : Nat} (h : x < k) : g (xs.take k) x = g xs x := by unfold g; rw [List.getElem?_take, if_pos h]

theorem zlt {a b : Nat} (h : a < b) : (⟨a, 0, none⟩ : Addr).block < b := h

theorem below_setCell {w wr : World} (h : Below w.heap.size w wr) (b : Nat) (_e : Nat) (cs : Array Value) (v : Value) (hb : b = w.heap.size := by rfl) : Below w.heap.size w ((wr.alloc (.cells cs 62)).setCell ⟨b, 1, none⟩ v) :=
  (h.alloc h.size _).setCell (by subst hb; exact Nat.le_refl _) _

/-- What Size's variables hold when t prices are known. -/
structure SZ (w : World) (n t : Nat) (st h : Int) (f : Nat → Int) (gb c : Nat) (pv : Value) (W : World) : Prop where
  le : t ≤ n
  best : OU W (w.heap.size + 1) (.slice (some ⟨gb, 0, none⟩) (t + 1) c) (t + 1) (dpL st h f t)
  s : Blk W w.heap.size 26 #[.slice none 0 0, .int .i64 0, pv]
  pr : OI W (w.heap.size + 1) pv t (dpP st h f t)
  below : Below w.heap.size w W

/-- What Size's variables hold when k lots are summed. -/
structure S2 (w wr : World) (n k : Nat) (f : Nat → Int) (CS : Nat → Bool) (CC : Int) (pv : Value) (ps : List Int) (W : World) : Prop where
  lots : OI W (wr.heap.size + 1) (.slice (some ⟨wr.heap.size + 1, 0, none⟩) n n) n (lotL CS f n k)
  s : Blk W w.heap.size 26 #[.slice (some ⟨wr.heap.size + 1, 0, none⟩) n n, .int .i64 CC, pv]
  ch : Blk W wr.heap.size 62 (UP CS CC)
  pr : OI W (w.heap.size + 1) pv n ps
  below : Below w.heap.size w W

/-- An own slice has room for its numbers. -/
theorem OI.fits {w : World} {base n c : Nat} {A : Option Addr} {xs : List Int} (h : OI w base (.slice A n c) n xs) : n ≤ c := by
  rcases h.2 with ⟨h0, h1⟩ | ⟨g0, c0, cur, h0, _, _, h2, _⟩
  · cases h0; exact Nat.le_refl _
  · cases h0; exact h2

set_option maxHeartbeats 1000000 in
theorem Size_goodc (B n cap : Nat) (A : Option Addr) (xs : List Int) (st h : Int) (w : World) (hx : SI w B A n xs) (hB : B ≤ w.heap.size) (hcap : n ≤ cap) (hv : vA xs st h = true) :
    Calls Try.prog 19 #[.slice A n cap, .int .i64 st, .int .i64 h] w fun e w' => ∃ A1 c1 A2 c2, n ≤ c2 ∧ e = .returned (.tuple #[.agg #[.slice A1 n c1, .int .i64 (dC (dpL st h (g xs) n) n), .slice A2 n c2], .int .i64 0]) ∧
      SI w' w'.heap.size A1 n (lotL (dS (dpL st h (g xs) n) n) (g xs) n n) ∧ SI w' w'.heap.size A2 n (dpP st h (g xs) n) ∧ Below w.heap.size w w' := by
  have hl := Lib.hid hx.len
  obtain ⟨hv1, ⟨hs0, hs1⟩, hh0, hh1⟩ := vA_iff.1 hv
  have i1 := vN_iff.1 hv1
  rw [hl.out] at i1
  have hn := i1.1
  have hX : Bd 1048576 (g xs) n := i1.2
  have HX := Lib.hid hX
  have h38 := validNeed_any B n cap A xs (w.alloc (.cells #[.slice none 0 0, .int .i64 0, .slice none 0 0] 26)) (hx.alloc hB _) (by omega)
  have h39 := within_any 1048576 (w.heap.size + 2) 2 2 (some ⟨w.heap.size + 1, 0, none⟩) [st, h] ((w.alloc (.cells #[.slice none 0 0, .int .i64 0, .slice none 0 0] 26)).alloc (.cells #[.int .i64 st, .int .i64 h] 3)) (by have := SI.two (w.alloc (.cells #[.slice none 0 0, .int .i64 0, .slice none 0 0] 26)) (w.heap.size + 2) st h (by simp); simpa using this) (by omega)
  rw [allB_two, inB_t hs0 hs1, inB_t hh0 hh1] at h39
  rw [hv1] at h38
  clear hv hv1 i1 hX
  go_enter Try.func19, Try.ntmps19
  go_wp2_with (first | (go_at_call 38; refine h38.mono ?_; rintro e w' ⟨rfl, rfl⟩) | (go_at_call 39; refine h39.mono ?_; rintro e w' ⟨rfl, rfl⟩))
  clear h38 h39
  go_loopw [8, 30] (fun b i wr => ∃ (t gb c : Nat) (pv : Value), i = .int .i64 t ∧ b = .slice (some ⟨gb, 0, none⟩) (t + 1) c ∧ SZ w n t st h (g xs) gb c pv wr) (fun _ i _ => n - (intOf i).toNat)
  case atStart =>
    refine ⟨0, w.heap.size + 2, 1, .slice none 0 0, rfl, rfl, ⟨by omega, ?_, ?_, OI.nil _ _, ?_⟩⟩
    · have := OU.lit ((w.alloc (.cells #[.slice none 0 0, .int .i64 0, .slice none 0 0] 26)).alloc (.cells #[.int .i64 st, .int .i64 h] 3)) (w.heap.size + 1) (fun _ => false, 0) (by simp)
      simp only [World.size_alloc] at this
      exact this
    · exact ((Blk.new w 26 _).alloc _).alloc _
    · exact (((Below.refl _ w).alloc (Nat.le_refl _) _).alloc (by simp) _).alloc (by simp; omega) _
  case round =>
    obtain ⟨t, gb, c, pv, rfl, rfl, hz⟩ := hrel
    have htn := hz.le
    by_cases hlt : t < n
    · obtain ⟨b, off, x, rfl, hb, hx1, hc⟩ := (hx.below (hz.below.mono hB)).look hlt
      have hx' := (hx.below (hz.below.mono hB))
      have hk1 : (t : Int) + 1 ≤ (cap : Int) := by omega
      have hbd := dpL_bd HX.out hn hs0 hs1 hh0 hh1 t (by omega)
      have hlen := dpL_length st h (g xs) t
      have h40 := callsIn_wide.1 (last_in (t + 1) cap gb (t + 1) c (some ⟨b, off, none⟩) (xs.take (t + 1)) (dS (dpL st h (g xs) t)) (dC (dpL st h (g xs) t)) st h wr ((hx'.take (by omega)).more (Nat.le_trans hB hz.below.size)) hz.best.best (by omega) (Nat.le_refl _)
        (fun k hk => by rw [g_take xs hk]; exact HX.out k (by omega)) (fun j hj => by have := hbd j (by omega); omega) hs0 hs1 hh0 hh1)
      rw [foldL_congr st h (dS (dpL st h (g xs) t)) (dC (dpL st h (g xs) t)) (fun x hx => g_take xs hx)] at h40
      obtain ⟨NS, hNS⟩ : ∃ NS, Hid ((dpN st h (g xs) (dpL st h (g xs) t) t).set = NS) := ⟨_, Lib.hid rfl⟩
      obtain ⟨NC, hNC⟩ : ∃ NC, Hid ((dpN st h (g xs) (dpL st h (g xs) t) t).c = NC) := ⟨_, Lib.hid rfl⟩
      change Calls Try.prog 40 _ _ (fun e W' => e = .returned (.agg (UP (dpN st h (g xs) (dpL st h (g xs) t) t).set (dpN st h (g xs) (dpL st h (g xs) t) t).c)) ∧ Below wr.heap.size wr W') at h40
      rw [hNS.out, hNC.out] at h40
      have H40 := Lib.hid h40
      clear h40 hbd
      go_wp2_with fail
      refine H40.out.mono ?_
      rintro e w1 ⟨rfl, hb1⟩
      have hs1 := hz.s.below hb1 hz.s.lt
      have ho1 := hz.best.later hb1
      have hp1 := hz.pr.later hb1
      have hbl1 := hz.below.trans (hb1.mono hz.below.size)
      have hnx := Blk.new w1 62 (UP NS NC)
      go_wp2_with (first
        | (refine wpList_store_row rfl 62 (.tmp 10) (.tmp 40) rfl w1.heap.size (UP NS NC) rfl rfl 62 _ (Blk.new w1 62 _) (by rw [UP_size]; exact size62) (by rw [UP_size]; rfl) (UP_one _ _) ?_; rw [setRow_new])
        | (refine wpList_load_row rfl 62 (.tmp 10) rfl w1.heap.size rfl 62 (UP NS NC) (0, 0) _ hnx Try.underlying62 rfl (by rw [UP_size]; exact size62) ?_)
        | (refine wpList_buildSlice63 rfl (.tmp 42) rfl NS NC rfl ?_)
        | (at_builtin; refine wpList_appU rfl (.tmp 41) (.tmp 43) rfl (w1.alloc (.cells (UP NS NC) 62)) (w.heap.size + 1) _ (t + 1) _ NS NC _ rfl rfl (by simp) (ho1.alloc _) (by omega) (by have := hbl1.size; simp; omega) ?_
           intro g' c' w3 ho3 hg3
           have hgb : gb ≠ w1.heap.size := by have := ho1.lt.2; omega
           have hgs : gb ≠ w.heap.size := by have := ho1.lt.1; omega
           have hs3 := ((hs1.alloc (.cells (UP NS NC) 62)).alloc (.cells (UP NS NC) 62)).grown hg3 (fun e => hgs (Option.some.inj e))
           have hn3 := (hnx.alloc (.cells (UP NS NC) 62)).grown hg3 (fun e => hgb (Option.some.inj e))
           have hp3 := ((hp1.alloc (.cells (UP NS NC) 62)).alloc (.cells (UP NS NC) 62)).keptB hg3 (fun e => by obtain ⟨cs, hcs⟩ := ho1.blk; exact hp1.offBlk hcs (by decide) e)
           have hbl3 := ((hbl1.alloc hbl1.size (.cells (UP NS NC) 62)).alloc (by have := hbl1.size; simp; omega) (.cells (UP NS NC) 62)).grown hg3 (by have := hbl1.size; simp; omega) (fun k e => by cases e; exact Nat.le_of_succ_le ho1.lt.1)
           have cs3 := hs3.cell 2
           have cn3 := hn3.cell 16
           rw [UP_cost] at cn3)
        | (at_builtin; refine wpList_app1 rfl (.tmp 46) (.tmp 49) rfl w3 (w.heap.size + 1) pv t (dpP st h (g xs) t) NC rfl rfl hp3 (by omega) (by have := hs3.lt; omega) ?_
           intro g2 c2 w4 hp4 hg4
           have hs4 := (hs3.alloc (.cells #[.int .i64 NC] 3)).grown hg4 (hp3.off (by omega))
           have cs4 := hs4.cell 2
           have fs4 := hs4.frozen 2))
      go_roundw
      case rel =>
        have eL : dpL st h (g xs) (t + 1) = dpL st h (g xs) t ++ [(NS, NC)] := by rw [← hNS.out, ← hNC.out]; rfl
        have eP : dpP st h (g xs) (t + 1) = dpP st h (g xs) t ++ [NC] := by rw [dpP_succ, hNC.out]
        have ho4 := (ho3.alloc (.cells #[.int .i64 NC] 3)).kept hg4 (.inr (fun e => by obtain ⟨cs, hcs⟩ := (ho3.alloc (.cells #[.int .i64 NC] 3)).blk; exact (hp3.alloc (.cells #[.int .i64 NC] 3)).offBlk hcs (by decide) e.symm))
        have hg0 : g' ≠ w.heap.size := by have := ho4.lt.1; omega
        have hbl4 := (hbl3.alloc (by have := hs3.lt; omega) (.cells #[.int .i64 NC] 3)).grown hg4 (by have := hs3.lt; simp; omega) (fun k e => by have := (World.ownsRow.lt hp3 k e).1; omega)
        refine ⟨t + 1, g', c', .slice (some ⟨g2, 0, none⟩) (t + 1) c2, by go_num, rfl, ⟨by omega, ?_, hs4.set_ 2 _, ?_, hbl4.setCell (p := ⟨w.heap.size, 2, none⟩) (Nat.le_refl _) _⟩⟩
        · rw [eL]
          exact ho4.kept (grownBy_setCell _) (.inr (fun e => hg0 (Option.some.inj e)))
        · rw [eP]
          exact hp4.keptB (grownBy_setCell _) (hp4.off (b := w.heap.size) (by omega))
      case measure => simp [intOf]; omega
    · obtain rfl : t = n := by omega
      obtain ⟨wo, rfl⟩ : ∃ wo : World, wo = wr := ⟨_, rfl⟩
      obtain ⟨A2, c2, rfl⟩ := hz.pr.form
      have hu := hz.best.best.2 t (by omega)
      have huS := dpL_bd HX.out hn hs0 hs1 hh0 hh1 t (Nat.le_refl _) t (Nat.le_refl _)
      obtain ⟨CS, hCS⟩ : ∃ CS, Hid (dS (dpL st h (g xs) t) t = CS) := ⟨_, Lib.hid rfl⟩
      obtain ⟨CC, hCC⟩ : ∃ CC, Hid (dC (dpL st h (g xs) t) t = CC) := ⟨_, Lib.hid rfl⟩
      rw [hCS.out, hCC.out] at hu
      have hs0 := hz.s.alloc (.cells (UP CS CC) 62)
      have cs1 := hs0.cell 1
      have fs1 := hs0.frozen 1
      have cu := UP_cost CS CC
      go_wp2_with (first
        | (refine wpList_load_midA rfl 62 (.tmp 56) rfl gb (t * 17) rfl (UP CS CC) hu.rangeU under62 (by rw [UP_size]; exact size62) ?_)
        | (refine wpList_store_row rfl 62 (.tmp 11) (.tmp 57) rfl wo.heap.size (UP CS CC) rfl rfl 62 _ (Blk.new wo 62 _) (by rw [UP_size]; exact size62) (by rw [UP_size]; rfl) (UP_one _ _) ?_; rw [setRow_new])
        | (refine wpList_make22 rfl (.tmp 62) (.tmp 62) rfl _ (wo.heap.size + 1) t rfl rfl (by omega) (by simp [World.setCell]) ?_
           intro wm hm hgm
           have hsm := (hs0.set_ 1 (.int .i64 CC)).grown hgm (by simp)
           have hbm := (below_setCell hz.below w.heap.size wo.heap.size (UP CS CC) (.int .i64 CC)).grown hgm (by have := hz.below.size; simp [World.setCell]; omega) (by simp)
           have hcm := ((Blk.new wo 62 (UP CS CC)).far (p := ⟨w.heap.size, 1, none⟩) (by have := hz.s.lt; simp; omega) (.int .i64 CC)).grown hgm (by simp)
           have csm := hsm.cell 0
           have fsm := hsm.frozen 0))
      have em : ((wo.alloc (.cells (UP CS CC) 62)).setCell ⟨w.heap.size, 1, none⟩ (.int .i64 CC)).heap.size = wo.heap.size + 1 := by simp [World.setCell]
      rw [em] at hm
      have hwr : w.heap.size < wo.heap.size := hz.s.lt
      have hpm := (((hz.pr.alloc (.cells (UP CS CC) 62)).keptB (grownBy_setCell (p := ⟨w.heap.size, 1, none⟩) (.int .i64 CC)) (hz.pr.off (b := w.heap.size) (by omega)))).kept hgm (by
        cases e : (Value.slice A2 t c2).ownBlock with
        | none => exact .inl rfl
        | some b => exact .inr (by simp))
      have h20 : S2 w wo t 0 (g xs) CS CC (.slice A2 t c2) (dpP st h (g xs) t) (wm.setCell ⟨w.heap.size, 0, none⟩ (.slice (some ⟨wo.heap.size + 1, 0, none⟩) t t)) :=
        ⟨hm.keptB (grownBy_setCell _) (hm.off (b := w.heap.size) (by omega)), hsm.set_ 0 _, hcm.far (p := ⟨w.heap.size, 0, none⟩) (by simp; omega) _, hpm.keptB (grownBy_setCell _) (hpm.off (b := w.heap.size) (by omega)), hbm.setCell (p := ⟨w.heap.size, 0, none⟩) (Nat.le_refl _) _⟩
      clear csm fsm cs1 fs1 cu hgm hsm hbm hcm hm hs0 hpm em
      generalize wm.setCell ⟨w.heap.size, 0, none⟩ (.slice (some ⟨wo.heap.size + 1, 0, none⟩) t t) = w20 at *
      go_loopw [12, 67] (fun d i w2 => ∃ k : Nat, k ≤ t ∧ i = .int .i64 k ∧ d = .int .i64 (lotD CS k) ∧ S2 w wo t k (g xs) CS CC (.slice A2 t c2) (dpP st h (g xs) t) w2) (fun _ i _ => t - (intOf i).toNat)
      case atStart => exact ⟨0, by omega, rfl, rfl, h20⟩
      case round =>
        obtain ⟨k, hk, rfl, rfl, h2⟩ := hrel
        by_cases hkt : k < t
        · obtain ⟨b, off, x, rfl, hb, hx1, hc⟩ := (hx.below (h2.below.mono hB)).look hkt
          have hxb := HX.out k hkt
          rw [hx1.out] at hxb
          obtain ⟨hxb0, hxb1⟩ := hxb
          have hch := h2.ch.cell k
          rw [UP_set CS CC (by omega)] at hch
          have cs0 := h2.s.cell 0
          have hD := lotD_lt CS k
          obtain ⟨y, hy, hyc⟩ := h2.lots.look (show lotD CS (k + 1) < t by omega)
          have hyb := lotL_bd (S := CS) HX.out k hk (lotD CS (k + 1))
          rw [hy.out] at hyb
          obtain ⟨hyb0, hyb1⟩ := hyb
          have hyf := (World.ownsRow.frozenAt h2.lots) (lotD CS (k + 1))
          have hst := World.ownsRow.stored h2.lots (lotD CS (k + 1)) (.int .i64 (y + x))
          have hN : Hid (S2 w wo t (k + 1) (g xs) CS CC (.slice A2 t c2) (dpP st h (g xs) t) (wr.setCell ⟨wo.heap.size + 1, lotD CS (k + 1), none⟩ (.int .i64 (y + x)))) := Lib.hid
            ⟨by
              unfold OI
              have e : (lotL CS (g xs) t (k + 1)).map (Value.int .i64) = ((lotL CS (g xs) t k).map (Value.int .i64)).set (lotD CS (k + 1)) (.int .i64 (y + x)) := by
                simp only [lotL, List.map_set]; rw [hy.out, hx1.out]
              rw [e]; exact hst.1,
             h2.s.far (p := ⟨wo.heap.size + 1, lotD CS (k + 1), none⟩) (by simp; omega) _, h2.ch.far (p := ⟨wo.heap.size + 1, lotD CS (k + 1), none⟩) (by simp) _,
             h2.pr.keptB (grownBy_setCell _) (fun e => by have := (World.ownsRow.lt hz.pr _ e).2; simp at this; omega), h2.below.setCell (p := ⟨wo.heap.size + 1, lotD CS (k + 1), none⟩) (by simp; omega) _⟩
          clear hst
          cases hS : CS k
          · have HS := Lib.hid hS
            rw [hS] at hch
            clear hS
            have eD : lotD CS (k + 1) = lotD CS k := by rw [lotD, if_neg (by rw [HS.out]; decide)]
            rw [eD] at hD hyc hyf
            have ED := Lib.hid eD
            clear eD
            go_wp2
            go_roundw
            case rel => exact ⟨k + 1, by omega, by go_num, by rw [ED.out], by have := hN.out; rw [ED.out] at this; exact this⟩
            case measure => simp [intOf]; omega
          · have HS := Lib.hid hS
            rw [hS] at hch
            clear hS
            have eD : lotD CS (k + 1) = k := by rw [lotD, if_pos HS.out]
            rw [eD] at hD hyc hyf
            have ED := Lib.hid eD
            clear eD
            go_wp2
            go_roundw
            case rel => exact ⟨k + 1, by omega, by go_num, by rw [ED.out], by have := hN.out; rw [ED.out] at this; exact this⟩
            case measure => simp [intOf]; omega
        · obtain rfl : k = t := by omega
          have cs0 := h2.s.cell 0
          have cs1 := h2.s.cell 1
          have cs2 := h2.s.cell 2
          go_wp2_with (first
            | (refine wpList_load_row rfl 26 (.tmp 6) rfl w.heap.size rfl 26 #[.slice (some ⟨wo.heap.size + 1, 0, none⟩) k k, .int .i64 CC, .slice A2 k c2] (0, 0) _ h2.s Try.underlying26 rfl info26 ?_)
            | (refine wpList_store_row rfl 26 (.tmp 6) (.tmp 86) rfl w.heap.size #[.slice (some ⟨wo.heap.size + 1, 0, none⟩) k k, .int .i64 CC, .slice A2 k c2] rfl rfl 26 _ h2.s info26 rfl (sz_one _ _ _ _ _ _ _) ?_; rw [setRow_self _ _ _ _ _ h2.s]))
          have hfin : ∃ A1 c1 A2' c2', k ≤ c2' ∧ Ending.returned (.tuple #[.agg #[.slice (some ⟨wo.heap.size + 1, 0, none⟩) k k, .int .i64 CC, .slice A2 k c2], .int .i64 0]) = .returned (.tuple #[.agg #[.slice A1 k c1, .int .i64 (dC (dpL st h (g xs) k) k), .slice A2' k c2'], .int .i64 0]) ∧
              SI wr wr.heap.size A1 k (lotL (dS (dpL st h (g xs) k) k) (g xs) k k) ∧ SI wr wr.heap.size A2' k (dpP st h (g xs) k) ∧ Below w.heap.size w wr :=
            ⟨_, _, _, _, h2.pr.fits, by rw [hCC.out], by rw [hCS.out]; exact h2.lots.SI, h2.pr.SIv, h2.below⟩
          refine bodyPost_ret (v := .tuple #[.agg #[.slice (some ⟨wo.heap.size + 1, 0, none⟩) k k, .int .i64 CC, .slice A2 k c2], .int .i64 0]) ?_ rfl ?_
          · simp [results, Try.results19, go_sem, cs0, cs1, cs2]
          · exact hfin

theorem Size_good (B n cap : Nat) (A : Option Addr) (xs : List Int) (st h : Int) (w : World) (hx : SI w B A n xs) (hB : B ≤ w.heap.size) (hcap : n ≤ cap) (hv : vA xs st h = true) :
    Calls Try.prog 19 #[.slice A n cap, .int .i64 st, .int .i64 h] w fun e w' => ∃ A1 c1 A2 c2, e = .returned (.tuple #[.agg #[.slice A1 n c1, .int .i64 (dC (dpL st h (g xs) n) n), .slice A2 n c2], .int .i64 0]) ∧
      SI w' w'.heap.size A1 n (lotL (dS (dpL st h (g xs) n) n) (g xs) n n) ∧ SI w' w'.heap.size A2 n (dpP st h (g xs) n) ∧ Below w.heap.size w w' :=
  (Size_goodc B n cap A xs st h w hx hB hcap hv).mono fun _ _ ⟨A1, c1, A2, c2, _, hr⟩ => ⟨A1, c1, A2, c2, hr⟩

end Go.Proofs.Ytkbnbdpdmcnkiaa
