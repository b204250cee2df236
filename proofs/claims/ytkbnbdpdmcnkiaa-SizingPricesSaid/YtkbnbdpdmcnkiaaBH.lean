/- prices.Check. -/
import Derived.Test.YtkbnbdpdmcnkiaaBG
namespace Go.Proofs.Ytkbnbdpdmcnkiaa
open Go.RowKit

/-- The blocks of Check's variables, from block b on. -/
structure CK (b : Nat) (A : Option Addr) (n cap : Nat) (st h : Int) (L : Option Addr) (nl cl : Nat) (z : Int) (P : Option Addr) (np cp : Nat) (W : World) : Prop where
  b0 : Blk W b 22 #[.slice A n cap]
  b1 : Blk W (b + 1) 3 #[.int .i64 st]
  b2 : Blk W (b + 1 + 1) 3 #[.int .i64 h]
  b3 : Blk W (b + 1 + 1 + 1) 26 #[.slice L nl cl, .int .i64 z, .slice P np cp]
theorem CK.below {b : Nat} {A : Option Addr} {n cap : Nat} {st h : Int} {L : Option Addr} {nl cl : Nat} {z : Int} {P : Option Addr} {np cp : Nat} {W W' : World} (k : CK b A n cap st h L nl cl z P np cp W) (hb : Below W.heap.size W W') : CK b A n cap st h L nl cl z P np cp W' :=
  ⟨k.b0.below hb k.b0.lt, k.b1.below hb k.b1.lt, k.b2.below hb k.b2.lt, k.b3.below hb k.b3.lt⟩

section
variable {b : Nat} {A : Option Addr} {n cap : Nat} {st h : Int} {L : Option Addr} {nl cl : Nat} {z : Int} {P : Option Addr} {np cp : Nat} {W : World} {xs ls ps : List Int}

/-- The first condition. -/
def k1B (xs ls : List Int) (st h z : Int) : Bool := okK xs ls st h && decide (costTo st h xs ls xs.length = z)

set_option maxHeartbeats 400000 in
theorem check1_any (k : CK b A n cap st h L nl cl z P np cp W) (hx : SI W W.heap.size A n xs) (hy : SI W W.heap.size L nl ls) (hn : n ≤ 9223372036854775807) (hn' : nl ≤ 9223372036854775807) :
    Calls Try.prog 49 #[.pointer (some ⟨b, 0, none⟩), .pointer (some ⟨b + 1 + 1 + 1, 0, none⟩), .pointer (some ⟨b + 1, 0, none⟩), .pointer (some ⟨b + 1 + 1, 0, none⟩)] W fun e w' => e = .returned (.bool (k1B xs ls st h z)) ∧ Below W.heap.size W w' := by
  have c0 := k.b0.cell 0
  have c1 := k.b1.cell 0
  have c2 := k.b2.cell 0
  have c3 : W.cell? ⟨b + 1 + 1 + 1, 0, none⟩ = some (.slice L nl cl) := k.b3.cell 0
  have c4 : W.cell? ⟨b + 1 + 1 + 1, 1, none⟩ = some (.int .i64 z) := k.b3.cell 1
  have hl := Lib.hid hx.len
  have h24 := Cost_any W.heap.size n cap nl cl A L xs ls st h W hx hy (Nat.le_refl _) hn hn'
  cases hk : okK xs ls st h
  · have HK := Lib.hid hk
    rw [hk] at h24
    have H24 := Lib.hid h24
    clear h24 hk
    go_enter Try.func49, Try.ntmps49
    go_wp2_with fail
    refine H24.out.mono ?_
    rintro e w1 ⟨rfl, hb1⟩
    go_wp2_with fail
    go_ret
    exact ⟨ret_bool (by simp [k1B, HK.out]), hb1⟩
  · have HK := Lib.hid hk
    rw [hk] at h24
    have e1 : costAns xs ls st h n = costTo st h xs ls xs.length := by rw [hl.out]; simp [costAns, hk]
    rw [e1] at h24
    clear e1 hk
    obtain ⟨C, hC⟩ : ∃ C, costTo st h xs ls xs.length = C := ⟨_, rfl⟩
    rw [hC] at h24
    have HC := Lib.hid hC
    have H24 := Lib.hid h24
    clear h24 hC
    cases hd : (C == z)
    · go_enter Try.func49, Try.ntmps49
      go_wp2_with fail
      refine H24.out.mono ?_
      rintro e w1 ⟨rfl, hb1⟩
      have c4' : w1.cell? ⟨b + 1 + 1 + 1, 1, none⟩ = some (.int .i64 z) := (k.below hb1).b3.cell 1
      go_wp2_with fail
      go_ret
      have hd' : ¬ C = z := by simpa using hd
      exact ⟨ret_bool (by simp [k1B, HC.out, hd']), hb1⟩
    · go_enter Try.func49, Try.ntmps49
      go_wp2_with fail
      refine H24.out.mono ?_
      rintro e w1 ⟨rfl, hb1⟩
      have c4' : w1.cell? ⟨b + 1 + 1 + 1, 1, none⟩ = some (.int .i64 z) := (k.below hb1).b3.cell 1
      go_wp2_with fail
      go_ret
      have hd' : C = z := by simpa using hd
      exact ⟨ret_bool (by simp [k1B, HC.out, HK.out, hd']), hb1⟩

set_option maxHeartbeats 400000 in
theorem check2_any (k : CK b A n cap st h L nl cl z P np cp W) (hx : SI W W.heap.size A n xs) (hp : SI W W.heap.size P np ps) (hn : n ≤ 9223372036854775807) (hn' : np ≤ 9223372036854775807) :
    Calls Try.prog 50 #[.pointer (some ⟨b, 0, none⟩), .pointer (some ⟨b + 1 + 1 + 1, 0, none⟩)] W fun e w' => e = .returned (.bool (vP xs ps)) ∧ W = w' := by
  have c0 := k.b0.cell 0
  have c3 : W.cell? ⟨b + 1 + 1 + 1, 2, none⟩ = some (.slice P np cp) := k.b3.cell 2
  have H51 := Lib.hid (validPrices_any W.heap.size n cap np cp A P xs ps W hx hp hn hn')
  go_enter Try.func50, Try.ntmps50
  go_wp2_with fail
  refine H51.out.mono ?_
  rintro e w1 ⟨rfl, rfl⟩
  go_wp2_with fail
  go_ret
  exact ⟨rfl, rfl⟩

set_option maxHeartbeats 400000 in
theorem check3_any (k : CK b A n cap st h L nl cl z P np cp W) (hx : SI W W.heap.size A n xs) (hp : SI W W.heap.size P np ps) (hv : vA xs st h = true) (hvp : vP xs ps = true) :
    Calls Try.prog 52 #[.pointer (some ⟨b, 0, none⟩), .pointer (some ⟨b + 1, 0, none⟩), .pointer (some ⟨b + 1 + 1, 0, none⟩), .pointer (some ⟨b + 1 + 1 + 1, 0, none⟩)] W fun e w' => e = .returned (.bool (prfB st h xs ps n)) ∧ Below W.heap.size W w' := by
  have c0 := k.b0.cell 0
  have c1 := k.b1.cell 0
  have c2 := k.b2.cell 0
  have c3 : W.cell? ⟨b + 1 + 1 + 1, 2, none⟩ = some (.slice P np cp) := k.b3.cell 2
  have H53 := Lib.hid (proof_any (cap := cap) (capp := cp) hx hp hv hvp)
  clear hv hvp
  go_enter Try.func52, Try.ntmps52
  go_wp2_with fail
  refine H53.out.mono ?_
  rintro e w1 ⟨rfl, hb1⟩
  go_wp2_with fail
  go_ret
  exact ⟨rfl, hb1⟩

set_option maxHeartbeats 400000 in
theorem check4_any (k : CK b A n cap st h L nl cl z P n cp W) (hp : SI W W.heap.size P n ps) (hn : n ≤ 9223372036854775807) :
    Calls Try.prog 54 #[.pointer (some ⟨b + 1 + 1 + 1, 0, none⟩), .pointer (some ⟨b, 0, none⟩)] W fun e w' => e = .returned (.bool (decide (pF ps n = z))) ∧ ∃ q, W.drewN q = w' := by
  have c0 := k.b0.cell 0
  have c3 : W.cell? ⟨b + 1 + 1 + 1, 2, none⟩ = some (.slice P n cp) := k.b3.cell 2
  have c4 : W.cell? ⟨b + 1 + 1 + 1, 1, none⟩ = some (.int .i64 z) := k.b3.cell 1
  have p1 : ∀ q, Calls Try.prog 55 #[.slice P n cp, .int .i64 (n : Int)] (W.drewN q) fun e w' => e = .returned (.int .i64 (pF ps n)) ∧ W.drewN q = w' := fun q => price_any _ n cp P ps n _ (hp.drewN q) hn (Nat.le_refl _)
  obtain ⟨X, hX⟩ : ∃ X, pF ps n = X := ⟨_, rfl⟩
  rw [hX] at p1
  have P1 := Lib.hid (fun q => quiet_left (p1 q))
  have HX := Lib.hid hX
  clear p1 hX
  go_enter Try.func54, Try.ntmps54
  go_wp2_with fail
  go_quiet (with_reducible exact P1.out _)
  go_wp2_with fail
  go_ret
  exact ⟨ret_bool (by rw [HX.out]; rw [Bool.eq_iff_iff]; simp), _, rfl⟩
end

/-- What Check answers. -/
def chkB (xs : List Int) (st h : Int) (ls : List Int) (z : Int) (ps : List Int) : Bool := k1B xs ls st h z && (vP xs ps && (prfB st h xs ps xs.length && decide (pF ps xs.length = z)))

/-- What holds at the head of a round. -/
structure CR (w : World) (b bf : Nat) (A : Option Addr) (n cap : Nat) (st h : Int) (L : Option Addr) (nl cl : Nat) (z : Int) (P : Option Addr) (np cp : Nat) (xs ls ps : List Int) (K : Int) (W : World) : Prop where
  ck : CK b A n cap st h L nl cl z P np cp W
  fs : Blk W bf 23 #[.func (.func 49) #[] #[.pointer (some ⟨b, 0, none⟩), .pointer (some ⟨b + 1 + 1 + 1, 0, none⟩), .pointer (some ⟨b + 1, 0, none⟩), .pointer (some ⟨b + 1 + 1, 0, none⟩)],
    .func (.func 50) #[] #[.pointer (some ⟨b, 0, none⟩), .pointer (some ⟨b + 1 + 1 + 1, 0, none⟩)],
    .func (.func 52) #[] #[.pointer (some ⟨b, 0, none⟩), .pointer (some ⟨b + 1, 0, none⟩), .pointer (some ⟨b + 1 + 1, 0, none⟩), .pointer (some ⟨b + 1 + 1 + 1, 0, none⟩)],
    .func (.func 54) #[] #[.pointer (some ⟨b + 1 + 1 + 1, 0, none⟩), .pointer (some ⟨b, 0, none⟩)]]
  below : Below w.heap.size w W
  t1 : 1 ≤ K → k1B xs ls st h z = true
  t2 : 2 ≤ K → vP xs ps = true
  t3 : 3 ≤ K → prfB st h xs ps n = true
  t4 : 4 ≤ K → pF ps n = z
theorem CR.later {w : World} {b bf : Nat} {A : Option Addr} {n cap : Nat} {st h : Int} {L : Option Addr} {nl cl : Nat} {z : Int} {P : Option Addr} {np cp : Nat} {xs ls ps : List Int} {K K' : Int} {W W' : World} (c : CR w b bf A n cap st h L nl cl z P np cp xs ls ps K W) (hb : Below W.heap.size W W')
    (t1 : 1 ≤ K' → k1B xs ls st h z = true) (t2 : 2 ≤ K' → vP xs ps = true) (t3 : 3 ≤ K' → prfB st h xs ps n = true) (t4 : 4 ≤ K' → pF ps n = z) : CR w b bf A n cap st h L nl cl z P np cp xs ls ps K' W' :=
  ⟨c.ck.below hb, c.fs.below hb c.fs.lt, c.below.trans (hb.mono c.below.size), t1, t2, t3, t4⟩

set_option maxHeartbeats 1000000 in
theorem Check_any (n cap nl cl np cp : Nat) (A L P : Option Addr) (xs ls ps : List Int) (st h z : Int) (w : World) (hx : SI w w.heap.size A n xs) (hy : SI w w.heap.size L nl ls) (hp : SI w w.heap.size P np ps) (hn : n ≤ 9223372036854775807) (hnl : nl ≤ 9223372036854775807) (hnp : np ≤ 9223372036854775807) :
    Calls Try.prog 31 #[.slice A n cap, .int .i64 st, .int .i64 h, .agg #[.slice L nl cl, .int .i64 z, .slice P np cp]] w fun e w' => e = .returned (.tuple #[.bool (chkB xs st h ls z ps), .int .i64 (errP (vA xs st h))]) ∧ Below w.heap.size w w' := by
  have hB0 : Below w.heap.size w ((((w.alloc (.cells #[.slice A n cap] 22)).alloc (.cells #[.int .i64 st] 3)).alloc (.cells #[.int .i64 h] 3)).alloc (.cells #[.slice L nl cl, .int .i64 z, .slice P np cp] 26)) :=
    ((((Below.refl _ w).alloc (Nat.le_refl _) _).alloc (by simp) _).alloc (by simp; omega) _).alloc (by simp; omega) _
  have z0 := Blk.new w 22 #[.slice A n cap]
  have z1 := Blk.new (w.alloc (.cells #[.slice A n cap] 22)) 3 #[.int .i64 st]
  have z2 := Blk.new ((w.alloc (.cells #[.slice A n cap] 22)).alloc (.cells #[.int .i64 st] 3)) 3 #[.int .i64 h]
  have z3 := Blk.new (((w.alloc (.cells #[.slice A n cap] 22)).alloc (.cells #[.int .i64 st] 3)).alloc (.cells #[.int .i64 h] 3)) 26 #[.slice L nl cl, .int .i64 z, .slice P np cp]
  simp only [World.size_alloc] at z1 z2 z3
  have hck : CK w.heap.size A n cap st h L nl cl z P np cp ((((w.alloc (.cells #[.slice A n cap] 22)).alloc (.cells #[.int .i64 st] 3)).alloc (.cells #[.int .i64 h] 3)).alloc (.cells #[.slice L nl cl, .int .i64 z, .slice P np cp] 26)) :=
    ⟨((z0.alloc _).alloc _).alloc _, (z1.alloc _).alloc _, z2.alloc _, z3⟩
  clear z0 z1 z2 z3
  have h48 := pvalid_any w.heap.size n cap A xs st h _ (hx.below hB0) hn
  have hl := Lib.hid hx.len
  have hlp := Lib.hid hp.len
  cases hv : vA xs st h
  · have HV := Lib.hid hv
    rw [hv] at h48
    have H48 := Lib.hid h48
    clear hv h48
    go_enter Try.func31, Try.ntmps31
    go_wp2_with fail
    refine H48.out.mono ?_
    rintro e w1 ⟨rfl, hb1⟩
    go_wp2_with fail
    go_ret2
    exact ⟨by simp [chkB, k1B, okK, HV.out, errP], hB0.trans (hb1.mono hB0.size)⟩
  · have HV := Lib.hid hv
    rw [hv] at h48
    have H48 := Lib.hid h48
    clear hv h48
    go_enter Try.func31, Try.ntmps31
    go_wp2_with fail
    refine H48.out.mono ?_
    rintro e w1 ⟨rfl, hb1⟩
    have hck1 := hck.below hb1
    have hB1 := hB0.trans (hb1.mono hB0.size)
    clear hck hb1 hB0
    go_wp2_with fail
    go_loopw [25] (fun i wr => ∃ K : Int, 0 ≤ K ∧ K ≤ 4 ∧ i = .int .i64 K ∧ CR w w.heap.size w1.heap.size A n cap st h L nl cl z P np cp xs ls ps K wr) (fun i _ => (4 - intOf i).toNat)
    case atStart =>
      refine ⟨0, by omega, by omega, rfl, ⟨hck1.below ((Below.refl _ _).alloc (Nat.le_refl _) _), Blk.new w1 23 _, hB1.alloc hB1.size _, fun h => by omega, fun h => by omega, fun h => by omega, fun h => by omega⟩⟩
    case round =>
      obtain ⟨K, hK0, hK4, rfl, hc⟩ := hrel
      have hx1 := (hx.below hc.below).more hc.below.size
      have hy1 := (hy.below hc.below).more hc.below.size
      have hp1 := (hp.below hc.below).more hc.below.size
      by_cases e0 : K = 0
      · subst e0
        have f0 := hc.fs.cell 0
        have h49 := check1_any hc.ck hx1 hy1 hn hnl
        cases hk : k1B xs ls st h z
        · have HK := Lib.hid hk
          rw [hk] at h49
          have H49 := Lib.hid h49
          clear hk h49
          go_wp2_with fail
          refine H49.out.mono ?_
          rintro e w2 ⟨rfl, hb2⟩
          go_wp2_with fail
          go_ret2
          exact ⟨by simp [chkB, HK.out, errP], hc.below.trans (hb2.mono hc.below.size)⟩
        · have HK := Lib.hid hk
          rw [hk] at h49
          have H49 := Lib.hid h49
          clear hk h49
          go_wp2_with fail
          refine H49.out.mono ?_
          rintro e w2 ⟨rfl, hb2⟩
          go_wp2_with fail
          go_roundw
          case rel => exact ⟨1, by omega, by omega, by go_num, hc.later hb2 (fun _ => HK.out) (fun h => by omega) (fun h => by omega) (fun h => by omega)⟩
          case measure => simp [intOf]
      by_cases e1 : K = 1
      · subst e1
        have f0 := hc.fs.cell 1
        have h50 := check2_any hc.ck hx1 hp1 hn hnp
        have HT1 := Lib.hid (hc.t1 (by omega))
        clear e0
        cases hk : vP xs ps
        · have HK := Lib.hid hk
          rw [hk] at h50
          have H50 := Lib.hid h50
          clear hk h50
          go_wp2_with fail
          refine H50.out.mono ?_
          rintro e w2 ⟨rfl, rfl⟩
          go_wp2_with fail
          go_ret2
          exact ⟨by simp [chkB, HK.out, errP], hc.below⟩
        · have HK := Lib.hid hk
          rw [hk] at h50
          have H50 := Lib.hid h50
          clear hk h50
          go_wp2_with fail
          refine H50.out.mono ?_
          rintro e w2 ⟨rfl, rfl⟩
          go_wp2_with fail
          go_roundw
          case rel => exact ⟨2, by omega, by omega, by go_num, hc.later (Below.refl _ _) (fun _ => HT1.out) (fun _ => HK.out) (fun h => by omega) (fun h => by omega)⟩
          case measure => simp [intOf]
      by_cases e2 : K = 2
      · subst e2
        have f0 := hc.fs.cell 2
        have HT1 := Lib.hid (hc.t1 (by omega))
        have HT2 := Lib.hid (hc.t2 (by omega))
        have h52 := check3_any hc.ck hx1 hp1 HV.out HT2.out
        clear e0 e1
        cases hk : prfB st h xs ps n
        · have HK := Lib.hid hk
          rw [hk] at h52
          have H52 := Lib.hid h52
          clear hk h52
          go_wp2_with fail
          refine H52.out.mono ?_
          rintro e w2 ⟨rfl, hb2⟩
          go_wp2_with fail
          go_ret2
          exact ⟨by simp [chkB, hl.out, HK.out, errP], hc.below.trans (hb2.mono hc.below.size)⟩
        · have HK := Lib.hid hk
          rw [hk] at h52
          have H52 := Lib.hid h52
          clear hk h52
          go_wp2_with fail
          refine H52.out.mono ?_
          rintro e w2 ⟨rfl, hb2⟩
          go_wp2_with fail
          go_roundw
          case rel => exact ⟨3, by omega, by omega, by go_num, hc.later hb2 (fun _ => HT1.out) (fun _ => HT2.out) (fun _ => HK.out) (fun h => by omega)⟩
          case measure => simp [intOf]
      by_cases e3 : K = 3
      · subst e3
        have f0 := hc.fs.cell 3
        have HT1 := Lib.hid (hc.t1 (by omega))
        have HT2 := Lib.hid (hc.t2 (by omega))
        have HT3 := Lib.hid (hc.t3 (by omega))
        have enp : np = n := by have := (vP_iff.1 HT2.out).1; have := hl.out; have := hlp.out; omega
        subst enp
        have h54 := check4_any hc.ck hp1 hnp
        clear e0 e1 e2
        cases hk : decide (pF ps np = z)
        · have HK := Lib.hid hk
          rw [hk] at h54
          have H54 := Lib.hid h54
          clear hk h54
          go_wp2_with fail
          refine H54.out.mono ?_
          rintro e w2 ⟨rfl, q, rfl⟩
          go_wp2_with fail
          go_ret2
          have e : chkB xs st h ls z ps = false := by unfold chkB; rw [hl.out, HK.out]; simp
          rw [e]
          exact ⟨rfl, below_drewN hc.below q⟩
        · have HK := Lib.hid hk
          rw [hk] at h54
          have H54 := Lib.hid h54
          clear hk h54
          go_wp2_with fail
          refine H54.out.mono ?_
          rintro e w2 ⟨rfl, q, rfl⟩
          go_wp2_with fail
          go_roundw
          case rel => exact ⟨4, by omega, by omega, by go_num, hc.later (below_drewN (Below.refl _ _) q) (fun _ => HT1.out) (fun _ => HT2.out) (fun _ => HT3.out) (fun _ => by have := HK.out; simpa using this)⟩
          case measure => simp [intOf]
      · obtain rfl : K = 4 := by omega
        have HT1 := Lib.hid (hc.t1 (by omega))
        have HT2 := Lib.hid (hc.t2 (by omega))
        have HT3 := Lib.hid (hc.t3 (by omega))
        have HT4 := Lib.hid (hc.t4 (by omega))
        clear e0 e1 e2 e3
        go_wp2_with fail
        go_ret2
        exact ⟨by simp [chkB, HT1.out, HT2.out, HT3.out, HT4.out, hl.out, errP], hc.below⟩

end Go.Proofs.Ytkbnbdpdmcnkiaa
