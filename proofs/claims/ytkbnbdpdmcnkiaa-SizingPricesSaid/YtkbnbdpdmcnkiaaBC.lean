/- A range over an iterator that keeps numbers of its own in blocks of its own: its contract, and the caller's law. -/
import Derived.Test.YtkbnbdpdmcnkiaaBB
import Derived.Test.YtkbnbdpdmcnkiaaH
namespace Go.Proofs.Ytkbnbdpdmcnkiaa
open Go.RowKit

/-- Whatever turns at or beyond block B is abided. -/
def AbA {α : Type} (B : Nat) (J : α → World → Prop) : Prop := ∀ s W W' row, J s W → W.grownBy W' row → (∀ r, row = some r → B ≤ r) → J s W'
theorem AbA.alloc {α : Type} {B : Nat} {J : α → World → Prop} (h : AbA B J) {s : α} {W : World} (hs : J s W) (o : Obj) : J s (W.alloc o) :=
  h s W _ none hs (World.grownBy_alloc W o none) (fun _ e => by cases e)
theorem AbA.put {α : Type} {B : Nat} {J : α → World → Prop} (h : AbA B J) {s : α} {W : World} {l : Nat} (hs : J s W) (hl : B ≤ l) (o : Obj) : J s (W.putObj l o) :=
  h s W _ (some l) hs (grownBy_putObj' W l o) (fun r e => by cases e; exact hl)

/-- The contract of an iterator: with whatever its yield keeps (J), it ends; by then all of S have come, or a round has been left (Jx). -/
def SeqO {α : Type} (F : Fence) (n : Nat) (P : Program) (gf : Nat) (lb : Array Value) (encs : α → Array Value) (Kp : World → World → Prop) (S : List α → Prop) (N : Nat) (w : World) : Prop :=
  ∀ (l : Nat) (J Jx : List α → World → Prop) (W : World), Below w.heap.size w W → w.heap.size + 1 < W.heap.size → AbA W.heap.size J → AbA W.heap.size Jx →
    (∀ pre x W1, J pre W1 → pre.length < N → YieldAt F (n - 1) P l (encs x) W1 fun e W' => (e = .returned (.bool true) ∧ J (pre ++ [x]) W' ∧ Kp W1 W') ∨ (e = .returned (.bool false) ∧ Jx (pre ++ [x]) W')) →
    J [] W →
    CallsIn F n P gf (#[.func (.yield l) #[] #[]] ++ lb) W fun e W' => (∃ v, e = .returned v) ∧ ((∃ xs, S xs ∧ J xs W') ∨ (∃ pre, Jx pre W'))

/-- How a round may be left. -/
def roundQ {α : Type} (Kp : World → World → Prop) (I Ix : List α → World → Prop) (pre : List α) (W : World) : Exit → Act → World → Prop
  | .normal, _, W' => KeepsOthers W W' ∧ Kp W W' ∧ I pre W'
  | .ret, _, W' => KeepsOthers W W' ∧ Ix pre W'
  | _, _, _ => False

variable {F : Fence} {n : Nat} {P : Program}

/-- All blocks but x and y lie as they lay. -/
def Kx (x y : Nat) (A B : World) : Prop := A.heap.size ≤ B.heap.size ∧ ∀ b, b ≠ x → b ≠ y → b < A.heap.size → B.heap[b]? = A.heap[b]?
theorem Kx.refl (x y : Nat) (A : World) : Kx x y A A := ⟨Nat.le_refl _, fun _ _ _ _ => rfl⟩
theorem Kx.trans {x y : Nat} {A B C : World} (h : Kx x y A B) (k : Kx x y B C) : Kx x y A C := ⟨Nat.le_trans h.1 k.1, fun b h1 h2 h3 => (k.2 b h1 h2 (Nat.lt_of_lt_of_le h3 h.1)).trans (h.2 b h1 h2 h3)⟩
theorem Kx.of_grownBy {x y : Nat} {A B : World} {row : Option Nat} (hg : A.grownBy B row) (hr : ∀ r, row = some r → r = x ∨ r = y) : Kx x y A B :=
  ⟨hg.size, fun b h1 h2 h3 => hg.block b h3 (fun e => by rcases hr b e.symm with h | h; exact h1 h; exact h2 h)⟩

theorem wpIn_range_own {α : Type} {gop : Operand} {ps : Array Tmp} {assign body : Code} {Q : Exit → Act → World → Prop} {a : Act} {w : World}
    (hro : F.round = none) (h1 : 1 ≤ n) {gf : Nat} {lb : Array Value} (hg : a.eval gop = .func (.func gf) #[] lb) (hFg : F.fn gf) (eg : ∀ args w, (callFunc gf args).run P w = .ok (.enter gf args) w)
    {encs : α → Array Value} {x : Nat} {S : List α → Prop} {N : Nat} (hseq : SeqO F (n - 1) P gf lb encs (Kx x (w.heap.size + 1)) S N w) (hps : ∀ x, (encs x).size = ps.size)
    (I Ix : List α → World → Prop) (M : List α → α → Act → World → Prop) (hI : AbA w.heap.size I) (hIx : AbA w.heap.size Ix) (hM : ∀ pre y a₁ W o, M pre y a₁ W → M pre y a₁ (W.putObj (w.heap.size + 1) o)) (h0 : I [] w)
    (hassign : ∀ (l : Nat) (pre : List α) (y : α) (W : World), I pre W → w.heap.size + 1 < W.heap.size → pre.length < N →
      assign.wpIn (F.inRound l) (n - 1 - 1) P (Exit.then (fun a₁ W₁ => KeepsOthers W W₁ ∧ Kx x (w.heap.size + 1) W W₁ ∧ M pre y a₁ W₁) (fun _ _ _ => False)) { tmps := (ps.zip (encs y)).foldl (fun t (p, v) => t.setIfInBounds p v) a.tmps, defers := [] } W)
    (hbody : ∀ (l : Nat) (pre : List α) (y : α) (a₁ : Act) (W : World), M pre y a₁ W → body.wpIn (F.inRound l) (n - 1 - 1) P (roundQ (Kx x (w.heap.size + 1)) I Ix (pre ++ [y]) W) a₁ W)
    (hdone : ∀ (xs : List α) (W : World), S xs → I xs W → W.heap[w.heap.size]? = some (.deferred (some [])) → Q .normal { a with defers := { target := .collected w.heap.size, args := #[] } :: a.defers } W)
    (hstop : ∀ (pre : List α) (W : World), Ix pre W → W.heap[w.heap.size]? = some (.deferred (some [])) → Code.ret.wpIn F n P Q { a with defers := { target := .collected w.heap.size, args := #[] } :: a.defers } W) :
    (Code.rangeFunc gop ps assign body).wpIn F n P Q a w := by
  refine wpIn_rangeFunc (fun fn hfn => ?_)
  rw [hro]
  have hlay := run_enterLoop_outer (P := P) (w := w) fn a.tmps ps assign body
  obtain ⟨R, hR⟩ : ∃ R : LoopState → Option Code → Obj, R = fun st pe => .loop { state := st, pending := pe, fn, tmps := a.tmps, params := ps, assign, body, defers := w.heap.size } := ⟨_, rfl⟩
  obtain ⟨W1, hW1⟩ : ∃ W1, (w.alloc (.deferred (some []))).alloc (R .ready none) = W1 := ⟨_, rfl⟩
  have eW : (w.alloc (.deferred (some []))).alloc (.loop { state := .ready, pending := none, fn, tmps := a.tmps, params := ps, assign, body, defers := w.heap.size }) = W1 := by rw [← hW1, hR]
  rw [eW] at hlay
  have hsz : W1.heap.size = w.heap.size + 1 + 1 := by rw [← hW1]; simp
  have hL : W1.heap[w.heap.size + 1]? = some (R .ready none) := by
    rw [← hW1]
    have := World.alloc_heap_new (w.alloc (.deferred (some []))) (R .ready none)
    rwa [World.size_alloc] at this
  have hD : W1.heap[w.heap.size]? = some (.deferred (some [])) := by rw [← hW1]; exact (Below.heap_alloc _ _ _ (by simp)).trans (World.alloc_heap_new w _)
  have hI1 : I [] W1 := by rw [← hW1]; exact hI.alloc (hI.alloc h0 _) _
  have hb1 : Below w.heap.size w W1 := by rw [← hW1]; exact ((Below.refl _ w).alloc (Nat.le_refl _) _).alloc (by simp) _
  refine ⟨w.heap.size + 1, _, W1, { target := .fn (.func gf) lb, args := #[.func (.yield (w.heap.size + 1)) #[] #[]] }, W1, gf, #[.func (.yield (w.heap.size + 1)) #[] #[]] ++ lb, W1, hlay, ?_, ?_, ?_, fun _ => h1, ?_⟩
  · simp only [resolve, hg]
    simp [go_sem]
  · intro f' hf'
    simp [Target.leads] at hf'
    subst hf'
    exact hFg
  · simp [invoke, go_sem, eg]
  refine (hseq (w.heap.size + 1)
    (fun pre W => I pre W ∧ W.heap[w.heap.size + 1]? = some (R .ready none) ∧ W.heap[w.heap.size]? = some (.deferred (some [])))
    (fun pre W => Ix pre W ∧ W.heap[w.heap.size + 1]? = some (R .done (some .ret)) ∧ W.heap[w.heap.size]? = some (.deferred (some [])))
    W1 hb1 (by omega) ?_ ?_ ?_ ⟨hI1, hL, hD⟩).mono ?_
  · intro s A B row hs hgr hr
    have hlt : ∀ k o, k < w.heap.size + 1 + 1 → A.heap[k]? = some o → B.heap[k]? = some o := fun k o hk ho =>
      (hgr.block k (Array.getElem?_eq_some_iff.1 ho).1 (fun e => by have := hr k e.symm; omega)).trans ho
    exact ⟨hI s A B row hs.1 hgr (fun r e => by have := hr r e; omega), hlt _ _ (by omega) hs.2.1, hlt _ _ (by omega) hs.2.2⟩
  · intro s A B row hs hgr hr
    have hlt : ∀ k o, k < w.heap.size + 1 + 1 → A.heap[k]? = some o → B.heap[k]? = some o := fun k o hk ho =>
      (hgr.block k (Array.getElem?_eq_some_iff.1 ho).1 (fun e => by have := hr k e.symm; omega)).trans ho
    exact ⟨hIx s A B row hs.1 hgr (fun r e => by have := hr r e; omega), hlt _ _ (by omega) hs.2.1, hlt _ _ (by omega) hs.2.2⟩
  · rintro pre y W ⟨hi, hl, hd⟩ hlen
    have hlt := (Array.getElem?_eq_some_iff.1 hl).1
    rw [hR] at hl
    refine ⟨fn, _, assign, body, run_yield (P := P) (args := encs y) hl (hps y), roundIn_of_wpIn hfn (wpIn_mono (hassign _ pre y W hi hlt hlen) ?_)⟩
    rintro e a₁ Wa hq
    cases e with
    | normal =>
      obtain ⟨ka, kxa, hm⟩ := hq
      have hla := ka.same _ _ hl rfl
      have hda := ka.same _ _ hd rfl
      have hlta := (Array.getElem?_eq_some_iff.1 hla).1
      refine ⟨_, run_beginRound hla rfl, wpIn_mono (hbody _ pre y a₁ _ (hM pre y a₁ Wa _ hm)) ?_⟩
      have hl2 := World.putObj_heap_same (w := Wa) (o := .loop { state := .busy, pending := none, fn, tmps := a.tmps, params := ps, assign, body, defers := w.heap.size }) hlta
      have hd2 : (Wa.putObj (w.heap.size + 1) (.loop { state := .busy, pending := none, fn, tmps := a.tmps, params := ps, assign, body, defers := w.heap.size })).heap[w.heap.size]? = some (.deferred (some [])) :=
        (World.putObj_heap_other (by omega)).trans hda
      rintro e a3 W3 hp
      cases e with
      | normal =>
        obtain ⟨k3, kx3, hi3⟩ := hp
        have hl3 := k3.same _ _ hl2 rfl
        have hd3 := k3.same _ _ hd2 rfl
        refine ⟨_, _, run_endRound none hl3, .inl ⟨rfl, ⟨hI.put hi3 (by omega) _, ?_, (World.putObj_heap_other (by omega)).trans hd3⟩, ?_⟩⟩
        · rw [hR]; exact World.putObj_heap_same (Array.getElem?_eq_some_iff.1 hl3).1
        · exact ((kxa.trans (Kx.of_grownBy (grownBy_putObj' _ _ _) (fun r e => by cases e; exact .inr rfl))).trans kx3).trans (Kx.of_grownBy (grownBy_putObj' _ _ _) (fun r e => by cases e; exact .inr rfl))
      | ret =>
        obtain ⟨k3, hi3⟩ := hp
        have hl3 := k3.same _ _ hl2 rfl
        have hd3 := k3.same _ _ hd2 rfl
        refine ⟨_, _, run_endRound (some .ret) hl3, .inr ⟨rfl, hIx.put hi3 (by omega) _, ?_, (World.putObj_heap_other (by omega)).trans hd3⟩⟩
        rw [hR]; exact World.putObj_heap_same (Array.getElem?_eq_some_iff.1 hl3).1
      | exit id => exact hp.elim
      | goto t => exact hp.elim
      | panic ch => exact hp.elim
      | outgrown => exact hp.elim
    | ret => exact hq.elim
    | exit id => exact hq.elim
    | goto t => exact hq.elim
    | panic ch => exact hq.elim
    | outgrown => exact hq.elim
  · rintro e W2 ⟨⟨v, rfl⟩, ⟨xs, hS, hi, hl, hd⟩ | ⟨pre, hi, hl, hd⟩⟩
    · rw [hR] at hl
      exact ⟨none, _, run_endLoop hl (by simp), hdone xs _ hS (hI.put hi (by omega) _) ((World.putObj_heap_other (by omega)).trans hd)⟩
    · rw [hR] at hl
      exact ⟨some .ret, _, run_endLoop hl (by simp), hstop pre _ (hIx.put hi (by omega) _) ((World.putObj_heap_other (by omega)).trans hd)⟩

end Go.Proofs.Ytkbnbdpdmcnkiaa
