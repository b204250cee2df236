/- A region that draws its order, in a round or not, whose operations read, but for one that turns the world: each operation yields one value, whatever order is drawn; so one end serves all orders. -/
import Derived.Test.YtkbnbdpdmcnkiaaK
namespace Go.Proofs.Ytkbnbdpdmcnkiaa
open Go.RowKit Go.Shelf

/-- The operation that writes slot k. -/
def slotOp (ops : Array Oper) (k : Nat) : Option Nat := (List.range ops.size).find? fun i => ((ops[i]?).bind (·.dst)) == some k
theorem slotOp_some {ops : Array Oper} {k i : Nat} (h : slotOp ops k = some i) : (ops[i]?).bind (·.dst) = some k := by
  have := List.find?_some h
  simpa using this

/-- The frame a is a0 with the values of the operations that L names. -/
def Agree (ops : Array Oper) (a0 : Act) (vals : Nat → Value) (L : Nat → Bool) (a : Act) : Prop :=
  a.defers = a0.defers ∧ a.tmps.size = a0.tmps.size ∧ ∀ k, a.tmps.getD k undef = (match slotOp ops k with | some i => if L i = true then vals i else a0.tmps.getD k undef | none => a0.tmps.getD k undef)

section
variable {ops : Array Oper} {a0 a b : Act} {vals : Nat → Value} {L L' : Nat → Bool}
theorem Agree.refl (ops : Array Oper) (a0 : Act) (vals : Nat → Value) : Agree ops a0 vals (fun _ => false) a0 :=
  ⟨rfl, rfl, fun k => by cases slotOp ops k <;> simp⟩
theorem Agree.at_ (h : Agree ops a0 vals L a) {i d : Nat} (hs : slotOp ops d = some i) (hL : L i = true) : a.eval (.tmp d) = vals i := by
  have := h.2.2 d
  rw [hs] at this
  simp only [hL, if_true] at this
  exact this
theorem Agree.base (h : Agree ops a0 vals L a) {d : Nat} (hs : slotOp ops d = none) : a.eval (.tmp d) = a0.eval (.tmp d) := by
  have := h.2.2 d
  rw [hs] at this
  exact this
theorem Agree.at' (h : Agree ops a0 vals L a) {i d : Nat} (hs : slotOp ops d = some i) (hL : L i = true) : a.tmps[d]?.getD undef = vals i := by
  have := h.at_ hs hL
  simpa [Act.eval, Array.getD_eq_getD_getElem?] using this
theorem Agree.base' (h : Agree ops a0 vals L a) {d : Nat} (hs : slotOp ops d = none) : a.tmps[d]?.getD undef = a0.tmps[d]?.getD undef := by
  have := h.base hs
  simpa [Act.eval, Array.getD_eq_getD_getElem?] using this
theorem Agree.step (h : Agree ops a0 vals L a) {i d : Nat} (hd : d < a0.tmps.size) (hs : slotOp ops d = some i) : Agree ops a0 vals (fun j => j == i || L j) (a.put (some d) (vals i)) := by
  refine ⟨h.1, by simp [Act.put, h.2.1], fun k => ?_⟩
  have hk := h.2.2 k
  simp only [Act.put, Array.getD_eq_getD_getElem?] at hk ⊢
  by_cases e : k = d
  · subst e
    rw [hs]
    simp [h.2.1, hd]
  · rw [Array.getElem?_setIfInBounds, if_neg (Ne.symm e), hk]
    cases hq : slotOp ops k with
    | none => rfl
    | some j =>
      have hne : j ≠ i := by
        rintro rfl
        have h1 := slotOp_some hq
        have h2 := slotOp_some hs
        rw [h1] at h2
        cases h2
        exact e rfl
      simp [hne]
theorem Agree.congr (h : Agree ops a0 vals L a) (hL : ∀ i, i < ops.size → L i = L' i) : Agree ops a0 vals L' a := by
  refine ⟨h.1, h.2.1, fun k => ?_⟩
  rw [h.2.2 k]
  cases hq : slotOp ops k with
  | none => rfl
  | some i =>
    have hi : i < ops.size := by
      have h1 := slotOp_some hq
      rcases Nat.lt_or_ge i ops.size with h2 | h2
      · exact h2
      · simp [Array.getElem?_eq_none h2] at h1
    simp only [hL i hi]
theorem Agree.unique (h : Agree ops a0 vals L a) (h' : Agree ops a0 vals L b) : a = b := by
  obtain ⟨ta, da⟩ := a
  obtain ⟨tb, db⟩ := b
  have e1 : da = db := h.1.trans h'.1.symm
  have e2 : ta = tb := by
    have hs : ta.size = tb.size := h.2.1.trans h'.2.1.symm
    apply Array.ext hs
    intro k h1 h2
    have := (h.2.2 k).trans (h'.2.2 k).symm
    simpa [Array.getD_eq_getD_getElem?, h1, h2] using this
  subst e1; subst e2; rfl
end

/-- The slots that the operations write are there, and no two write one. -/
def dstB (ops : Array Oper) (size : Nat) : Bool := (List.range ops.size).all fun i => match (ops[i]?).bind (·.dst) with | some d => decide (d < size) && slotOp ops d == some i | none => false
/-- An operation waits for earlier ones alone. -/
def depB (ops : Array Oper) : Bool := (List.range ops.size).all fun i => ((ops[i]?).map (·.after.all fun e => decide (e.on < i))).getD false
theorem dstB_at {ops : Array Oper} {size i : Nat} {o : Oper} (h : dstB ops size = true) (ho : ops[i]? = some o) : ∃ d, o.dst = some d ∧ d < size ∧ slotOp ops d = some i := by
  have hi : i < ops.size := (Array.getElem?_eq_some_iff.1 ho).1
  have := (List.all_eq_true.1 h) i (by simpa using hi)
  simp only [ho, Option.bind_some] at this
  cases hd : o.dst with
  | none => simp [hd] at this
  | some d =>
    simp only [hd, Bool.and_eq_true, decide_eq_true_eq, beq_iff_eq] at this
    exact ⟨d, rfl, this.1, this.2⟩
theorem depB_at {ops : Array Oper} {i : Nat} {o : Oper} (h : depB ops = true) (ho : ops[i]? = some o) : ∀ e ∈ o.after, e.on < i := by
  have hi : i < ops.size := (Array.getElem?_eq_some_iff.1 ho).1
  have := (List.all_eq_true.1 h) i (by simpa using hi)
  simp only [ho, Option.map_some, Option.getD_some, Array.all_eq_true_iff_forall_mem, decide_eq_true_eq] at this
  exact this

/-- The frame behind the region. -/
def finAct (ops : Array Oper) (a0 : Act) (vals : Nat → Value) (k : Nat) : Act := (List.range k).foldl (fun a i => a.put ((ops[i]?).bind (·.dst)) (vals i)) a0
theorem finAct_agree {ops : Array Oper} {a0 : Act} {vals : Nat → Value} (hd : dstB ops a0.tmps.size = true) (k : Nat) (hk : k ≤ ops.size) : Agree ops a0 vals (fun j => decide (j < k)) (finAct ops a0 vals k) := by
  induction k with
  | zero => exact (Agree.refl ops a0 vals).congr (fun i _ => by simp)
  | succ k ih =>
    have hk' : k < ops.size := by omega
    obtain ⟨d, e1, e2, e3⟩ := dstB_at hd (Array.getElem?_eq_getElem hk')
    have h1 := (ih (by omega)).step e2 e3
    have e : finAct ops a0 vals (k + 1) = (finAct ops a0 vals k).put (some d) (vals k) := by
      simp only [finAct, List.range_succ, List.foldl_append, List.foldl_cons, List.foldl_nil]
      rw [Array.getElem?_eq_getElem hk', Option.bind_some, e1]
    rw [e]
    refine h1.congr (fun i _ => ?_)
    by_cases e : i = k
    · subst e; simp
    · have : (i < k + 1) ↔ i < k := by omega
      simp [e, this]

section
variable {F : Fence} {n : Nat} {P : Program} {ops : Array Oper} {Q : Exit → Act → World → Prop} {a0 : Act} {vals : Nat → Value} {c : Nat} {C : Bool → World → Prop}

/-- What is asked of each operation. -/
def StepOk (F : Fence) (n : Nat) (P : Program) (ops : Array Oper) (Q : Exit → Act → World → Prop) (a0 : Act) (vals : Nat → Value) (c : Nat) (C : Bool → World → Prop) (i : Nat) (o : Oper) : Prop :=
  ∀ (L : Nat → Bool) (a : Act) (w : World), Agree ops a0 vals L a → (∀ e ∈ o.after, Region.binds .any e = true → L e.on = true) → L i = false → C (L c) w →
    Region.wanted o (yielded ops a.tmps) = true ∧ ∀ K : Act → World → Prop, (∀ w', C (c == i || L c) w' → K (a.put o.dst (vals i)) w') → o.wpIn F n P a w K Q

theorem getD_set {l : Array Bool} {i j : Nat} (hi : i < l.size) : (l.setIfInBounds i true).getD j false = (j == i || l.getD j false) := by
  simp only [Array.getD_eq_getD_getElem?, Array.getElem?_setIfInBounds]
  by_cases e : i = j
  · subst e; simp [hi]
  · rw [if_neg e]
    have : (j == i) = false := by simpa using Ne.symm e
    rw [this, Bool.false_or]

theorem wpAnyIn_confl (hd : dstB ops a0.tmps.size = true) (hdep : depB ops = true) (hstep : ∀ i o, ops[i]? = some o → StepOk F n P ops Q a0 vals c C i o) (hc : c < ops.size)
    (hfin : ∀ w, C true w → Q .normal (finAct ops a0 vals ops.size) w) : ∀ (fuel : Nat) (listed : Array Bool) (a : Act) (w : World), listed.size = ops.size → listed.toList.count false ≤ fuel →
      Agree ops a0 vals (fun j => listed.getD j false) a → C (listed.getD c false) w → wpAnyIn F n P .any ops Q fuel listed a w := by
  have hend : ∀ (listed : Array Bool) (a : Act) (w : World), listed.size = ops.size → Agree ops a0 vals (fun j => listed.getD j false) a → C (listed.getD c false) w → Region.ready .any ops listed = [] → Q .normal a w := by
    intro listed a w hsz ha hC hr
    have hall : ∀ i, i < ops.size → listed.getD i false = true := by
      intro i
      induction i using Nat.strongRecOn with
      | _ i ih =>
        intro hi
        cases hq : listed.getD i false with
        | true => rfl
        | false =>
          exfalso
          have hmem : i ∈ Region.ready .any ops listed := by
            refine mem_ready.2 ⟨?_, ops[i], Array.getElem?_eq_getElem hi, fun e he _ => ?_⟩
            · have h1 : i < listed.size := by omega
              simp only [Array.getD_eq_getD_getElem?, Array.getElem?_eq_getElem h1, Option.getD_some] at hq ⊢
              exact hq
            · have := depB_at hdep (Array.getElem?_eq_getElem hi) e he
              exact ih e.on this (by omega)
          rw [hr] at hmem
          cases hmem
    have h1 := ha.congr (L' := fun j => decide (j < ops.size)) (fun i hi => by rw [hall i hi]; simp [hi])
    have h2 := finAct_agree (vals := vals) hd ops.size (Nat.le_refl _)
    rw [h1.unique h2]
    exact hfin w (by rw [hall c hc] at hC; exact hC)
  intro fuel
  induction fuel with
  | zero =>
    intro listed a w hsz hcnt ha hC
    have hr : Region.ready .any ops listed = [] := by
      rw [List.eq_nil_iff_forall_not_mem]
      intro i hi
      obtain ⟨h1, o, ho, _⟩ := mem_ready.1 hi
      have hi' : i < listed.size := by rw [hsz]; exact (Array.getElem?_eq_some_iff.1 ho).1
      have h0 : listed.toList.count false = 0 := by omega
      rw [List.count_eq_zero] at h0
      apply h0
      simp only [Array.getD_eq_getD_getElem?, Array.getElem?_eq_getElem hi', Option.getD_some] at h1
      rw [← h1]
      simp
    exact ⟨hr, hend listed a w hsz ha hC hr⟩
  | succ fuel ih =>
    intro listed a w hsz hcnt ha hC
    refine ⟨hend listed a w hsz ha hC, fun i hi => ?_⟩
    obtain ⟨h1, o, ho, hdeps⟩ := mem_ready.1 hi
    have hi' : i < listed.size := by rw [hsz]; exact (Array.getElem?_eq_some_iff.1 ho).1
    have h1' : listed[i] = false := by simpa [Array.getD_eq_getD_getElem?, hi'] using h1
    have h1f : listed.getD i false = false := by simpa [Array.getD_eq_getD_getElem?, hi'] using h1'
    obtain ⟨hw, hk⟩ := hstep i o ho (fun j => listed.getD j false) a w ha hdeps h1f hC
    unfold wpOpIn
    simp only [ho, hw, if_true]
    refine hk _ (fun w' hC' => ?_)
    obtain ⟨d, e1, e2, e3⟩ := dstB_at hd ho
    refine ih _ _ _ (by simpa using hsz) ?_ ?_ ?_
    · have hl : i < listed.toList.length := by simpa using hi'
      have := List.count_set (a := true) (b := false) (l := listed.toList) (i := i) hl
      rw [Array.toList_setIfInBounds, this]
      have e : listed.toList[i] = false := by simpa using h1'
      rw [e]
      have : 0 < listed.toList.count false := List.count_pos_iff.2 (by rw [← e]; exact List.getElem_mem hl)
      rw [if_pos (by rfl), if_neg (by decide)]
      omega
    · rw [e1]
      exact (ha.step e2 e3).congr (fun j _ => (getD_set hi').symm)
    · rw [getD_set hi']
      exact hC'

theorem wpIn_region_confl {id : Nat} {w : World} (hm : P.follows .mixedOrders = true) (hd : dstB ops a0.tmps.size = true) (hdep : depB ops = true) (hc : c < ops.size)
    (hstep : ∀ i o, ops[i]? = some o → StepOk F n P ops Q a0 vals c C i o) (h0 : C false w.drew) (hfin : ∀ w, C true w → Q .normal (finAct ops a0 vals ops.size) w) :
    (Code.region id ops true).wpIn F n P Q a0 w := by
  refine wpIn_region_any hm (wpAnyIn_confl hd hdep hstep hc hfin _ _ _ _ (by simp) ?_ ?_ ?_)
  · have : (Array.replicate ops.size false).toList.count false ≤ (Array.replicate ops.size false).toList.length := List.count_le_length
    rw [Array.toList_replicate, List.length_replicate] at this
    rw [Array.toList_replicate]
    exact this
  · refine (Agree.refl ops a0 vals).congr (fun i hi => ?_)
    simp [Array.getD_eq_getD_getElem?, hi]
  · have : (Array.replicate ops.size false).getD c false = false := by simp [Array.getD_eq_getD_getElem?, hc]
    rw [this]
    exact h0

/-- An operation that leaves the world alone. -/
theorem stepOk_run {i : Nat} {o : Oper} (hg : o.guard = none) (hnd : noDefer o = true) (hic : (c == i) = false) (hab : ∀ (a : Act) (w : World), o.about P w a.eval = none)
    (hrun : ∀ (L : Nat → Bool) (a : Act) (w : World), Agree ops a0 vals L a → (∀ e ∈ o.after, Region.binds .any e = true → L e.on = true) → C (L c) w → (execOp a.eval o).run P w = .ok (.value (vals i)) w) :
    StepOk F n P ops Q a0 vals c C i o := by
  intro L a w ha hL _ hC
  refine ⟨by simp [Region.wanted, hg], fun K hK => ?_⟩
  unfold Oper.wpIn
  refine ⟨(fun f hf => by rw [hab] at hf; cases hf), ?_⟩
  rw [semAt_nd (noDefer_of hnd), hrun L a w ha hL hC]
  exact hK w (by rw [hic, Bool.false_or]; exact hC)
end

end Go.Proofs.Ytkbnbdpdmcnkiaa
