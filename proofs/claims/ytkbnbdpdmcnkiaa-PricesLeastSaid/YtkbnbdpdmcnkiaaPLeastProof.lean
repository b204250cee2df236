/- PricesLeast: the statement. -/
import Derived.Test.YtkbnbdpdmcnkiaaBJ
import Derived.Test.YtkbnbdpdmcnkiaaCW
namespace Go.Proofs.Ytkbnbdpdmcnkiaa
open Go.ChangeShapes Go.WideShapes Go.ChangeAt Go.RowKit

set_option maxRecDepth 100000 in
theorem pricesLeast_lifted (os : Os) (started : os.Started) (H : Type) (enc : TypeId × Value → H) :
    ReturnsInHanded {} Try.checked os 14 .any (Rows.pricesLeastSpec.pre6 enc Try.prog Try.f14 Rows.pricesLeastRow.domain false) (Rows.pricesLeastSpec.post enc Try.prog Try.f14 false true false false) := by
  refine returnsInHanded_of_change (C := Try.checked) Try.own started (by kernel_rfl) Try.func14
    (ChangeSpec.witness6 (enc := enc) (C := Try.checked) false ⟨#[], #[.slice none 0 0, .slice none 0 0, .int .i64 0, .int .i64 0, .slice none 0 0], []⟩ 8 (by kernel_rfl) (by kernel_rfl) (by kernel_rfl) (by kernel_rfl)) ?_
  intro W base args ds gs before hval0 hW hcnd _
  have hval : ∀ (j : Nat) t v, Try.f14.params[j]? = some t → args[j]? = some v → Value.okWide Try.prog W .any base t v := hval0
  have hW' := hW
  have hlt : ∀ x ∈ before, x.block < W.heap.size := fun x hx => hW'.lt x hx
  obtain ⟨p, q, hA0, hV, rfl, hfz, hnd⟩ := hW
  have hA : DataW.TrodAll enc Try.prog W 0 (fun _ => true) true Try.f14.params.toList args.toList ds p := hA0
  rw [Try.params14] at hA hval
  obtain ⟨v0, v1, v2, v3, v4, d0, d1, d2, d3, d4, p0, p1, p2, p3, p4, rfl, rfl, rfl, h0, h1, h2, h3, h4⟩ := trodAll_five hA
  obtain ⟨rfl, rfl⟩ := trodVars_none hV
  obtain ⟨A0, n0, c0, xs0, rfl, sx0, hc0, hm0, _⟩ := arg_ints (hval 0 22 v0 rfl rfl) h0 (fun x hx => hlt x (by simp [hx]))
  obtain ⟨A1, n1, c1, xs1, rfl, sx1, hc1, hm1, _⟩ := arg_ints (hval 1 22 v1 rfl rfl) h1 (fun x hx => hlt x (by simp [hx]))
  obtain ⟨z2, rfl, hz2, hz2'⟩ := arg_int (hval 2 3 v2 rfl rfl) h2
  obtain ⟨z3, rfl, hz3, hz3'⟩ := arg_int (hval 3 3 v3 rfl rfl) h3
  obtain ⟨A4, n4, c4, xs4, rfl, sx4, hc4, hm4, _⟩ := arg_ints (hval 4 22 v4 rfl rfl) h4 (fun x hx => hlt x (by simp [hx]))
  clear hA0 hval0
  refine (pricesLeast_any n0 c0 n1 c1 n4 c4 A0 A1 A4 xs0 xs1 xs4 z2 z3 W sx0 sx1 sx4).mono fun e W' ⟨he, hw⟩ => ?_
  subst he
  exact ⟨_, rfl, law_post hW' rfl rfl rfl rfl rfl (by kernel_rfl) hw⟩

theorem pricesLeast_holds : Rows.PricesLeastSaid :=
  OpenClaim.holds_of_wide 14 Try.f14 rfl rfl rfl rfl rfl rfl rfl ⟨rfl, rfl, rfl, rfl, rfl⟩ rfl rfl rfl rfl rfl (by kernel_rfl) Try.func14 (by kernel_rfl)
    (of_decide_eq_true (by kernel_rfl)) (by unfold Func.isWrapper; first | (rw [if_pos (by decide +kernel)]; kernel_rfl) | (rw [if_neg (by decide +kernel)]; exact ⟨rfl, rfl⟩))
    (fun os started H enc _ => pricesLeast_lifted os started H enc)
#print axioms pricesLeast_holds
end Go.Proofs.Ytkbnbdpdmcnkiaa
