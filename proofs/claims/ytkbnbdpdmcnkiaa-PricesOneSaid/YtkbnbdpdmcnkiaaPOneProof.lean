/- PricesOne: the statement. -/
import Derived.Test.YtkbnbdpdmcnkiaaBK
import Derived.Test.YtkbnbdpdmcnkiaaCW
namespace Go.Proofs.Ytkbnbdpdmcnkiaa
open Go.ChangeShapes Go.WideShapes Go.ChangeAt Go.RowKit

set_option maxRecDepth 100000 in
theorem pricesOne_lifted (os : Os) (started : os.Started) (H : Type) (enc : TypeId × Value → H) :
    ReturnsInHanded {} Try.checked os 15 .any (Rows.pricesOneSpec.pre6 enc Try.prog Try.f15 Rows.pricesOneRow.domain false) (Rows.pricesOneSpec.post enc Try.prog Try.f15 false true false false) := by
  refine returnsInHanded_of_change (C := Try.checked) Try.own started (by kernel_rfl) Try.func15
    (ChangeSpec.witness6 (enc := enc) (C := Try.checked) false ⟨#[], #[.slice none 0 0, .int .i64 0, .int .i64 0, .agg #[.slice none 0 0, .int .i64 0, .slice none 0 0], .agg #[.slice none 0 0, .int .i64 0, .slice none 0 0], .slice none 0 0], []⟩ 8 (by kernel_rfl) (by kernel_rfl) (by kernel_rfl) (by kernel_rfl)) ?_
  intro W base args ds gs before hval0 hW hcnd _
  have hval : ∀ (j : Nat) t v, Try.f15.params[j]? = some t → args[j]? = some v → Value.okWide Try.prog W .any base t v := hval0
  have hW' := hW
  have hlt : ∀ x ∈ before, x.block < W.heap.size := fun x hx => hW'.lt x hx
  obtain ⟨p, q, hA0, hV, rfl, hfz, hnd⟩ := hW
  have hA : DataW.TrodAll enc Try.prog W 0 (fun _ => true) true Try.f15.params.toList args.toList ds p := hA0
  rw [Try.params15] at hA hval
  obtain ⟨v0, v1, v2, v3, v4, v5, d0, d1, d2, d3, d4, d5, p0, p1, p2, p3, p4, p5, rfl, rfl, rfl, h0, h1, h2, h3, h4, h5⟩ := trodAll_six hA
  obtain ⟨rfl, rfl⟩ := trodVars_none hV
  obtain ⟨A0, n0, c0, xs0, rfl, sx0, hc0, hm0, _⟩ := arg_ints (hval 0 22 v0 rfl rfl) h0 (fun x hx => hlt x (by simp [hx]))
  obtain ⟨z1, rfl, hz1, hz1'⟩ := arg_int (hval 1 3 v1 rfl rfl) h1
  obtain ⟨z2, rfl, hz2, hz2'⟩ := arg_int (hval 2 3 v2 rfl rfl) h2
  obtain ⟨A3, n3, c3, xs3, z3, B3, m3, e3, ys3, rfl, sx3, hc3, hm3, sy3, hd3, hq3, hz3, hz3'⟩ := arg_sizing (hval 3 26 v3 rfl rfl) h3 (fun x hx => hlt x (by simp [hx]))
  obtain ⟨A4, n4, c4, xs4, z4, B4, m4, e4, ys4, rfl, sx4, hc4, hm4, sy4, hd4, hq4, hz4, hz4'⟩ := arg_sizing (hval 4 26 v4 rfl rfl) h4 (fun x hx => hlt x (by simp [hx]))
  obtain ⟨A5, n5, c5, xs5, rfl, sx5, hc5, hm5, _⟩ := arg_ints (hval 5 22 v5 rfl rfl) h5 (fun x hx => hlt x (by simp [hx]))
  clear hA0 hval0
  refine (pricesOne_any n0 c0 n3 c3 m3 e3 n4 c4 m4 e4 n5 c5 A0 A3 B3 A4 B4 A5 xs0 xs3 ys3 xs4 ys4 xs5 z1 z2 z3 z4 W sx0 sx3 sy3 sx4 sy4 sx5).mono fun e W' ⟨he, hw⟩ => ?_
  subst he
  exact ⟨_, rfl, law_post hW' rfl rfl rfl rfl rfl (by kernel_rfl) hw⟩

theorem pricesOne_holds : Rows.PricesOneSaid :=
  OpenClaim.holds_of_wide 15 Try.f15 rfl rfl rfl rfl rfl rfl rfl ⟨rfl, rfl, rfl, rfl, rfl⟩ rfl rfl rfl rfl rfl (by kernel_rfl) Try.func15 (by kernel_rfl)
    (of_decide_eq_true (by kernel_rfl)) (by unfold Func.isWrapper; first | (rw [if_pos (by decide +kernel)]; kernel_rfl) | (rw [if_neg (by decide +kernel)]; exact ⟨rfl, rfl⟩))
    (fun os started H enc _ => pricesOne_lifted os started H enc)
#print axioms pricesOne_holds
end Go.Proofs.Ytkbnbdpdmcnkiaa
