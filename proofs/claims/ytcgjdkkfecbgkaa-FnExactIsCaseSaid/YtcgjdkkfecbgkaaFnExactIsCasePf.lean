/-
  For all arguments the program's IsCase returns what the reference's returns, and the arguments are left as they were. Conditions: none.
-/
import Derived.Test.YtcgjdkkfecbgkaaCaseLaws
import Derived.Test.YtcgjdkkfecbgkaaLift
namespace Go.Proofs.Ytcgjdkkfecbgkaa
open Go.ChangeShapes Go.WideShapes Go.ChangeAt Go.RowKit Go.Joins

set_option maxRecDepth 100000 in
theorem lifted_fnExactIsCase (os : Os) (started : os.Started) (H : Type) (enc : TypeId × Value → H) :
    ReturnsInHanded {} Try.checked os 3 .any (Rows.fnExactIsCaseSpec.pre6 enc Try.prog Try.f3 Rows.fnExactIsCaseRow.domain false) (Rows.fnExactIsCaseSpec.post enc Try.prog Try.f3 false true false false) := by
  refine returnsInHanded_of_change (C := Try.checked) own started (by kernel_rfl) Try.func3
    (ChangeSpec.witness6 (enc := enc) (C := Try.checked) false ⟨#[], #[.int .i64 0, .slice none 0 0, .slice none 0 0, .slice none 0 0], []⟩ 8 (by kernel_rfl) (by kernel_rfl) (by kernel_rfl) (by kernel_rfl)) ?_
  intro W base args ds gs before hval0 hW _ _
  have hval : ∀ (j : Nat) t v, Try.f3.params[j]? = some t → args[j]? = some v → Value.okWide Try.prog W .any base t v := hval0
  have hW' := hW
  obtain ⟨p, q, hA0, hV, rfl, hfz, hnd⟩ := hW
  have hA : DataW.TrodAll enc Try.prog W 0 (fun _ => true) true Try.f3.params.toList args.toList ds p := hA0
  rw [Try.params3] at hA hval
  obtain ⟨v0, vs0, d0, ds0, p0, q0, hargs, rfl, rfl, h0, r0⟩ := trodAll_cons hA
  obtain ⟨v1, vs1, d1, ds1, p1, q1, rfl, rfl, rfl, h1, r1⟩ := trodAll_cons r0
  obtain ⟨v2, vs2, d2, ds2, p2, q2, rfl, rfl, rfl, h2, r2⟩ := trodAll_cons r1
  obtain ⟨v3, vs3, d3, ds3, p3, q3, rfl, rfl, rfl, h3, r3⟩ := trodAll_cons r2
  obtain ⟨rfl, rfl, rfl⟩ := trodAll_nil r3
  obtain rfl : args = #[v0, v1, v2, v3] := by cases args; simp_all
  obtain ⟨x0, rfl, _, _, wf0⟩ := open_int Try.underlying3 (hval 0 3 v0 rfl rfl) h0
  obtain ⟨A1, n1, c1, L1, rfl, hk1, hS1⟩ := slice_structs Try.underlying22 Try.underlying42 (by kernel_rfl) (by kernel_rfl) (by decide) (hval 1 22 v1 rfl rfl) h1
  obtain ⟨xs1, hx1⟩ := Road.of_lists hk1
  rw [← hx1] at hS1
  obtain ⟨A2, n2, c2, L2, rfl, hk2, hS2⟩ := slice_structs Try.underlying23 Try.underlying46 (by kernel_rfl) (by kernel_rfl) (by decide) (hval 2 23 v2 rfl rfl) h2
  obtain ⟨xs2, hx2⟩ := Group.of_lists hk2
  rw [← hx2] at hS2
  obtain ⟨A3, n3, c3, L3, rfl, hk3, hS3⟩ := slice_structs Try.underlying24 Try.underlying50 (by kernel_rfl) (by kernel_rfl) (by decide) (hval 3 24 v3 rfl rfl) h3
  obtain ⟨xs3, hx3⟩ := Shelter.of_lists hk3
  rw [← hx3] at hS3
  clear hA0 hval0
  refine (lawIsCase x0 A1 n1 c1 xs1 A2 n2 c2 xs2 A3 n3 c3 xs3 W hS1 hS2 hS3).mono fun e W' ⟨he, hb⟩ => ⟨_, he, ?_⟩
  exact law_post laidOut (by kernel_rfl) rfl Try.underlying4 rfl rfl hW' hb

/-- For every argument. -/
theorem fnExactIsCase_holds : Rows.FnExactIsCaseSaid :=
  OpenClaim.holds_of_wide 3 Try.f3 rfl rfl rfl rfl rfl rfl rfl ⟨rfl, rfl, rfl, rfl, rfl⟩ rfl rfl rfl rfl rfl (by kernel_rfl) Try.func3 (by kernel_rfl)
    (of_decide_eq_true (by kernel_rfl)) (by unfold Func.isWrapper; first | (rw [if_pos (by decide +kernel)]; kernel_rfl) | (rw [if_neg (by decide +kernel)]; exact ⟨rfl, rfl⟩))
    (fun os started H enc _ => lifted_fnExactIsCase os started H enc)
#print axioms fnExactIsCase_holds
end Go.Proofs.Ytcgjdkkfecbgkaa
