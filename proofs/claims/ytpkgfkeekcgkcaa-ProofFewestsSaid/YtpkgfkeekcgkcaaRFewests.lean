
/-
  The statement 'ProofFewests' of this seat holds: the least number of marks is what the definition says, or the error; the marks that are returned have it, and make the other text. Called with anything that the row allows, it returns true, and its arguments read as before. No condition.
-/
import Derived.Test.YtpkgfkeekcgkcaaLwB
import Derived.Test.YtpkgfkeekcgkcaaOpenS
namespace Go.Proofs.Ytpkgfkeekcgkcaa
open Go.ChangeShapes Go.WideShapes Go.ChangeAt Go.RowKit

set_option maxRecDepth 100000 in
theorem proofFewests_lifted (os : Os) (started : os.Started) (H : Type) (enc : TypeId × Value → H) :
    ReturnsInHanded {} Try.checked os 5 .any (Rows.proofFewestsSpec.pre6 enc Try.prog Try.f5 Rows.proofFewestsRow.domain false) (Rows.proofFewestsSpec.post enc Try.prog Try.f5 false true false false) := by
  refine returnsInHanded_of_change_sized (C := Try.checked) own started (by kernel_rfl) Try.func5
    (ChangeSpec.witness6 (enc := enc) (C := Try.checked) false ⟨#[], #[.string ⟨#[]⟩, .string ⟨#[]⟩], []⟩ 8 (by kernel_rfl) (by kernel_rfl) (by kernel_rfl) (by kernel_rfl)) ?_
  intro W base args ds gs before hval0 hW _ hsz _
  have hval : ∀ (j : Nat) t v, Try.f5.params[j]? = some t → args[j]? = some v → Value.okWide Try.prog W .any base t v := hval0
  have hW' := hW
  obtain ⟨p, q, hA0, hV, rfl, hfz, hnd⟩ := hW
  have hA : DataW.TrodAll enc Try.prog W 0 (fun _ => true) true Try.f5.params.toList args.toList ds p := hA0
  have hA1 := hA
  rw [Try.params5] at hA hval
  obtain ⟨v0, v1, d0, d1, p0, p1, rfl, rfl, rfl, h0, h1⟩ := trodAll_two hA
  obtain ⟨rfl, rfl⟩ := trodVars_none hV
  clear hA0 hval0 hA
  simp only [List.append_nil] at hW'
  obtain ⟨l0, rfl⟩ := str_trod (hval 0 9 v0 rfl rfl)
  obtain ⟨l1, rfl⟩ := str_trod (hval 1 9 v1 rfl rfl)
  refine (ProofFewests_calls l0 l1 W).mono fun e W' ⟨he, x, hx⟩ => ?_
  subst he
  subst hx
  refine ⟨_, rfl, _, _, _, [], p0 ++ p1, [], hW', trodAll_mk1 (shut_bool Try.underlying4 _), ?_, rfl, x.le.frame _, fun h => by cases h⟩
  refine args_later x (fun t ht => ?_) (fun y hy => hW'.lt y hy) hA1
  rw [Try.params5] at ht
  simp at ht
  obtain rfl := ht
  exact ⟨by kernel_rfl, of_decide_eq_true (by kernel_rfl)⟩

theorem ProofFewests_holds : Rows.ProofFewestsSaid :=
  OpenClaim.holds_of_wide 5 Try.f5 rfl rfl rfl rfl rfl rfl rfl ⟨rfl, rfl, rfl, rfl, rfl⟩ rfl rfl rfl rfl rfl (by kernel_rfl) Try.func5 (by kernel_rfl)
    (of_decide_eq_true (by kernel_rfl)) (by unfold Func.isWrapper; first | (rw [if_pos (by decide +kernel)]; kernel_rfl) | (rw [if_neg (by decide +kernel)]; exact ⟨rfl, rfl⟩))
    (fun os started H enc _ => proofFewests_lifted os started H enc)
#print axioms ProofFewests_holds
end Go.Proofs.Ytpkgfkeekcgkcaa
