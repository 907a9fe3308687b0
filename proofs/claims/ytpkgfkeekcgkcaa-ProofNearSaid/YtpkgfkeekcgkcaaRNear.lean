
/-
  The statement 'ProofNear' of this seat holds: the fewest marks are 0 just if both texts are equal, the same the other way round, and from a text over a second one to a third one no more than from the one to the other one and on. Called with anything that the row allows, it returns true, and its arguments read as before. No condition.
-/
import Derived.Test.YtpkgfkeekcgkcaaLwC
import Derived.Test.YtpkgfkeekcgkcaaOpenS
namespace Go.Proofs.Ytpkgfkeekcgkcaa
open Go.ChangeShapes Go.WideShapes Go.ChangeAt Go.RowKit

set_option maxRecDepth 100000 in
theorem proofNear_lifted (os : Os) (started : os.Started) (H : Type) (enc : TypeId × Value → H) :
    ReturnsInHanded {} Try.checked os 9 .any (Rows.proofNearSpec.pre6 enc Try.prog Try.f9 Rows.proofNearRow.domain false) (Rows.proofNearSpec.post enc Try.prog Try.f9 false true false false) := by
  refine returnsInHanded_of_change_sized (C := Try.checked) own started (by kernel_rfl) Try.func9
    (ChangeSpec.witness6 (enc := enc) (C := Try.checked) false ⟨#[], #[.string ⟨#[]⟩, .string ⟨#[]⟩, .string ⟨#[]⟩], []⟩ 8 (by kernel_rfl) (by kernel_rfl) (by kernel_rfl) (by kernel_rfl)) ?_
  intro W base args ds gs before hval0 hW _ hsz _
  have hval : ∀ (j : Nat) t v, Try.f9.params[j]? = some t → args[j]? = some v → Value.okWide Try.prog W .any base t v := hval0
  have hW' := hW
  obtain ⟨p, q, hA0, hV, rfl, hfz, hnd⟩ := hW
  have hA : DataW.TrodAll enc Try.prog W 0 (fun _ => true) true Try.f9.params.toList args.toList ds p := hA0
  have hA1 := hA
  rw [Try.params9] at hA hval
  obtain ⟨v0, v1, v2, d0, d1, d2, p0, p1, p2, rfl, rfl, rfl, h0, h1, h2⟩ := trodAll_three hA
  obtain ⟨rfl, rfl⟩ := trodVars_none hV
  clear hA0 hval0 hA
  simp only [List.append_nil] at hW'
  obtain ⟨l0, rfl⟩ := str_trod (hval 0 9 v0 rfl rfl)
  obtain ⟨l1, rfl⟩ := str_trod (hval 1 9 v1 rfl rfl)
  obtain ⟨l2, rfl⟩ := str_trod (hval 2 9 v2 rfl rfl)
  refine (ProofNear_calls l0 l1 l2 W).mono fun e W' ⟨he, x, hx⟩ => ?_
  subst he
  subst hx
  refine ⟨_, rfl, _, _, _, [], p0 ++ p1 ++ p2, [], hW', trodAll_mk1 (shut_bool Try.underlying4 _), ?_, rfl, x.le.frame _, fun h => by cases h⟩
  refine args_later x (fun t ht => ?_) (fun y hy => hW'.lt y hy) hA1
  rw [Try.params9] at ht
  simp at ht
  obtain rfl := ht
  exact ⟨by kernel_rfl, of_decide_eq_true (by kernel_rfl)⟩

theorem ProofNear_holds : Rows.ProofNearSaid :=
  OpenClaim.holds_of_wide 9 Try.f9 rfl rfl rfl rfl rfl rfl rfl ⟨rfl, rfl, rfl, rfl, rfl⟩ rfl rfl rfl rfl rfl (by kernel_rfl) Try.func9 (by kernel_rfl)
    (of_decide_eq_true (by kernel_rfl)) (by unfold Func.isWrapper; first | (rw [if_pos (by decide +kernel)]; kernel_rfl) | (rw [if_neg (by decide +kernel)]; exact ⟨rfl, rfl⟩))
    (fun os started H enc _ => proofNear_lifted os started H enc)
#print axioms ProofNear_holds
end Go.Proofs.Ytpkgfkeekcgkcaa
