import Derived.Test.YtpkgfkeekcgkcaaKnwP
import Derived.Test.YtpkgfkeekcgkcaaOpenS
/-
  The statement 'ProofKnown' of layer 06 (the examples of the chapter) holds: called with nothing it returns true. No condition.
-/
namespace Go.Proofs.Ytpkgfkeekcgkcaa
open Go.ChangeShapes Go.WideShapes Go.ChangeAt Go.RowKit

set_option maxRecDepth 100000 in
theorem proofKnown_lifted (os : Os) (started : os.Started) (H : Type) (enc : TypeId × Value → H) :
    ReturnsInHanded {} Try.checked os 16 .any (Rows.proofKnownSpec.pre6 enc Try.prog Try.f16 Rows.proofKnownRow.domain false) (Rows.proofKnownSpec.post enc Try.prog Try.f16 false true false false) := by
  refine returnsInHanded_of_change (C := Try.checked) own started (by kernel_rfl) Try.func16
    (ChangeSpec.witness6 (enc := enc) (C := Try.checked) false ⟨#[], #[], []⟩ 8 (by kernel_rfl) (by kernel_rfl) (by kernel_rfl) (by kernel_rfl)) ?_
  intro W base args ds gs before hval0 hW hcnd _
  have hW' := hW
  obtain ⟨p, q, hA0, hV, rfl, hfz, hnd⟩ := hW
  have hA : DataW.TrodAll enc Try.prog W 0 (fun _ => true) true Try.f16.params.toList args.toList ds p := hA0
  rw [Try.params16] at hA
  obtain ⟨rfl, rfl, rfl⟩ := trodAll_none hA
  obtain ⟨rfl, rfl⟩ := trodVars_none hV
  clear hA0 hval0
  simp only [List.append_nil] at hW'
  refine (ProofKnown_calls W).mono fun e W' ⟨he, x, hx⟩ => ?_
  subst he
  subst hx
  refine ⟨_, rfl, _, _, _, [], [], [], hW', ?_, trodAll_mk0, rfl, x.le.frame _, fun h => by cases h⟩
  exact trodAll_mk1 (shut_bool Try.underlying4 _)

theorem ProofKnown_holds : Rows.ProofKnownSaid :=
  OpenClaim.holds_of_wide 16 Try.f16 rfl rfl rfl rfl rfl rfl rfl ⟨rfl, rfl, rfl, rfl, rfl⟩ rfl rfl rfl rfl rfl (by kernel_rfl) Try.func16 (by kernel_rfl)
    (of_decide_eq_true (by kernel_rfl)) (by unfold Func.isWrapper; first | (rw [if_pos (by decide +kernel)]; kernel_rfl) | (rw [if_neg (by decide +kernel)]; exact ⟨rfl, rfl⟩))
    (fun os started H enc _ => proofKnown_lifted os started H enc)
#print axioms ProofKnown_holds
end Go.Proofs.Ytpkgfkeekcgkcaa
