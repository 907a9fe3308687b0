
/-
  The statement 'ProofUnseens' of this seat holds: how many faults neither of two readers can have found is what the definition says, or the error. Called with anything that the row allows, it returns true, and its arguments read as before. No condition.
-/
import Derived.Test.YtpkgfkeekcgkcaaLwA
import Derived.Test.YtpkgfkeekcgkcaaOpenS
namespace Go.Proofs.Ytpkgfkeekcgkcaa
open Go.ChangeShapes Go.WideShapes Go.ChangeAt Go.RowKit

set_option maxRecDepth 100000 in
theorem proofUnseens_lifted (os : Os) (started : os.Started) (H : Type) (enc : TypeId × Value → H) :
    ReturnsInHanded {} Try.checked os 7 .any (Rows.proofUnseensSpec.pre6 enc Try.prog Try.f7 Rows.proofUnseensRow.domain false) (Rows.proofUnseensSpec.post enc Try.prog Try.f7 false true false false) := by
  refine returnsInHanded_of_change_sized (C := Try.checked) own started (by kernel_rfl) Try.func7
    (ChangeSpec.witness6 (enc := enc) (C := Try.checked) false ⟨#[], #[.int .i64 0, .int .i64 0, .int .i64 0, .agg #[.int .i64 0, .int .i64 0]], []⟩ 8 (by kernel_rfl) (by kernel_rfl) (by kernel_rfl) (by kernel_rfl)) ?_
  intro W base args ds gs before hval0 hW _ hsz _
  have hval : ∀ (j : Nat) t v, Try.f7.params[j]? = some t → args[j]? = some v → Value.okWide Try.prog W .any base t v := hval0
  have hW' := hW
  obtain ⟨p, q, hA0, hV, rfl, hfz, hnd⟩ := hW
  have hA : DataW.TrodAll enc Try.prog W 0 (fun _ => true) true Try.f7.params.toList args.toList ds p := hA0
  have hA1 := hA
  rw [Try.params7] at hA hval
  obtain ⟨v0, v1, v2, v3, d0, d1, d2, d3, p0, p1, p2, p3, rfl, rfl, rfl, h0, h1, h2, h3⟩ := trodAll_four hA
  obtain ⟨rfl, rfl⟩ := trodVars_none hV
  clear hA0 hval0 hA
  simp only [List.append_nil] at hW'
  obtain ⟨n0, rfl⟩ := long_trod (hval 0 2 v0 rfl rfl)
  obtain ⟨n1, rfl⟩ := long_trod (hval 1 2 v1 rfl rfl)
  obtain ⟨n2, rfl⟩ := long_trod (hval 2 2 v2 rfl rfl)
  obtain ⟨n3, m3, rfl⟩ := ratio_trod (hval 3 55 v3 rfl rfl) h3
  refine (ProofUnseens_calls n0 n1 n2 n3 m3 W).mono fun e W' ⟨he, x, hx⟩ => ?_
  subst he
  subst hx
  refine ⟨_, rfl, _, _, _, [], p0 ++ p1 ++ p2 ++ p3, [], hW', trodAll_mk1 (shut_bool Try.underlying4 _), ?_, rfl, x.le.frame _, fun h => by cases h⟩
  refine args_later x (fun t ht => ?_) (fun y hy => hW'.lt y hy) hA1
  rw [Try.params7] at ht
  simp at ht
  rcases ht with rfl | rfl <;> exact ⟨by kernel_rfl, of_decide_eq_true (by kernel_rfl)⟩

theorem ProofUnseens_holds : Rows.ProofUnseensSaid :=
  OpenClaim.holds_of_wide 7 Try.f7 rfl rfl rfl rfl rfl rfl rfl ⟨rfl, rfl, rfl, rfl, rfl⟩ rfl rfl rfl rfl rfl (by kernel_rfl) Try.func7 (by kernel_rfl)
    (of_decide_eq_true (by kernel_rfl)) (by unfold Func.isWrapper; first | (rw [if_pos (by decide +kernel)]; kernel_rfl) | (rw [if_neg (by decide +kernel)]; exact ⟨rfl, rfl⟩))
    (fun os started H enc _ => proofUnseens_lifted os started H enc)
#print axioms ProofUnseens_holds
end Go.Proofs.Ytpkgfkeekcgkcaa
