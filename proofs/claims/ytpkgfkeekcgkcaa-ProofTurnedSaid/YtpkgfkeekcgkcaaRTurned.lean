
/-
  The statement 'ProofTurned' of this seat holds: if both texts are read from their ends, or all letters are other ones, alike in both, the fewest marks stay. Called with anything that the row allows, it returns true, and its arguments read as before. No condition.
-/
import Derived.Test.YtpkgfkeekcgkcaaLwD
import Derived.Test.YtpkgfkeekcgkcaaOpenS
namespace Go.Proofs.Ytpkgfkeekcgkcaa
open Go.ChangeShapes Go.WideShapes Go.ChangeAt Go.RowKit

set_option maxRecDepth 100000 in
theorem proofTurned_lifted (os : Os) (started : os.Started) (H : Type) (enc : TypeId × Value → H) :
    ReturnsInHanded {} Try.checked os 13 .any (Rows.proofTurnedSpec.pre6 enc Try.prog Try.f13 Rows.proofTurnedRow.domain false) (Rows.proofTurnedSpec.post enc Try.prog Try.f13 false true false false) := by
  refine returnsInHanded_of_change_sized (C := Try.checked) own started (by kernel_rfl) Try.func13
    (ChangeSpec.witness6 (enc := enc) (C := Try.checked) false ⟨#[], #[.string ⟨#[]⟩, .string ⟨#[]⟩, .int .u8 0], []⟩ 8 (by kernel_rfl) (by kernel_rfl) (by kernel_rfl) (by kernel_rfl)) ?_
  intro W base args ds gs before hval0 hW _ hsz _
  have hval : ∀ (j : Nat) t v, Try.f13.params[j]? = some t → args[j]? = some v → Value.okWide Try.prog W .any base t v := hval0
  have hW' := hW
  obtain ⟨p, q, hA0, hV, rfl, hfz, hnd⟩ := hW
  have hA : DataW.TrodAll enc Try.prog W 0 (fun _ => true) true Try.f13.params.toList args.toList ds p := hA0
  have hA1 := hA
  rw [Try.params13] at hA hval
  obtain ⟨v0, v1, v2, d0, d1, d2, p0, p1, p2, rfl, rfl, rfl, h0, h1, h2⟩ := trodAll_three hA
  obtain ⟨rfl, rfl⟩ := trodVars_none hV
  clear hA0 hval0 hA
  simp only [List.append_nil] at hW'
  obtain ⟨l0, rfl⟩ := str_trod (hval 0 9 v0 rfl rfl)
  obtain ⟨l1, rfl⟩ := str_trod (hval 1 9 v1 rfl rfl)
  obtain ⟨n2, rfl, hl2, hh2⟩ := u8_trod (hval 2 5 v2 rfl rfl) h2
  obtain ⟨m2, rfl⟩ := Int.eq_ofNat_of_zero_le hl2
  have hm2 : m2 ≤ 255 := by omega
  refine (ProofTurned_calls l0 l1 m2 W).mono fun e W' ⟨he, x, hx⟩ => ?_
  subst he
  subst hx
  refine ⟨_, rfl, _, _, _, [], p0 ++ p1 ++ p2, [], hW', trodAll_mk1 (shut_bool Try.underlying4 _), ?_, rfl, x.le.frame _, fun h => by cases h⟩
  refine args_later x (fun t ht => ?_) (fun y hy => hW'.lt y hy) hA1
  rw [Try.params13] at ht
  simp at ht
  rcases ht with rfl | rfl <;> exact ⟨by kernel_rfl, of_decide_eq_true (by kernel_rfl)⟩

theorem ProofTurned_holds : Rows.ProofTurnedSaid :=
  OpenClaim.holds_of_wide 13 Try.f13 rfl rfl rfl rfl rfl rfl rfl ⟨rfl, rfl, rfl, rfl, rfl⟩ rfl rfl rfl rfl rfl (by kernel_rfl) Try.func13 (by kernel_rfl)
    (of_decide_eq_true (by kernel_rfl)) (by unfold Func.isWrapper; first | (rw [if_pos (by decide +kernel)]; kernel_rfl) | (rw [if_neg (by decide +kernel)]; exact ⟨rfl, rfl⟩))
    (fun os started H enc _ => proofTurned_lifted os started H enc)
#print axioms ProofTurned_holds
end Go.Proofs.Ytpkgfkeekcgkcaa
