
/-
  The statement 'ProofSeen' of this seat holds: if each of two readers has found at least the share of all faults, the number of those that neither has found is within Unseen; with a lesser share the range is no narrower; all numbers of it are possible. Called with anything that the row allows, it returns true, and its arguments read as before. No condition.
-/
import Derived.Test.YtpkgfkeekcgkcaaSeenP
import Derived.Test.YtpkgfkeekcgkcaaOpenX
namespace Go.Proofs.Ytpkgfkeekcgkcaa
open Go.ChangeShapes Go.WideShapes Go.ChangeAt Go.RowKit

set_option maxRecDepth 100000 in
theorem proofSeen_lifted (os : Os) (started : os.Started) (H : Type) (enc : TypeId × Value → H) :
    ReturnsInHanded {} Try.checked os 15 .any (Rows.proofSeenSpec.pre6 enc Try.prog Try.f15 Rows.proofSeenRow.domain false) (Rows.proofSeenSpec.post enc Try.prog Try.f15 false true false false) := by
  refine returnsInHanded_of_change_sized (C := Try.checked) own started (by kernel_rfl) Try.func15
    (ChangeSpec.witness6 (enc := enc) (C := Try.checked) false ⟨#[], #[.int .u8 0, .int .u64 0, .int .u64 0, .int .u8 0, .int .u8 0, .int .u8 0], []⟩ 8 (by kernel_rfl) (by kernel_rfl) (by kernel_rfl) (by kernel_rfl)) ?_
  intro W base args ds gs before hval0 hW _ hsz _
  have hval : ∀ (j : Nat) t v, Try.f15.params[j]? = some t → args[j]? = some v → Value.okWide Try.prog W .any base t v := hval0
  have hW' := hW
  obtain ⟨p, q, hA0, hV, rfl, hfz, hnd⟩ := hW
  have hA : DataW.TrodAll enc Try.prog W 0 (fun _ => true) true Try.f15.params.toList args.toList ds p := hA0
  have hA1 := hA
  rw [Try.params15] at hA hval
  obtain ⟨v0, v1, v2, v3, v4, v5, d0, d1, d2, d3, d4, d5, p0, p1, p2, p3, p4, p5, rfl, rfl, rfl, h0, h1, h2, h3, h4, h5⟩ := trodAll_six hA
  obtain ⟨rfl, rfl⟩ := trodVars_none hV
  clear hA0 hval0 hA
  simp only [List.append_nil] at hW'
  obtain ⟨n0, rfl, hl0, hh0⟩ := u8_trod (hval 0 5 v0 rfl rfl) h0
  obtain ⟨m0, rfl⟩ := Int.eq_ofNat_of_zero_le hl0
  have hm0 : m0 ≤ 255 := by omega
  obtain ⟨n1, rfl, hl1, hh1⟩ := u64_trod (hval 1 75 v1 rfl rfl) h1
  obtain ⟨m1, rfl⟩ := Int.eq_ofNat_of_zero_le hl1
  obtain ⟨n2, rfl, hl2, hh2⟩ := u64_trod (hval 2 75 v2 rfl rfl) h2
  obtain ⟨m2, rfl⟩ := Int.eq_ofNat_of_zero_le hl2
  obtain ⟨n3, rfl, hl3, hh3⟩ := u8_trod (hval 3 5 v3 rfl rfl) h3
  obtain ⟨m3, rfl⟩ := Int.eq_ofNat_of_zero_le hl3
  have hm3 : m3 ≤ 255 := by omega
  obtain ⟨n4, rfl, hl4, hh4⟩ := u8_trod (hval 4 5 v4 rfl rfl) h4
  obtain ⟨m4, rfl⟩ := Int.eq_ofNat_of_zero_le hl4
  have hm4 : m4 ≤ 255 := by omega
  obtain ⟨n5, rfl, hl5, hh5⟩ := u8_trod (hval 5 5 v5 rfl rfl) h5
  obtain ⟨m5, rfl⟩ := Int.eq_ofNat_of_zero_le hl5
  have hm5 : m5 ≤ 255 := by omega
  refine (ProofSeen_calls m0 m1 m2 m3 m4 m5 hm0 hm3 hm4 hm5 W).mono fun e W' ⟨he, x, hx⟩ => ?_
  subst he
  subst hx
  refine ⟨_, rfl, _, _, _, [], p0 ++ p1 ++ p2 ++ p3 ++ p4 ++ p5, [], hW', trodAll_mk1 (shut_bool Try.underlying4 _), ?_, rfl, x.le.frame _, fun h => by cases h⟩
  refine args_later x (fun t ht => ?_) (fun y hy => hW'.lt y hy) hA1
  rw [Try.params15] at ht
  simp at ht
  rcases ht with rfl | rfl | rfl <;> exact ⟨by kernel_rfl, of_decide_eq_true (by kernel_rfl)⟩

theorem ProofSeen_holds : Rows.ProofSeenSaid :=
  OpenClaim.holds_of_wide 15 Try.f15 rfl rfl rfl rfl rfl rfl rfl ⟨rfl, rfl, rfl, rfl, rfl⟩ rfl rfl rfl rfl rfl (by kernel_rfl) Try.func15 (by kernel_rfl)
    (of_decide_eq_true (by kernel_rfl)) (by unfold Func.isWrapper; first | (rw [if_pos (by decide +kernel)]; kernel_rfl) | (rw [if_neg (by decide +kernel)]; exact ⟨rfl, rfl⟩))
    (fun os started H enc _ => proofSeen_lifted os started H enc)
#print axioms ProofSeen_holds
end Go.Proofs.Ytpkgfkeekcgkcaa
