
/-
  The statement 'ProofMerged' of this seat holds: marks are merged in whatever order to the same marks, with themselves, and with marks that say nothing, to themselves; three of them in either way; merged marks strike and add no less than each of both; two marks contradict each other just if there is a place. Called with anything that the row allows, it returns true, and its arguments read as before. No condition.
-/
import Derived.Test.YtpkgfkeekcgkcaaLwMc
import Derived.Test.YtpkgfkeekcgkcaaOpenS
namespace Go.Proofs.Ytpkgfkeekcgkcaa
open Go.ChangeShapes Go.WideShapes Go.ChangeAt Go.RowKit

set_option maxRecDepth 100000 in
theorem proofMerged_lifted (os : Os) (started : os.Started) (H : Type) (enc : TypeId × Value → H) :
    ReturnsInHanded {} Try.checked os 12 .any (Rows.proofMergedSpec.pre6 enc Try.prog Try.f12 Rows.proofMergedRow.domain false) (Rows.proofMergedSpec.post enc Try.prog Try.f12 false true false false) := by
  refine returnsInHanded_of_change_sized (C := Try.checked) own started (by kernel_rfl) Try.func12
    (ChangeSpec.witness6 (enc := enc) (C := Try.checked) false ⟨#[], #[.string ⟨#[]⟩, .agg #[.slice none 0 0, .slice none 0 0], .agg #[.slice none 0 0, .slice none 0 0], .agg #[.slice none 0 0, .slice none 0 0]], []⟩ 8 (by kernel_rfl) (by kernel_rfl) (by kernel_rfl) (by kernel_rfl)) ?_
  intro W base args ds gs before hval0 hW _ hsz _
  have hval : ∀ (j : Nat) t v, Try.f12.params[j]? = some t → args[j]? = some v → Value.okWide Try.prog W .any base t v := hval0
  have hW' := hW
  obtain ⟨p, q, hA0, hV, rfl, hfz, hnd⟩ := hW
  have hA : DataW.TrodAll enc Try.prog W 0 (fun _ => true) true Try.f12.params.toList args.toList ds p := hA0
  have hA1 := hA
  rw [Try.params12] at hA hval
  obtain ⟨v0, v1, v2, v3, d0, d1, d2, d3, p0, p1, p2, p3, rfl, rfl, rfl, h0, h1, h2, h3⟩ := trodAll_four hA
  obtain ⟨rfl, rfl⟩ := trodVars_none hV
  clear hA0 hval0 hA
  simp only [List.append_nil] at hW'
  have hw1 : ∀ n ∈ d1.weights Try.prog 25, n ≤ reachBytes := fun n hn => by simpa using List.all_eq_true.1 hsz _ (DataW.weights_mem_each (j := 1) (by rw [Try.params12]; rfl) rfl n hn)
  have hw2 : ∀ n ∈ d2.weights Try.prog 25, n ≤ reachBytes := fun n hn => by simpa using List.all_eq_true.1 hsz _ (DataW.weights_mem_each (j := 2) (by rw [Try.params12]; rfl) rfl n hn)
  have hw3 : ∀ n ∈ d3.weights Try.prog 25, n ≤ reachBytes := fun n hn => by simpa using List.all_eq_true.1 hsz _ (DataW.weights_mem_each (j := 3) (by rw [Try.params12]; rfl) rfl n hn)
  obtain ⟨l0, rfl⟩ := str_trod (hval 0 9 v0 rfl rfl)
  obtain ⟨sv1, av1, st1, ad1, rfl, hm1⟩ := marks_trod (hval 1 25 v1 rfl rfl) h1 hw1
  obtain ⟨sv2, av2, st2, ad2, rfl, hm2⟩ := marks_trod (hval 2 25 v2 rfl rfl) h2 hw2
  obtain ⟨sv3, av3, st3, ad3, rfl, hm3⟩ := marks_trod (hval 3 25 v3 rfl rfl) h3 hw3
  refine (ProofMerged_calls l0 sv1 av1 st1 ad1 sv2 av2 st2 ad2 sv3 av3 st3 ad3 W hm1 hm2 hm3).mono fun e W' ⟨he, x, hx⟩ => ?_
  subst he
  subst hx
  refine ⟨_, rfl, _, _, _, [], p0 ++ p1 ++ p2 ++ p3, [], hW', trodAll_mk1 (shut_bool Try.underlying4 _), ?_, rfl, x.le.frame _, fun h => by cases h⟩
  refine args_later x (fun t ht => ?_) (fun y hy => hW'.lt y hy) hA1
  rw [Try.params12] at ht
  simp at ht
  rcases ht with rfl | rfl <;> exact ⟨by kernel_rfl, of_decide_eq_true (by kernel_rfl)⟩

theorem ProofMerged_holds : Rows.ProofMergedSaid :=
  OpenClaim.holds_of_wide 12 Try.f12 rfl rfl rfl rfl rfl rfl rfl ⟨rfl, rfl, rfl, rfl, rfl⟩ rfl rfl rfl rfl rfl (by kernel_rfl) Try.func12 (by kernel_rfl)
    (of_decide_eq_true (by kernel_rfl)) (by unfold Func.isWrapper; first | (rw [if_pos (by decide +kernel)]; kernel_rfl) | (rw [if_neg (by decide +kernel)]; exact ⟨rfl, rfl⟩))
    (fun os started H enc _ => proofMerged_lifted os started H enc)
#print axioms ProofMerged_holds
end Go.Proofs.Ytpkgfkeekcgkcaa
