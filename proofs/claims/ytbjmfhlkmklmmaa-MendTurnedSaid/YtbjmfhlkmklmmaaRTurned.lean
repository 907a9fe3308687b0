/-
  The statement 'MendTurned' of this seat holds: if a plate is mirrored, or rows and columns are exchanged, all goes with it: what is left, the blows, and whether it comes back. Called with anything that the row allows, it returns true, and its arguments read as before. No condition.
-/
import Derived.Test.YtbjmfhlkmklmmaaLTurned
import Derived.Test.YtbjmfhlkmklmmaaOpen7
namespace Go.Proofs.Ytbjmfhlkmklmmaa
open Go.ChangeShapes Go.WideShapes Go.ChangeAt Go.RowKit

set_option maxRecDepth 100000 in
theorem mendTurned_lifted (os : Os) (started : os.Started) (H : Type) (enc : TypeId × Value → H) :
    ReturnsInHanded {} Try.checked os 13 .any (Rows.mendTurnedSpec.pre6 enc Try.prog Try.f13 Rows.mendTurnedRow.domain false) (Rows.mendTurnedSpec.post enc Try.prog Try.f13 false true false false) := by
  refine returnsInHanded_of_change_sized (C := Try.checked) own started (by kernel_rfl) Try.func13
    (ChangeSpec.witness6 (enc := enc) (C := Try.checked) false ⟨#[], #[.agg #[.int .i64 0, .int .i64 0, .slice none 0 0], .bool false, .bool false, .bool false], []⟩ 8 (by kernel_rfl) (by kernel_rfl) (by kernel_rfl) (by kernel_rfl)) ?_
  intro W base args ds gs before hval0 hW _ hsz _
  have hval : ∀ (j : Nat) t v, Try.f13.params[j]? = some t → args[j]? = some v → Value.okWide Try.prog W .any base t v := hval0
  have hW' := hW
  obtain ⟨p, q, hA0, hV, rfl, hfz, hnd⟩ := hW
  have hA : DataW.TrodAll enc Try.prog W 0 (fun _ => true) true Try.f13.params.toList args.toList ds p := hA0
  have hA1 := hA
  rw [Try.params13] at hA hval
  obtain ⟨v0, v1, v2, v3, d0, d1, d2, d3, p0, p1, p2, p3, rfl, rfl, rfl, h0, h1, h2, h3⟩ := trodAll_four hA
  obtain ⟨rfl, rfl⟩ := trodVars_none hV
  clear hA0 hval0 hA
  simp only [List.append_nil] at hW'
  have hw0 : ∀ n ∈ d0.weights Try.prog 24, n ≤ reachBytes := fun n hn => by simpa using List.all_eq_true.1 hsz _ (DataW.weights_mem_each (j := 0) (by rw [Try.params13]; rfl) rfl n hn)
  obtain ⟨pw0, ph0, pv0, xs0, rfl, hx0⟩ := plate_trod (hval 0 24 v0 rfl rfl) h0 hw0
  obtain ⟨b1, rfl⟩ := bool_trod (hval 1 4 v1 rfl rfl)
  obtain ⟨b2, rfl⟩ := bool_trod (hval 2 4 v2 rfl rfl)
  obtain ⟨b3, rfl⟩ := bool_trod (hval 3 4 v3 rfl rfl)
  refine (LTurned_calls pw0 ph0 b1 b2 b3 pv0 xs0 W hx0).mono fun e W' ⟨he, x, hx⟩ => ?_
  subst he
  subst hx
  refine ⟨_, rfl, _, _, _, [], p0 ++ p1 ++ p2 ++ p3, [], hW', trodAll_mk1 (shut_bool Try.underlying4 _), ?_, rfl, x.le.frame _, fun h => by cases h⟩
  refine args_later x (fun t ht => ?_) (fun y hy => hW'.lt y hy) hA1
  rw [Try.params13] at ht
  simp at ht
  rcases ht with rfl | rfl <;> exact ⟨by kernel_rfl, of_decide_eq_true (by kernel_rfl)⟩

theorem MendTurned_holds : Rows.MendTurnedSaid :=
  OpenClaim.holds_of_wide 13 Try.f13 rfl rfl rfl rfl rfl rfl rfl ⟨rfl, rfl, rfl, rfl, rfl⟩ rfl rfl rfl rfl rfl (by kernel_rfl) Try.func13 (by kernel_rfl)
    (of_decide_eq_true (by kernel_rfl)) (by unfold Func.isWrapper; first | (rw [if_pos (by decide +kernel)]; kernel_rfl) | (rw [if_neg (by decide +kernel)]; exact ⟨rfl, rfl⟩))
    (fun os started H enc _ => mendTurned_lifted os started H enc)
#print axioms MendTurned_holds
end Go.Proofs.Ytbjmfhlkmklmmaa
