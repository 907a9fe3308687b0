/-
  The statement 'ClaimMiddle' of this seat holds: of three settled matchings, the one in which each nation has the star that is the second one of the three, by its list, is settled. Called with anything that the row allows, it returns true, and its arguments read as before. No condition.
-/
import Derived.Test.YtieaibebnkdmhaaLMiddle
import Derived.Test.YtieaibebnkdmhaaOpen2
namespace Go.Proofs.Ytieaibebnkdmhaa
open Go.ChangeShapes Go.WideShapes Go.ChangeAt Go.RowKit

set_option maxRecDepth 100000 in
theorem claimMiddle_lifted (os : Os) (started : os.Started) (H : Type) (enc : TypeId × Value → H) :
    ReturnsInHanded {} Try.checked os 11 .any (Rows.claimMiddleSpec.pre6 enc Try.prog Try.f11 Rows.claimMiddleRow.domain false) (Rows.claimMiddleSpec.post enc Try.prog Try.f11 false true false false) := by
  refine returnsInHanded_of_change_sized (C := Try.checked) own started (by kernel_rfl) Try.func11
    (ChangeSpec.witness6 (enc := enc) (C := Try.checked) false ⟨#[], #[.agg #[.slice none 0 0, .slice none 0 0], .int .u16 0, .int .u16 0, .int .u16 0], []⟩ 8 (by kernel_rfl) (by kernel_rfl) (by kernel_rfl) (by kernel_rfl)) ?_
  intro W base args ds gs before hval0 hW _ hsz _
  have hval : ∀ (j : Nat) t v, Try.f11.params[j]? = some t → args[j]? = some v → Value.okWide Try.prog W .any base t v := hval0
  have hW' := hW
  obtain ⟨p, q, hA0, hV, rfl, hfz, hnd⟩ := hW
  have hA : DataW.TrodAll enc Try.prog W 0 (fun _ => true) true Try.f11.params.toList args.toList ds p := hA0
  have hA1 := hA
  rw [Try.params11] at hA hval
  obtain ⟨v0, v1, v2, v3, d0, d1, d2, d3, p0, p1, p2, p3, rfl, rfl, rfl, h0, h1, h2, h3⟩ := trodAll_four hA
  obtain ⟨rfl, rfl⟩ := trodVars_none hV
  clear hA0 hval0 hA
  simp only [List.append_nil] at hW'
  have hw0 : ∀ n ∈ d0.weights Try.prog 24, n ≤ reachBytes := fun n hn => by simpa using List.all_eq_true.1 hsz _ (DataW.weights_mem_each (j := 0) (by rw [Try.params11]; rfl) rfl n hn)
  obtain ⟨nv, sv, ns, ss, rfl, hn, hs⟩ := book_trod (hval 0 24 v0 rfl rfl) h0 hw0
  obtain ⟨n1, rfl, hl1, hh1⟩ := u16_trod (hval 1 53 v1 rfl rfl) h1
  obtain ⟨n2, rfl, hl2, hh2⟩ := u16_trod (hval 2 53 v2 rfl rfl) h2
  obtain ⟨n3, rfl, hl3, hh3⟩ := u16_trod (hval 3 53 v3 rfl rfl) h3
  refine (Middle_calls _ _ ns ss n1 n2 n3 W hn hs hl1 hh1 hl2 hh2 hl3 hh3).mono fun e W' ⟨he, x, hx⟩ => ?_
  subst he
  subst hx
  refine ⟨_, rfl, _, _, _, [], p0 ++ p1 ++ p2 ++ p3, [], hW', trodAll_mk1 (shut_bool Try.underlying4 _), ?_, rfl, x.le.frame _, fun h => by cases h⟩
  refine args_later x (fun t ht => ?_) (fun y hy => hW'.lt y hy) hA1
  rw [Try.params11] at ht
  simp at ht
  rcases ht with rfl | rfl <;> exact ⟨by kernel_rfl, of_decide_eq_true (by kernel_rfl)⟩

theorem ClaimMiddle_holds : Rows.ClaimMiddleSaid :=
  OpenClaim.holds_of_wide 11 Try.f11 rfl rfl rfl rfl rfl rfl rfl ⟨rfl, rfl, rfl, rfl, rfl⟩ rfl rfl rfl rfl rfl (by kernel_rfl) Try.func11 (by kernel_rfl)
    (of_decide_eq_true (by kernel_rfl)) (by unfold Func.isWrapper; first | (rw [if_pos (by decide +kernel)]; kernel_rfl) | (rw [if_neg (by decide +kernel)]; exact ⟨rfl, rfl⟩))
    (fun os started H enc _ => claimMiddle_lifted os started H enc)
#print axioms ClaimMiddle_holds
end Go.Proofs.Ytieaibebnkdmhaa
