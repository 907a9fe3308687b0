
/-
  The statement 'NameMiddle' of this seat holds: the second of three right settings is right, name by name; the one that is returned is behind none. Called with anything that the row allows, it returns true, and its arguments read as before. No condition.
-/
import Derived.Test.YtdhdpbnlhnodjaaMidP
import Derived.Test.YtdhdpbnlhnodjaaOpenS
import Derived.Test.YtdhdpbnlhnodjaaFivS
namespace Go.Proofs.Ytdhdpbnlhnodjaa
open Go.ChangeShapes Go.WideShapes Go.ChangeAt Go.RowKit

set_option maxRecDepth 100000 in
theorem nameMiddle_lifted (os : Os) (started : os.Started) (H : Type) (enc : TypeId × Value → H) :
    ReturnsInHanded {} Try.checked os 9 .any (Rows.nameMiddleSpec.pre6 enc Try.prog Try.f9 Rows.nameMiddleRow.domain false) (Rows.nameMiddleSpec.post enc Try.prog Try.f9 false true false false) := by
  refine returnsInHanded_of_change_sized (C := Try.checked) own started (by kernel_rfl) Try.func9
    (ChangeSpec.witness6 (enc := enc) (C := Try.checked) false ⟨#[], #[.agg #[.int .i64 0, .slice none 0 0, .slice none 0 0], .int .u16 0, .int .u16 0, .int .u16 0, .int .u16 0], []⟩ 8 (by kernel_rfl) (by kernel_rfl) (by kernel_rfl) (by kernel_rfl)) ?_
  intro W base args ds gs before hval0 hW _ hsz _
  have hval : ∀ (j : Nat) t v, Try.f9.params[j]? = some t → args[j]? = some v → Value.okWide Try.prog W .any base t v := hval0
  have hW' := hW
  obtain ⟨p, q, hA0, hV, rfl, hfz, hnd⟩ := hW
  have hA : DataW.TrodAll enc Try.prog W 0 (fun _ => true) true Try.f9.params.toList args.toList ds p := hA0
  have hA1 := hA
  rw [Try.params9] at hA hval
  obtain ⟨v0, v1, v2, v3, v4, d0, d1, d2, d3, d4, p0, p1, p2, p3, p4, rfl, rfl, rfl, h0, h1, h2, h3, h4⟩ := trodAll_five hA
  obtain ⟨rfl, rfl⟩ := trodVars_none hV
  clear hA0 hval0 hA
  simp only [List.append_nil] at hW'
  have hw0 : ∀ n ∈ d0.weights Try.prog 25, n ≤ reachBytes := fun n hn => by simpa using List.all_eq_true.1 hsz _ (DataW.weights_mem_each (j := 0) (by rw [Try.params9]; rfl) rfl n hn)
  obtain ⟨sn0, mv0, cv0, ms0, cs0, rfl, hs0⟩ := sheet_trod (hval 0 25 v0 rfl rfl) h0 hw0
  obtain ⟨n1, rfl, hl1, hh1⟩ := u16_trod (hval 1 47 v1 rfl rfl) h1
  obtain ⟨m1, rfl⟩ := Int.eq_ofNat_of_zero_le hl1
  have hm1 : m1 ≤ 65535 := by omega
  obtain ⟨n2, rfl, hl2, hh2⟩ := u16_trod (hval 2 47 v2 rfl rfl) h2
  obtain ⟨m2, rfl⟩ := Int.eq_ofNat_of_zero_le hl2
  have hm2 : m2 ≤ 65535 := by omega
  obtain ⟨n3, rfl, hl3, hh3⟩ := u16_trod (hval 3 47 v3 rfl rfl) h3
  obtain ⟨m3, rfl⟩ := Int.eq_ofNat_of_zero_le hl3
  have hm3 : m3 ≤ 65535 := by omega
  obtain ⟨n4, rfl, hl4, hh4⟩ := u16_trod (hval 4 47 v4 rfl rfl) h4
  obtain ⟨m4, rfl⟩ := Int.eq_ofNat_of_zero_le hl4
  have hm4 : m4 ≤ 65535 := by omega
  refine (NameMiddle_calls sn0 mv0 cv0 ms0 cs0 m1 m2 m3 m4 W hs0 hm1 hm2 hm3 hm4).mono fun e W' ⟨he, x, hx⟩ => ?_
  subst he
  subst hx
  refine ⟨_, rfl, _, _, _, [], p0 ++ p1 ++ p2 ++ p3 ++ p4, [], hW', trodAll_mk1 (shut_bool Try.underlying4 _), ?_, rfl, x.le.frame _, fun h => by cases h⟩
  refine args_later x (fun t ht => ?_) (fun y hy => hW'.lt y hy) hA1
  rw [Try.params9] at ht
  simp at ht
  rcases ht with rfl | rfl <;> exact ⟨by kernel_rfl, of_decide_eq_true (by kernel_rfl)⟩

theorem NameMiddle_holds : Rows.NameMiddleSaid :=
  OpenClaim.holds_of_wide 9 Try.f9 rfl rfl rfl rfl rfl rfl rfl ⟨rfl, rfl, rfl, rfl, rfl⟩ rfl rfl rfl rfl rfl (by kernel_rfl) Try.func9 (by kernel_rfl)
    (of_decide_eq_true (by kernel_rfl)) (by unfold Func.isWrapper; first | (rw [if_pos (by decide +kernel)]; kernel_rfl) | (rw [if_neg (by decide +kernel)]; exact ⟨rfl, rfl⟩))
    (fun os started H enc _ => nameMiddle_lifted os started H enc)
#print axioms NameMiddle_holds
end Go.Proofs.Ytdhdpbnlhnodjaa
