import Derived.Test.YtpkgfkeekcgkcaaOpenS
/-  Arguments that are lists of bytes. -/
namespace Go.Proofs.Ytpkgfkeekcgkcaa
open Go.ChangeShapes Go.WideShapes Go.ChangeAt Go.RowKit
theorem cellsU8 : Try.prog.cellsOf 5 = 1 := by kernel_rfl
theorem bytesU8 : Try.prog.bytesOf 5 = 1 := by kernel_rfl
section
variable {H : Type} {enc : TypeId × Value → H}
theorem byts_trod {W : World} {fuel : Nat} {v : Value} {x : DataW H × List MemPlace} (h : DataW.trod enc Try.prog W 0 (fun _ => true) true fuel 61 [v] = some x)
    (hw : ∀ n ∈ x.1.weights Try.prog 61, n ≤ reachBytes) : ∃ xs, Byts W v xs := by
  rcases open_ints Try.underlying61 Try.underlying5 cellsU8 h with ⟨e, rfl⟩ | ⟨a, len, cap, zs, e, _, hl, hm, hz, rfl, hc, hwf⟩
  · obtain rfl : v = .slice none 0 0 := by simpa using e
    exact ⟨[], by simp, fun k hk => absurd hk (Nat.not_lt_zero _), .inl ⟨rfl, none, 0, rfl⟩⟩
  · obtain rfl : v = .slice (some a) len cap := by simpa using e
    simp only [if_true] at hz
    have hb := hw ((zs.take len).length + (zs.drop len).length |> (· * 1)) (by simp [DataW.weights, Try.underlying61, bytesU8, lits])
    rw [reach_eq] at hb
    simp only [List.length_take, List.length_drop] at hb
    have hlen : (zs.take len).length = len := by rw [List.length_take]; omega
    have hnth : ∀ k, k < len → nth (zs.take len) k = zs.getD k 0 := fun k hk => by simp [nth, hk]
    refine ⟨zs.take len, by omega, fun k hk => ?_, ?_⟩
    · rw [hlen] at hk
      rw [hnth k hk]
      have hmem : zs.getD k 0 ∈ zs := by
        rw [List.getD_eq_getElem?_getD, List.getElem?_eq_getElem (by omega), Option.getD_some]
        exact List.getElem_mem _
      obtain ⟨y, hy⟩ : ∃ y, zs.getD k 0 = y := ⟨_, rfl⟩
      rw [hy] at hmem ⊢
      have := hwf _ hmem
      simp [Lit.wf, IntKind.min, IntKind.max, IntKind.signed, IntKind.bits] at this
      omega
    · by_cases h0 : len = 0
      · subst h0; exact .inl ⟨by simp, some a, cap, rfl⟩
      · obtain ⟨b, off, rfl, hc'⟩ := ints_at hc (by omega)
        refine .inr ⟨b, off, cap, by rw [hlen], by omega, World.block_lt_of_cell? W ⟨b, off + 0, none⟩ (hc' 0 (by omega)), fun k hk => ?_⟩
        rw [hlen] at hk
        rw [hc' k (by omega), hnth k hk]
set_option maxRecDepth 100000 in
theorem bytes_trod {W : World} {v : Value} {d : DataW H} {p : List MemPlace} {b0 : Nat} (hv : Value.okWide Try.prog W .any b0 61 v) (h : DataW.Trod enc Try.prog W 0 (fun _ => true) true 61 v d p)
    (hw : ∀ n ∈ d.weights Try.prog 61, n ≤ reachBytes) : ∃ xs, Byts W v xs := by
  obtain ⟨a, len, cap, rfl⟩ := okWide_slice Try.underlying61 hv
  obtain ⟨fuel, hf⟩ := h
  exact byts_trod (x := (d, p)) hf hw
end
end Go.Proofs.Ytpkgfkeekcgkcaa
