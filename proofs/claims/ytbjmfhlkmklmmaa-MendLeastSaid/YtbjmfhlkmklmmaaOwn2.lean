import Derived.Test.YtbjmfhlkmklmmaaWkP
import Derived.Test.YtbjmfhlkmklmmaaOpen7
import Derived.Maps.AppendAt
/-  Two lists of the call's own, beside one another; lists of bytes in parts. -/
namespace Go.Proofs.Ytbjmfhlkmklmmaa
open Go.RowKit

/-- two lists of the call's own, that share no block -/
def TwoN (lo : Nat) (w : World) (u v : Value) (xs ys : List Int) : Prop := IntsN lo w u xs ∧ IntsN lo w v ys ∧ (u.ownBlock = none ∨ u.ownBlock ≠ v.ownBlock)
theorem TwoN.nil (lo : Nat) (w : World) : TwoN lo w (.slice none 0 0) (.slice none 0 0) [] [] := ⟨IntsN.nil _ _, IntsN.nil _ _, .inl rfl⟩
theorem TwoN.later {lo : Nat} {w : World} {u v : Value} {xs ys : List Int} (h : TwoN lo w u v xs ys) (y : Later w) : TwoN lo y.w u v xs ys := ⟨h.1.later y, h.2.1.later y, h.2.2⟩
theorem TwoN.symm {lo : Nat} {w : World} {u v : Value} {xs ys : List Int} (h : TwoN lo w u v xs ys) : TwoN lo w v u ys xs := by
  refine ⟨h.2.1, h.1, ?_⟩
  cases hv : v.ownBlock with
  | none => exact .inl rfl
  | some b => right; intro e; rcases h.2.2 with h2 | h2
              · rw [h2] at e; cases e
              · exact h2 (by rw [hv]; exact e.symm)
theorem app_twoN {W wr : World} (hB : Below W.heap.size W wr) {u v : Value} {xs ys : List Int} (hA : TwoN W.heap.size wr u v xs ys) (y : Int) (hbig : xs.length + 1 ≤ 1000000000000) (ty : TypeId) :
    ∃ u', ∃ q : Later W, (Builtin.append_ #[22, 22] ty #[u, .slice (some ⟨wr.heap.size, 0, none⟩) 1 1]).run Try.prog (wr.alloc (.cells #[.int .i64 y] 2)) = .ok u' q.w ∧ TwoN W.heap.size q.w u' v (xs ++ [y]) ys := by
  obtain ⟨i, hi, hz, hsz, hby⟩ := info_intN
  have hA' := hA.later (Later.new wr (.cells #[.int .i64 y] 2))
  rw [Later.new_w] at hA'
  have hlo : W.heap.size ≤ (wr.alloc (.cells #[.int .i64 y] 2)).heap.size := by have := hB.size; simp; omega
  obtain ⟨v', w', h1, h2, h3, _, h5⟩ := run_append_own_at (P := Try.prog) (wr.alloc (.cells #[.int .i64 y] 2)) W.heap.size 22 ty 2 i (.int .i64 0) 1 8 Try.underlying22 hi hz hsz hby rfl (by decide) u xs.length _ hA'.1
    ⟨wr.heap.size, 0, none⟩ 1 1 [.int .i64 y] rfl (cell_one_new _ _ _) (by intro u hu; simp at hu; subst hu; rfl) (by simp only [maxLen]; omega) (by omega) hlo
  have hb := hA'.1.below h3 hlo
  refine ⟨v', ⟨w', (hB.alloc hB.size _).trans hb⟩, h1, ?_, ?_, ?_⟩
  · have : IntsN W.heap.size w' v' (xs ++ [y]) := by
      unfold IntsN
      rw [List.map_append, List.length_append]
      exact h2
    exact this
  · exact hA'.2.1.kept h3 (by
      rcases hA'.symm.2.2 with e | e
      · exact .inl e
      · exact .inr e)
  · rcases h5 with e | e
    · rw [e]; exact hA'.2.2
    · right; rw [e]; intro h
      exact absurd (World.ownsRow.lt hA'.2.1 _ h.symm).2 (Nat.lt_irrefl _)
theorem I8s.later {w : World} {v : Value} {xs : List Int} (h : I8s w v xs) (x : Later w) : I8s x.w v xs := by
  obtain ⟨h1, h3, h2 | ⟨b, off, cap, hv, hl, hb, hc⟩⟩ := h
  · exact ⟨h1, h3, .inl h2⟩
  · exact ⟨h1, h3, .inr ⟨b, off, cap, hv, hl, Nat.lt_of_lt_of_le hb x.size, fun k hk => (x.cell hb).trans (hc k hk)⟩⟩
theorem I8s.form {w : World} {v : Value} {xs : List Int} (h : I8s w v xs) : ∃ a cap, v = .slice a xs.length cap := by
  obtain ⟨h1, _, ⟨rfl, a, cap, rfl⟩ | ⟨b, off, cap, rfl, _⟩⟩ := h
  · exact ⟨a, cap, rfl⟩
  · exact ⟨_, cap, rfl⟩
theorem I8s.at {w : World} {v : Value} {xs : List Int} (h : I8s w v xs) {k : Nat} (hk : k < xs.length) :
    ∃ b off cap, v = .slice (some ⟨b, off, none⟩) xs.length cap ∧ xs.length ≤ cap ∧ b < w.heap.size ∧ ∀ k, k < xs.length → w.cell? ⟨b, off + k, none⟩ = some (.int .i8 (nth xs k)) := by
  obtain ⟨h1, _, ⟨rfl, _⟩ | h2⟩ := h
  · simp at hk
  · exact h2
end Go.Proofs.Ytbjmfhlkmklmmaa
