import Derived.Test.YtdhdpbnlhnodjaaUsdS
/-  A sheet that is loaded from memory that keeps it. -/
namespace Go.Proofs.Ytdhdpbnlhnodjaa
open Go.RowKit
theorem exec_loadS {o : Oper} {r : Operand → Value} {p : Operand} {E : Nat} {v0 v1 v2 : Value} (ho : o.op = .load 25 p) (hp : r p = .pointer (some ⟨E, 0, none⟩))
    {w : World} (h : Lin w E 25 [v0, v1, v2]) : (execOp r o).run Try.prog w = .ok (.value (.agg #[v0, v1, v2])) w := by
  have h0 := h.cell (k := 0) rfl
  have h1 := h.cell (k := 1) rfl
  have h2 := h.cell (k := 2) rfl
  have hi : ∀ w : World, (isAgg 25).run Try.prog w = .ok true w := fun w => by kernel_rfl
  simp [execOp, ho, hp, go_sem, hi, h0, h1, h2]
/-- two ways that come to the same place are gone on once -/
theorem joinK {A : Type} {H K : A → Nat → Nat → Prop} {G : Prop} (h : (∀ V T1 T2, H V T1 T2 → K V T1 T2) → G) (main : ∀ V T1 T2, H V T1 T2 → K V T1 T2) : G := h main
/-- a store into a block that is older leaves a newer list of pairs as it is -/
theorem PrsM.past {lo : Nat} {U : World} {v : Value} {ps : List (Int × Int)} (h : PrsM lo U v ps) {T : Nat} (hT : T < lo) (k : Nat) (u : Value) : PrsM lo (U.setCell ⟨T, k, none⟩ u) v ps :=
  h.kept (grownBy_setCell_at U T k u) (.inr fun e => by have := (World.ownsRow.lt h _ e).1; omega)
end Go.Proofs.Ytdhdpbnlhnodjaa
