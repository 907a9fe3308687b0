import Derived.Test.YtpkgfkeekcgkcaaMrgT
/-  Merging: the statement's walk. -/
namespace Go.Proofs.Ytpkgfkeekcgkcaa
open Go.RowKit
theorem Mks.past {U : World} {sv av : Value} {st : List Int} {ad : List (List UInt8)} (h : Mks U sv av st ad) {p : Addr} {x : Option Addr} {n c : Nat} (hp : U.cell? p = some (.slice x n c)) (y : Value) : Mks (U.setCell p y) sv av st ad := by
  refine ⟨?_, ?_⟩
  · obtain ⟨h1, h2⟩ := h.s
    refine ⟨h1, h2.imp id ?_⟩
    rintro ⟨b, o, c, e, hc, hb, hg⟩
    refine ⟨b, o, c, e, hc, by simpa using hb, fun k hk => ?_⟩
    have := hg k hk
    have hne : p ≠ ⟨b, o + k, none⟩ := fun e => by rw [e, this] at hp; cases hp
    first | exact (World.cell?_setCell_other _ _ _ _ hne).trans this | exact (World.cell?_setCell_other _ _ _ _ (Ne.symm hne)).trans this
  · obtain ⟨h1, h2⟩ := h.a
    refine ⟨h1, h2.imp id ?_⟩
    rintro ⟨b, o, c, e, hc, hb, hg⟩
    refine ⟨b, o, c, e, hc, by simpa using hb, fun k hk => ?_⟩
    have := hg k hk
    have hne : p ≠ ⟨b, o + k, none⟩ := fun e => by rw [e, this] at hp; cases hp
    first | exact (World.cell?_setCell_other _ _ _ _ hne).trans this | exact (World.cell?_setCell_other _ _ _ _ (Ne.symm hne)).trans this
theorem wpOp_some {P : Program} {ops : Array Oper} {Q : Exit → Act → World → Prop} {i : Nat} {o : Oper} {K : Act → World → Prop} {a : Act} {w : World} (ho : ops[i]? = some o) (hw : Region.wanted o (yielded ops a.tmps) = true)
    (h : ∀ K' : Act → World → Prop, (∀ a' w', K a' w' → K' a' w') → o.wp P a w K' Q) : wpOp P ops Q i K a w := by
  unfold wpOp
  rw [ho]
  dsimp only
  rw [if_pos hw]
  exact .inl (h K fun _ _ h => h)
theorem joinT {A : Type} {H K : A → Nat → Option Addr → Nat → Nat → Option Addr → Nat → Nat → Option Addr → Nat → Nat → Option Addr → Nat → Nat → Prop} {G : Prop}
    (h : (∀ V T x1 x2 x3 y1 y2 y3 u1 u2 u3 v1 v2 v3, H V T x1 x2 x3 y1 y2 y3 u1 u2 u3 v1 v2 v3 → K V T x1 x2 x3 y1 y2 y3 u1 u2 u3 v1 v2 v3) → G)
    (main : ∀ V T x1 x2 x3 y1 y2 y3 u1 u2 u3 v1 v2 v3, H V T x1 x2 x3 y1 y2 y3 u1 u2 u3 v1 v2 v3 → K V T x1 x2 x3 y1 y2 y3 u1 u2 u3 v1 v2 v3) : G := h main
theorem exec_loadM {o : Oper} {r : Operand → Value} {p : Operand} {E : Nat} {v0 v1 : Value} (ho : o.op = .load 25 p) (hp : r p = .pointer (some ⟨E, 0, none⟩))
    {w : World} (h : Lin w E 25 [v0, v1]) : (execOp r o).run Try.prog w = .ok (.value (.agg #[v0, v1])) w := by
  have h0 := h.cell (k := 0) rfl
  have h1 := h.cell (k := 1) rfl
  have hi : ∀ w : World, (isAgg 25).run Try.prog w = .ok true w := fun w => by kernel_rfl
  simp [execOp, ho, hp, go_sem, hi, h0, h1]
end Go.Proofs.Ytpkgfkeekcgkcaa
