import Derived.Test.YtdhdpbnlhnodjaaBoxS
/-  Two sheets in blocks of the call's own, all whose lists grow. -/
namespace Go.Proofs.Ytdhdpbnlhnodjaa
open Go.RowKit
theorem exec_loadI {o : Oper} {r : Operand → Value} {p : Operand} {E k : Nat} {v : Value} (ho : o.op = .load 3 p) (hp : r p = .pointer (some ⟨E, k, none⟩))
    {w : World} (h : w.cell? ⟨E, k, none⟩ = some v) : (execOp r o).run Try.prog w = .ok (.value v) w := by
  have hi : ∀ w : World, (isAgg 3).run Try.prog w = .ok false w := fun w => by kernel_rfl
  simp [execOp, ho, hp, go_sem, hi, h]
theorem exec_buildN {o : Oper} {r : Operand → Value} {p : Operand} {n : Int} (ho : o.op = .build 25 #[(0, p)]) (hp : r p = .int .i64 n) (w : World) : (execOp r o).run Try.prog w = .ok (.value (.agg #[.int .i64 n, .slice none 0 0, .slice none 0 0])) w := by
  simp [execOp, ho, hp, go_sem]
/-- two lists of one's own in different blocks -/
def Off (v u : Value) : Prop := v.ownBlock = none ∨ v.ownBlock ≠ u.ownBlock
theorem Off.symm {v u : Value} (h : Off v u) : Off u v := by
  unfold Off at h ⊢
  cases hu : u.ownBlock with
  | none => exact .inl rfl
  | some b =>
    right
    rcases h with e | e
    · rw [e]; simp
    · exact fun e2 => e (by rw [← e2, hu])
/-- the first sheet (its cells m0, c0; its lists mv, cv) and the second, stored -/
structure Two (W U : World) (T1 T2 n : Nat) (m0 c0 mv cv mw cw : Value) (ps : List (Int × Int)) (xs : List Int) (qs : List (Int × Int)) (ys : List Int) : Prop where
  x : Bx W U T1 n m0 c0 mv cv ps xs
  y : Bx W U T2 n mw cw mw cw qs ys
  ne : T1 ≠ T2
  dm : Off mv mw
  dc : Off cv cw
section
variable {W U : World} {T1 T2 n : Nat} {m0 c0 mv cv mw cw : Value} {ps qs : List (Int × Int)} {xs ys : List Int}
theorem Two.later (h : Two W U T1 T2 n m0 c0 mv cv mw cw ps xs qs ys) (x : Later U) : Two W x.w T1 T2 n m0 c0 mv cv mw cw ps xs qs ys := ⟨h.x.later x, h.y.later x, h.ne, h.dm, h.dc⟩
theorem Two.swap (h : Two W U T1 T2 n mv cv mv cv mw cw ps xs qs ys) : Two W U T2 T1 n mw cw mw cw mv cv qs ys ps xs := ⟨h.y, h.x, h.ne.symm, h.dm.symm, h.dc.symm⟩
theorem own_lt {w : World} {lo : Nat} {e : TypeId} {s k : Nat} {v : Value} {zs : List Value} (h : w.ownsRow lo e s v k zs) {b : Nat} (hb : v.ownBlock = some b) : b < w.heap.size := (World.ownsRow.lt h b hb).2
theorem Two.appM (h : Two W U T1 T2 n m0 c0 mv cv mw cw ps xs qs ys) (b c : Nat) (p q : Int) (h0 : U.cell? ⟨b, 0, none⟩ = some (.int .i64 p)) (h1 : U.cell? ⟨b, 1, none⟩ = some (.int .i64 q)) (hbig : ps.length + 1 ≤ 1000000000000) (ty : TypeId) :
    ∃ v' w', (Builtin.append_ #[22, 22] ty #[mv, .slice (some ⟨b, 0, none⟩) 1 c]).run Try.prog U = .ok v' w' ∧ Two W w' T1 T2 n m0 c0 v' cv mw cw (ps ++ [(p, q)]) xs qs ys := by
  obtain ⟨v', w', hr, hx, hg, h5⟩ := h.x.appM b c p q h0 h1 hbig ty
  refine ⟨v', w', hr, hx, h.y.kept hg hx.le (Ne.symm (own_ne_lin h.x.m h.y.lin (by decide))) h.dm.symm (own_ne h.y.c h.x.m (by decide)), h.ne, ?_, h.dc⟩
  rcases h5 with e | e
  · unfold Off; rw [e]; exact h.dm
  · right
    rw [e]
    intro e2
    have := own_lt h.y.m e2.symm
    omega
theorem Two.appC (h : Two W U T1 T2 n m0 c0 mv cv mw cw ps xs qs ys) (b c : Nat) (y : Int) (h0 : U.cell? ⟨b, 0, none⟩ = some (.int .i64 y)) (hbig : xs.length + 1 ≤ 1000000000000) (ty : TypeId) :
    ∃ v' w', (Builtin.append_ #[23, 23] ty #[cv, .slice (some ⟨b, 0, none⟩) 1 c]).run Try.prog U = .ok v' w' ∧ Two W w' T1 T2 n m0 c0 mv v' mw cw ps (xs ++ [y]) qs ys := by
  obtain ⟨v', w', hr, hx, hg, h5⟩ := h.x.appC b c y h0 hbig ty
  refine ⟨v', w', hr, hx, h.y.kept hg hx.le (Ne.symm (own_ne_lin h.x.c h.y.lin (by decide))) (own_ne h.y.m h.x.c (by decide)) h.dc.symm, h.ne, h.dm, ?_⟩
  rcases h5 with e | e
  · unfold Off; rw [e]; exact h.dc
  · right
    rw [e]
    intro e2
    have := own_lt h.y.c e2.symm
    omega
theorem Two.setM (h : Two W U T1 T2 n m0 c0 mv cv mw cw ps xs qs ys) : Two W (U.setCell ⟨T1, 1, none⟩ mv) T1 T2 n mv c0 mv cv mw cw ps xs qs ys :=
  ⟨h.x.setM, h.y.kept (grownBy_setCell_at U T1 1 mv) h.x.setM.le (by simp; exact h.ne.symm) (.inr (own_ne_lin h.y.m h.x.lin (by decide))) (.inr (own_ne_lin h.y.c h.x.lin (by decide))), h.ne, h.dm, h.dc⟩
theorem Two.setC (h : Two W U T1 T2 n m0 c0 mv cv mw cw ps xs qs ys) : Two W (U.setCell ⟨T1, 2, none⟩ cv) T1 T2 n m0 cv mv cv mw cw ps xs qs ys :=
  ⟨h.x.setC, h.y.kept (grownBy_setCell_at U T1 2 cv) h.x.setC.le (by simp; exact h.ne.symm) (.inr (own_ne_lin h.y.m h.x.lin (by decide))) (.inr (own_ne_lin h.y.c h.x.lin (by decide))), h.ne, h.dm, h.dc⟩
/-- two empty sheets -/
theorem Two.made (hle : Below W.heap.size W U) (hL : Lin U T1 25 [.int .i64 n, .slice none 0 0, .slice none 0 0]) (hL2 : Lin U T2 25 [.int .i64 n, .slice none 0 0, .slice none 0 0]) (hlo : W.heap.size ≤ T1) (hlo2 : W.heap.size ≤ T2) (hne : T1 ≠ T2) :
    Two W U T1 T2 n (.slice none 0 0) (.slice none 0 0) (.slice none 0 0) (.slice none 0 0) (.slice none 0 0) (.slice none 0 0) [] [] [] [] :=
  ⟨⟨hle, hL, PrsM.nil _ _, World.ownsRow_nil _ _ _ _, hlo⟩, ⟨hle, hL2, PrsM.nil _ _, World.ownsRow_nil _ _ _ _, hlo2⟩, hne, .inl rfl, .inl rfl⟩
end
end Go.Proofs.Ytdhdpbnlhnodjaa
