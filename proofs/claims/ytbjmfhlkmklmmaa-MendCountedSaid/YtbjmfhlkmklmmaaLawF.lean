import Derived.Test.YtbjmfhlkmklmmaaLawE
/-  More on structs in a block of the call's own, whose last cell is a list that grows; a list of numbers beside it. -/
namespace Go.Proofs.Ytbjmfhlkmklmmaa
open Go.RowKit

theorem exec_load1 {P : Program} {o : Oper} {r : Operand → Value} {p : Operand} {T : TypeId} {E k : Nat} {v : Value} (ho : o.op = .load T p) (hp : r p = .pointer (some ⟨E, k, none⟩)) (i1 : ∀ w, (isAgg T).run P w = .ok false w)
    {w : World} (h : w.cell? ⟨E, k, none⟩ = some v) : (execOp r o).run P w = .ok (.value v) w := by
  simp [execOp, ho, hp, go_sem, i1, h]
theorem IntsM.ne_plate {lo : Nat} {w : World} {v : Value} {xs : List Int} {T : Nat} {cs : List Value} (h : IntsM lo w v xs) (hT : Lin w T 24 cs) : v.ownBlock ≠ some T := fun e => by
  obtain ⟨_, hr | ⟨g, cap, cur, rfl, _, hg, _⟩⟩ := h
  · rw [hr.1] at e; cases e
  · simp only [Value.ownBlock, Option.some.injEq] at e
    subst e
    have h2 : w.heap[g]? = _ := hT
    rw [h2] at hg
    cases hg
theorem IntsM.ne_N {lo lo' : Nat} {w : World} {u v : Value} {xs ys : List Int} (h : IntsM lo w u xs) (h2 : IntsN lo' w v ys) : v.ownBlock = none ∨ v.ownBlock ≠ u.ownBlock := by
  obtain ⟨_, hr | ⟨g, cap, cur, rfl, _, hg, _⟩⟩ := h2
  · rw [hr.1]; exact .inl rfl
  · right
    intro e
    obtain ⟨_, hr | ⟨g', cap', cur', rfl, _, hg', _⟩⟩ := h
    · rw [hr.1] at e; cases e
    · simp only [Value.ownBlock, Option.some.injEq] at e
      subst e
      rw [hg] at hg'
      cases hg'
theorem IntsN.ne_M {lo lo' : Nat} {w : World} {u v : Value} {xs ys : List Int} (h : IntsM lo w u xs) (h2 : IntsN lo' w v ys) : u.ownBlock = none ∨ u.ownBlock ≠ v.ownBlock := by
  rcases h.ne_N h2 with e | e
  · cases hu : u.ownBlock with
    | none => exact .inl rfl
    | some b => rw [e]; exact .inr (by simp)
  · exact .inr fun e2 => e e2.symm
theorem Fld.kept {W U U' : World} {C k : Nat} {T : TypeId} {cs : List Value} {v : Value} {xs : List Int} (h : Fld W U C k T cs v xs) {r : Option Nat} (hg : U.grownBy U' r) (hle : Below W.heap.size W U') (h1 : some C ≠ r) (h2 : v.ownBlock = none ∨ v.ownBlock ≠ r) : Fld W U' C k T cs v xs :=
  ⟨hle, h.lin.kept hg h1, h.val, h.own.kept hg h2, h.ne, h.lo⟩
/-- append of one number, that lies in any block, to the list in the struct; and its store -/
theorem Fld.appAt {W U : World} {C k : Nat} {T : TypeId} {cs : List Value} {v : Value} {xs : List Int} (h : Fld W U C k T cs v xs) (b c : Nat) (y : Int) (hb : U.cell? ⟨b, 0, none⟩ = some (.int .i64 y)) (hbig : xs.length + 1 ≤ 1000000000000) (ty : TypeId) :
    ∃ v', ∃ q : Later W, (Builtin.append_ #[22, 22] ty #[v, .slice (some ⟨b, 0, none⟩) 1 c]).run Try.prog U = .ok v' q.w ∧ Lin q.w C T cs ∧ IntsN W.heap.size q.w v' (xs ++ [y]) ∧ v'.ownBlock ≠ some C ∧ U.grownBy q.w v.ownBlock := by
  obtain ⟨i, hi, hz, hsz, hby⟩ := info_intN
  obtain ⟨v', w', h1, h2, h3, _, h5⟩ := run_append_own_at (P := Try.prog) U W.heap.size 22 ty 2 i (.int .i64 0) 1 8 Try.underlying22 hi hz hsz hby rfl (by decide) v xs.length _ h.own
    ⟨b, 0, none⟩ 1 c [.int .i64 y] rfl (fun j u hj => by
      match j, hj with
      | 0, hj => simp at hj; subst hj; exact hb
      | j + 1, hj => simp at hj) (by intro u hu; simp at hu; subst hu; rfl) (by simp only [maxLen]; omega) (by omega) h.le.size
  have hB : Below W.heap.size W w' := h.le.trans (h.own.below h3 h.le.size)
  have hne : v'.ownBlock ≠ some C := by
    rcases h5 with e | e
    · rw [e]; exact h.ne
    · rw [e]; intro e2
      injection e2 with e2
      have := h.lin.lt
      omega
  have hL : Lin w' C T cs := h.lin.kept h3 (Ne.symm h.ne)
  have hO : IntsN W.heap.size w' v' (xs ++ [y]) := by
    unfold IntsN
    rw [List.map_append, List.length_append]
    exact h2
  exact ⟨v', ⟨w', hB⟩, h1, hL, hO, hne, h3⟩
theorem Fld.stored {W U : World} {C k : Nat} {T : TypeId} {cs : List Value} {v : Value} {xs : List Int} (hle : Below W.heap.size W U) (hL : Lin U C T cs) (hk : k < cs.length) (hO : IntsN W.heap.size U v xs) (hne : v.ownBlock ≠ some C) (hlo : W.heap.size ≤ C) : Fld W (U.setCell ⟨C, k, none⟩ v) C k T (cs.set k v) v xs :=
  ⟨hle.setCell (p := ⟨C, k, none⟩) hlo v, hL.set k v, by simp [hk], hO.kept (grownBy_setCell_at U C k v) (.inr hne), hne, hlo⟩
end Go.Proofs.Ytbjmfhlkmklmmaa
