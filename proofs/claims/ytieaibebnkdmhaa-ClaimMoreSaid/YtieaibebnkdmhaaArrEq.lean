import Derived.Laws.StructEq
import Derived.Lib.SliceRun
import Derived.Test.YtieaibebnkdmhaaOwn
namespace Go.Proofs.Ytieaibebnkdmhaa
open Go.RowKit

theorem size_int : ∀ w, (sizeOf 3).run Try.prog w = .ok 1 w := fun w => by kernel_rfl

set_option maxHeartbeats 1000000 in
theorem run_eq_having (d : Nat) (a0 a1 a2 a3 a4 a5 b0 b1 b2 b3 b4 b5 : Int) (w : World) :
    (Op.equalIn (d + 1 + 1) 105 (.agg #[.int .i64 a0, .int .i64 a1, .int .i64 a2, .int .i64 a3, .int .i64 a4, .int .i64 a5]) (.agg #[.int .i64 b0, .int .i64 b1, .int .i64 b2, .int .i64 b3, .int .i64 b4, .int .i64 b5])).run Try.prog w =
      .ok ((a0 == b0) && ((a1 == b1) && ((a2 == b2) && ((a3 == b3) && ((a4 == b4) && (a5 == b5)))))) w := by
  have ha : ∀ w, (isAgg 3).run Try.prog w = .ok false w := fun w => by kernel_rfl
  rw [Op.equalIn]
  simp only [Sem.run_bind, run_underlying Try.underlying105, Result.andThen_ok, size_int]
  simp only [Std.Legacy.Range.forIn_eq_forIn_range', Std.Legacy.Range.size, Nat.sub_zero, Nat.reduceAdd, Nat.reduceSub, Nat.div_one, List.range', List.forIn_cons, List.forIn_nil, Sem.run_bind]
  cases h0 : a0 == b0 <;> cases h1 : a1 == b1 <;> cases h2 : a2 == b2 <;> cases h3 : a3 == b3 <;> cases h4 : a4 == b4 <;> cases h5 : a5 == b5 <;>
  simp [go_sem, part, ha, run_equalIn_int, Try.underlying3, h0, h1, h2, h3, h4, h5, Result.andThen]

theorem setCell_same {w : World} {b k : Nat} {v : Value} (h : w.cell? ⟨b, k, none⟩ = some v) : w.setCell ⟨b, k, none⟩ v = w := by
  have hb : b < w.heap.size := World.block_lt_of_cell? _ _ h
  have : (w.setCell ⟨b, k, none⟩ v).heap = w.heap := by
    refine Array.ext (by simp [World.setCell]) fun i h1 h2 => ?_
    by_cases e : i = b
    · subst e
      simp only [World.setCell, Array.getElem_modify_self]
      simp only [World.cell?, Array.getElem?_eq_getElem h2] at h
      cases ho : w.heap[i] with
      | cells cs T z =>
        rw [ho] at h
        simp at h
        simp only [Option.isSome_none, Bool.false_eq_true, if_false, Obj.cells.injEq, and_true]
        obtain ⟨hk, rfl⟩ := Array.getElem?_eq_some_iff.1 h
        rw [Array.setIfInBounds, dif_pos hk]
        exact Array.set_getElem_self hk
      | _ => rfl
    · simp [World.setCell, Array.getElem_modify, Ne.symm e]
  have e : w.setCell ⟨b, k, none⟩ v = { w with heap := (w.setCell ⟨b, k, none⟩ v).heap } := rfl
  rw [e, this]

theorem run_clear_new (w : World) (ty : TypeId) (T : TypeId) : (Builtin.clear_ #[25] ty #[.slice (some ⟨w.heap.size, 0, none⟩) 6 6]).run Try.prog (w.alloc (.cells #[.int .i64 0, .int .i64 0, .int .i64 0, .int .i64 0, .int .i64 0, .int .i64 0] T)) =
    .ok (.tuple #[]) (w.alloc (.cells #[.int .i64 0, .int .i64 0, .int .i64 0, .int .i64 0, .int .i64 0, .int .i64 0] T)) := by
  have hc : ∀ j, j < 6 → (w.alloc (.cells #[.int .i64 0, .int .i64 0, .int .i64 0, .int .i64 0, .int .i64 0, .int .i64 0] T)).cell? ⟨w.heap.size, 0 + j, none⟩ = some (.int .i64 0) := by
    intro j hj
    have : j = 0 ∨ j = 1 ∨ j = 2 ∨ j = 3 ∨ j = 4 ∨ j = 5 := by omega
    rcases this with rfl | rfl | rfl | rfl | rfl | rfl <;> (simp only [World.cell?, World.alloc_heap_new]; rfl)
  rw [Lib.run_clear_slice _ 25 3 ty (.int .i64 0) Try.underlying25 (fun w => by kernel_rfl) rfl rfl _ 0 6 6 (by decide) (fun j hj => by rw [hc j hj]; rfl) (fun j hj => by simp only [World.frozen?, World.alloc_heap_new]; simp)]
  have h0 := hc 0 (by decide)
  have h1 := hc 1 (by decide)
  have h2 := hc 2 (by decide)
  have h3 := hc 3 (by decide)
  have h4 := hc 4 (by decide)
  have h5 := hc 5 (by decide)
  simp only [Nat.zero_add] at h0 h1 h2 h3 h4 h5
  simp only [List.replicate, World.setCells, Nat.zero_add, Nat.reduceAdd]
  rw [setCell_same h0, setCell_same h1, setCell_same h2, setCell_same h3, setCell_same h4, setCell_same h5]
end Go.Proofs.Ytieaibebnkdmhaa
