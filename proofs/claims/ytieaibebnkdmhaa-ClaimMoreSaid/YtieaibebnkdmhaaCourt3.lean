import Derived.Test.YtieaibebnkdmhaaCourt2
import Derived.Test.YtieaibebnkdmhaaRefA
namespace Go.Proofs.Ytieaibebnkdmhaa
open Go.RowKit

/-- Where a star stands on the list of a nation, and the nation on that of the star, by the table. -/
def pS (M : PM) (n s : Int) : Int := ((Tb.get M (n, s)).getD (0, 0)).1
def pN (M : PM) (n s : Int) : Int := ((Tb.get M (n, s)).getD (0, 0)).2
def inM (M : PM) (n s : Int) : Bool := (Tb.get M (n, s)).isSome
def rthM (M : PM) (n s o : Int) : Bool := if s < 0 ∨ o < 0 then decide (0 ≤ s) else decide (pS M n s < pS M n o)
def winM (M : PM) (s n o : Int) : Bool := decide (o < 0) || decide (pN M n s < pN M o s)
def unsM (M : PM) (m : List Int) (n s : Int) : Bool := rthM M n s (nth m n.toNat) && winM M s n (idxF (isN s) m 0)

theorem look_court {w : World} {m : Nat} {M : PM} (h : Tb.Tab pairV pairV w m M) (n s : Int) :
    (Instr.lookup 96 (.map (some m)) (.agg #[.int .i64 n, .int .i64 s]) false).run Try.prog w = .ok (.agg #[.int .i64 (pS M n s), .int .i64 (pN M n s)]) w := by
  have := h.look pair_keys Try.underlying96 (z := .agg #[.int .i64 0, .int .i64 0]) (fun w => by kernel_rfl) (n, s) false
  simp only [pairV, Bool.false_eq_true, if_false] at this
  rw [this]
  unfold pS pN
  cases Tb.get M (n, s) <;> rfl
theorem look_court2 {w : World} {m : Nat} {M : PM} (h : Tb.Tab pairV pairV w m M) (n s : Int) :
    (Instr.lookup 96 (.map (some m)) (.agg #[.int .i64 n, .int .i64 s]) true).run Try.prog w = .ok (.tuple #[.agg #[.int .i64 (pS M n s), .int .i64 (pN M n s)], .bool (inM M n s)]) w := by
  have := h.look pair_keys Try.underlying96 (z := .agg #[.int .i64 0, .int .i64 0]) (fun w => by kernel_rfl) (n, s) true
  simp only [pairV, if_true] at this
  rw [this]
  unfold pS pN inM
  cases Tb.get M (n, s) <;> rfl

theorem field0 (w : World) (u v : Value) : (Instr.field 94 (.agg #[u, v]) 0).run Try.prog w = .ok u w := by kernel_rfl
theorem field1 (w : World) (u v : Value) : (Instr.field 94 (.agg #[u, v]) 1).run Try.prog w = .ok v w := by kernel_rfl
attribute [local go_sem] field0 field1
theorem Court.open {w : World} {c : Value} {ns ss : List (List Int)} {M : PM} (h : Court w c ns ss M) :
    ∃ (b m : Nat) (nv sv : Value), c = .pointer (some ⟨b, 0, none⟩) ∧ b < w.heap.size ∧ w.cell? ⟨b, 0, none⟩ = some nv ∧ w.cell? ⟨b, 1, none⟩ = some sv ∧ w.cell? ⟨b, 2, none⟩ = some (.map (some m)) ∧ Rows2 w nv ns ∧ Rows2 w sv ss ∧ Tb.Tab pairV pairV w m M := by
  obtain ⟨b, m, nv, sv, h1, h2, h3, h4, h5⟩ := h
  exact ⟨b, m, nv, sv, h1, (Array.getElem?_eq_some_iff.1 h2).1, by simp [World.cell?, h2], by simp [World.cell?, h2], by simp [World.cell?, h2], h3, h4, h5⟩

set_option maxHeartbeats 1000000 in
theorem rather_calls (c : Value) (ns ss : List (List Int)) (M : PM) (n s o : Int) (w : World) (hc : Court w c ns ss M) :
    Calls Try.prog 74 #[c, .int .i64 n, .int .i64 s, .int .i64 o] w (Gives (.bool (rthM M n s o)) w) := by
  obtain ⟨b, m, nv, sv, rfl, hb, c0, c1, c2, hrn, hrs, hT⟩ := hc.open
  have hlk : ∀ (x : Later w) (a e : Int), (Instr.lookup 96 (.map (some m)) (.agg #[.int .i64 a, .int .i64 e]) false).run Try.prog x.w = .ok (.agg #[.int .i64 (pS M a e), .int .i64 (pN M a e)]) x.w := fun x a e => look_court (hT.later x) a e
  by_cases h1 : s < 0 ∨ o < 0
  · have hv := Lib.hid (show rthM M n s o = decide (0 ≤ s) by simp only [rthM, if_pos h1])
    go_enter Try.func74, Try.ntmps74
    rcases h1 with h1 | h1
    · go_wp2
      go_ret
      exact ⟨ret_bool hv.out.symm, Later.self _, rfl⟩
    · by_cases h2 : s < 0
      all_goals
        go_wp2
        go_ret
        exact ⟨ret_bool (by first | exact hv.out.symm | (rw [hv.out]; simp; done) | (rw [hv.out]; simp; omega)), Later.self _, rfl⟩
  · have hv := Lib.hid (show rthM M n s o = decide (pS M n s < pS M n o) by simp only [rthM, if_neg h1])
    have h2 : 0 ≤ s := by omega
    have h3 : 0 ≤ o := by omega
    clear h1
    go_enter Try.func74, Try.ntmps74
    go_wp2
    refine Mix.region_mixL (Mix.kinds [] [] []) (by kernel_rfl) (by kernel_rfl) ?_
    repeat ((with_reducible refine Mix.atCons ?_); first | refine Mix.skipU (by rfl) rfl (by rfl) ?_ | (refine Mix.val rfl rfl (by rfl) (fun K hK => ?_); go_big_quiet_op; refine hK _ ?_; clear hK K))
    refine Mix.done (fun x => ?_)
    go_wp2
    go_ret
    exact ⟨ret_bool hv.out.symm, x, rfl⟩

set_option maxHeartbeats 1000000 in
theorem wins_calls (c : Value) (ns ss : List (List Int)) (M : PM) (s n o : Int) (w : World) (hc : Court w c ns ss M) :
    Calls Try.prog 82 #[c, .int .i64 s, .int .i64 n, .int .i64 o] w (Gives (.bool (winM M s n o)) w) := by
  obtain ⟨b, m, nv, sv, rfl, hb, c0, c1, c2, hrn, hrs, hT⟩ := hc.open
  have hlk : ∀ (x : Later w) (a e : Int), (Instr.lookup 96 (.map (some m)) (.agg #[.int .i64 a, .int .i64 e]) false).run Try.prog x.w = .ok (.agg #[.int .i64 (pS M a e), .int .i64 (pN M a e)]) x.w := fun x a e => look_court (hT.later x) a e
  cases h1 : decide (o < 0)
  · have hv := Lib.hid (show winM M s n o = decide (pN M n s < pN M o s) by simp only [winM, h1, Bool.false_or])
    go_enter Try.func82, Try.ntmps82
    go_wp2
    refine Mix.region_mixL (Mix.kinds [] [] []) (by kernel_rfl) (by kernel_rfl) ?_
    repeat ((with_reducible refine Mix.atCons ?_); first | refine Mix.skipU (by rfl) rfl (by rfl) ?_ | (refine Mix.val rfl rfl (by rfl) (fun K hK => ?_); go_big_quiet_op; refine hK _ ?_; clear hK K) | simp only [h1])
    refine Mix.done (fun x => ?_)
    go_wp2
    go_ret
    exact ⟨ret_bool hv.out.symm, x, rfl⟩
  · have hv := Lib.hid (show winM M s n o = true by simp only [winM, h1, Bool.true_or])
    go_enter Try.func82, Try.ntmps82
    go_wp2
    refine Mix.region_mixL (Mix.kinds [] [] []) (by kernel_rfl) (by kernel_rfl) ?_
    repeat ((with_reducible refine Mix.atCons ?_); first | refine Mix.skipU (by rfl) rfl (by rfl) ?_ | (refine Mix.val rfl rfl (by rfl) (fun K hK => ?_); go_big_quiet_op; refine hK _ ?_; clear hK K) | simp only [h1])
    refine Mix.done (fun x => ?_)
    go_wp2
    go_ret
    exact ⟨ret_bool hv.out.symm, x, rfl⟩
end Go.Proofs.Ytieaibebnkdmhaa
