import Derived.Test.YtieaibebnkdmhaaRefL
namespace Go.Proofs.Ytieaibebnkdmhaa
open Go.RowKit

def manyB (l : List (List Int)) : Bool := decide (10 < l.length) || l.any fun x => decide (12 < x.length)
set_option maxHeartbeats 1000000 in
theorem many_calls (v : Value) (l : List (List Int)) (w : World) (hx : Rows2 w v l) :
    Calls Try.prog 52 #[v] w fun e w' => e = .returned (.bool (manyB l)) ∧ w' = w := by
  have hl := hx.1
  obtain ⟨al, cl, rfl⟩ := hx.form
  by_cases h10 : 10 < l.length
  · have hv := Lib.hid (show manyB l = true by simp [manyB, h10])
    go_enter Try.func52, Try.ntmps52
    go_wp2
    go_ret
    exact ⟨ret_bool hv.out.symm, rfl⟩
  · have hv := Lib.hid (show manyB l = l.any fun x => decide (12 < x.length) by simp [manyB, h10])
    go_enter Try.func52, Try.ntmps52
    go_wp2
    go_loop [3] (fun i => ∃ k : Nat, k ≤ l.length ∧ i = .int .i64 k ∧ Hid (∀ j, j < k → (row l j).length ≤ 12)) (fun i => l.length - (intOf i).toNat)
    case atStart => exact ⟨0, Nat.zero_le _, rfl, fun j hj => absurd hj (Nat.not_lt_zero _)⟩
    case round =>
      obtain ⟨k, hk, rfl, hp⟩ := hrel
      by_cases hlt : k < l.length
      · obtain ⟨b, off, cap, fr, e, hcp, hb, hc⟩ := hx.at hlt
        cases e
        obtain ⟨hc1, hrow⟩ := hc k hlt
        obtain ⟨ar, cr, efr⟩ := hrow.form
        rw [efr] at hc1 hrow
        have hrl := hrow.1
        clear hc
        by_cases hbig : 12 < (row l k).length
        · have hbad := Lib.hid (show manyB l = true by rw [hv.out]; exact anyR_true hlt (by simp [hbig]))
          go_wp2
          go_ret
          exact ⟨ret_bool hbad.out.symm, rfl⟩
        · have hok := Lib.hid (show (row l k).length ≤ 12 by omega)
          go_wp2
          go_round
          case rel =>
            refine ⟨k + 1, by omega, by go_num, fun j hj => ?_⟩
            by_cases e : j = k
            · subst e; exact hok.out
            · exact hp.out j (by omega)
          case measure => simp [intOf]; omega
      · have hok := Lib.hid (show manyB l = false by rw [hv.out]; exact anyR_false fun j hj => by have := hp.out j (by omega); simp; omega)
        go_wp2
        go_ret
        exact ⟨ret_bool hok.out.symm, rfl⟩

set_option maxRecDepth 100000 in
set_option maxHeartbeats 1000000 in
theorem great_calls (nv sv : Value) (ns ss : List (List Int)) (w : World) (hn : Rows2 w nv ns) (hs : Rows2 w sv ss) :
    Calls Try.prog 17 #[.agg #[nv, sv]] w (Gives (.bool (manyB ns || manyB ss)) w) := by
  obtain ⟨an, cn, rfl⟩ := hn.form
  obtain ⟨aS, cS, rfl⟩ := hs.form
  go_enter Try.func17, Try.ntmps17
  go_wp2_with fail
  obtain ⟨B, hB⟩ : ∃ B, B = w.heap.size := ⟨_, rfl⟩
  obtain ⟨z, hz⟩ : ∃ z : Later w, z.w = w.alloc (.cells #[.slice an ns.length cn, .slice aS ss.length cS] 24) := ⟨Later.new _ _, rfl⟩
  have c0 : z.w.cell? ⟨B, 0, none⟩ = some (.slice an ns.length cn) := by rw [hz, hB]; simp [go_sem]
  have c1 : z.w.cell? ⟨B, 1, none⟩ = some (.slice aS ss.length cS) := by rw [hz, hB]; simp [go_sem]
  have hBz : B < z.w.heap.size := by rw [hz, hB]; simp [go_sem]
  have HZ : Hid (z.w.heap.size = B + 1) := Lib.hid (by rw [hz, hB]; simp)
  rw [← hz, ← hB]
  replace hn := hn.later z
  replace hs := hs.later z
  clear hz hB
  refine (many_calls _ ns _ hn).mono ?_
  rintro e w' ⟨rfl, rfl⟩
  cases h1 : manyB ns
  · go_wp2_with fail
    refine (many_calls _ ss _ hs).mono ?_
    rintro e w' ⟨rfl, rfl⟩
    go_wp2
    go_ret
    exact ⟨ret_bool (by rw [h1]; rfl), z, rfl⟩
  · go_wp2
    go_ret
    exact ⟨ret_bool (by rw [h1]; rfl), z, rfl⟩
end Go.Proofs.Ytieaibebnkdmhaa
