import Derived.Test.YtieaibebnkdmhaaPairs

namespace Go.Proofs.Ytieaibebnkdmhaa
open Go.RowKit

set_option maxHeartbeats 1000000 in
theorem unsettles_calls (c : Value) (ns ss : List (List Int)) (M : PM) (n : Nat) (s : Int) (mv : Value) (m : List Int) (w : World) (hc : Court w c ns ss M) (hm : Ints w mv m) (h1 : n < m.length) :
    Calls Try.prog 57 #[c, .agg #[.int .i64 n, .int .i64 s], mv] w (Gives (.bool (unsM M m n s)) w) := by
  have hv := Lib.hid (show unsM M m n s = (rthM M n s (nth m n) && winM M s n (idxF (isN s) m 0)) by simp only [unsM, Int.toNat_natCast])
  have hl3 := hm.1
  have hm0 := hm
  obtain ⟨bm, om, cm, rfl, hpm, hbm, hcm⟩ := hm.at h1
  have hcm := hcm n h1
  go_enter Try.func57, Try.ntmps57
  go_wp2_with fail
  refine region_later_lit (by kernel_rfl) (by kernel_rfl) ?_
  cases hr : rthM M n s (nth m n)
  all_goals
    repeat (first | simp only [hr] | go_big_quiet_step (first
      | (go_at_call 74; refine Later.quiet _ (rather_calls c ns ss M n s (nth m n) _ ?_); exact (hc.later (Later.new _ _)).later _)
      | (go_at_call 82; refine Later.quiet _ (wins_calls c ns ss M s n _ _ ?_); exact (hc.later (Later.new _ _)).later _)
      | (go_at_call 69; refine Later.quiet_same _ (Index_calls _ m s _ ?_); exact (hm0.later (Later.new _ _)).later _)))
    refine wpQuiet_nil ?_
    intro x
    go_wp2
    go_ret
  · exact ⟨ret_bool (by rw [hv.out, hr]; rfl), (Later.new _ _).step x, rfl⟩
  · exact ⟨ret_bool (by rw [hv.out, hr]; rfl), (Later.new _ _).step x, rfl⟩

theorem mkPairs_calls (a : Option Addr) (w : World) :
    Calls Try.prog 56 #[.pointer a] w fun e w' => e = .returned (.func (.func 81) #[] #[.pointer (some ⟨w.heap.size, 0, none⟩)]) ∧ w' = w.alloc (.cells #[.pointer a] 67) := by
  go_enter Try.func56, Try.ntmps56
  go_wp2
  go_ret
  exact ⟨rfl, rfl⟩

/-- What open hands back: the court, or the error. -/
def Opened (nv sv : Value) (ns ss : List (List Int)) (w : World) (e : Ending) (w' : World) : Prop :=
  ∃ a : Option Addr, ∃ x : Later w, e = .returned (.tuple #[.pointer a, .int .i64 (vbook ns ss)]) ∧ w' = x.w ∧ (vbook ns ss = 0 → CourtN w.heap.size x.w (.pointer a) nv sv (tabOf ns ss))

set_option maxHeartbeats 1000000 in
theorem open_calls (nv sv : Value) (ns ss : List (List Int)) (w : World) (hn : Rows2 w nv ns) (hs : Rows2 w sv ss) :
    Calls Try.prog 65 #[.agg #[nv, sv]] w (Opened nv sv ns ss w) := by
  obtain ⟨an, cn, rfl⟩ := hn.form
  obtain ⟨aS, cS, rfl⟩ := hs.form
  have hn0 := hn.later (Later.new _ (.cells #[.slice an ns.length cn, .slice aS ss.length cS] 24))
  have hs0 := hs.later (Later.new _ (.cells #[.slice an ns.length cn, .slice aS ss.length cS] 24))
  by_cases h0 : vbook ns ss = 0
  · have hv := Lib.hid h0
    clear h0
    go_enter Try.func65, Try.ntmps65
    go_wp2_with fail
    refine (CheckBook_calls _ _ ns ss _ hn0 hs0).mono ?_
    rintro e w' ⟨rfl, x, rfl⟩
    rw [hv.out]
    go_wp2_with fail
    refine (newCourt_calls _ _ ns ss _ (hn0.later x) (hs0.later x)).mono ?_
    rintro e w' ⟨c, y, rfl, rfl, hC⟩
    have hsx : w.heap.size ≤ x.w.heap.size := Nat.le_trans (Later.new _ _).size x.size
    replace hC := hC.mono hsx
    obtain ⟨b, mp, rfl, _⟩ := id hC
    go_wp2
    go_ret2
    exact ⟨_, ((Later.new _ _).step x).step y, ret_two hv.out.symm, rfl, fun _ => hC⟩
  · have hb : (vbook ns ss == 0) = false := by simpa using h0
    have hb2 : (vbook ns ss != 0) = true := by simpa using h0
    go_enter Try.func65, Try.ntmps65
    go_wp2_with (go_at_call 23; refine (CheckBook_calls _ _ ns ss _ hn0 hs0).mono ?_; rintro e w' ⟨rfl, x, rfl⟩)
    go_ret2
    exact ⟨none, (Later.new _ _).step x, rfl, rfl, fun h => absurd h h0⟩
end Go.Proofs.Ytieaibebnkdmhaa
