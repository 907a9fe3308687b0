import Derived.Test.YtieaibebnkdmhaaLaw2
import Derived.Test.YtieaibebnkdmhaaWorks
namespace Go.Proofs.Ytieaibebnkdmhaa
open Go.RowKit

set_option maxRecDepth 100000 in
set_option maxHeartbeats 2000000 in
theorem Books_calls (nv sv mv : Value) (ns ss : List (List Int)) (m : List Int) (w : World) (hn : Rows2 w nv ns) (hs : Rows2 w sv ss) (hm : Ints w mv m) :
    Calls Try.prog 3 #[.agg #[nv, sv], mv] w (Gives (.bool true) w) := by
  have hlm := hm.1
  obtain ⟨an, cn, rfl⟩ := hn.form
  obtain ⟨aS, cS, rfl⟩ := hs.form
  obtain ⟨am, cm, rfl⟩ := hm.form
  go_enter Try.func3, Try.ntmps3
  go_wp2_with fail
  obtain ⟨B, hB⟩ : ∃ B, B = w.heap.size := ⟨_, rfl⟩
  obtain ⟨z, hz⟩ : ∃ z : Later w, z.w = w.alloc (.cells #[.slice an ns.length cn, .slice aS ss.length cS] 24) := ⟨Later.new _ _, rfl⟩
  have c0 : z.w.cell? ⟨B, 0, none⟩ = some (.slice an ns.length cn) := by rw [hz, hB]; simp [go_sem]
  have c1 : z.w.cell? ⟨B, 1, none⟩ = some (.slice aS ss.length cS) := by rw [hz, hB]; simp [go_sem]
  have hBz : B < z.w.heap.size := by rw [hz, hB]; simp [go_sem]
  have HZ : Hid (z.w.heap.size = B + 1) := Lib.hid (by rw [hz, hB]; simp)
  rw [← hz, ← hB]
  replace hn := hn.later z
  replace hs := hs.later z
  replace hm := hm.later z
  clear hz hB
  refine (great_calls _ _ ns ss _ hn hs).mono ?_
  rintro e w' ⟨rfl, x, rfl⟩
  cases hg : manyB ns || manyB ss
  rotate_left
  · go_wp2_with fail
    refine (Works_calls x.w).mono ?_
    rintro e w' ⟨rfl, y, rfl⟩
    go_wp2
    go_ret
    exact ⟨rfl, (z.step x).step y, rfl⟩
  by_cases hbig : 20 < m.length
  · go_wp2_with fail
    refine (Works_calls x.w).mono ?_
    rintro e w' ⟨rfl, y, rfl⟩
    go_wp2
    go_ret
    exact ⟨rfl, (z.step x).step y, rfl⟩
  go_wp2_with fail
  refine (CheckMatching_calls _ _ _ ns ss m _ (hn.later x) (hs.later x) (hm.later x)).mono ?_
  rintro e w' ⟨rfl, y, rfl⟩
  obtain ⟨q, hq⟩ : ∃ q : Later z.w, y.w = q.w := ⟨x.step y, rfl⟩
  rw [hq]
  clear hq y x
  go_wp2_with fail
  refine (refCheckMatching_calls _ _ _ ns ss m _ (hn.later q) (hs.later q) (hm.later q)).mono ?_
  rintro e w' ⟨rfl, y, rfl⟩
  obtain ⟨x, hx⟩ : ∃ q : Later z.w, y.w = q.w := ⟨q.step y, rfl⟩
  rw [hx]
  clear hx y q
  go_wp2_with fail
  refine (Unsettled_calls _ _ _ ns ss m _ (hn.later x) (hs.later x) (hm.later x)).mono ?_
  rintro e w' ⟨rfl, y, rfl⟩
  obtain ⟨q, hq⟩ : ∃ q : Later z.w, y.w = q.w := ⟨x.step y, rfl⟩
  rw [hq]
  clear hq y x
  go_wp2_with fail
  refine (refUnsettled_calls _ _ _ ns ss m _ (hn.later q) (hs.later q) (hm.later q)).mono ?_
  rintro e w' ⟨rfl, y, rfl⟩
  obtain ⟨x, hx⟩ : ∃ q : Later z.w, y.w = q.w := ⟨q.step y, rfl⟩
  rw [hx]
  clear hx y q
  go_wp2
  have gB0 : x.w.cell? ⟨B, 0, none⟩ = some (.slice an ns.length cn) := ((x).cell hBz).trans c0
  have gB1 : x.w.cell? ⟨B, 1, none⟩ = some (.slice aS ss.length cS) := ((x).cell hBz).trans c1
  have sB : B < x.w.heap.size := Nat.lt_of_lt_of_le hBz (x).size
  refine region_later_lit (by kernel_rfl) (by kernel_rfl) ?_
  repeat (first | simp only [beq_self_eq_true] | go_big_quiet_step (first
       | (first | (go_at_call 23; exact Later.quiet _ (CheckBook_calls _ _ ns ss _ ((hn.later x).later _) ((hs.later x).later _))) | (go_at_call 24; exact Later.quiet _ (refCheckBook_calls _ _ ns ss _ ((hn.later x).later _) ((hs.later x).later _))) | (go_at_call 18; exact Later.quiet _ (Works_calls _)))))
  refine wpQuiet_nil ?_
  intro u
  go_wp2
  go_ret
  exact ⟨rfl, (z.step x).step u, rfl⟩
end Go.Proofs.Ytieaibebnkdmhaa
