import Derived.Test.YtieaibebnkdmhaaRefB
namespace Go.Proofs.Ytieaibebnkdmhaa
open Go.RowKit

theorem twp_nodup (l : List Int) : twp l = false ↔ l.Nodup := by
  rw [← twc_nodup]
  constructor
  · intro h
    rw [twc_nodup, List.nodup_iff_pairwise_ne, List.pairwise_iff_getElem]
    intro i j hi hj hij e
    rw [twp, List.any_eq_false] at h
    have h1 := h i (List.mem_range.2 hi)
    have h2 := h j (List.mem_range.2 hj)
    rw [nth_eq hi] at h1
    rw [nth_eq hj] at h2
    rw [e] at h1
    simp at h1 h2
    omega
  · intro h
    rw [twc_nodup] at h
    rw [twp, List.any_eq_false]
    intro j hj
    rw [plc_nth h (List.mem_range.1 hj)]
    simp
theorem twp_twc (l : List Int) : twp l = twc l := by
  have h1 := twp_nodup l
  have h2 := twc_nodup l
  cases h3 : twp l <;> cases h4 : twc l <;> simp_all
theorem any_twp (l : List (List Int)) : l.any twp = l.any twc := by rw [show twp = twc from funext twp_twc]
theorem vbook_many {ns ss : List (List Int)} (h : ns.length < 1 ∨ 6 < ns.length ∨ ss.length < 1 ∨ 6 < ss.length) : vbook ns ss = 6 := by
  unfold vbook
  rw [if_pos]
  simp only [List.any_cons, List.any_nil, outB, Bool.or_false, Bool.or_eq_true, decide_eq_true_eq]
  omega
theorem vbook_few {ns ss : List (List Int)} (h1 : 1 ≤ ns.length) (h2 : ns.length ≤ 6) (h3 : 1 ≤ ss.length) (h4 : ss.length ≤ 6) :
    vbook ns ss = if ns.any (strayB ss.length) || ss.any (strayB ns.length) then 3 else if ns.any twp || ss.any twp then 11 else 0 := by
  unfold vbook
  rw [if_neg, any_twp, any_twp]
  simp only [List.any_cons, List.any_nil, outB, Bool.or_false, Bool.or_eq_true, decide_eq_true_eq]
  omega
theorem rlis_eq (l : List (List Int)) (b : Int) : rlis l b = if l.any (strayB b) then 3 else 0 := rfl

set_option maxHeartbeats 1000000 in
theorem refCheckBook_calls (nv sv : Value) (ns ss : List (List Int)) (w : World) (hn : Rows2 w nv ns) (hs : Rows2 w sv ss) :
    Calls Try.prog 24 #[.agg #[nv, sv]] w (Gives (.int .i64 (vbook ns ss)) w) := by
  have hln := hn.1
  have hls := hs.1
  obtain ⟨an, cn, rfl⟩ := hn.form
  obtain ⟨aS, cS, rfl⟩ := hs.form
  by_cases hfew : ns.length < 1 ∨ 6 < ns.length ∨ ss.length < 1 ∨ 6 < ss.length
  · have hv := Lib.hid (show vbook ns ss = 6 from vbook_many hfew)
    go_enter Try.func24, Try.ntmps24
    by_cases h1 : ns.length < 1
    · go_wp2
      go_ret
      exact ⟨ret_int hv.out.symm, Later.new _ _, rfl⟩
    by_cases h2 : 6 < ns.length
    · go_wp2
      go_ret
      exact ⟨ret_int hv.out.symm, Later.new _ _, rfl⟩
    by_cases h3 : ss.length < 1
    · go_wp2
      go_ret
      exact ⟨ret_int hv.out.symm, Later.new _ _, rfl⟩
    by_cases h4 : 6 < ss.length
    · go_wp2
      go_ret
      exact ⟨ret_int hv.out.symm, Later.new _ _, rfl⟩
    exfalso; omega
  have h1 : ¬ ns.length < 1 := by omega
  have h2 : ¬ 6 < ns.length := by omega
  have h3 : ¬ ss.length < 1 := by omega
  have h4 : ¬ 6 < ss.length := by omega
  clear hfew
  have hv := Lib.hid (vbook_few (ns := ns) (ss := ss) (by omega) (by omega) (by omega) (by omega))
  cases h5 : ns.any (strayB ss.length)
  rotate_left
  · have hv2 := Lib.hid (show vbook ns ss = 3 by rw [hv.out, h5]; rfl)
    go_enter Try.func24, Try.ntmps24
    go_wp2_with fail
    obtain ⟨B, hB⟩ : ∃ B, B = w.heap.size := ⟨_, rfl⟩
    obtain ⟨z, hz⟩ : ∃ z : Later w, z.w = w.alloc (.cells #[.slice an ns.length cn, .slice aS ss.length cS] 24) := ⟨Later.new _ _, rfl⟩
    have c0 : z.w.cell? ⟨B, 0, none⟩ = some (.slice an ns.length cn) := by rw [hz, hB]; simp [go_sem]
    have c1 : z.w.cell? ⟨B, 1, none⟩ = some (.slice aS ss.length cS) := by rw [hz, hB]; simp [go_sem]
    have hBz : B < z.w.heap.size := by rw [hz, hB]; simp [go_sem]
    have HZ : Hid (z.w.heap.size = B + 1) := Lib.hid (by rw [hz, hB]; simp)
    rw [← hz, ← hB]
    replace hn := hn.later z
    replace hs := hs.later z
    clear hz hB
    refine (reflists_calls _ ns ss.length _ hn).mono ?_
    rintro e w' ⟨rfl, rfl⟩
    rw [show rlis ns ss.length = 3 from by rw [rlis_eq, h5]; rfl]
    go_wp2
    go_ret
    exact ⟨ret_int hv2.out.symm, z, rfl⟩
  cases h6 : ss.any (strayB ns.length)
  rotate_left
  · have hv2 := Lib.hid (show vbook ns ss = 3 by rw [hv.out, h5, h6]; rfl)
    go_enter Try.func24, Try.ntmps24
    go_wp2_with fail
    obtain ⟨B, hB⟩ : ∃ B, B = w.heap.size := ⟨_, rfl⟩
    obtain ⟨z, hz⟩ : ∃ z : Later w, z.w = w.alloc (.cells #[.slice an ns.length cn, .slice aS ss.length cS] 24) := ⟨Later.new _ _, rfl⟩
    have c0 : z.w.cell? ⟨B, 0, none⟩ = some (.slice an ns.length cn) := by rw [hz, hB]; simp [go_sem]
    have c1 : z.w.cell? ⟨B, 1, none⟩ = some (.slice aS ss.length cS) := by rw [hz, hB]; simp [go_sem]
    have hBz : B < z.w.heap.size := by rw [hz, hB]; simp [go_sem]
    have HZ : Hid (z.w.heap.size = B + 1) := Lib.hid (by rw [hz, hB]; simp)
    rw [← hz, ← hB]
    replace hn := hn.later z
    replace hs := hs.later z
    clear hz hB
    refine (reflists_calls _ ns ss.length _ hn).mono ?_
    rintro e w' ⟨rfl, rfl⟩
    rw [show rlis ns ss.length = 0 from by rw [rlis_eq, h5]; rfl]
    go_wp2_with fail
    refine (reflists_calls _ ss ns.length _ hs).mono ?_
    rintro e w' ⟨rfl, rfl⟩
    rw [show rlis ss ns.length = 3 from by rw [rlis_eq, h6]; rfl]
    go_wp2
    go_ret
    exact ⟨ret_int hv2.out.symm, z, rfl⟩
  cases h7 : ns.any twp
  rotate_left
  · have hv2 := Lib.hid (show vbook ns ss = 11 by rw [hv.out, h5, h6, h7]; rfl)
    go_enter Try.func24, Try.ntmps24
    go_wp2_with fail
    obtain ⟨B, hB⟩ : ∃ B, B = w.heap.size := ⟨_, rfl⟩
    obtain ⟨z, hz⟩ : ∃ z : Later w, z.w = w.alloc (.cells #[.slice an ns.length cn, .slice aS ss.length cS] 24) := ⟨Later.new _ _, rfl⟩
    have c0 : z.w.cell? ⟨B, 0, none⟩ = some (.slice an ns.length cn) := by rw [hz, hB]; simp [go_sem]
    have c1 : z.w.cell? ⟨B, 1, none⟩ = some (.slice aS ss.length cS) := by rw [hz, hB]; simp [go_sem]
    have hBz : B < z.w.heap.size := by rw [hz, hB]; simp [go_sem]
    have HZ : Hid (z.w.heap.size = B + 1) := Lib.hid (by rw [hz, hB]; simp)
    rw [← hz, ← hB]
    replace hn := hn.later z
    replace hs := hs.later z
    clear hz hB
    refine (reflists_calls _ ns ss.length _ hn).mono ?_
    rintro e w' ⟨rfl, rfl⟩
    rw [show rlis ns ss.length = 0 from by rw [rlis_eq, h5]; rfl]
    go_wp2_with fail
    refine (reflists_calls _ ss ns.length _ hs).mono ?_
    rintro e w' ⟨rfl, rfl⟩
    rw [show rlis ss ns.length = 0 from by rw [rlis_eq, h6]; rfl]
    go_wp2_with fail
    refine (reftwice_calls _ ns _ hn).mono ?_
    rintro e w' ⟨rfl, x7, rfl⟩
    simp only [h7]
    go_wp2
    go_ret
    exact ⟨ret_int hv2.out.symm, (z.step x7), rfl⟩
  cases h8 : ss.any twp
  rotate_left
  · have hv2 := Lib.hid (show vbook ns ss = 11 by rw [hv.out, h5, h6, h7, h8]; rfl)
    go_enter Try.func24, Try.ntmps24
    go_wp2_with fail
    obtain ⟨B, hB⟩ : ∃ B, B = w.heap.size := ⟨_, rfl⟩
    obtain ⟨z, hz⟩ : ∃ z : Later w, z.w = w.alloc (.cells #[.slice an ns.length cn, .slice aS ss.length cS] 24) := ⟨Later.new _ _, rfl⟩
    have c0 : z.w.cell? ⟨B, 0, none⟩ = some (.slice an ns.length cn) := by rw [hz, hB]; simp [go_sem]
    have c1 : z.w.cell? ⟨B, 1, none⟩ = some (.slice aS ss.length cS) := by rw [hz, hB]; simp [go_sem]
    have hBz : B < z.w.heap.size := by rw [hz, hB]; simp [go_sem]
    have HZ : Hid (z.w.heap.size = B + 1) := Lib.hid (by rw [hz, hB]; simp)
    rw [← hz, ← hB]
    replace hn := hn.later z
    replace hs := hs.later z
    clear hz hB
    refine (reflists_calls _ ns ss.length _ hn).mono ?_
    rintro e w' ⟨rfl, rfl⟩
    rw [show rlis ns ss.length = 0 from by rw [rlis_eq, h5]; rfl]
    go_wp2_with fail
    refine (reflists_calls _ ss ns.length _ hs).mono ?_
    rintro e w' ⟨rfl, rfl⟩
    rw [show rlis ss ns.length = 0 from by rw [rlis_eq, h6]; rfl]
    go_wp2_with fail
    refine (reftwice_calls _ ns _ hn).mono ?_
    rintro e w' ⟨rfl, x7, rfl⟩
    simp only [h7]
    go_wp2_with fail
    refine (reftwice_calls _ ss _ (hs.later x7)).mono ?_
    rintro e w' ⟨rfl, x8, rfl⟩
    simp only [h8]
    go_wp2
    go_ret
    exact ⟨ret_int hv2.out.symm, ((z.step x7).step x8), rfl⟩
  have hv2 := Lib.hid (show vbook ns ss = 0 by rw [hv.out, h5, h6, h7, h8]; rfl)
  go_enter Try.func24, Try.ntmps24
  go_wp2_with fail
  obtain ⟨B, hB⟩ : ∃ B, B = w.heap.size := ⟨_, rfl⟩
  obtain ⟨z, hz⟩ : ∃ z : Later w, z.w = w.alloc (.cells #[.slice an ns.length cn, .slice aS ss.length cS] 24) := ⟨Later.new _ _, rfl⟩
  have c0 : z.w.cell? ⟨B, 0, none⟩ = some (.slice an ns.length cn) := by rw [hz, hB]; simp [go_sem]
  have c1 : z.w.cell? ⟨B, 1, none⟩ = some (.slice aS ss.length cS) := by rw [hz, hB]; simp [go_sem]
  have hBz : B < z.w.heap.size := by rw [hz, hB]; simp [go_sem]
  have HZ : Hid (z.w.heap.size = B + 1) := Lib.hid (by rw [hz, hB]; simp)
  rw [← hz, ← hB]
  replace hn := hn.later z
  replace hs := hs.later z
  clear hz hB
  refine (reflists_calls _ ns ss.length _ hn).mono ?_
  rintro e w' ⟨rfl, rfl⟩
  rw [show rlis ns ss.length = 0 from by rw [rlis_eq, h5]; rfl]
  go_wp2_with fail
  refine (reflists_calls _ ss ns.length _ hs).mono ?_
  rintro e w' ⟨rfl, rfl⟩
  rw [show rlis ss ns.length = 0 from by rw [rlis_eq, h6]; rfl]
  go_wp2_with fail
  refine (reftwice_calls _ ns _ hn).mono ?_
  rintro e w' ⟨rfl, x7, rfl⟩
  simp only [h7]
  go_wp2_with fail
  refine (reftwice_calls _ ss _ (hs.later x7)).mono ?_
  rintro e w' ⟨rfl, x8, rfl⟩
  simp only [h8]
  go_wp2
  go_ret
  exact ⟨ret_int hv2.out.symm, ((z.step x7).step x8), rfl⟩
end Go.Proofs.Ytieaibebnkdmhaa
