import Derived.Test.YtieaibebnkdmhaaRefH
namespace Go.Proofs.Ytieaibebnkdmhaa
open Go.RowKit

def rBW (ns ss : List (List Int)) (m l : List Int) (worse : Bool) : List Int := if vsett ns ss m l = 0 then putL ns m l worse m.length else []
theorem vsett_mats {ns ss : List (List Int)} {m l : List Int} (h : vsett ns ss m l = 0) : vbook ns ss = 0 ∧ Mat ns ss m ∧ Mat ns ss l ∧ fstU ns ss m = none ∧ fstU ns ss l = none := by
  rw [vsett_eq] at h
  by_cases h1 : vmatch ns ss m = 0
  rotate_left
  · rw [if_pos h1] at h; exact absurd h h1
  by_cases h2 : vmatch ns ss l = 0
  rotate_left
  · rw [if_neg (by simp [h1]), if_pos h2] at h; exact absurd h h2
  rw [if_neg (by simp [h1]), if_neg (by simp [h2])] at h
  obtain ⟨a, b⟩ := vmatch_zero.1 h1
  obtain ⟨_, c⟩ := vmatch_zero.1 h2
  refine ⟨a, b, c, ?_⟩
  cases e1 : fstU ns ss m <;> cases e2 : fstU ns ss l <;> simp [e1, e2] at h ⊢
set_option maxRecDepth 100000 in
set_option maxHeartbeats 1000000 in
theorem refBetter_calls (nv sv mv lv : Value) (ns ss : List (List Int)) (m l : List Int) (w : World) (hn : Rows2 w nv ns) (hs : Rows2 w sv ss) (hm : Ints w mv m) (hl : Ints w lv l) :
    Calls Try.prog 36 #[.agg #[nv, sv], mv, lv] w (GivesL (rBW ns ss m l false) (vsett ns ss m l) w) := by
  obtain ⟨an, cn, rfl⟩ := hn.form
  obtain ⟨aS, cS, rfl⟩ := hs.form
  by_cases hv : vsett ns ss m l = 0
  rotate_left
  · have hr := Lib.hid (show rBW ns ss m l false = [] by rw [rBW, if_neg hv])
    have hbb : (vsett ns ss m l != 0) = true := by simpa using hv
    clear hv
    go_enter Try.func36, Try.ntmps36
    go_wp2_with fail
    obtain ⟨B, hB⟩ : ∃ B, B = w.heap.size := ⟨_, rfl⟩
    obtain ⟨z, hz⟩ : ∃ z : Later w, z.w = w.alloc (.cells #[.slice an ns.length cn, .slice aS ss.length cS] 24) := ⟨Later.new _ _, rfl⟩
    have c0 : z.w.cell? ⟨B, 0, none⟩ = some (.slice an ns.length cn) := by rw [hz, hB]; simp [go_sem]
    have c1 : z.w.cell? ⟨B, 1, none⟩ = some (.slice aS ss.length cS) := by rw [hz, hB]; simp [go_sem]
    have hBz : B < z.w.heap.size := by rw [hz, hB]; simp [go_sem]
    have HZ : Hid (z.w.heap.size = B + 1) := Lib.hid (by rw [hz, hB]; simp)
    rw [← hz, ← hB]
    replace hn := hn.later z
    replace hs := hs.later z
    replace hm := hm.later z
    replace hl := hl.later z
    clear hz hB
    refine (Settled_calls _ _ _ _ ns ss m l _ hn hs hm hl).mono ?_
    rintro e w' ⟨rfl, x, rfl⟩
    go_wp2_with fail
    refine (Settled_calls _ _ _ _ ns ss m l _ (hn.later x) (hs.later x) (hm.later x) (hl.later x)).mono ?_
    rintro e w' ⟨rfl, y, rfl⟩
    go_wp2
    go_ret2
    exact ⟨_, (z.step x).step y, ret_two rfl, rfl, by rw [hr.out]; exact Ints.nil none 0⟩
  · have hr := Lib.hid (show rBW ns ss m l false = putL ns m l false m.length by rw [rBW, if_pos hv])
    obtain ⟨h0, hM, hL, _⟩ := vsett_mats hv
    have hb := vbook_valid h0
    have l1 := Lib.hid hM.len
    have l2 := Lib.hid hL.len
    have l3 := hb.2.1
    have hv' := Lib.hid hv
    clear hv hM hL hb h0
    go_enter Try.func36, Try.ntmps36
    go_wp2_with fail
    obtain ⟨B, hB⟩ : ∃ B, B = w.heap.size := ⟨_, rfl⟩
    obtain ⟨z, hz⟩ : ∃ z : Later w, z.w = w.alloc (.cells #[.slice an ns.length cn, .slice aS ss.length cS] 24) := ⟨Later.new _ _, rfl⟩
    have c0 : z.w.cell? ⟨B, 0, none⟩ = some (.slice an ns.length cn) := by rw [hz, hB]; simp [go_sem]
    have c1 : z.w.cell? ⟨B, 1, none⟩ = some (.slice aS ss.length cS) := by rw [hz, hB]; simp [go_sem]
    have hBz : B < z.w.heap.size := by rw [hz, hB]; simp [go_sem]
    have HZ : Hid (z.w.heap.size = B + 1) := Lib.hid (by rw [hz, hB]; simp)
    rw [← hz, ← hB]
    replace hn := hn.later z
    replace hs := hs.later z
    replace hm := hm.later z
    replace hl := hl.later z
    clear hz hB
    refine (Settled_calls _ _ _ _ ns ss m l _ hn hs hm hl).mono ?_
    rintro e w' ⟨rfl, x, rfl⟩
    rw [hv'.out]
    go_wp2_with fail
    refine (put_calls _ _ _ _ ns ss m l false _ (hn.later x) (hs.later x) (hm.later x) (hl.later x) l1.out l2.out l3).mono ?_
    rintro e w' ⟨v, y, rfl, rfl, hi⟩
    go_wp2
    go_ret2
    exact ⟨v, (z.step x).step y, ret_two hv'.out.symm, rfl, by rw [hr.out]; exact hi⟩

set_option maxRecDepth 100000 in
set_option maxHeartbeats 1000000 in
theorem refWorse_calls (nv sv mv lv : Value) (ns ss : List (List Int)) (m l : List Int) (w : World) (hn : Rows2 w nv ns) (hs : Rows2 w sv ss) (hm : Ints w mv m) (hl : Ints w lv l) :
    Calls Try.prog 38 #[.agg #[nv, sv], mv, lv] w (GivesL (rBW ns ss m l true) (vsett ns ss m l) w) := by
  obtain ⟨an, cn, rfl⟩ := hn.form
  obtain ⟨aS, cS, rfl⟩ := hs.form
  by_cases hv : vsett ns ss m l = 0
  rotate_left
  · have hr := Lib.hid (show rBW ns ss m l true = [] by rw [rBW, if_neg hv])
    have hbb : (vsett ns ss m l != 0) = true := by simpa using hv
    clear hv
    go_enter Try.func38, Try.ntmps38
    go_wp2_with fail
    obtain ⟨B, hB⟩ : ∃ B, B = w.heap.size := ⟨_, rfl⟩
    obtain ⟨z, hz⟩ : ∃ z : Later w, z.w = w.alloc (.cells #[.slice an ns.length cn, .slice aS ss.length cS] 24) := ⟨Later.new _ _, rfl⟩
    have c0 : z.w.cell? ⟨B, 0, none⟩ = some (.slice an ns.length cn) := by rw [hz, hB]; simp [go_sem]
    have c1 : z.w.cell? ⟨B, 1, none⟩ = some (.slice aS ss.length cS) := by rw [hz, hB]; simp [go_sem]
    have hBz : B < z.w.heap.size := by rw [hz, hB]; simp [go_sem]
    have HZ : Hid (z.w.heap.size = B + 1) := Lib.hid (by rw [hz, hB]; simp)
    rw [← hz, ← hB]
    replace hn := hn.later z
    replace hs := hs.later z
    replace hm := hm.later z
    replace hl := hl.later z
    clear hz hB
    refine (Settled_calls _ _ _ _ ns ss m l _ hn hs hm hl).mono ?_
    rintro e w' ⟨rfl, x, rfl⟩
    go_wp2_with fail
    refine (Settled_calls _ _ _ _ ns ss m l _ (hn.later x) (hs.later x) (hm.later x) (hl.later x)).mono ?_
    rintro e w' ⟨rfl, y, rfl⟩
    go_wp2
    go_ret2
    exact ⟨_, (z.step x).step y, ret_two rfl, rfl, by rw [hr.out]; exact Ints.nil none 0⟩
  · have hr := Lib.hid (show rBW ns ss m l true = putL ns m l true m.length by rw [rBW, if_pos hv])
    obtain ⟨h0, hM, hL, _⟩ := vsett_mats hv
    have hb := vbook_valid h0
    have l1 := Lib.hid hM.len
    have l2 := Lib.hid hL.len
    have l3 := hb.2.1
    have hv' := Lib.hid hv
    clear hv hM hL hb h0
    go_enter Try.func38, Try.ntmps38
    go_wp2_with fail
    obtain ⟨B, hB⟩ : ∃ B, B = w.heap.size := ⟨_, rfl⟩
    obtain ⟨z, hz⟩ : ∃ z : Later w, z.w = w.alloc (.cells #[.slice an ns.length cn, .slice aS ss.length cS] 24) := ⟨Later.new _ _, rfl⟩
    have c0 : z.w.cell? ⟨B, 0, none⟩ = some (.slice an ns.length cn) := by rw [hz, hB]; simp [go_sem]
    have c1 : z.w.cell? ⟨B, 1, none⟩ = some (.slice aS ss.length cS) := by rw [hz, hB]; simp [go_sem]
    have hBz : B < z.w.heap.size := by rw [hz, hB]; simp [go_sem]
    have HZ : Hid (z.w.heap.size = B + 1) := Lib.hid (by rw [hz, hB]; simp)
    rw [← hz, ← hB]
    replace hn := hn.later z
    replace hs := hs.later z
    replace hm := hm.later z
    replace hl := hl.later z
    clear hz hB
    refine (Settled_calls _ _ _ _ ns ss m l _ hn hs hm hl).mono ?_
    rintro e w' ⟨rfl, x, rfl⟩
    rw [hv'.out]
    go_wp2_with fail
    refine (put_calls _ _ _ _ ns ss m l true _ (hn.later x) (hs.later x) (hm.later x) (hl.later x) l1.out l2.out l3).mono ?_
    rintro e w' ⟨v, y, rfl, rfl, hi⟩
    go_wp2
    go_ret2
    exact ⟨v, (z.step x).step y, ret_two hv'.out.symm, rfl, by rw [hr.out]; exact hi⟩

end Go.Proofs.Ytieaibebnkdmhaa
