import Derived.Test.YtieaibebnkdmhaaLaw2
import Derived.Test.YtieaibebnkdmhaaTh4
import Derived.Test.YtieaibebnkdmhaaWorks
namespace Go.Proofs.Ytieaibebnkdmhaa
open Go.RowKit

theorem eqI_self (x : List Int) : eqI x x = true := (eqI_iff x x).2 rfl
theorem eqL_self (x : List (List Int)) : eqL x x = true := (eqL_iff x x).2 rfl
set_option maxRecDepth 100000 in
set_option maxHeartbeats 4000000 in
theorem Bests_calls (nv sv : Value) (ns ss : List (List Int))  (w : World) (hn : Rows2 w nv ns) (hs : Rows2 w sv ss)  :
    Calls Try.prog 4 #[.agg #[nv, sv]] w (Gives (.bool true) w) := by
  obtain ⟨an, cn, rfl⟩ := hn.form
  obtain ⟨aS, cS, rfl⟩ := hs.form
  go_enter Try.func4, Try.ntmps4
  go_wp2_with fail
  obtain ⟨B, hB⟩ : ∃ B, B = w.heap.size := ⟨_, rfl⟩
  obtain ⟨z, hz⟩ : ∃ z : Later w, z.w = w.alloc (.cells #[.slice an ns.length cn, .slice aS ss.length cS] 24) := ⟨Later.new _ _, rfl⟩
  have c0 : z.w.cell? ⟨B, 0, none⟩ = some (.slice an ns.length cn) := by rw [hz, hB]; simp [go_sem]
  have c1 : z.w.cell? ⟨B, 1, none⟩ = some (.slice aS ss.length cS) := by rw [hz, hB]; simp [go_sem]
  have hBz : B < z.w.heap.size := by rw [hz, hB]; simp [go_sem]
  have HZ : Hid (z.w.heap.size = B + 1) := Lib.hid (by rw [hz, hB]; simp)
  rw [← hz, ← hB]
  replace hn := hn.later z
  replace hs := hs.later z
  clear hz hB
  refine (great_calls _ _ ns ss _ hn hs).mono ?_
  rintro e w' ⟨rfl, x, rfl⟩
  cases hg : manyB ns || manyB ss
  rotate_left
  · go_wp2_with fail
    refine (Works_calls x.w).mono ?_
    rintro e w' ⟨rfl, y, rfl⟩
    go_wp2
    go_ret
    exact ⟨rfl, (z.step x).step y, rfl⟩
  go_wp2_with fail
  have h := First_calls _ _ ns ss x.w (hn.later x) (hs.later x)
  rw [FirstR_eq] at h
  refine h.mono ?_
  clear h
  rintro e w' ⟨v_f, y, rfl, rfl, f⟩
  obtain ⟨q, hq⟩ : ∃ q : Later z.w, y.w = q.w := ⟨x.step y, rfl⟩
  rw [hq] at f ⊢
  clear hq y x
  obtain ⟨a_f, n_f, c_f, rfl⟩ : ∃ a n c, v_f = .slice a n c := by obtain ⟨a, c, e⟩ := f.form; exact ⟨a, _, c, e⟩
  go_wp2_with fail
  have h := refFirst_calls _ _ ns ss q.w (hn.later q) (hs.later q)
  refine h.mono ?_
  clear h
  rintro e w' ⟨v_g, y, rfl, rfl, g⟩
  replace f := f.later y
  obtain ⟨x, hq⟩ : ∃ q : Later z.w, y.w = q.w := ⟨q.step y, rfl⟩
  rw [hq] at f g ⊢
  clear hq y q
  obtain ⟨a_g, n_g, c_g, rfl⟩ : ∃ a n c, v_g = .slice a n c := by obtain ⟨a, c, e⟩ := g.form; exact ⟨a, _, c, e⟩
  go_wp2_with fail
  have h := Last_calls _ _ ns ss x.w (hn.later x) (hs.later x)
  rw [LastR_eq] at h
  refine h.mono ?_
  clear h
  rintro e w' ⟨v_l, y, rfl, rfl, l⟩
  replace f := f.later y
  replace g := g.later y
  obtain ⟨q, hq⟩ : ∃ q : Later z.w, y.w = q.w := ⟨x.step y, rfl⟩
  rw [hq] at f g l ⊢
  clear hq y x
  obtain ⟨a_l, n_l, c_l, rfl⟩ : ∃ a n c, v_l = .slice a n c := by obtain ⟨a, c, e⟩ := l.form; exact ⟨a, _, c, e⟩
  go_wp2_with fail
  have h := refLast_calls _ _ ns ss q.w (hn.later q) (hs.later q)
  refine h.mono ?_
  clear h
  rintro e w' ⟨v_m, y, rfl, rfl, m⟩
  replace f := f.later y
  replace g := g.later y
  replace l := l.later y
  obtain ⟨x, hq⟩ : ∃ q : Later z.w, y.w = q.w := ⟨q.step y, rfl⟩
  rw [hq] at f g l m ⊢
  clear hq y q
  obtain ⟨a_m, n_m, c_m, rfl⟩ : ∃ a n c, v_m = .slice a n c := by obtain ⟨a, c, e⟩ := m.form; exact ⟨a, _, c, e⟩
  have hc1 := Ints_calls _ _ _ _ x.w f g
  rw [eqI_self] at hc1
  have HC1 := Lib.hid hc1
  clear hc1
  go_wp2_with fail
  refine HC1.out.mono ?_
  rintro e w' ⟨rfl, y1, rfl⟩
  go_wp2_with fail
  have hc2 := Ints_calls _ _ _ _ y1.w (l.later y1) (m.later y1)
  rw [eqI_self] at hc2
  refine hc2.mono ?_
  clear hc2
  rintro e w' ⟨rfl, y2, rfl⟩
  go_wp2_with fail
  refine (Works_calls _).mono ?_
  rintro e w' ⟨rfl, y3, rfl⟩
  go_wp2
  go_ret
  exact ⟨rfl, (((z.step x).step y1).step y2).step y3, rfl⟩
set_option maxRecDepth 100000 in
set_option maxHeartbeats 4000000 in
theorem Puts_calls (nv sv : Value) (ns ss : List (List Int)) (mv lv : Value) (m l : List Int) (w : World) (hn : Rows2 w nv ns) (hs : Rows2 w sv ss) (hm : Ints w mv m) (hl : Ints w lv l) :
    Calls Try.prog 6 #[.agg #[nv, sv], mv, lv] w (Gives (.bool true) w) := by
  obtain ⟨an, cn, rfl⟩ := hn.form
  obtain ⟨aS, cS, rfl⟩ := hs.form
  have hlm := hm.1
  have hll := hl.1
  obtain ⟨am, cm, rfl⟩ := hm.form
  obtain ⟨al, cl, rfl⟩ := hl.form
  go_enter Try.func6, Try.ntmps6
  go_wp2_with fail
  obtain ⟨B, hB⟩ : ∃ B, B = w.heap.size := ⟨_, rfl⟩
  obtain ⟨z, hz⟩ : ∃ z : Later w, z.w = w.alloc (.cells #[.slice an ns.length cn, .slice aS ss.length cS] 24) := ⟨Later.new _ _, rfl⟩
  have c0 : z.w.cell? ⟨B, 0, none⟩ = some (.slice an ns.length cn) := by rw [hz, hB]; simp [go_sem]
  have c1 : z.w.cell? ⟨B, 1, none⟩ = some (.slice aS ss.length cS) := by rw [hz, hB]; simp [go_sem]
  have hBz : B < z.w.heap.size := by rw [hz, hB]; simp [go_sem]
  have HZ : Hid (z.w.heap.size = B + 1) := Lib.hid (by rw [hz, hB]; simp)
  rw [← hz, ← hB]
  replace hn := hn.later z
  replace hs := hs.later z
  replace hm := hm.later z
  replace hl := hl.later z
  clear hz hB
  refine (great_calls _ _ ns ss _ hn hs).mono ?_
  rintro e w' ⟨rfl, x, rfl⟩
  cases hg : manyB ns || manyB ss
  rotate_left
  · go_wp2_with fail
    refine (Works_calls x.w).mono ?_
    rintro e w' ⟨rfl, y, rfl⟩
    go_wp2
    go_ret
    exact ⟨rfl, (z.step x).step y, rfl⟩
  by_cases hb1 : 20 < m.length
  · go_wp2_with fail
    refine (Works_calls x.w).mono ?_
    rintro e w' ⟨rfl, y, rfl⟩
    go_wp2
    go_ret
    exact ⟨rfl, (z.step x).step y, rfl⟩
  by_cases hb2 : 20 < l.length
  · go_wp2_with fail
    refine (Works_calls x.w).mono ?_
    rintro e w' ⟨rfl, y, rfl⟩
    go_wp2
    go_ret
    exact ⟨rfl, (z.step x).step y, rfl⟩
  go_wp2_with fail
  have h := Better_calls _ _ _ _ ns ss m l x.w (hn.later x) (hs.later x) (hm.later x) (hl.later x)
  rw [BetterR_eq] at h
  refine h.mono ?_
  clear h
  rintro e w' ⟨v_f, y, rfl, rfl, f⟩
  obtain ⟨q, hq⟩ : ∃ q : Later z.w, y.w = q.w := ⟨x.step y, rfl⟩
  rw [hq] at f ⊢
  clear hq y x
  obtain ⟨a_f, n_f, c_f, rfl⟩ : ∃ a n c, v_f = .slice a n c := by obtain ⟨a, c, e⟩ := f.form; exact ⟨a, _, c, e⟩
  go_wp2_with fail
  have h := refBetter_calls _ _ _ _ ns ss m l q.w (hn.later q) (hs.later q) (hm.later q) (hl.later q)
  refine h.mono ?_
  clear h
  rintro e w' ⟨v_g, y, rfl, rfl, g⟩
  replace f := f.later y
  obtain ⟨x, hq⟩ : ∃ q : Later z.w, y.w = q.w := ⟨q.step y, rfl⟩
  rw [hq] at f g ⊢
  clear hq y q
  obtain ⟨a_g, n_g, c_g, rfl⟩ : ∃ a n c, v_g = .slice a n c := by obtain ⟨a, c, e⟩ := g.form; exact ⟨a, _, c, e⟩
  go_wp2_with fail
  have h := Worse_calls _ _ _ _ ns ss m l x.w (hn.later x) (hs.later x) (hm.later x) (hl.later x)
  rw [WorseR_eq] at h
  refine h.mono ?_
  clear h
  rintro e w' ⟨v_u, y, rfl, rfl, u⟩
  replace f := f.later y
  replace g := g.later y
  obtain ⟨q, hq⟩ : ∃ q : Later z.w, y.w = q.w := ⟨x.step y, rfl⟩
  rw [hq] at f g u ⊢
  clear hq y x
  obtain ⟨a_u, n_u, c_u, rfl⟩ : ∃ a n c, v_u = .slice a n c := by obtain ⟨a, c, e⟩ := u.form; exact ⟨a, _, c, e⟩
  go_wp2_with fail
  have h := refWorse_calls _ _ _ _ ns ss m l q.w (hn.later q) (hs.later q) (hm.later q) (hl.later q)
  refine h.mono ?_
  clear h
  rintro e w' ⟨v_v, y, rfl, rfl, v⟩
  replace f := f.later y
  replace g := g.later y
  replace u := u.later y
  obtain ⟨x, hq⟩ : ∃ q : Later z.w, y.w = q.w := ⟨q.step y, rfl⟩
  rw [hq] at f g u v ⊢
  clear hq y q
  obtain ⟨a_v, n_v, c_v, rfl⟩ : ∃ a n c, v_v = .slice a n c := by obtain ⟨a, c, e⟩ := v.form; exact ⟨a, _, c, e⟩
  have hc1 := Ints_calls _ _ _ _ x.w f g
  rw [eqI_self] at hc1
  have HC1 := Lib.hid hc1
  clear hc1
  go_wp2_with fail
  refine HC1.out.mono ?_
  rintro e w' ⟨rfl, y1, rfl⟩
  go_wp2_with fail
  have hc2 := Ints_calls _ _ _ _ y1.w (u.later y1) (v.later y1)
  rw [eqI_self] at hc2
  refine hc2.mono ?_
  clear hc2
  rintro e w' ⟨rfl, y2, rfl⟩
  go_wp2_with fail
  refine (Works_calls _).mono ?_
  rintro e w' ⟨rfl, y3, rfl⟩
  go_wp2
  go_ret
  exact ⟨rfl, (((z.step x).step y1).step y2).step y3, rfl⟩
set_option maxRecDepth 100000 in
set_option maxHeartbeats 4000000 in
theorem Alls_calls (nv sv : Value) (ns ss : List (List Int)) (n s : Int) (w : World) (hn : Rows2 w nv ns) (hs : Rows2 w sv ss)  :
    Calls Try.prog 5 #[.agg #[nv, sv], .int .i64 n, .int .i64 s] w (Gives (.bool true) w) := by
  obtain ⟨an, cn, rfl⟩ := hn.form
  obtain ⟨aS, cS, rfl⟩ := hs.form
  go_enter Try.func5, Try.ntmps5
  go_wp2_with fail
  obtain ⟨B, hB⟩ : ∃ B, B = w.heap.size := ⟨_, rfl⟩
  obtain ⟨z, hz⟩ : ∃ z : Later w, z.w = w.alloc (.cells #[.slice an ns.length cn, .slice aS ss.length cS] 24) := ⟨Later.new _ _, rfl⟩
  have c0 : z.w.cell? ⟨B, 0, none⟩ = some (.slice an ns.length cn) := by rw [hz, hB]; simp [go_sem]
  have c1 : z.w.cell? ⟨B, 1, none⟩ = some (.slice aS ss.length cS) := by rw [hz, hB]; simp [go_sem]
  have hBz : B < z.w.heap.size := by rw [hz, hB]; simp [go_sem]
  have HZ : Hid (z.w.heap.size = B + 1) := Lib.hid (by rw [hz, hB]; simp)
  rw [← hz, ← hB]
  replace hn := hn.later z
  replace hs := hs.later z
  clear hz hB
  refine (great_calls _ _ ns ss _ hn hs).mono ?_
  rintro e w' ⟨rfl, x, rfl⟩
  cases hg : manyB ns || manyB ss
  rotate_left
  · go_wp2_with fail
    refine (Works_calls x.w).mono ?_
    rintro e w' ⟨rfl, y, rfl⟩
    go_wp2
    go_ret
    exact ⟨rfl, (z.step x).step y, rfl⟩
  go_wp2_with fail
  have h := All_calls _ _ ns ss x.w (hn.later x) (hs.later x)
  rw [AllR_eq] at h
  refine h.mono ?_
  clear h
  rintro e w' ⟨v_f, y, rfl, rfl, f⟩
  obtain ⟨q, hq⟩ : ∃ q : Later z.w, y.w = q.w := ⟨x.step y, rfl⟩
  rw [hq] at f ⊢
  clear hq y x
  obtain ⟨a_f, n_f, c_f, rfl⟩ : ∃ a n c, v_f = .slice a n c := by obtain ⟨a, c, e⟩ := f.form; exact ⟨a, _, c, e⟩
  go_wp2_with fail
  have h := refAll_calls _ _ ns ss q.w (hn.later q) (hs.later q)
  refine h.mono ?_
  clear h
  rintro e w' ⟨v_g, y, rfl, rfl, g⟩
  replace f := f.later y
  obtain ⟨x, hq⟩ : ∃ q : Later z.w, y.w = q.w := ⟨q.step y, rfl⟩
  rw [hq] at f g ⊢
  clear hq y q
  obtain ⟨a_g, n_g, c_g, rfl⟩ : ∃ a n c, v_g = .slice a n c := by obtain ⟨a, c, e⟩ := g.form; exact ⟨a, _, c, e⟩
  go_wp2_with fail
  have h := Kind_calls _ _ ns ss n s x.w (hn.later x) (hs.later x)
  rw [KindR_eq] at h
  refine h.mono ?_
  clear h
  rintro e w' ⟨rfl, y, rfl⟩
  replace f := f.later y
  replace g := g.later y
  obtain ⟨q, hq⟩ : ∃ q : Later z.w, y.w = q.w := ⟨x.step y, rfl⟩
  rw [hq] at f g ⊢
  clear hq y x
  go_wp2_with fail
  have h := refKind_calls _ _ ns ss n s q.w (hn.later q) (hs.later q)
  refine h.mono ?_
  clear h
  rintro e w' ⟨rfl, y, rfl⟩
  replace f := f.later y
  replace g := g.later y
  obtain ⟨x, hq⟩ : ∃ q : Later z.w, y.w = q.w := ⟨q.step y, rfl⟩
  rw [hq] at f g ⊢
  clear hq y q
  have hc1 := Lists_calls _ _ _ _ x.w f g
  rw [eqL_self] at hc1
  have HC1 := Lib.hid hc1
  clear hc1
  go_wp2_with (first | (go_at_call 34; refine HC1.out.mono ?_; rintro e w' ⟨rfl, y1, rfl⟩) | (go_at_call 18; refine (Works_calls _).mono ?_; rintro e w' ⟨rfl, y3, rfl⟩))
  go_ret
  exact ⟨rfl, ((z.step x).step y1).step y3, rfl⟩
end Go.Proofs.Ytieaibebnkdmhaa
