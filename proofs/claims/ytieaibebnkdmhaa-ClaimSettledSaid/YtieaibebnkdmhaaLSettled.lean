import Derived.Test.YtieaibebnkdmhaaLaw4
import Derived.Test.YtieaibebnkdmhaaWorks
import Derived.IntWalk
namespace Go.Proofs.Ytieaibebnkdmhaa
open Go.RowKit

theorem unsR_sett {ns ss : List (List Int)} (hv : vbook ns ss = 0) {m : List Int} (h : Sett ns ss m) : unsR ns ss m = (0, 0, 5) := by
  rw [unsR_eq, if_pos (vmatch_zero.2 ⟨hv, h.1⟩), h.2]
theorem fstU_of {ns ss : List (List Int)} {m : List Int} {n s : Nat} (h : fstU ns ss m = some (n, s)) : n < ns.length ∧ s < ss.length ∧ unsB ns ss m n s = true := by
  have h1 := mem_prs2.1 (List.mem_of_find?_eq_some h)
  exact ⟨h1.1, h1.2, by simpa using List.find?_some h⟩
set_option maxRecDepth 100000 in
set_option maxHeartbeats 4000000 in
theorem LSettled_calls (nv sv : Value) (ns ss : List (List Int)) (mv : Value) (m : List Int) (w : World) (hn : Rows2 w nv ns) (hs : Rows2 w sv ss) (hm : Ints w mv m) :
    Calls Try.prog 7 #[.agg #[nv, sv], mv] w (Gives (.bool true) w) := by
  have hnl := hn.1
  have hsl := hs.1
  obtain ⟨an, cn, rfl⟩ := hn.form
  obtain ⟨aS, cS, rfl⟩ := hs.form
  have lhm := hm.1
  obtain ⟨ahm, chm, rfl⟩ := hm.form
  by_cases hv : vbook ns ss = 0
  rotate_left
  · have hvb : (vbook ns ss == 0) = false := by simpa using hv
    clear hv
    go_enter Try.func7, Try.ntmps7
    go_wp2_with fail
    obtain ⟨B, hB⟩ : ∃ B, B = w.heap.size := ⟨_, rfl⟩
    obtain ⟨z, hz⟩ : ∃ z : Later w, z.w = w.alloc (.cells #[.slice an ns.length cn, .slice aS ss.length cS] 24) := ⟨Later.new _ _, rfl⟩
    have c0 : z.w.cell? ⟨B, 0, none⟩ = some (.slice an ns.length cn) := by rw [hz, hB]; simp [go_sem]
    have c1 : z.w.cell? ⟨B, 1, none⟩ = some (.slice aS ss.length cS) := by rw [hz, hB]; simp [go_sem]
    have hBz : B < z.w.heap.size := by rw [hz, hB]; simp [go_sem]
    have HZ : Hid (z.w.heap.size = B + 1) := Lib.hid (by rw [hz, hB]; simp)
    rw [← hz, ← hB]
    replace hn := hn.later z
    replace hs := hs.later z
    replace hm := hm.later z
    clear hz hB
    refine (fine_calls _ _ ns ss _ hn hs).mono ?_
    rintro e w' ⟨rfl, x, rfl⟩
    rw [hvb]
    go_wp2_with fail
    refine (Works_calls x.w).mono ?_
    rintro e w' ⟨rfl, y, rfl⟩
    go_wp2
    go_ret
    exact ⟨rfl, (z.step x).step y, rfl⟩
  have hvb : (vbook ns ss == 0) = true := by rw [hv]; rfl
  have HV := Lib.hid hv
  clear hv
  by_cases hb1 : 20 < m.length
  · go_enter Try.func7, Try.ntmps7
    go_wp2_with fail
    obtain ⟨B, hB⟩ : ∃ B, B = w.heap.size := ⟨_, rfl⟩
    obtain ⟨z, hz⟩ : ∃ z : Later w, z.w = w.alloc (.cells #[.slice an ns.length cn, .slice aS ss.length cS] 24) := ⟨Later.new _ _, rfl⟩
    have c0 : z.w.cell? ⟨B, 0, none⟩ = some (.slice an ns.length cn) := by rw [hz, hB]; simp [go_sem]
    have c1 : z.w.cell? ⟨B, 1, none⟩ = some (.slice aS ss.length cS) := by rw [hz, hB]; simp [go_sem]
    have hBz : B < z.w.heap.size := by rw [hz, hB]; simp [go_sem]
    have HZ : Hid (z.w.heap.size = B + 1) := Lib.hid (by rw [hz, hB]; simp)
    rw [← hz, ← hB]
    replace hn := hn.later z
    replace hs := hs.later z
    replace hm := hm.later z
    clear hz hB
    refine (fine_calls _ _ ns ss _ hn hs).mono ?_
    rintro e w' ⟨rfl, x, rfl⟩
    rw [hvb]
    go_wp2_with fail
    refine (Works_calls x.w).mono ?_
    rintro e w' ⟨rfl, y, rfl⟩
    go_wp2
    go_ret
    exact ⟨rfl, (z.step x).step y, rfl⟩
  go_enter Try.func7, Try.ntmps7
  go_wp2_with fail
  obtain ⟨B, hB⟩ : ∃ B, B = w.heap.size := ⟨_, rfl⟩
  obtain ⟨z, hz⟩ : ∃ z : Later w, z.w = w.alloc (.cells #[.slice an ns.length cn, .slice aS ss.length cS] 24) := ⟨Later.new _ _, rfl⟩
  have c0 : z.w.cell? ⟨B, 0, none⟩ = some (.slice an ns.length cn) := by rw [hz, hB]; simp [go_sem]
  have c1 : z.w.cell? ⟨B, 1, none⟩ = some (.slice aS ss.length cS) := by rw [hz, hB]; simp [go_sem]
  have hBz : B < z.w.heap.size := by rw [hz, hB]; simp [go_sem]
  have HZ : Hid (z.w.heap.size = B + 1) := Lib.hid (by rw [hz, hB]; simp)
  rw [← hz, ← hB]
  replace hn := hn.later z
  replace hs := hs.later z
  replace hm := hm.later z
  clear hz hB
  refine (fine_calls _ _ ns ss _ hn hs).mono ?_
  rintro e w' ⟨rfl, x, rfl⟩
  rw [hvb]
  clear hvb
  go_wp2_with fail
  refine (told_calls _ _ ns ss _ (hn.later x) (hs.later x) HV.out).mono ?_
  rintro e w' ⟨av, fv, lv, y, rfl, rfl, hA, hF, hL⟩
  obtain ⟨q, hq⟩ : ∃ q : Later z.w, y.w = q.w := ⟨x.step y, rfl⟩
  rw [hq] at hA hF hL ⊢
  clear hq y x
  obtain ⟨x, rfl⟩ : ∃ x, x = q := ⟨_, rfl⟩
  have hAl := hA.1
  obtain ⟨aA, cA, rfl⟩ := hA.form
  obtain ⟨aF, cF, rfl⟩ := hF.form
  obtain ⟨aL, cL, rfl⟩ := hL.form
  have h720 := allOf_720 HV.out
  go_wp2
  go_loopw [9, 10] (fun b i wr => ∃ k : Nat, ∃ bb : Bool, ∃ y : Later x.w, wr = y.w ∧ k ≤ (allOf ns ss).length ∧ i = .int .i64 k ∧ b = .bool bb ∧ Hid (bb = anyTo (allOf ns ss) m k)) (fun _ i _ => (allOf ns ss).length - (intOf i).toNat)
  case atStart => exact ⟨0, false, Later.self _, rfl, Nat.zero_le _, rfl, rfl, by simp [Hid, anyTo]⟩
  case round =>
    obtain ⟨k, bb, y, rfl, hk, rfl, rfl, hbb⟩ := hrel
    have gB0 : y.w.cell? ⟨B, 0, none⟩ = some (.slice an ns.length cn) := ((x.step y).cell hBz).trans c0
    have gB1 : y.w.cell? ⟨B, 1, none⟩ = some (.slice aS ss.length cS) := ((x.step y).cell hBz).trans c1
    have sB : B < y.w.heap.size := Nat.lt_of_lt_of_le hBz (x.step y).size
    by_cases hlt : k < (allOf ns ss).length
    · have hsu := Lib.hid (anyTo_succ (allOf ns ss) m k hlt)
      by_cases hk0 : 0 < k
      rotate_left
      · have hz : decide (0 < k) = false := by simpa using hk0
        obtain ⟨blm, olm, clm, flm, e, hcpm, hblm, hclm⟩ := hA.at hlt
        cases e
        have slm : blm < y.w.heap.size := Nat.lt_of_lt_of_le hblm y.size
        obtain ⟨gzm, hrowm⟩ := hclm k hlt
        obtain ⟨arm, crm, efrm⟩ := hrowm.form
        rw [efrm] at gzm hrowm
        have glm := (y.cell hblm).trans gzm
        have hSm := Lib.hid (mem_allOf.1 (row_mem hlt))
        clear efrm
        clear hclm
        have hU := fun (u : Later y.w) => Unsettled_calls _ _ _ ns ss (row (allOf ns ss) k) u.w (((hn.later x).later y).later u) (((hs.later x).later y).later u) ((hrowm.later y).later u)
        rw [unsR_sett HV.out hSm.out] at hU
        have HU := Lib.hid hU
        have hPo : ∀ (u : Later y.w), Calls Try.prog 41 #[.agg #[.slice an ns.length cn, .slice aS ss.length cS], .slice arm (row (allOf ns ss) k).length crm] u.w (Gives (.tuple #[.int .i64 0, .int .i64 0, .bool false]) u.w) := fun u => by
          have h := PairOf_calls _ _ _ ns ss (row (allOf ns ss) k) u.w (((hn.later x).later y).later u) (((hs.later x).later y).later u) ((hrowm.later y).later u) hSm.out.1.len
          rw [hSm.out.2] at h
          exact h
        have HPo := Lib.hid hPo
        have HI := Lib.hid (fun (u : Later y.w) => Ints_calls _ _ (row (allOf ns ss) k) m u.w ((hrowm.later y).later u) (((hm.later x).later y).later u))
        clear hU hPo
        go_wp2
        refine region_later_lit (by kernel_rfl) (by kernel_rfl) ?_
        repeat (first | go_big_quiet_step (first
             | (go_at_call 21; exact Later.quiet _ (HU.out _))))
        refine wpQuiet_nil ?_
        intro u
        have glu := (u.cell slm).trans glm
        have slu : blm < u.w.heap.size := Nat.lt_of_lt_of_le slm u.size
        have gU0 := (u.cell sB).trans gB0
        have gU1 := (u.cell sB).trans gB1
        have sU : B < u.w.heap.size := Nat.lt_of_lt_of_le sB u.size
        go_wp2
        refine region_later_lit (by kernel_rfl) (by kernel_rfl) ?_
        repeat (first | go_big_quiet_step (first
             | (go_at_call 41; exact Later.quiet _ (HPo.out (u.step _)))))
        refine wpQuiet_nil ?_
        intro u2
        obtain ⟨t, ht⟩ : ∃ t : Later y.w, u2.w = t.w := ⟨u.step u2, rfl⟩
        rw [ht]
        clear ht u2 glu slu gU0 gU1 sU u
        have glu := (t.cell slm).trans glm
        have slu : blm < t.w.heap.size := Nat.lt_of_lt_of_le slm t.size
        go_wp2
        have hIt := HI.out t
        clear HI
        have HI := Lib.hid (fun (v : Later t.w) => Ints_calls _ _ (row (allOf ns ss) k) m v.w ((((hrowm.later y).later t)).later v) ((((hm.later x).later y).later t).later v))
        refine region_later_lit (by kernel_rfl) (by kernel_rfl) ?_
        repeat (first | simp only [hz] | go_big_quiet_step (first
             | (fail)))
        refine wpQuiet_nil ?_
        intro v0
        have glv := (v0.cell slu).trans glu
        have slv : blm < v0.w.heap.size := Nat.lt_of_lt_of_le slu v0.size
        cases bb
        · go_wp2_with fail
          refine (HI.out v0).mono ?_
          rintro e w' ⟨rfl, v, rfl⟩
          go_wp2
          go_roundw
          case rel => exact ⟨k + 1, _, ((y.step t).step v0).step v, rfl, by omega, by go_num, rfl, by unfold Hid; rw [hsu.out, ← hbb.out, Bool.false_or]⟩
          case measure => simp [intOf]; omega
        · go_wp2
          go_roundw
          case rel => exact ⟨k + 1, _, ((y.step t).step v0), rfl, by omega, by go_num, rfl, by unfold Hid; rw [hsu.out, ← hbb.out, Bool.true_or]⟩
          case measure => simp [intOf]; omega
      · have hz : decide (0 < k) = true := by simpa using hk0
        have hlt' : k - 1 < (allOf ns ss).length := by omega
        obtain ⟨blm, olm, clm, flm, e, hcpm, hblm, hclm⟩ := hA.at hlt
        cases e
        have slm : blm < y.w.heap.size := Nat.lt_of_lt_of_le hblm y.size
        obtain ⟨gzm, hrowm⟩ := hclm k hlt
        obtain ⟨arm, crm, efrm⟩ := hrowm.form
        rw [efrm] at gzm hrowm
        have glm := (y.cell hblm).trans gzm
        have hSm := Lib.hid (mem_allOf.1 (row_mem hlt))
        clear efrm
        obtain ⟨gzq, hrowq⟩ := hclm (k - 1) hlt'
        obtain ⟨arq, crq, efrq⟩ := hrowq.form
        rw [efrq] at gzq hrowq
        have glq := (y.cell hblm).trans gzq
        have hSq := Lib.hid (mem_allOf.1 (row_mem hlt'))
        clear efrq
        clear hclm
        have hU := fun (u : Later y.w) => Unsettled_calls _ _ _ ns ss (row (allOf ns ss) k) u.w (((hn.later x).later y).later u) (((hs.later x).later y).later u) ((hrowm.later y).later u)
        rw [unsR_sett HV.out hSm.out] at hU
        have HU := Lib.hid hU
        have hPo : ∀ (u : Later y.w), Calls Try.prog 41 #[.agg #[.slice an ns.length cn, .slice aS ss.length cS], .slice arm (row (allOf ns ss) k).length crm] u.w (Gives (.tuple #[.int .i64 0, .int .i64 0, .bool false]) u.w) := fun u => by
          have h := PairOf_calls _ _ _ ns ss (row (allOf ns ss) k) u.w (((hn.later x).later y).later u) (((hs.later x).later y).later u) ((hrowm.later y).later u) hSm.out.1.len
          rw [hSm.out.2] at h
          exact h
        have HPo := Lib.hid hPo
        have hbef : befF (row (allOf ns ss) (k - 1)) (row (allOf ns ss) k) = true := by
          have := allOf_sorted (ns := ns) (ss := ss) (k := k - 1) (by omega)
          rwa [show k - 1 + 1 = k by omega] at this
        clear hU hPo
        go_wp2
        refine region_later_lit (by kernel_rfl) (by kernel_rfl) ?_
        repeat (first | go_big_quiet_step (first
             | (go_at_call 21; exact Later.quiet _ (HU.out _))))
        refine wpQuiet_nil ?_
        intro u
        have glu := (u.cell slm).trans glm
        have slu : blm < u.w.heap.size := Nat.lt_of_lt_of_le slm u.size
        have gU0 := (u.cell sB).trans gB0
        have gU1 := (u.cell sB).trans gB1
        have sU : B < u.w.heap.size := Nat.lt_of_lt_of_le sB u.size
        go_wp2
        refine region_later_lit (by kernel_rfl) (by kernel_rfl) ?_
        repeat (first | go_big_quiet_step (first
             | (go_at_call 41; exact Later.quiet _ (HPo.out (u.step _)))))
        refine wpQuiet_nil ?_
        intro u2
        obtain ⟨t, ht⟩ : ∃ t : Later y.w, u2.w = t.w := ⟨u.step u2, rfl⟩
        rw [ht]
        clear ht u2 glu slu gU0 gU1 sU u
        have glu := (t.cell slm).trans glm
        have glp := (t.cell slm).trans glq
        have slu : blm < t.w.heap.size := Nat.lt_of_lt_of_le slm t.size
        have HI := Lib.hid (fun (v : Later t.w) => Ints_calls _ _ (row (allOf ns ss) k) m v.w ((((hrowm.later y).later t)).later v) ((((hm.later x).later y).later t).later v))
        have hB := fun (v : Later t.w) => before_calls _ _ (row (allOf ns ss) (k - 1)) (row (allOf ns ss) k) v.w ((((hrowq.later y).later t)).later v) ((((hrowm.later y).later t)).later v)
        rw [hbef] at hB
        have HB := Lib.hid hB
        have w1 : IntKind.i64.wrap ((k : Int) - 1) = (k : Int) - 1 := IntWalk.i64_in _ (by omega)
        have w2 : ((k : Int) - 1).toNat = k - 1 := by omega
        have w3 : 0 ≤ (k : Int) - 1 := by omega
        have w4 : (k : Int) - 1 < (allOf ns ss).length := by omega
        clear hB hbef
        go_wp2
        refine region_later_lit (by kernel_rfl) (by kernel_rfl) ?_
        repeat (first | simp only [hz] | go_big_quiet_step (first
             | (go_at_call 42; exact Later.quiet _ (HB.out _))))
        refine wpQuiet_nil ?_
        intro v0
        clear w1 w2 w3 w4
        have glv := (v0.cell slu).trans glu
        have slv : blm < v0.w.heap.size := Nat.lt_of_lt_of_le slu v0.size
        cases bb
        · go_wp2_with fail
          refine (HI.out v0).mono ?_
          rintro e w' ⟨rfl, v, rfl⟩
          go_wp2
          go_roundw
          case rel => exact ⟨k + 1, _, ((y.step t).step v0).step v, rfl, by omega, by go_num, rfl, by unfold Hid; rw [hsu.out, ← hbb.out, Bool.false_or]⟩
          case measure => simp [intOf]; omega
        · go_wp2
          go_roundw
          case rel => exact ⟨k + 1, _, ((y.step t).step v0), rfl, by omega, by go_num, rfl, by unfold Hid; rw [hsu.out, ← hbb.out, Bool.true_or]⟩
          case measure => simp [intOf]; omega
    · have hbe := Lib.hid (show bb = decide (m ∈ allOf ns ss) by rw [hbb.out, anyTo_end _ _ _ (by omega)])
      have hcm := CheckMatching_calls _ _ _ ns ss m y.w ((hn.later x).later y) ((hs.later x).later y) ((hm.later x).later y)
      clear hbb
      by_cases hvm : vmatch ns ss m = 0
      rotate_left
      · have hbf : bb = false := by
          rw [hbe.out, decide_eq_false_iff_not]
          intro hin
          exact hvm (vmatch_zero.2 ⟨HV.out, (mem_allOf.1 hin).1⟩)
        have hne : (vmatch ns ss m != 0) = true := by simpa using hvm
        subst hbf
        have HC := Lib.hid hcm
        clear hvm hcm
        go_wp2_with fail
        refine HC.out.mono ?_
        rintro e w' ⟨rfl, v, rfl⟩
        go_wp2_with fail
        refine (Works_calls v.w).mono ?_
        rintro e w' ⟨rfl, v2, rfl⟩
        go_wp2
        go_ret
        exact ⟨rfl, (((z.step x).step y).step v).step v2, rfl⟩
      have hM := Lib.hid (vmatch_zero.1 hvm).2
      have HVM := Lib.hid hvm
      rw [hvm] at hcm
      have HC := Lib.hid hcm
      clear hvm hcm
      go_wp2_with fail
      refine HC.out.mono ?_
      rintro e w' ⟨rfl, v, rfl⟩
      obtain ⟨t, ht⟩ : ∃ t : Later x.w, v.w = t.w := ⟨y.step v, rfl⟩
      rw [ht]
      clear ht v HC gB0 gB1 sB y
      have gB0 : t.w.cell? ⟨B, 0, none⟩ = some (.slice an ns.length cn) := ((x.step t).cell hBz).trans c0
      have gB1 : t.w.cell? ⟨B, 1, none⟩ = some (.slice aS ss.length cS) := ((x.step t).cell hBz).trans c1
      have sB : B < t.w.heap.size := Nat.lt_of_lt_of_le hBz (x.step t).size
      have hU := Unsettled_calls _ _ _ ns ss m t.w ((hn.later x).later t) ((hs.later x).later t) ((hm.later x).later t)
      have hR := fun (v : Later t.w) => refCheckMatching_calls _ _ _ ns ss m v.w (((hn.later x).later t).later v) (((hs.later x).later t).later v) (((hm.later x).later t).later v)
      rw [HVM.out] at hR
      have HR := Lib.hid hR
      clear hR
      cases bb
      · have hno : fstU ns ss m ≠ none := fun e => by
          have h1 := hbe.out
          rw [decide_eq_true (mem_allOf.2 ⟨hM.out, e⟩)] at h1
          cases h1
        obtain ⟨⟨n, s⟩, hfs⟩ := Option.ne_none_iff_exists'.1 hno
        obtain ⟨f1, f2, f3⟩ := fstU_of hfs
        have hur : unsR ns ss m = ((n : Int), (s : Int), 0) := by rw [unsR_eq, if_pos HVM.out, hfs]
        rw [hur] at hU
        have HU := Lib.hid hU
        have hUs := fun (v : Later t.w) => Unsettles_calls _ _ _ ns ss m n s v.w (((hn.later x).later t).later v) (((hs.later x).later t).later v) (((hm.later x).later t).later v) f1 f2 (by rw [hM.out.len]; exact f1)
        have hub : (pairB ns ss n s && rth (row ns n) s (nth m n) && rth (row ss s) n (plc m s)) = true := f3
        rw [hub] at hUs
        have HUs := Lib.hid hUs
        have F1 : (n : Int) < ns.length := by omega
        have F2 : (s : Int) < ss.length := by omega
        clear hno hfs f3 hur hU hUs hub
        go_wp2_with fail
        refine HU.out.mono ?_
        rintro e w' ⟨rfl, v, rfl⟩
        go_wp2_with fail
        refine (HR.out v).mono ?_
        rintro e w' ⟨rfl, v2, rfl⟩
        obtain ⟨v3, hv3⟩ : ∃ v3 : Later t.w, v2.w = v3.w := ⟨v.step v2, rfl⟩
        rw [hv3]
        clear hv3 v2 v
        go_wp2_with fail
        refine (HUs.out v3).mono ?_
        rintro e w' ⟨rfl, v4, rfl⟩
        go_wp2_with fail
        refine (Works_calls v4.w).mono ?_
        rintro e w' ⟨rfl, v5, rfl⟩
        go_wp2
        go_ret
        exact ⟨rfl, ((((z.step x).step t).step v3).step v4).step v5, rfl⟩
      · have hin : m ∈ allOf ns ss := of_decide_eq_true hbe.out.symm
        rw [unsR_sett HV.out (mem_allOf.1 hin)] at hU
        have HU := Lib.hid hU
        clear hU hin
        go_wp2_with fail
        refine HU.out.mono ?_
        rintro e w' ⟨rfl, v, rfl⟩
        go_wp2_with fail
        refine (HR.out v).mono ?_
        rintro e w' ⟨rfl, v2, rfl⟩
        go_wp2_with fail
        refine (Works_calls v2.w).mono ?_
        rintro e w' ⟨rfl, v5, rfl⟩
        go_wp2
        go_ret
        exact ⟨rfl, ((((z.step x).step t).step v).step v2).step v5, rfl⟩
  
end Go.Proofs.Ytieaibebnkdmhaa
