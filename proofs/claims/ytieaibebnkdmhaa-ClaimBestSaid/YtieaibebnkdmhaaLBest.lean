import Derived.Test.YtieaibebnkdmhaaLaw4
import Derived.Test.YtieaibebnkdmhaaTh6
import Derived.Test.YtieaibebnkdmhaaWorks
namespace Go.Proofs.Ytieaibebnkdmhaa
open Go.RowKit

set_option maxRecDepth 100000 in
set_option maxHeartbeats 4000000 in
theorem Best_calls (nv sv : Value) (ns ss : List (List Int))  (w : World) (hn : Rows2 w nv ns) (hs : Rows2 w sv ss)  :
    Calls Try.prog 8 #[.agg #[nv, sv]] w (Gives (.bool true) w) := by
  have hnl := hn.1
  have hsl := hs.1
  obtain ⟨an, cn, rfl⟩ := hn.form
  obtain ⟨aS, cS, rfl⟩ := hs.form
  by_cases hv : vbook ns ss = 0
  rotate_left
  · have hvb : (vbook ns ss == 0) = false := by simpa using hv
    clear hv
    go_enter Try.func8, Try.ntmps8
    go_wp2_with fail
    obtain ⟨B, hB⟩ : ∃ B, B = w.heap.size := ⟨_, rfl⟩
    obtain ⟨z, hz⟩ : ∃ z : Later w, z.w = w.alloc (.cells #[.slice an ns.length cn, .slice aS ss.length cS] 24) := ⟨Later.new _ _, rfl⟩
    have c0 : z.w.cell? ⟨B, 0, none⟩ = some (.slice an ns.length cn) := by rw [hz, hB]; simp [go_sem]
    have c1 : z.w.cell? ⟨B, 1, none⟩ = some (.slice aS ss.length cS) := by rw [hz, hB]; simp [go_sem]
    have hBz : B < z.w.heap.size := by rw [hz, hB]; simp [go_sem]
    have HZ : Hid (z.w.heap.size = B + 1) := Lib.hid (by rw [hz, hB]; simp)
    rw [← hz, ← hB]
    replace hn := hn.later z
    replace hs := hs.later z
    clear hz hB
    refine (fine_calls _ _ ns ss _ hn hs).mono ?_
    rintro e w' ⟨rfl, x, rfl⟩
    rw [hvb]
    go_wp2_with fail
    refine (Works_calls x.w).mono ?_
    rintro e w' ⟨rfl, y, rfl⟩
    go_wp2
    go_ret
    exact ⟨rfl, (z.step x).step y, rfl⟩
  have hvb : (vbook ns ss == 0) = true := by rw [hv]; rfl
  have HV := Lib.hid hv
  clear hv
  go_enter Try.func8, Try.ntmps8
  go_wp2_with fail
  obtain ⟨B, hB⟩ : ∃ B, B = w.heap.size := ⟨_, rfl⟩
  obtain ⟨z, hz⟩ : ∃ z : Later w, z.w = w.alloc (.cells #[.slice an ns.length cn, .slice aS ss.length cS] 24) := ⟨Later.new _ _, rfl⟩
  have c0 : z.w.cell? ⟨B, 0, none⟩ = some (.slice an ns.length cn) := by rw [hz, hB]; simp [go_sem]
  have c1 : z.w.cell? ⟨B, 1, none⟩ = some (.slice aS ss.length cS) := by rw [hz, hB]; simp [go_sem]
  have hBz : B < z.w.heap.size := by rw [hz, hB]; simp [go_sem]
  have HZ : Hid (z.w.heap.size = B + 1) := Lib.hid (by rw [hz, hB]; simp)
  rw [← hz, ← hB]
  replace hn := hn.later z
  replace hs := hs.later z
  clear hz hB
  refine (fine_calls _ _ ns ss _ hn hs).mono ?_
  rintro e w' ⟨rfl, x, rfl⟩
  rw [hvb]
  clear hvb
  go_wp2_with fail
  refine (told_calls _ _ ns ss _ (hn.later x) (hs.later x) HV.out).mono ?_
  rintro e w' ⟨av, fv, lv, y, rfl, rfl, hA, hF, hL⟩
  obtain ⟨q, hq⟩ : ∃ q : Later z.w, y.w = q.w := ⟨x.step y, rfl⟩
  rw [hq] at hA hF hL ⊢
  clear hq y x
  obtain ⟨x, rfl⟩ : ∃ x, x = q := ⟨_, rfl⟩
  have hAl := hA.1
  obtain ⟨aA, cA, rfl⟩ := hA.form
  obtain ⟨aF, cF, rfl⟩ := hF.form
  obtain ⟨aL, cL, rfl⟩ := hL.form
  go_wp2
  go_loopw [7] (fun i wr => ∃ k : Nat, ∃ y : Later x.w, wr = y.w ∧ k ≤ (allOf ns ss).length ∧ i = .int .i64 k) (fun i _ => (allOf ns ss).length - (intOf i).toNat)
  case atStart => exact ⟨0, Later.self _, rfl, Nat.zero_le _, rfl⟩
  case round =>
    obtain ⟨k, y, rfl, hk, rfl⟩ := hrel
    by_cases hlt : k < (allOf ns ss).length
    · go_wp2
      go_loopw [8] (fun i wr => ∃ j : Nat, ∃ y : Later x.w, wr = y.w ∧ j ≤ ns.length ∧ i = .int .i64 j) (fun i _ => ns.length - (intOf i).toNat)
      case atStart => exact ⟨0, y, rfl, Nat.zero_le _, rfl⟩
      case round =>
        clear y
        obtain ⟨j, y, rfl, hj, rfl⟩ := hrel
        have gB0 : y.w.cell? ⟨B, 0, none⟩ = some (.slice an ns.length cn) := ((x.step y).cell hBz).trans c0
        have gB1 : y.w.cell? ⟨B, 1, none⟩ = some (.slice aS ss.length cS) := ((x.step y).cell hBz).trans c1
        have sB : B < y.w.heap.size := Nat.lt_of_lt_of_le hBz (x.step y).size
        by_cases hlt2 : j < ns.length
        · obtain ⟨blm, olm, clm, flm, e, hcpm, hblm, hclm⟩ := hA.at hlt
          cases e
          obtain ⟨gzm, hrowm⟩ := hclm k hlt
          obtain ⟨arm, crm, efrm⟩ := hrowm.form
          rw [efrm] at gzm hrowm
          have glm := (y.cell hblm).trans gzm
          have slm : blm < y.w.heap.size := Nat.lt_of_lt_of_le hblm y.size
          have hSm := Lib.hid (mem_allOf.1 (row_mem hlt))
          clear hclm efrm
          obtain ⟨bn, on, cn', fn, e, hcpn, hbn, hcn⟩ := hn.at hlt2
          cases e
          obtain ⟨gn0, hrj⟩ := hcn j hlt2
          have gn : y.w.cell? ⟨bn, on + j, none⟩ = some (fn j) := ((x.step y).cell hbn).trans gn0
          have sn : bn < y.w.heap.size := Nat.lt_of_lt_of_le hbn (x.step y).size
          have hjm : j < (row (allOf ns ss) k).length := by rw [hSm.out.1.len]; exact hlt2
          have hjF : j < (claimsF (tabOf ns ss) ns).length := by rw [claimsF_len]; exact hlt2
          have hjL : j < (lastF ns ss).length := by rw [(last_sett HV.out).1.len]; exact hlt2
          obtain ⟨bI, oI, cI, e, hcpI, hbI, hcI⟩ := hrowm.at hjm
          cases e
          obtain ⟨bF, oF, cF', e, hcpF, hbF, hcF⟩ := hF.at hjF
          cases e
          obtain ⟨bL, oL, cL', e, hcpL, hbL, hcL⟩ := hL.at hjL
          cases e
          have gI := (y.cell hbI).trans (hcI j hjm)
          have gF := (y.cell hbF).trans (hcF j hjF)
          have gL := (y.cell hbL).trans (hcL j hjL)
          have sI : bI < y.w.heap.size := Nat.lt_of_lt_of_le hbI y.size
          have sF : bF < y.w.heap.size := Nat.lt_of_lt_of_le hbF y.size
          have sL : bL < y.w.heap.size := Nat.lt_of_lt_of_le hbL y.size
          have h1 := fun (u : Later y.w) => lrather_calls (fn j) (row ns j) (nth (row (allOf ns ss) k) j) (nth (claimsF (tabOf ns ss) ns) j) u.w (((hrj.later x).later y).later u)
          have h2 := fun (u : Later y.w) => lrather_calls (fn j) (row ns j) (nth (lastF ns ss) j) (nth (row (allOf ns ss) k) j) u.w (((hrj.later x).later y).later u)
          rw [best_n HV.out hSm.out hlt2] at h1
          rw [worst_n HV.out hSm.out hlt2] at h2
          have H1 := Lib.hid h1
          have H2 := Lib.hid h2
          clear hcn gn0 hcI hcF hcL h1 h2
          go_wp2
          refine region_later_lit (by kernel_rfl) (by kernel_rfl) ?_
          repeat (first | go_big_quiet_step (first
               | (first | (go_at_call 44; (with_reducible refine Later.quiet_same _ (H1.out _))) | (go_at_call 44; (with_reducible refine Later.quiet_same _ (H2.out _))))))
          refine wpQuiet_nil ?_
          intro u
          go_wp2
          go_roundw
          case rel => exact ⟨j + 1, y.step u, rfl, by omega, by go_num⟩
          case measure => simp [intOf]; omega
        · go_wp2
          go_loopw [9] (fun i wr => ∃ j : Nat, ∃ y : Later x.w, wr = y.w ∧ j ≤ ss.length ∧ i = .int .i64 j) (fun i _ => ss.length - (intOf i).toNat)
          case atStart => exact ⟨0, y, rfl, Nat.zero_le _, rfl⟩
          case round =>
            clear gB0 gB1 sB y
            obtain ⟨s, y, rfl, hs', rfl⟩ := hrel
            have gB0 : y.w.cell? ⟨B, 0, none⟩ = some (.slice an ns.length cn) := ((x.step y).cell hBz).trans c0
            have gB1 : y.w.cell? ⟨B, 1, none⟩ = some (.slice aS ss.length cS) := ((x.step y).cell hBz).trans c1
            have sB : B < y.w.heap.size := Nat.lt_of_lt_of_le hBz (x.step y).size
            by_cases hlt3 : s < ss.length
            · obtain ⟨blm, olm, clm, flm, e, hcpm, hblm, hclm⟩ := hA.at hlt
              cases e
              obtain ⟨gzm, hrowm⟩ := hclm k hlt
              obtain ⟨arm, crm, efrm⟩ := hrowm.form
              rw [efrm] at gzm hrowm
              have glm := (y.cell hblm).trans gzm
              have slm : blm < y.w.heap.size := Nat.lt_of_lt_of_le hblm y.size
              have hSm := Lib.hid (mem_allOf.1 (row_mem hlt))
              clear hclm efrm
              obtain ⟨bn, on, cn', fn, e, hcpn, hbn, hcn⟩ := hs.at hlt3
              cases e
              obtain ⟨gn0, hrj⟩ := hcn s hlt3
              have gn : y.w.cell? ⟨bn, on + s, none⟩ = some (fn s) := ((x.step y).cell hbn).trans gn0
              have sn : bn < y.w.heap.size := Nat.lt_of_lt_of_le hbn (x.step y).size
              have p1 := Lib.hid (Place_calls _ (row (allOf ns ss) k) (s : Int) y.w (hrowm.later y))
              have p2 := Lib.hid (Place_calls _ (claimsF (tabOf ns ss) ns) (s : Int) y.w (hF.later y))
              have p3 := Lib.hid (Place_calls _ (lastF ns ss) (s : Int) y.w (hL.later y))
              have h1 := lrather_calls (fn s) (row ss s) (plc (claimsF (tabOf ns ss) ns) s) (plc (row (allOf ns ss) k) s) y.w ((hrj.later x).later y)
              have h2 := lrather_calls (fn s) (row ss s) (plc (row (allOf ns ss) k) s) (plc (lastF ns ss) s) y.w ((hrj.later x).later y)
              rw [worst_s HV.out hSm.out s] at h1
              rw [best_s HV.out hSm.out s] at h2
              have H1 := Lib.hid h1
              have H2 := Lib.hid h2
              clear hcn gn0 h1 h2
              go_wp2_with fail
              refine p1.out.mono ?_
              rintro e w' ⟨rfl, rfl⟩
              go_wp2_with fail
              refine p2.out.mono ?_
              rintro e w' ⟨rfl, rfl⟩
              go_wp2_with fail
              refine p3.out.mono ?_
              rintro e w' ⟨rfl, rfl⟩
              go_wp2_with fail
              refine H1.out.mono ?_
              rintro e w' ⟨rfl, rfl⟩
              go_wp2_with fail
              refine H2.out.mono ?_
              rintro e w' ⟨rfl, rfl⟩
              go_wp2
              go_roundw
              case rel => exact ⟨s + 1, y, rfl, by omega, by go_num⟩
              case measure => simp [intOf]; omega
            · go_wp2
              go_roundw
              case rel => exact ⟨k + 1, y, rfl, by omega, by go_num⟩
              case measure => simp [intOf]; omega
    · go_wp2_with fail
      refine (Works_calls y.w).mono ?_
      rintro e w' ⟨rfl, u, rfl⟩
      go_wp2
      go_ret
      exact ⟨rfl, ((z.step x).step y).step u, rfl⟩
end Go.Proofs.Ytieaibebnkdmhaa
