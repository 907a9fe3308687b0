import Derived.Test.YtieaibebnkdmhaaLaw4
import Derived.Test.YtieaibebnkdmhaaTh6
import Derived.Test.YtieaibebnkdmhaaWorks
namespace Go.Proofs.Ytieaibebnkdmhaa
open Go.RowKit

theorem sett_star {ns ss : List (List Int)} {m l : List Int} (hm : Sett ns ss m) (hl : Sett ns ss l) (s : Nat) : decide (plc m s < 0) = decide (plc l s < 0) := by
  have key : ∀ {m l : List Int}, Sett ns ss m → Sett ns ss l → ¬ plc m s < 0 → ¬ plc l s < 0 := fun {m l} hm hl h => by
    obtain ⟨n, hn⟩ : ∃ n : Nat, plc m s = n := ⟨(plc m s).toNat, by omega⟩
    obtain ⟨k, hk⟩ := hm.stab.ruralS hl.stab (rel_plc hn)
    rw [plc_rel (fun i j s a b => hl.stab.fs a b) hk]
    omega
  rw [decide_eq_decide]
  exact ⟨fun h => Classical.byContradiction fun h' => key hl hm h' h, fun h => Classical.byContradiction fun h' => key hm hl h' h⟩

theorem kind_of {ns ss : List (List Int)} (hv : vbook ns ss = 0) {p q : Nat} (hp : p < ns.length) (hq : q < ss.length) :
    KindR ns ss p q = if cntK p q (allOf ns ss) = (allOf ns ss).length then (2, 0) else if cntK p q (allOf ns ss) = 0 then (0, 0) else (1, 0) := by
  rw [KindR_eq, rKind, if_neg (by simp [hv]), if_neg (by omega), Int.toNat_natCast]
set_option maxRecDepth 100000 in
set_option maxHeartbeats 4000000 in
theorem Same_calls (nv sv : Value) (ns ss : List (List Int)) (a b : Int) (w : World) (hn : Rows2 w nv ns) (hs : Rows2 w sv ss) (ha0 : 0 ≤ a) (ha1 : a ≤ 255) (hb0 : 0 ≤ b) (hb1 : b ≤ 255) :
    Calls Try.prog 9 #[.agg #[nv, sv], .int .u8 a, .int .u8 b] w (Gives (.bool true) w) := by
  have hnl := hn.1
  have hsl := hs.1
  obtain ⟨an, cn, rfl⟩ := hn.form
  obtain ⟨aS, cS, rfl⟩ := hs.form
  by_cases hv : vbook ns ss = 0
  rotate_left
  · have hvb : (vbook ns ss == 0) = false := by simpa using hv
    clear hv
    go_enter Try.func9, Try.ntmps9
    go_wp2_with fail
    obtain ⟨B, hB⟩ : ∃ B, B = w.heap.size := ⟨_, rfl⟩
    obtain ⟨z, hz⟩ : ∃ z : Later w, z.w = w.alloc (.cells #[.slice an ns.length cn, .slice aS ss.length cS] 24) := ⟨Later.new _ _, rfl⟩
    have c0 : z.w.cell? ⟨B, 0, none⟩ = some (.slice an ns.length cn) := by rw [hz, hB]; simp [go_sem]
    have c1 : z.w.cell? ⟨B, 1, none⟩ = some (.slice aS ss.length cS) := by rw [hz, hB]; simp [go_sem]
    have hBz : B < z.w.heap.size := by rw [hz, hB]; simp [go_sem]
    have HZ : Hid (z.w.heap.size = B + 1) := Lib.hid (by rw [hz, hB]; simp)
    rw [← hz, ← hB]
    replace hn := hn.later z
    replace hs := hs.later z
    clear hz hB
    refine (fine_calls _ _ ns ss _ hn hs).mono ?_
    rintro e w' ⟨rfl, x, rfl⟩
    rw [hvb]
    go_wp2_with fail
    refine (Works_calls x.w).mono ?_
    rintro e w' ⟨rfl, y, rfl⟩
    go_wp2
    go_ret
    exact ⟨rfl, (z.step x).step y, rfl⟩
  have hvb : (vbook ns ss == 0) = true := by rw [hv]; rfl
  have HV := Lib.hid hv
  clear hv
  go_enter Try.func9, Try.ntmps9
  go_wp2_with fail
  obtain ⟨B, hB⟩ : ∃ B, B = w.heap.size := ⟨_, rfl⟩
  obtain ⟨z, hz⟩ : ∃ z : Later w, z.w = w.alloc (.cells #[.slice an ns.length cn, .slice aS ss.length cS] 24) := ⟨Later.new _ _, rfl⟩
  have c0 : z.w.cell? ⟨B, 0, none⟩ = some (.slice an ns.length cn) := by rw [hz, hB]; simp [go_sem]
  have c1 : z.w.cell? ⟨B, 1, none⟩ = some (.slice aS ss.length cS) := by rw [hz, hB]; simp [go_sem]
  have hBz : B < z.w.heap.size := by rw [hz, hB]; simp [go_sem]
  have HZ : Hid (z.w.heap.size = B + 1) := Lib.hid (by rw [hz, hB]; simp)
  rw [← hz, ← hB]
  replace hn := hn.later z
  replace hs := hs.later z
  clear hz hB
  refine (fine_calls _ _ ns ss _ hn hs).mono ?_
  rintro e w' ⟨rfl, x, rfl⟩
  rw [hvb]
  clear hvb
  go_wp2_with fail
  refine (told_calls _ _ ns ss _ (hn.later x) (hs.later x) HV.out).mono ?_
  rintro e w' ⟨av, fv, lv, y, rfl, rfl, hA, hF, hL⟩
  obtain ⟨q, hq⟩ : ∃ q : Later z.w, y.w = q.w := ⟨x.step y, rfl⟩
  rw [hq] at hA hF hL ⊢
  clear hq y x
  obtain ⟨x, rfl⟩ : ∃ x, x = q := ⟨_, rfl⟩
  have hAl := hA.1
  obtain ⟨aA, cA, rfl⟩ := hA.form
  obtain ⟨aF, cF, rfl⟩ := hF.form
  obtain ⟨aL, cL, rfl⟩ := hL.form
  have hposA : 0 < (allOf ns ss).length := List.length_pos_of_mem (mem_allOf.2 (claims_sett HV.out))
  have hbn := vbook_valid HV.out
  have hN1 : 1 ≤ ns.length := hbn.1
  have hS1 : 1 ≤ ss.length := hbn.2.2.1
  have h720 := allOf_720 HV.out
  clear hbn
  go_wp2
  refine region_later_lit (by kernel_rfl) (by kernel_rfl) ?_
  repeat (first | go_big_quiet_step (first
       | (fail)))
  refine wpQuiet_nil ?_
  intro u
  obtain ⟨p, hp⟩ : ∃ p : Nat, a % (ns.length : Int) = p := ⟨(a % (ns.length : Int)).toNat, by have := Int.emod_nonneg a (show (ns.length : Int) ≠ 0 by omega); omega⟩
  obtain ⟨q, hq⟩ : ∃ q : Nat, b % (ss.length : Int) = q := ⟨(b % (ss.length : Int)).toNat, by have := Int.emod_nonneg b (show (ss.length : Int) ≠ 0 by omega); omega⟩
  have hpN : p < ns.length := by have := Int.emod_lt_of_pos a (show (0 : Int) < ns.length by omega); omega
  have hqS : q < ss.length := by have := Int.emod_lt_of_pos b (show (0 : Int) < ss.length by omega); omega
  rw [hp, hq]
  clear hp hq
  have hKd := Lib.hid (kind_of HV.out hpN hqS)
  go_wp2
  go_loopw [13, 14] (fun c i wr => ∃ k : Nat, ∃ cc : Nat, ∃ y : Later x.w, wr = y.w ∧ k ≤ (allOf ns ss).length ∧ i = .int .i64 k ∧ c = .int .i64 cc ∧ cc ≤ k ∧ Hid (cntK p q (allOf ns ss) = cc + cntK p q ((allOf ns ss).drop k))) (fun _ i _ => (allOf ns ss).length - (intOf i).toNat)
  case atStart => exact ⟨0, 0, u, rfl, Nat.zero_le _, rfl, rfl, Nat.le_refl _, by simp [Hid]⟩
  case round =>
    clear u
    obtain ⟨k, cc, y, rfl, hk, rfl, rfl, hck, hcn⟩ := hrel
    by_cases hlt : k < (allOf ns ss).length
    · go_wp2
      go_loopw [15] (fun i wr => ∃ j : Nat, ∃ y : Later x.w, wr = y.w ∧ j ≤ ns.length ∧ i = .int .i64 j) (fun i _ => ns.length - (intOf i).toNat)
      case atStart => exact ⟨0, y, rfl, Nat.zero_le _, rfl⟩
      case round =>
        clear y
        obtain ⟨j, y, rfl, hj, rfl⟩ := hrel
        have gB0 : y.w.cell? ⟨B, 0, none⟩ = some (.slice an ns.length cn) := ((x.step y).cell hBz).trans c0
        have gB1 : y.w.cell? ⟨B, 1, none⟩ = some (.slice aS ss.length cS) := ((x.step y).cell hBz).trans c1
        have sB : B < y.w.heap.size := Nat.lt_of_lt_of_le hBz (x.step y).size
        by_cases hlt2 : j < ns.length
        · obtain ⟨blm, olm, clm, flm, e, hcpm, hblm, hclm⟩ := hA.at hlt
          cases e
          have slm : blm < y.w.heap.size := Nat.lt_of_lt_of_le hblm y.size
          obtain ⟨gzm, hrowm⟩ := hclm k hlt
          obtain ⟨arm, crm, efrm⟩ := hrowm.form
          rw [efrm] at gzm hrowm
          have glm := (y.cell hblm).trans gzm
          have hSm := Lib.hid (mem_allOf.1 (row_mem hlt))
          clear efrm
          obtain ⟨gz0, hrow0⟩ := hclm 0 hposA
          obtain ⟨ar0, cr0, efr0⟩ := hrow0.form
          rw [efr0] at gz0 hrow0
          have gl0 := (y.cell hblm).trans gz0
          have hS0 := Lib.hid (mem_allOf.1 (row_mem hposA))
          clear efr0
          rw [Nat.add_zero] at gl0
          clear hclm
          have hjm : j < (row (allOf ns ss) k).length := by rw [hSm.out.1.len]; exact hlt2
          have hj0 : j < (row (allOf ns ss) 0).length := by rw [hS0.out.1.len]; exact hlt2
          obtain ⟨bI, oI, cI, e, hcpI, hbI, hcI⟩ := hrowm.at hjm
          cases e
          obtain ⟨bJ, oJ, cJ, e, hcpJ, hbJ, hcJ⟩ := hrow0.at hj0
          cases e
          have gI := (y.cell hbI).trans (hcI j hjm)
          have gJ := (y.cell hbJ).trans (hcJ j hj0)
          have sI : bI < y.w.heap.size := Nat.lt_of_lt_of_le hbI y.size
          have sJ : bJ < y.w.heap.size := Nat.lt_of_lt_of_le hbJ y.size
          have hbb : (decide (nth (row (allOf ns ss) k) j < 0) == decide (nth (row (allOf ns ss) 0) j < 0)) = true := by
            have := sett_nonneg hSm.out hS0.out hlt2
            rw [beq_iff_eq, decide_eq_decide]
            omega
          clear hcI hcJ
          go_wp2
          refine region_later_lit (by kernel_rfl) (by kernel_rfl) ?_
          repeat (first | simp only [hbb] | go_big_quiet_step (first
               | (fail)))
          refine wpQuiet_nil ?_
          intro u
          go_wp2
          go_roundw
          case rel => exact ⟨j + 1, y.step u, rfl, by omega, by go_num⟩
          case measure => simp [intOf]; omega
        · go_wp2
          go_loopw [16] (fun i wr => ∃ j : Nat, ∃ y : Later x.w, wr = y.w ∧ j ≤ ss.length ∧ i = .int .i64 j) (fun i _ => ss.length - (intOf i).toNat)
          case atStart => exact ⟨0, y, rfl, Nat.zero_le _, rfl⟩
          case round =>
            clear gB0 gB1 sB y
            obtain ⟨s, y, rfl, hs', rfl⟩ := hrel
            have gB0 : y.w.cell? ⟨B, 0, none⟩ = some (.slice an ns.length cn) := ((x.step y).cell hBz).trans c0
            have gB1 : y.w.cell? ⟨B, 1, none⟩ = some (.slice aS ss.length cS) := ((x.step y).cell hBz).trans c1
            have sB : B < y.w.heap.size := Nat.lt_of_lt_of_le hBz (x.step y).size
            by_cases hlt3 : s < ss.length
            · obtain ⟨blm, olm, clm, flm, e, hcpm, hblm, hclm⟩ := hA.at hlt
              cases e
              have slm : blm < y.w.heap.size := Nat.lt_of_lt_of_le hblm y.size
              obtain ⟨gzm, hrowm⟩ := hclm k hlt
              obtain ⟨arm, crm, efrm⟩ := hrowm.form
              rw [efrm] at gzm hrowm
              have glm := (y.cell hblm).trans gzm
              have hSm := Lib.hid (mem_allOf.1 (row_mem hlt))
              clear efrm
              obtain ⟨gz0, hrow0⟩ := hclm 0 hposA
              obtain ⟨ar0, cr0, efr0⟩ := hrow0.form
              rw [efr0] at gz0 hrow0
              have gl0 := (y.cell hblm).trans gz0
              have hS0 := Lib.hid (mem_allOf.1 (row_mem hposA))
              clear efr0
              rw [Nat.add_zero] at gl0
              clear hclm
              have hbb : (decide (plc (row (allOf ns ss) k) (s : Int) < 0) == decide (plc (row (allOf ns ss) 0) (s : Int) < 0)) = true := by
                rw [beq_iff_eq]; exact sett_star hSm.out hS0.out s
              have p1 := Lib.hid (fun (u : Later y.w) => Place_calls _ (row (allOf ns ss) k) (s : Int) u.w ((hrowm.later y).later u))
              have p2 := Lib.hid (fun (u : Later y.w) => Place_calls _ (row (allOf ns ss) 0) (s : Int) u.w ((hrow0.later y).later u))
              go_wp2
              refine region_later_lit (by kernel_rfl) (by kernel_rfl) ?_
              repeat (first | simp only [hbb] | go_big_quiet_step (first
                   | ((go_at_call 45; first | (with_reducible exact Later.quiet_same _ (p1.out _)) | (with_reducible exact Later.quiet_same _ (p2.out _))))))
              refine wpQuiet_nil ?_
              intro u
              go_wp2
              go_roundw
              case rel => exact ⟨s + 1, y.step u, rfl, by omega, by go_num⟩
              case measure => simp [intOf]; omega
            · obtain ⟨blm, olm, clm, flm, e, hcpm, hblm, hclm⟩ := hA.at hlt
              cases e
              obtain ⟨gzm, hrowm⟩ := hclm k hlt
              obtain ⟨arm, crm, efrm⟩ := hrowm.form
              rw [efrm] at gzm hrowm
              have glm := (y.cell hblm).trans gzm
              have slm : blm < y.w.heap.size := Nat.lt_of_lt_of_le hblm y.size
              have hSm := Lib.hid (mem_allOf.1 (row_mem hlt))
              clear hclm efrm
              have hpm : p < (row (allOf ns ss) k).length := by rw [hSm.out.1.len]; exact hpN
              obtain ⟨bI, oI, cI, e, hcpI, hbI, hcI⟩ := hrowm.at hpm
              cases e
              have gI := (y.cell hbI).trans (hcI p hpm)
              have sI : bI < y.w.heap.size := Nat.lt_of_lt_of_le hbI y.size
              have hks := Lib.hid (cntK_at p q (allOf ns ss) k hlt)
              clear hcI
              cases he : (nth (row (allOf ns ss) k) p == (q : Int))
              · have hs2 := Lib.hid (show cntK p q ((allOf ns ss).drop k) = cntK p q ((allOf ns ss).drop (k + 1)) by rw [hks.out, if_neg (by simpa using he)]; omega)
                go_wp2
                go_roundw
                case rel => exact ⟨k + 1, cc, y, rfl, by omega, by go_num, rfl, by omega, by unfold Hid; rw [hcn.out, hs2.out]⟩
                case measure => simp [intOf]; omega
              · have hs2 := Lib.hid (show cntK p q ((allOf ns ss).drop k) = 1 + cntK p q ((allOf ns ss).drop (k + 1)) by rw [hks.out, if_pos (by simpa using he)])
                go_wp2
                go_roundw
                case rel => exact ⟨k + 1, cc + 1, y, rfl, by omega, by go_num, by go_num, by omega, by unfold Hid; rw [hcn.out, hs2.out]; omega⟩
                case measure => simp [intOf]; omega
    · have hc := Lib.hid (show cntK p q (allOf ns ss) = cc by rw [hcn.out, cntK_end _ _ _ _ (by omega)]; omega)
      clear hcn
      have hcon := Kind_calls _ _ ns ss (p : Int) (q : Int) y.w ((hn.later x).later y) ((hs.later x).later y)
      have gB0 : y.w.cell? ⟨B, 0, none⟩ = some (.slice an ns.length cn) := ((x.step y).cell hBz).trans c0
      have gB1 : y.w.cell? ⟨B, 1, none⟩ = some (.slice aS ss.length cS) := ((x.step y).cell hBz).trans c1
      have sB : B < y.w.heap.size := Nat.lt_of_lt_of_le hBz (x.step y).size
      by_cases e1 : cc = (allOf ns ss).length
      · have hfin : KindR ns ss p q = (2, 0) := by rw [hKd.out, if_pos (by rw [hc.out]; exact e1)]
        rw [hfin] at hcon
        have HC := Lib.hid hcon
        have e1' : ((cc : Int) == ((allOf ns ss).length : Int)) = true := beq_iff_eq.2 (by omega)
        have e2' : ((cc : Int) == 0) = false := beq_eq_false_iff_ne.2 (by omega)
        clear e1 hfin hcon
        go_wp2_with fail
        refine HC.out.mono ?_
        rintro e w' ⟨rfl, v, rfl⟩
        go_wp2_with fail
        refine (Works_calls v.w).mono ?_
        rintro e w' ⟨rfl, v2, rfl⟩
        go_wp2
        go_ret
        exact ⟨rfl, (((z.step x).step y).step v).step v2, rfl⟩
      · have e1' : ((cc : Int) == ((allOf ns ss).length : Int)) = false := beq_eq_false_iff_ne.2 (by omega)
        by_cases e2 : cc = 0
        · have hfin : KindR ns ss p q = (0, 0) := by rw [hKd.out, if_neg (by rw [hc.out]; exact e1), if_pos (by rw [hc.out]; exact e2)]
          rw [hfin] at hcon
          have HC := Lib.hid hcon
          have e2' : ((cc : Int) == 0) = true := beq_iff_eq.2 (by omega)
          clear e1 e2 hfin hcon
          go_wp2_with fail
          refine HC.out.mono ?_
          rintro e w' ⟨rfl, v, rfl⟩
          go_wp2_with fail
          refine (Works_calls v.w).mono ?_
          rintro e w' ⟨rfl, v2, rfl⟩
          go_wp2
          go_ret
          exact ⟨rfl, (((z.step x).step y).step v).step v2, rfl⟩
        · have hfin : KindR ns ss p q = (1, 0) := by rw [hKd.out, if_neg (by rw [hc.out]; exact e1), if_neg (by rw [hc.out]; exact e2)]
          rw [hfin] at hcon
          have HC := Lib.hid hcon
          have e2' : ((cc : Int) == 0) = false := beq_eq_false_iff_ne.2 (by omega)
          clear e1 e2 hfin hcon
          go_wp2_with fail
          refine HC.out.mono ?_
          rintro e w' ⟨rfl, v, rfl⟩
          go_wp2_with fail
          refine (Works_calls v.w).mono ?_
          rintro e w' ⟨rfl, v2, rfl⟩
          go_wp2
          go_ret
          exact ⟨rfl, (((z.step x).step y).step v).step v2, rfl⟩
end Go.Proofs.Ytieaibebnkdmhaa
