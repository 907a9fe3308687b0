import Derived.Test.YtieaibebnkdmhaaRefJ
namespace Go.Proofs.Ytieaibebnkdmhaa
open Go.RowKit

/-- for the first k nations (stars), a list l has nothing that is rather had than what m has -/
def okN (ns : List (List Int)) (m l : List Int) (k : Nat) : Bool := (List.range k).all fun n => !(decide (0 ≤ nth l n) && rth (row ns n) (nth l n) (nth m n))
def okS2 (ss : List (List Int)) (m l : List Int) (k : Nat) : Bool := (List.range k).all fun (s : Nat) => !(decide (0 ≤ plc l s) && rth (row ss s) (plc l s) (plc m s))
def okX (ns ss : List (List Int)) (stars : Bool) (m l : List Int) : Bool := bif stars then okS2 ss m l ss.length else okN ns m l ns.length
def okA (ns ss : List (List Int)) (stars : Bool) (m : List Int) (k : Nat) : Bool := ((allOf ns ss).take k).all (okX ns ss stars m)
def isBest (ns ss : List (List Int)) (stars : Bool) (m : List Int) : Bool := (allOf ns ss).all (okX ns ss stars m)
def bestL (ns ss : List (List Int)) (stars : Bool) : List Int := ((allOf ns ss).find? (isBest ns ss stars)).getD []
theorem okN_succ (ns : List (List Int)) (m l : List Int) (k : Nat) : okN ns m l (k + 1) = (okN ns m l k && !(decide (0 ≤ nth l k) && rth (row ns k) (nth l k) (nth m k))) := by simp [okN, List.range_succ]
theorem okS2_succ (ss : List (List Int)) (m l : List Int) (k : Nat) : okS2 ss m l (k + 1) = (okS2 ss m l k && !(decide (0 ≤ plc l k) && rth (row ss k) (plc l k) (plc m k))) := by simp [okS2, List.range_succ]
theorem okA_succ (ns ss : List (List Int)) (stars : Bool) (m : List Int) (k : Nat) (h : k < (allOf ns ss).length) : okA ns ss stars m (k + 1) = (okA ns ss stars m k && okX ns ss stars m (row (allOf ns ss) k)) := by
  rw [okA, List.take_succ_eq_append_getElem h, List.all_append, okA, row_eq h]; simp
theorem okA_end (ns ss : List (List Int)) (stars : Bool) (m : List Int) (k : Nat) (h : (allOf ns ss).length ≤ k) : okA ns ss stars m k = isBest ns ss stars m := by
  rw [okA, List.take_of_length_le h, isBest]
theorem find_row {l : List (List Int)} {p : List Int → Bool} {k : Nat} (h : k < l.length) (hp : p (row l k) = true) (hn : ∀ j, j < k → p (row l j) = false) : l.find? p = some (row l k) := by
  rw [List.find?_eq_some_iff_append]
  refine ⟨hp, l.take k, l.drop (k + 1), ?_, fun a ha => ?_⟩
  · rw [row_eq h, ← List.drop_eq_getElem_cons h, List.take_append_drop]
  · obtain ⟨j, hj, rfl⟩ := List.mem_iff_getElem.1 ha
    rw [List.length_take] at hj
    rw [List.getElem_take, ← row_eq (by omega), hn j (by omega)]; rfl
theorem find_norow {l : List (List Int)} {p : List Int → Bool} (hn : ∀ j, j < l.length → p (row l j) = false) : l.find? p = none := by
  rw [List.find?_eq_none]
  intro a ha
  obtain ⟨j, hj, rfl⟩ := List.mem_iff_getElem.1 ha
  rw [← row_eq hj, hn j hj]; simp
theorem allOf_len {ns ss : List (List Int)} {k : Nat} (h : k < (allOf ns ss).length) : (row (allOf ns ss) k).length = ns.length := by
  have := row_mem h
  rw [allOf, List.mem_filter] at this
  exact lvl_mem_len this.1
theorem allOf_size (ns ss : List (List Int)) (h6 : ns.length ≤ 6) (s6 : ss.length ≤ 6) : (allOf ns ss).length ≤ 117649 := by
  rw [allOf]; exact Nat.le_trans (List.length_filter_le _ _) (lvl_6 ns ss s6 h6)

set_option maxRecDepth 100000 in
set_option maxHeartbeats 4000000 in
theorem bestOf_false (nv sv : Value) (ns ss : List (List Int)) (w : World) (hn : Rows2 w nv ns) (hs : Rows2 w sv ss) (h6 : ns.length ≤ 6) (s6 : ss.length ≤ 6) :
    Calls Try.prog 67 #[.agg #[nv, sv], .bool false] w (GivesI (bestL ns ss false) w) := by
  have hsz := allOf_size ns ss h6 s6
  obtain ⟨an, cn, rfl⟩ := hn.form
  obtain ⟨aS, cS, rfl⟩ := hs.form
  go_enter Try.func67, Try.ntmps67
  go_wp2_with fail
  obtain ⟨B, hB⟩ : ∃ B, B = w.heap.size := ⟨_, rfl⟩
  obtain ⟨z, hz⟩ : ∃ z : Later w, z.w = w.alloc (.cells #[.slice an ns.length cn, .slice aS ss.length cS] 24) := ⟨Later.new _ _, rfl⟩
  have c0 : z.w.cell? ⟨B, 0, none⟩ = some (.slice an ns.length cn) := by rw [hz, hB]; simp [go_sem]
  have c1 : z.w.cell? ⟨B, 1, none⟩ = some (.slice aS ss.length cS) := by rw [hz, hB]; simp [go_sem]
  have hBz : B < z.w.heap.size := by rw [hz, hB]; simp [go_sem]
  have HZ : Hid (z.w.heap.size = B + 1) := Lib.hid (by rw [hz, hB]; simp)
  rw [← hz, ← hB]
  replace hn := hn.later z
  replace hs := hs.later z
  clear hz hB
  refine (AllOf_calls _ _ ns ss _ hn hs h6 s6).mono ?_
  rintro e w' ⟨av, x, rfl, rfl, hA⟩
  obtain ⟨aA, cA, rfl⟩ := hA.form
  go_wp2
  go_loopw [6] (fun i wr => ∃ k : Nat, ∃ y : Later x.w, wr = y.w ∧ k ≤ (allOf ns ss).length ∧ i = .int .i64 k ∧ Hid (∀ j, j < k → isBest ns ss false (row (allOf ns ss) j) = false)) (fun i _ => (allOf ns ss).length - (intOf i).toNat)
  case atStart => exact ⟨0, Later.self _, rfl, Nat.zero_le _, rfl, fun j hj => absurd hj (Nat.not_lt_zero _)⟩
  case round =>
    obtain ⟨i, y, rfl, hi, rfl, hp⟩ := hrel
    by_cases hlt : i < (allOf ns ss).length
    · obtain ⟨bA, oA, cA', fl, e, hcpA, hbA, hcA⟩ := hA.at hlt
      cases e
      obtain ⟨glI0, hrowI⟩ := hcA i hlt
      obtain ⟨arI, crI, efrI⟩ := hrowI.form
      rw [efrI] at glI0 hrowI
      clear efrI
      go_wp2
      go_loopw [7, 8] (fun b k wr => ∃ q : Nat, ∃ bb : Bool, ∃ y : Later x.w, wr = y.w ∧ q ≤ (allOf ns ss).length ∧ k = .int .i64 q ∧ b = .bool bb ∧ Hid (bb = okA ns ss false (row (allOf ns ss) i) q)) (fun _ k _ => (allOf ns ss).length - (intOf k).toNat)
      case atStart => exact ⟨0, true, y, rfl, Nat.zero_le _, rfl, rfl, by simp [Hid, okA]⟩
      case round =>
        clear y
        obtain ⟨q, bb, y, rfl, hq, rfl, rfl, hb⟩ := hrel
        by_cases hlt2 : q < (allOf ns ss).length
        · obtain ⟨glQ0, hrowQ⟩ := hcA q hlt2
          obtain ⟨arQ, crQ, efrQ⟩ := hrowQ.form
          rw [efrQ] at glQ0 hrowQ
          clear efrQ
          have hks := Lib.hid (okA_succ ns ss false (row (allOf ns ss) i) q hlt2)
          have gA := (y.cell hbA).trans glI0
          have gQ := (y.cell hbA).trans glQ0
          have sA : bA < y.w.heap.size := Nat.lt_of_lt_of_le hbA y.size
          have gB0 : y.w.cell? ⟨B, 0, none⟩ = some (.slice an ns.length cn) := ((x.step y).cell hBz).trans c0
          have gB1 : y.w.cell? ⟨B, 1, none⟩ = some (.slice aS ss.length cS) := ((x.step y).cell hBz).trans c1
          have sB : B < y.w.heap.size := Nat.lt_of_lt_of_le hBz (x.step y).size
          go_wp2
          go_loopw [7, 9] (fun b n wr => ∃ j : Nat, ∃ bb' : Bool, ∃ y : Later x.w, wr = y.w ∧ j ≤ ns.length ∧ n = .int .i64 j ∧ b = .bool bb' ∧ Hid (bb' = (bb && okN ns (row (allOf ns ss) i) (row (allOf ns ss) q) j))) (fun _ n _ => ns.length - (intOf n).toNat)
          case atStart => exact ⟨0, bb, y, rfl, Nat.zero_le _, rfl, rfl, by simp [Hid, okN]⟩
          case round =>
            clear gA gQ sA gB0 gB1 sB y
            obtain ⟨j, bj, y, rfl, hj, rfl, rfl, hbj⟩ := hrel
            have gA := (y.cell hbA).trans glI0
            have gQ := (y.cell hbA).trans glQ0
            have sA : bA < y.w.heap.size := Nat.lt_of_lt_of_le hbA y.size
            have gB0 : y.w.cell? ⟨B, 0, none⟩ = some (.slice an ns.length cn) := ((x.step y).cell hBz).trans c0
            have gB1 : y.w.cell? ⟨B, 1, none⟩ = some (.slice aS ss.length cS) := ((x.step y).cell hBz).trans c1
            have sB : B < y.w.heap.size := Nat.lt_of_lt_of_le hBz (x.step y).size
            by_cases hlt3 : j < ns.length
            · obtain ⟨bn, on, cn', fn, e, hcpn, hbn, hcn⟩ := hn.at hlt3
              cases e
              obtain ⟨gn0, hrj⟩ := hcn j hlt3
              have gn : y.w.cell? ⟨bn, on + j, none⟩ = some (fn j) := ((x.step y).cell hbn).trans gn0
              have sn : bn < y.w.heap.size := Nat.lt_of_lt_of_le hbn (x.step y).size
              have hjI : j < (row (allOf ns ss) i).length := by rw [allOf_len hlt]; exact hlt3
              have hjQ : j < (row (allOf ns ss) q).length := by rw [allOf_len hlt2]; exact hlt3
              obtain ⟨bI, oI, cI, e, hcpI, hbI, hcI⟩ := hrowI.at hjI
              cases e
              obtain ⟨bQ, oQ, cQ, e, hcpQ, hbQ, hcQ⟩ := hrowQ.at hjQ
              cases e
              have gI := (y.cell hbI).trans (hcI j hjI)
              have gJ := (y.cell hbQ).trans (hcQ j hjQ)
              have sI : bI < y.w.heap.size := Nat.lt_of_lt_of_le hbI y.size
              have sJ : bQ < y.w.heap.size := Nat.lt_of_lt_of_le hbQ y.size
              have hos := Lib.hid (okN_succ ns (row (allOf ns ss) i) (row (allOf ns ss) q) j)
              clear hcn gn0 hcI hcQ
              cases bj
              · go_wp2
                refine region_later_lit (by kernel_rfl) (by kernel_rfl) ?_
                repeat (first | go_big_quiet_step (first
                     | (fail)))
                refine wpQuiet_nil ?_
                intro u
                go_wp2
                go_roundw
                case rel => exact ⟨j + 1, _, y.step u, rfl, by omega, by go_num, rfl, by unfold Hid; rw [hos.out, ← Bool.and_assoc, ← hbj.out, Bool.false_and]⟩
                case measure => simp [intOf]; omega
              · cases h0 : decide (0 ≤ nth (row (allOf ns ss) q) j)
                · go_wp2
                  refine region_later_lit (by kernel_rfl) (by kernel_rfl) ?_
                  repeat (first | simp only [h0] | go_big_quiet_step (first
                       | (fail)))
                  refine wpQuiet_nil ?_
                  intro u
                  go_wp2
                  go_roundw
                  case rel => exact ⟨j + 1, _, y.step u, rfl, by omega, by go_num, rfl, by unfold Hid; rw [hos.out, ← Bool.and_assoc, ← hbj.out, h0, Bool.false_and, Bool.not_false, Bool.and_true]⟩
                  case measure => simp [intOf]; omega
                · cases h1 : rth (row ns j) (nth (row (allOf ns ss) q) j) (nth (row (allOf ns ss) i) j)
                  · have h1' := Lib.hid h1
                    go_wp2
                    refine region_later_lit (by kernel_rfl) (by kernel_rfl) ?_
                    repeat (first | simp only [h0] | simp only [h1] | go_big_quiet_step (first
                         | (go_at_call 79; exact Later.quiet_same _ (Rather_calls _ (row ns j) _ _ _ ((hrj.later (x.step y)).later _)))))
                    refine wpQuiet_nil ?_
                    intro u
                    go_wp2
                    go_roundw
                    case rel => exact ⟨j + 1, _, y.step u, rfl, by omega, by go_num, rfl, by unfold Hid; rw [hos.out, ← Bool.and_assoc, ← hbj.out, h0, h1'.out, Bool.and_false, Bool.not_false, Bool.and_true]⟩
                    case measure => simp [intOf]; omega
                  · have h1' := Lib.hid h1
                    go_wp2
                    refine region_later_lit (by kernel_rfl) (by kernel_rfl) ?_
                    repeat (first | simp only [h0] | simp only [h1] | go_big_quiet_step (first
                         | (go_at_call 79; exact Later.quiet_same _ (Rather_calls _ (row ns j) _ _ _ ((hrj.later (x.step y)).later _)))))
                    refine wpQuiet_nil ?_
                    intro u
                    go_wp2
                    go_roundw
                    case rel => exact ⟨j + 1, _, y.step u, rfl, by omega, by go_num, rfl, by unfold Hid; rw [hos.out, ← Bool.and_assoc, ← hbj.out, h0, h1'.out, Bool.and_self, Bool.not_true, Bool.and_false]⟩
                    case measure => simp [intOf]; omega
            · have hbe := Lib.hid (show bj = (bb && okX ns ss false (row (allOf ns ss) i) (row (allOf ns ss) q)) by rw [hbj.out, show j = ns.length by omega]; rfl)
              go_wp2
              go_loopw [7, 10] (fun b s wr => ∃ y : Later x.w, wr = y.w ∧ s = .int .i64 0 ∧ b = .bool bj) (fun _ _ _ => 0)
              case atStart => exact ⟨y, rfl, rfl, rfl⟩
              case round =>
                clear gA gQ sA gB0 gB1 sB y
                obtain ⟨y, rfl, rfl, rfl⟩ := hrel
                have gB0 : y.w.cell? ⟨B, 0, none⟩ = some (.slice an ns.length cn) := ((x.step y).cell hBz).trans c0
                have gB1 : y.w.cell? ⟨B, 1, none⟩ = some (.slice aS ss.length cS) := ((x.step y).cell hBz).trans c1
                have sB : B < y.w.heap.size := Nat.lt_of_lt_of_le hBz (x.step y).size
                go_wp2
                all_goals
                  go_roundw
                  case rel => exact ⟨q + 1, bj, y, rfl, by omega, by go_num, rfl, by unfold Hid; rw [hks.out, ← hb.out, ← hbe.out]⟩
                  case measure => simp [intOf]; omega
        · have hbe := Lib.hid (show bb = isBest ns ss false (row (allOf ns ss) i) by rw [hb.out, okA_end _ _ _ _ _ (by omega)])
          have gA := (y.cell hbA).trans glI0
          have sA : bA < y.w.heap.size := Nat.lt_of_lt_of_le hbA y.size
          cases bb
          · go_wp2
            go_roundw
            case rel =>
              refine ⟨i + 1, y, rfl, by omega, by go_num, fun j hj => ?_⟩
              by_cases e : j = i
              · subst e; exact hbe.out.symm
              · exact hp.out j (by omega)
            case measure => simp [intOf]; omega
          · have hfin := Lib.hid (show bestL ns ss false = row (allOf ns ss) i by rw [bestL, find_row hlt hbe.out.symm hp.out]; rfl)
            have hrf : Ints y.w _ _ := hrowI.later y
            go_wp2
            go_ret
            exact ⟨_, (z.step x).step y, rfl, rfl, by rw [hfin.out]; exact hrf⟩
    · have hfin := Lib.hid (show bestL ns ss false = [] by rw [bestL, find_norow fun j hj => hp.out j (by omega)]; rfl)
      go_wp2
      go_ret
      exact ⟨_, (z.step x).step y, rfl, rfl, by rw [hfin.out]; exact Ints.nil none 0⟩

set_option maxRecDepth 100000 in
set_option maxHeartbeats 4000000 in
theorem bestOf_true (nv sv : Value) (ns ss : List (List Int)) (w : World) (hn : Rows2 w nv ns) (hs : Rows2 w sv ss) (h6 : ns.length ≤ 6) (s6 : ss.length ≤ 6) :
    Calls Try.prog 67 #[.agg #[nv, sv], .bool true] w (GivesI (bestL ns ss true) w) := by
  have hsz := allOf_size ns ss h6 s6
  obtain ⟨an, cn, rfl⟩ := hn.form
  obtain ⟨aS, cS, rfl⟩ := hs.form
  go_enter Try.func67, Try.ntmps67
  go_wp2_with fail
  obtain ⟨B, hB⟩ : ∃ B, B = w.heap.size := ⟨_, rfl⟩
  obtain ⟨z, hz⟩ : ∃ z : Later w, z.w = w.alloc (.cells #[.slice an ns.length cn, .slice aS ss.length cS] 24) := ⟨Later.new _ _, rfl⟩
  have c0 : z.w.cell? ⟨B, 0, none⟩ = some (.slice an ns.length cn) := by rw [hz, hB]; simp [go_sem]
  have c1 : z.w.cell? ⟨B, 1, none⟩ = some (.slice aS ss.length cS) := by rw [hz, hB]; simp [go_sem]
  have hBz : B < z.w.heap.size := by rw [hz, hB]; simp [go_sem]
  have HZ : Hid (z.w.heap.size = B + 1) := Lib.hid (by rw [hz, hB]; simp)
  rw [← hz, ← hB]
  replace hn := hn.later z
  replace hs := hs.later z
  clear hz hB
  refine (AllOf_calls _ _ ns ss _ hn hs h6 s6).mono ?_
  rintro e w' ⟨av, x, rfl, rfl, hA⟩
  obtain ⟨aA, cA, rfl⟩ := hA.form
  go_wp2
  go_loopw [6] (fun i wr => ∃ k : Nat, ∃ y : Later x.w, wr = y.w ∧ k ≤ (allOf ns ss).length ∧ i = .int .i64 k ∧ Hid (∀ j, j < k → isBest ns ss true (row (allOf ns ss) j) = false)) (fun i _ => (allOf ns ss).length - (intOf i).toNat)
  case atStart => exact ⟨0, Later.self _, rfl, Nat.zero_le _, rfl, fun j hj => absurd hj (Nat.not_lt_zero _)⟩
  case round =>
    obtain ⟨i, y, rfl, hi, rfl, hp⟩ := hrel
    by_cases hlt : i < (allOf ns ss).length
    · obtain ⟨bA, oA, cA', fl, e, hcpA, hbA, hcA⟩ := hA.at hlt
      cases e
      obtain ⟨glI0, hrowI⟩ := hcA i hlt
      obtain ⟨arI, crI, efrI⟩ := hrowI.form
      rw [efrI] at glI0 hrowI
      clear efrI
      go_wp2
      go_loopw [7, 8] (fun b k wr => ∃ q : Nat, ∃ bb : Bool, ∃ y : Later x.w, wr = y.w ∧ q ≤ (allOf ns ss).length ∧ k = .int .i64 q ∧ b = .bool bb ∧ Hid (bb = okA ns ss true (row (allOf ns ss) i) q)) (fun _ k _ => (allOf ns ss).length - (intOf k).toNat)
      case atStart => exact ⟨0, true, y, rfl, Nat.zero_le _, rfl, rfl, by simp [Hid, okA]⟩
      case round =>
        clear y
        obtain ⟨q, bb, y, rfl, hq, rfl, rfl, hb⟩ := hrel
        by_cases hlt2 : q < (allOf ns ss).length
        · obtain ⟨glQ0, hrowQ⟩ := hcA q hlt2
          obtain ⟨arQ, crQ, efrQ⟩ := hrowQ.form
          rw [efrQ] at glQ0 hrowQ
          clear efrQ
          have hks := Lib.hid (okA_succ ns ss true (row (allOf ns ss) i) q hlt2)
          have gA := (y.cell hbA).trans glI0
          have gQ := (y.cell hbA).trans glQ0
          have sA : bA < y.w.heap.size := Nat.lt_of_lt_of_le hbA y.size
          have gB0 : y.w.cell? ⟨B, 0, none⟩ = some (.slice an ns.length cn) := ((x.step y).cell hBz).trans c0
          have gB1 : y.w.cell? ⟨B, 1, none⟩ = some (.slice aS ss.length cS) := ((x.step y).cell hBz).trans c1
          have sB : B < y.w.heap.size := Nat.lt_of_lt_of_le hBz (x.step y).size
          go_wp2
          go_loopw [7, 9] (fun b s wr => ∃ y : Later x.w, wr = y.w ∧ s = .int .i64 0 ∧ b = .bool bb) (fun _ _ _ => 0)
          case atStart => exact ⟨y, rfl, rfl, rfl⟩
          case round =>
            clear gA gQ sA gB0 gB1 sB y
            obtain ⟨y, rfl, rfl, rfl⟩ := hrel
            have gB0 : y.w.cell? ⟨B, 0, none⟩ = some (.slice an ns.length cn) := ((x.step y).cell hBz).trans c0
            have gB1 : y.w.cell? ⟨B, 1, none⟩ = some (.slice aS ss.length cS) := ((x.step y).cell hBz).trans c1
            have sB : B < y.w.heap.size := Nat.lt_of_lt_of_le hBz (x.step y).size
            go_wp2
            all_goals
              go_loopw [7, 10] (fun b n wr => ∃ j : Nat, ∃ bb' : Bool, ∃ y : Later x.w, wr = y.w ∧ j ≤ ss.length ∧ n = .int .i64 j ∧ b = .bool bb' ∧ Hid (bb' = (bb && okS2 ss (row (allOf ns ss) i) (row (allOf ns ss) q) j))) (fun _ n _ => ss.length - (intOf n).toNat)
              case atStart => exact ⟨0, bb, y, rfl, Nat.zero_le _, rfl, rfl, by simp [Hid, okS2]⟩
              case round =>
                clear gB0 gB1 sB y
                obtain ⟨j, bj, y, rfl, hj, rfl, rfl, hbj⟩ := hrel
                have gA := (y.cell hbA).trans glI0
                have gQ := (y.cell hbA).trans glQ0
                have sA : bA < y.w.heap.size := Nat.lt_of_lt_of_le hbA y.size
                have gB0 : y.w.cell? ⟨B, 0, none⟩ = some (.slice an ns.length cn) := ((x.step y).cell hBz).trans c0
                have gB1 : y.w.cell? ⟨B, 1, none⟩ = some (.slice aS ss.length cS) := ((x.step y).cell hBz).trans c1
                have sB : B < y.w.heap.size := Nat.lt_of_lt_of_le hBz (x.step y).size
                by_cases hlt3 : j < ss.length
                · obtain ⟨bn, on, cn', fn, e, hcpn, hbn, hcn⟩ := hs.at hlt3
                  cases e
                  obtain ⟨gn0, hrj⟩ := hcn j hlt3
                  have gn : y.w.cell? ⟨bn, on + j, none⟩ = some (fn j) := ((x.step y).cell hbn).trans gn0
                  have sn : bn < y.w.heap.size := Nat.lt_of_lt_of_le hbn (x.step y).size
                  have hos := Lib.hid (okS2_succ ss (row (allOf ns ss) i) (row (allOf ns ss) q) j)
                  clear hcn gn0
                  cases bj
                  · go_wp2
                    refine region_later_lit (by kernel_rfl) (by kernel_rfl) ?_
                    repeat (first | go_big_quiet_step (first
                         | (fail)))
                    refine wpQuiet_nil ?_
                    intro u
                    go_wp2
                    go_roundw
                    case rel => exact ⟨j + 1, _, y.step u, rfl, by omega, by go_num, rfl, by unfold Hid; rw [hos.out, ← Bool.and_assoc, ← hbj.out, Bool.false_and]⟩
                    case measure => simp [intOf]; omega
                  · cases h0 : decide (0 ≤ plc (row (allOf ns ss) q) j)
                    · go_wp2
                      refine region_later_lit (by kernel_rfl) (by kernel_rfl) ?_
                      repeat (first | simp only [h0] | go_big_quiet_step (first
                           | (first | (go_at_call 45; (with_reducible refine Later.quiet_same _ (Place_calls _ (row (allOf ns ss) q) _ _ ?_)); exact (hrowQ.later y).later _) | (go_at_call 45; (with_reducible refine Later.quiet_same _ (Place_calls _ (row (allOf ns ss) i) _ _ ?_)); exact (hrowI.later y).later _) | (go_at_call 79; exact Later.quiet_same _ (Rather_calls _ (row ss j) _ _ _ ((hrj.later (x.step y)).later _))))))
                      refine wpQuiet_nil ?_
                      intro u
                      go_wp2
                      go_roundw
                      case rel => exact ⟨j + 1, _, y.step u, rfl, by omega, by go_num, rfl, by unfold Hid; rw [hos.out, ← Bool.and_assoc, ← hbj.out, h0, Bool.false_and, Bool.not_false, Bool.and_true]⟩
                      case measure => simp [intOf]; omega
                    · cases h1 : rth (row ss j) (plc (row (allOf ns ss) q) j) (plc (row (allOf ns ss) i) j)
                      · have h1' := Lib.hid h1
                        go_wp2
                        refine region_later_lit (by kernel_rfl) (by kernel_rfl) ?_
                        repeat (first | simp only [h0] | simp only [h1] | go_big_quiet_step (first
                             | (first | (go_at_call 45; (with_reducible refine Later.quiet_same _ (Place_calls _ (row (allOf ns ss) q) _ _ ?_)); exact (hrowQ.later y).later _) | (go_at_call 45; (with_reducible refine Later.quiet_same _ (Place_calls _ (row (allOf ns ss) i) _ _ ?_)); exact (hrowI.later y).later _) | (go_at_call 79; exact Later.quiet_same _ (Rather_calls _ (row ss j) _ _ _ ((hrj.later (x.step y)).later _))))))
                        refine wpQuiet_nil ?_
                        intro u
                        go_wp2
                        go_roundw
                        case rel => exact ⟨j + 1, _, y.step u, rfl, by omega, by go_num, rfl, by unfold Hid; rw [hos.out, ← Bool.and_assoc, ← hbj.out, h0, h1'.out, Bool.and_false, Bool.not_false, Bool.and_true]⟩
                        case measure => simp [intOf]; omega
                      · have h1' := Lib.hid h1
                        go_wp2
                        refine region_later_lit (by kernel_rfl) (by kernel_rfl) ?_
                        repeat (first | simp only [h0] | simp only [h1] | go_big_quiet_step (first
                             | (first | (go_at_call 45; (with_reducible refine Later.quiet_same _ (Place_calls _ (row (allOf ns ss) q) _ _ ?_)); exact (hrowQ.later y).later _) | (go_at_call 45; (with_reducible refine Later.quiet_same _ (Place_calls _ (row (allOf ns ss) i) _ _ ?_)); exact (hrowI.later y).later _) | (go_at_call 79; exact Later.quiet_same _ (Rather_calls _ (row ss j) _ _ _ ((hrj.later (x.step y)).later _))))))
                        refine wpQuiet_nil ?_
                        intro u
                        go_wp2
                        go_roundw
                        case rel => exact ⟨j + 1, _, y.step u, rfl, by omega, by go_num, rfl, by unfold Hid; rw [hos.out, ← Bool.and_assoc, ← hbj.out, h0, h1'.out, Bool.and_self, Bool.not_true, Bool.and_false]⟩
                        case measure => simp [intOf]; omega
                · have hbe := Lib.hid (show bj = (bb && okX ns ss true (row (allOf ns ss) i) (row (allOf ns ss) q)) by rw [hbj.out, show j = ss.length by omega]; rfl)
                  go_wp2
                  go_roundw
                  case rel => exact ⟨q + 1, bj, y, rfl, by omega, by go_num, rfl, by unfold Hid; rw [hks.out, ← hb.out, ← hbe.out]⟩
                  case measure => simp [intOf]; omega
        · have hbe := Lib.hid (show bb = isBest ns ss true (row (allOf ns ss) i) by rw [hb.out, okA_end _ _ _ _ _ (by omega)])
          have gA := (y.cell hbA).trans glI0
          have sA : bA < y.w.heap.size := Nat.lt_of_lt_of_le hbA y.size
          cases bb
          · go_wp2
            go_roundw
            case rel =>
              refine ⟨i + 1, y, rfl, by omega, by go_num, fun j hj => ?_⟩
              by_cases e : j = i
              · subst e; exact hbe.out.symm
              · exact hp.out j (by omega)
            case measure => simp [intOf]; omega
          · have hfin := Lib.hid (show bestL ns ss true = row (allOf ns ss) i by rw [bestL, find_row hlt hbe.out.symm hp.out]; rfl)
            have hrf : Ints y.w _ _ := hrowI.later y
            go_wp2
            go_ret
            exact ⟨_, (z.step x).step y, rfl, rfl, by rw [hfin.out]; exact hrf⟩
    · have hfin := Lib.hid (show bestL ns ss true = [] by rw [bestL, find_norow fun j hj => hp.out j (by omega)]; rfl)
      go_wp2
      go_ret
      exact ⟨_, (z.step x).step y, rfl, rfl, by rw [hfin.out]; exact Ints.nil none 0⟩

end Go.Proofs.Ytieaibebnkdmhaa
