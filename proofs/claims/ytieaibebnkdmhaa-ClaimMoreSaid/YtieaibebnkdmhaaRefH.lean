import Derived.Test.YtieaibebnkdmhaaRefG
namespace Go.Proofs.Ytieaibebnkdmhaa
open Go.RowKit

set_option maxRecDepth 100000 in
set_option maxHeartbeats 1000000 in
theorem refUnsettled_calls (nv sv mv : Value) (ns ss : List (List Int)) (m : List Int) (w : World) (hn : Rows2 w nv ns) (hs : Rows2 w sv ss) (hm : Ints w mv m) :
    Calls Try.prog 22 #[.agg #[nv, sv], mv] w (Gives (.tuple #[.int .i64 (unsR ns ss m).1, .int .i64 (unsR ns ss m).2.1, .int .i64 (unsR ns ss m).2.2]) w) := by
  obtain ⟨an, cn, rfl⟩ := hn.form
  obtain ⟨aS, cS, rfl⟩ := hs.form
  by_cases hv : vmatch ns ss m = 0
  rotate_left
  · have hr := Lib.hid (show unsR ns ss m = (0, 0, vmatch ns ss m) by rw [unsR_eq, if_neg hv])
    have hbb : (vmatch ns ss m != 0) = true := by simpa using hv
    clear hv
    go_enter Try.func22, Try.ntmps22
    go_wp2_with fail
    obtain ⟨B, hB⟩ : ∃ B, B = w.heap.size := ⟨_, rfl⟩
    obtain ⟨z, hz⟩ : ∃ z : Later w, z.w = w.alloc (.cells #[.slice an ns.length cn, .slice aS ss.length cS] 24) := ⟨Later.new _ _, rfl⟩
    have c0 : z.w.cell? ⟨B, 0, none⟩ = some (.slice an ns.length cn) := by rw [hz, hB]; simp [go_sem]
    have c1 : z.w.cell? ⟨B, 1, none⟩ = some (.slice aS ss.length cS) := by rw [hz, hB]; simp [go_sem]
    have hBz : B < z.w.heap.size := by rw [hz, hB]; simp [go_sem]
    have HZ : Hid (z.w.heap.size = B + 1) := Lib.hid (by rw [hz, hB]; simp)
    rw [← hz, ← hB]
    replace hn := hn.later z
    replace hs := hs.later z
    replace hm := hm.later z
    clear hz hB
    refine (refCheckMatching_calls _ _ _ ns ss m _ hn hs hm).mono ?_
    rintro e w' ⟨rfl, x, rfl⟩
    go_wp2
    go_ret3
    exact ⟨ret_three (by rw [hr.out]) (by rw [hr.out]) (by rw [hr.out]), z.step x, rfl⟩
  · obtain ⟨h0, hM⟩ := vmatch_zero.1 hv
    have hlen := Lib.hid hM.len
    have hr0 := Lib.hid (show unsR ns ss m = (match fstU ns ss m with | some (n, s) => ((n : Int), (s : Int), (0 : Int)) | none => (0, 0, 5)) by rw [unsR_eq, if_pos hv]; rfl)
    have hv' := Lib.hid hv
    clear hv h0 hM
    go_enter Try.func22, Try.ntmps22
    go_wp2_with fail
    obtain ⟨B, hB⟩ : ∃ B, B = w.heap.size := ⟨_, rfl⟩
    obtain ⟨z, hz⟩ : ∃ z : Later w, z.w = w.alloc (.cells #[.slice an ns.length cn, .slice aS ss.length cS] 24) := ⟨Later.new _ _, rfl⟩
    have c0 : z.w.cell? ⟨B, 0, none⟩ = some (.slice an ns.length cn) := by rw [hz, hB]; simp [go_sem]
    have c1 : z.w.cell? ⟨B, 1, none⟩ = some (.slice aS ss.length cS) := by rw [hz, hB]; simp [go_sem]
    have hBz : B < z.w.heap.size := by rw [hz, hB]; simp [go_sem]
    have HZ : Hid (z.w.heap.size = B + 1) := Lib.hid (by rw [hz, hB]; simp)
    rw [← hz, ← hB]
    replace hn := hn.later z
    replace hs := hs.later z
    replace hm := hm.later z
    clear hz hB
    refine (refCheckMatching_calls _ _ _ ns ss m _ hn hs hm).mono ?_
    rintro e w' ⟨rfl, x, rfl⟩
    rw [hv'.out]
    go_wp2_with fail
    have hc := PairOf_calls _ _ _ ns ss m x.w (hn.later x) (hs.later x) (hm.later x) hlen.out
    cases ho : fstU ns ss m with
    | none =>
      have hr := Lib.hid (show unsR ns ss m = (0, 0, 5) by rw [hr0.out, ho])
      rw [ho] at hc
      clear ho
      refine hc.mono ?_
      clear hc
      rintro e w' ⟨rfl, y, rfl⟩
      simp only [uV]
      go_wp2
      go_ret3
      exact ⟨ret_three (by rw [hr.out]) (by rw [hr.out]) (by rw [hr.out]), (z.step x).step y, rfl⟩
    | some p =>
      obtain ⟨n, s⟩ := p
      have hr := Lib.hid (show unsR ns ss m = ((n : Int), (s : Int), 0) by rw [hr0.out, ho])
      rw [ho] at hc
      clear ho
      refine hc.mono ?_
      clear hc
      rintro e w' ⟨rfl, y, rfl⟩
      simp only [uV]
      go_wp2
      go_ret3
      exact ⟨ret_three (by rw [hr.out]) (by rw [hr.out]) (by rw [hr.out]), (z.step x).step y, rfl⟩

theorem uV_cases (o : Option (Nat × Nat)) : ∃ a b : Int, uV o = .tuple #[.int .i64 a, .int .i64 b, .bool o.isSome] := by
  cases o with
  | none => exact ⟨0, 0, rfl⟩
  | some p => exact ⟨p.1, p.2, rfl⟩

set_option maxRecDepth 100000 in
set_option maxHeartbeats 1000000 in
theorem Settled_calls (nv sv mv lv : Value) (ns ss : List (List Int)) (m l : List Int) (w : World) (hn : Rows2 w nv ns) (hs : Rows2 w sv ss) (hm : Ints w mv m) (hl : Ints w lv l) :
    Calls Try.prog 46 #[.agg #[nv, sv], mv, lv] w (Gives (.int .i64 (vsett ns ss m l)) w) := by
  obtain ⟨an, cn, rfl⟩ := hn.form
  obtain ⟨aS, cS, rfl⟩ := hs.form
  by_cases hv : vmatch ns ss m = 0
  rotate_left
  · have hr := Lib.hid (show vsett ns ss m l = vmatch ns ss m by rw [vsett_eq, if_pos hv])
    have hbb : (vmatch ns ss m != 0) = true := by simpa using hv
    clear hv
    go_enter Try.func46, Try.ntmps46
    go_wp2_with fail
    obtain ⟨B, hB⟩ : ∃ B, B = w.heap.size := ⟨_, rfl⟩
    obtain ⟨z, hz⟩ : ∃ z : Later w, z.w = w.alloc (.cells #[.slice an ns.length cn, .slice aS ss.length cS] 24) := ⟨Later.new _ _, rfl⟩
    have c0 : z.w.cell? ⟨B, 0, none⟩ = some (.slice an ns.length cn) := by rw [hz, hB]; simp [go_sem]
    have c1 : z.w.cell? ⟨B, 1, none⟩ = some (.slice aS ss.length cS) := by rw [hz, hB]; simp [go_sem]
    have hBz : B < z.w.heap.size := by rw [hz, hB]; simp [go_sem]
    have HZ : Hid (z.w.heap.size = B + 1) := Lib.hid (by rw [hz, hB]; simp)
    rw [← hz, ← hB]
    replace hn := hn.later z
    replace hs := hs.later z
    replace hm := hm.later z
    replace hl := hl.later z
    clear hz hB
    refine (refCheckMatching_calls _ _ _ ns ss m _ hn hs hm).mono ?_
    rintro e w' ⟨rfl, x, rfl⟩
    go_wp2
    go_ret
    exact ⟨ret_int hr.out.symm, z.step x, rfl⟩
  by_cases hv2 : vmatch ns ss l = 0
  rotate_left
  · have hr := Lib.hid (show vsett ns ss m l = vmatch ns ss l by rw [vsett_eq, if_neg (by simp [hv]), if_pos hv2])
    have hbb : (vmatch ns ss l != 0) = true := by simpa using hv2
    have hv' := Lib.hid hv
    clear hv hv2
    go_enter Try.func46, Try.ntmps46
    go_wp2_with fail
    obtain ⟨B, hB⟩ : ∃ B, B = w.heap.size := ⟨_, rfl⟩
    obtain ⟨z, hz⟩ : ∃ z : Later w, z.w = w.alloc (.cells #[.slice an ns.length cn, .slice aS ss.length cS] 24) := ⟨Later.new _ _, rfl⟩
    have c0 : z.w.cell? ⟨B, 0, none⟩ = some (.slice an ns.length cn) := by rw [hz, hB]; simp [go_sem]
    have c1 : z.w.cell? ⟨B, 1, none⟩ = some (.slice aS ss.length cS) := by rw [hz, hB]; simp [go_sem]
    have hBz : B < z.w.heap.size := by rw [hz, hB]; simp [go_sem]
    have HZ : Hid (z.w.heap.size = B + 1) := Lib.hid (by rw [hz, hB]; simp)
    rw [← hz, ← hB]
    replace hn := hn.later z
    replace hs := hs.later z
    replace hm := hm.later z
    replace hl := hl.later z
    clear hz hB
    refine (refCheckMatching_calls _ _ _ ns ss m _ hn hs hm).mono ?_
    rintro e w' ⟨rfl, x, rfl⟩
    rw [hv'.out]
    go_wp2_with fail
    refine (refCheckMatching_calls _ _ _ ns ss l _ (hn.later x) (hs.later x) (hl.later x)).mono ?_
    rintro e w' ⟨rfl, y, rfl⟩
    go_wp2
    go_ret
    exact ⟨ret_int hr.out.symm, (z.step x).step y, rfl⟩
  · have hr := Lib.hid (show vsett ns ss m l = if (fstU ns ss m).isSome || (fstU ns ss l).isSome then 24 else 0 by rw [vsett_eq, if_neg (by simp [hv]), if_neg (by simp [hv2])])
    have hlen1 := Lib.hid (vmatch_zero.1 hv).2.len
    have hlen2 := Lib.hid (vmatch_zero.1 hv2).2.len
    have hv' := Lib.hid hv
    have hv2' := Lib.hid hv2
    clear hv hv2
    obtain ⟨a1, b1, e1⟩ := uV_cases (fstU ns ss m)
    obtain ⟨a2, b2, e2⟩ := uV_cases (fstU ns ss l)
    have E1 := Lib.hid e1
    have E2 := Lib.hid e2
    clear e1 e2
    go_enter Try.func46, Try.ntmps46
    go_wp2_with fail
    obtain ⟨B, hB⟩ : ∃ B, B = w.heap.size := ⟨_, rfl⟩
    obtain ⟨z, hz⟩ : ∃ z : Later w, z.w = w.alloc (.cells #[.slice an ns.length cn, .slice aS ss.length cS] 24) := ⟨Later.new _ _, rfl⟩
    have c0 : z.w.cell? ⟨B, 0, none⟩ = some (.slice an ns.length cn) := by rw [hz, hB]; simp [go_sem]
    have c1 : z.w.cell? ⟨B, 1, none⟩ = some (.slice aS ss.length cS) := by rw [hz, hB]; simp [go_sem]
    have hBz : B < z.w.heap.size := by rw [hz, hB]; simp [go_sem]
    have HZ : Hid (z.w.heap.size = B + 1) := Lib.hid (by rw [hz, hB]; simp)
    rw [← hz, ← hB]
    replace hn := hn.later z
    replace hs := hs.later z
    replace hm := hm.later z
    replace hl := hl.later z
    clear hz hB
    refine (refCheckMatching_calls _ _ _ ns ss m _ hn hs hm).mono ?_
    rintro e w' ⟨rfl, x, rfl⟩
    rw [hv'.out]
    go_wp2_with fail
    refine (refCheckMatching_calls _ _ _ ns ss l _ (hn.later x) (hs.later x) (hl.later x)).mono ?_
    rintro e w' ⟨rfl, y, rfl⟩
    rw [hv2'.out]
    obtain ⟨q, hq⟩ : ∃ q : Later z.w, y.w = q.w := ⟨x.step y, rfl⟩
    rw [hq]
    clear hq y x
    go_wp2_with fail
    refine (PairOf_calls _ _ _ ns ss m _ (hn.later q) (hs.later q) (hm.later q) hlen1.out).mono ?_
    rintro e w' ⟨rfl, u, rfl⟩
    rw [E1.out]
    obtain ⟨x, hx⟩ : ∃ q : Later z.w, u.w = q.w := ⟨q.step u, rfl⟩
    rw [hx]
    clear hx u q
    go_wp2_with fail
    refine (PairOf_calls _ _ _ ns ss l _ (hn.later x) (hs.later x) (hl.later x) hlen2.out).mono ?_
    rintro e w' ⟨rfl, v, rfl⟩
    rw [E2.out]
    cases h1 : (fstU ns ss m).isSome
    all_goals cases h2 : (fstU ns ss l).isSome
    all_goals
      go_wp2
      go_ret
      exact ⟨ret_int (by rw [hr.out, h1, h2]; rfl), (z.step x).step v, rfl⟩

/-- which of two stars a nation is left with -/
def putF (ns : List (List Int)) (m l : List Int) (worse : Bool) (i : Nat) : Int := if (decide (0 ≤ nth l i) && (rth (row ns i) (nth l i) (nth m i) != worse)) then nth l i else nth m i
def putL (ns : List (List Int)) (m l : List Int) (worse : Bool) (k : Nat) : List Int := (List.range k).map (putF ns m l worse)
theorem putL_succ (ns : List (List Int)) (m l : List Int) (b : Bool) (k : Nat) : putL ns m l b (k + 1) = putL ns m l b k ++ [putF ns m l b k] := by simp [putL, List.range_succ]
theorem putL_len (ns : List (List Int)) (m l : List Int) (b : Bool) (k : Nat) : (putL ns m l b k).length = k := by simp [putL]
/-- a list, by a call that leaves what was there -/
def GivesI (xs : List Int) (w : World) (e : Ending) (w' : World) : Prop := ∃ v, ∃ x : Later w, e = .returned v ∧ w' = x.w ∧ Ints x.w v xs

set_option maxRecDepth 100000 in
set_option maxHeartbeats 1000000 in
theorem put_calls (nv sv mv lv : Value) (ns ss : List (List Int)) (m l : List Int) (worse : Bool) (w : World) (hn : Rows2 w nv ns) (hs : Rows2 w sv ss) (hm : Ints w mv m) (hl : Ints w lv l) (h1 : m.length = ns.length) (h2 : l.length = ns.length) (h3 : ns.length ≤ 6) :
    Calls Try.prog 77 #[.agg #[nv, sv], mv, lv, .bool worse] w (GivesI (putL ns m l worse m.length) w) := by
  obtain ⟨an, cn, rfl⟩ := hn.form
  obtain ⟨aS, cS, rfl⟩ := hs.form
  obtain ⟨am, cm, rfl⟩ := hm.form
  obtain ⟨al, cl, rfl⟩ := hl.form
  have H1 := Lib.hid h1
  have H2 := Lib.hid h2
  have hml : m.length ≤ 6 := by omega
  have hnl := hn.1
  clear h1 h2
  go_enter Try.func77, Try.ntmps77
  go_wp2_with fail
  obtain ⟨B, hB⟩ : ∃ B, B = w.heap.size := ⟨_, rfl⟩
  obtain ⟨z, hz⟩ : ∃ z : Later w, z.w = w.alloc (.cells #[.slice an ns.length cn, .slice aS ss.length cS] 24) := ⟨Later.new _ _, rfl⟩
  have c0 : z.w.cell? ⟨B, 0, none⟩ = some (.slice an ns.length cn) := by rw [hz, hB]; simp [go_sem]
  have c1 : z.w.cell? ⟨B, 1, none⟩ = some (.slice aS ss.length cS) := by rw [hz, hB]; simp [go_sem]
  have hBz : B < z.w.heap.size := by rw [hz, hB]; simp [go_sem]
  have HZ : Hid (z.w.heap.size = B + 1) := Lib.hid (by rw [hz, hB]; simp)
  rw [← hz, ← hB]
  replace hn := hn.later z
  replace hs := hs.later z
  replace hm := hm.later z
  replace hl := hl.later z
  clear hz hB
  go_loopw [9, 10] (fun o i wr => ∃ k : Nat, ∃ x : Later z.w, wr = x.w ∧ k ≤ m.length ∧ i = .int .i64 k ∧ IntsN z.w.heap.size wr o (putL ns m l worse k)) (fun _ i _ => m.length - (intOf i).toNat)
  case atStart => exact ⟨0, Later.self _, rfl, Nat.zero_le _, rfl, IntsN.nil _ _⟩
  case round =>
    obtain ⟨k, x, rfl, hk, rfl, hA⟩ := hrel
    rename_i o
    obtain ⟨ao, co, rfl⟩ := hA.form
    by_cases hlt : k < m.length
    · obtain ⟨bm, om, cm', e, hcpm, hbm, hcm⟩ := hm.at hlt
      cases e
      obtain ⟨bl, ol, cl', e, hcpl, hbl, hcl⟩ := hl.at (k := k) (by have := H1.out; have := H2.out; omega)
      cases e
      have hk2 : k < l.length := by have := H1.out; have := H2.out; omega
      have hk3 : k < ns.length := by have := H1.out; omega
      obtain ⟨bn, on, cn', fn, e, hcpn, hbn, hcn⟩ := hn.at hk3
      cases e
      obtain ⟨gn0, hrow⟩ := hcn k hk3
      have gm := (x.cell hbm).trans (hcm k hlt)
      have gl := (x.cell hbl).trans (hcl k hk2)
      have gn := (x.cell hbn).trans gn0
      have sm : bm < x.w.heap.size := Nat.lt_of_lt_of_le hbm x.size
      have sl : bl < x.w.heap.size := Nat.lt_of_lt_of_le hbl x.size
      have sn : bn < x.w.heap.size := Nat.lt_of_lt_of_le hbn x.size
      have hpl := Lib.hid (putL_succ ns m l worse k)
      have hll := putL_len ns m l worse k
      have HL := Lib.hid hll
      clear hcm hcl hcn gn0 hll
      cases h0 : decide (0 ≤ nth l k)
      · have hpf := Lib.hid (show putF ns m l worse k = nth m k by rw [putF, h0]; rfl)
        go_wp2
        refine region_later_lit (by kernel_rfl) (by kernel_rfl) ?_
        repeat (first | simp only [h0] | go_big_quiet_step (first
             | (fail)))
        refine wpQuiet_nil ?_
        intro y
        obtain ⟨v', q, hrun, hN, _⟩ := app_int_step (x.step y).le (hA.later y) (nth m k) (by rw [HL.out]; omega) 25
        rw [← hpf.out, ← hpl.out] at hN
        simp only [Later.step_w] at hrun
        go_wp2_with (at_builtin; refine Lib.wpList_append_run_sl _ rfl _ _ 25 rfl _ _ rfl rfl hrun ?_)
        go_roundw
        case rel => exact ⟨k + 1, q, rfl, by omega, by go_num, hN⟩
        case measure => simp [intOf]; omega
      · cases h1 : (rth (row ns k) (nth l k) (nth m k) == worse)
        rotate_left
        · have hpf := Lib.hid (show putF ns m l worse k = nth m k by rw [putF, bne, h0, h1]; rfl)
          go_wp2
          refine region_later_lit (by kernel_rfl) (by kernel_rfl) ?_
          repeat (first | simp only [h0] | simp only [h1] | go_big_quiet_step (first
               | (go_at_call 79; exact Later.quiet_same _ (Rather_calls _ (row ns k) _ _ _ ((hrow.later x).later _)))))
          refine wpQuiet_nil ?_
          intro y
          obtain ⟨v', q, hrun, hN, _⟩ := app_int_step (x.step y).le (hA.later y) (nth m k) (by rw [HL.out]; omega) 25
          rw [← hpf.out, ← hpl.out] at hN
          simp only [Later.step_w] at hrun
          go_wp2_with (at_builtin; refine Lib.wpList_append_run_sl _ rfl _ _ 25 rfl _ _ rfl rfl hrun ?_)
          go_roundw
          case rel => exact ⟨k + 1, q, rfl, by omega, by go_num, hN⟩
          case measure => simp [intOf]; omega
        · have hpf := Lib.hid (show putF ns m l worse k = nth l k by rw [putF, bne, h0, h1]; rfl)
          have gl2 := gl
          go_wp2
          refine region_later_lit (by kernel_rfl) (by kernel_rfl) ?_
          repeat (first | simp only [h0] | simp only [h1] | go_big_quiet_step (first
               | (go_at_call 79; exact Later.quiet_same _ (Rather_calls _ (row ns k) _ _ _ ((hrow.later x).later _)))))
          refine wpQuiet_nil ?_
          intro y
          obtain ⟨v', q, hrun, hN, _⟩ := app_int_step (x.step y).le (hA.later y) (nth l k) (by rw [HL.out]; omega) 25
          rw [← hpf.out, ← hpl.out] at hN
          simp only [Later.step_w] at hrun
          go_wp2_with (at_builtin; refine Lib.wpList_append_run_sl _ rfl _ _ 25 rfl _ _ rfl rfl hrun ?_)
          go_roundw
          case rel => exact ⟨k + 1, q, rfl, by omega, by go_num, hN⟩
          case measure => simp [intOf]; omega
    · have hkm := Lib.hid (show k = m.length by omega)
      have hfin : Ints x.w (.slice ao (putL ns m l worse k).length co) (putL ns m l worse m.length) := by
        have := hA.ints (by rw [putL_len]; omega)
        rw [← hkm.out]; exact this
      go_wp2
      go_ret
      exact ⟨_, z.step x, rfl, rfl, hfin⟩
end Go.Proofs.Ytieaibebnkdmhaa
