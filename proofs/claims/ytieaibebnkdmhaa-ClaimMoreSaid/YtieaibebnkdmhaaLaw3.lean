import Derived.Test.YtieaibebnkdmhaaLaw2
import Derived.Test.YtieaibebnkdmhaaTh5
namespace Go.Proofs.Ytieaibebnkdmhaa
open Go.RowKit

/-- a valid book is not too great -/
theorem many_valid {l : List (List Int)} {c : Nat} (h1 : l.length ≤ 6) (hc : c ≤ 6) (hn : ∀ x ∈ l, x.Nodup) (hr : ∀ x ∈ l, ∀ y ∈ x, 0 ≤ y ∧ y < c) : manyB l = false := by
  rw [manyB, Bool.or_eq_false_iff, decide_eq_false_iff_not, List.any_eq_false]
  refine ⟨by omega, fun x hx => ?_⟩
  have := SM.nodup_len (l2 := (List.range c).map fun (s : Nat) => (s : Int)) (hn x hx) (fun y hy => by
    have := hr x hx y hy
    exact List.mem_map.2 ⟨y.toNat, List.mem_range.2 (by omega), by omega⟩)
  simp at this
  simp
  omega
theorem fine_valid {ns ss : List (List Int)} (hv : vbook ns ss = 0) : (manyB ns || manyB ss) = false := by
  have hb := vbook_valid hv
  rw [many_valid hb.2.1 hb.2.2.2.1 hb.2.2.2.2.1 hb.2.2.2.2.2.2.1, many_valid hb.2.2.2.1 hb.2.1 hb.2.2.2.2.2.1 hb.2.2.2.2.2.2.2]
  rfl
set_option maxRecDepth 100000 in
set_option maxHeartbeats 1000000 in
theorem fine_calls (nv sv : Value) (ns ss : List (List Int)) (w : World) (hn : Rows2 w nv ns) (hs : Rows2 w sv ss) :
    Calls Try.prog 39 #[.agg #[nv, sv]] w (Gives (.bool (vbook ns ss == 0)) w) := by
  obtain ⟨an, cn, rfl⟩ := hn.form
  obtain ⟨aS, cS, rfl⟩ := hs.form
  by_cases hv : vbook ns ss = 0
  · have hg := fine_valid hv
    have HV := Lib.hid hv
    have hr := Lib.hid (show (vbook ns ss == 0) = true by rw [hv]; rfl)
    clear hv
    go_enter Try.func39, Try.ntmps39
    go_wp2_with fail
    obtain ⟨B, hB⟩ : ∃ B, B = w.heap.size := ⟨_, rfl⟩
    obtain ⟨z, hz⟩ : ∃ z : Later w, z.w = w.alloc (.cells #[.slice an ns.length cn, .slice aS ss.length cS] 24) := ⟨Later.new _ _, rfl⟩
    have c0 : z.w.cell? ⟨B, 0, none⟩ = some (.slice an ns.length cn) := by rw [hz, hB]; simp [go_sem]
    have c1 : z.w.cell? ⟨B, 1, none⟩ = some (.slice aS ss.length cS) := by rw [hz, hB]; simp [go_sem]
    have hBz : B < z.w.heap.size := by rw [hz, hB]; simp [go_sem]
    have HZ : Hid (z.w.heap.size = B + 1) := Lib.hid (by rw [hz, hB]; simp)
    rw [← hz, ← hB]
    replace hn := hn.later z
    replace hs := hs.later z
    clear hz hB
    refine (great_calls _ _ ns ss _ hn hs).mono ?_
    rintro e w' ⟨rfl, x, rfl⟩
    rw [hg]
    go_wp2_with fail
    refine (refCheckBook_calls _ _ ns ss _ (hn.later x) (hs.later x)).mono ?_
    rintro e w' ⟨rfl, y, rfl⟩
    rw [HV.out]
    go_wp2
    go_ret
    exact ⟨ret_bool hr.out.symm, (z.step x).step y, rfl⟩
  · have hr := Lib.hid (show (vbook ns ss == 0) = false by simpa using hv)
    have hne : (vbook ns ss == 0) = false := by simpa using hv
    clear hv
    go_enter Try.func39, Try.ntmps39
    go_wp2_with fail
    obtain ⟨B, hB⟩ : ∃ B, B = w.heap.size := ⟨_, rfl⟩
    obtain ⟨z, hz⟩ : ∃ z : Later w, z.w = w.alloc (.cells #[.slice an ns.length cn, .slice aS ss.length cS] 24) := ⟨Later.new _ _, rfl⟩
    have c0 : z.w.cell? ⟨B, 0, none⟩ = some (.slice an ns.length cn) := by rw [hz, hB]; simp [go_sem]
    have c1 : z.w.cell? ⟨B, 1, none⟩ = some (.slice aS ss.length cS) := by rw [hz, hB]; simp [go_sem]
    have hBz : B < z.w.heap.size := by rw [hz, hB]; simp [go_sem]
    have HZ : Hid (z.w.heap.size = B + 1) := Lib.hid (by rw [hz, hB]; simp)
    rw [← hz, ← hB]
    replace hn := hn.later z
    replace hs := hs.later z
    clear hz hB
    refine (great_calls _ _ ns ss _ hn hs).mono ?_
    rintro e w' ⟨rfl, x, rfl⟩
    cases hg : manyB ns || manyB ss
    · go_wp2_with fail
      refine (refCheckBook_calls _ _ ns ss _ (hn.later x) (hs.later x)).mono ?_
      rintro e w' ⟨rfl, y, rfl⟩
      go_wp2
      go_ret
      exact ⟨ret_bool hr.out.symm, (z.step x).step y, rfl⟩
    · go_wp2
      go_ret
      exact ⟨ret_bool hr.out.symm, z.step x, rfl⟩

def rathB (l : List Int) (a b : Int) : Bool := decide (0 ≤ a) && rth l a b
set_option maxHeartbeats 1000000 in
theorem lrather_calls (v : Value) (l : List Int) (a b : Int) (w : World) (hx : Ints w v l) :
    Calls Try.prog 44 #[v, .int .i64 a, .int .i64 b] w fun e w' => e = .returned (.bool (rathB l a b)) ∧ w' = w := by
  by_cases h : 0 ≤ a
  · have hr := Lib.hid (show rathB l a b = rth l a b by rw [rathB, decide_eq_true h]; rfl)
    go_enter Try.func44, Try.ntmps44
    go_wp2_with (go_at_call 79; refine (Rather_calls _ l _ _ _ hx).mono ?_; rintro e w' ⟨rfl, rfl⟩)
    go_ret
    exact ⟨ret_bool hr.out.symm, rfl⟩
  · have hr := Lib.hid (show rathB l a b = false by rw [rathB, decide_eq_false h]; rfl)
    go_enter Try.func44, Try.ntmps44
    go_wp2
    go_ret
    exact ⟨ret_bool hr.out.symm, rfl⟩

theorem befF_at (xs ys : List Int) (k : Nat) (h : k < xs.length) (h' : k < ys.length) : befF (xs.drop k) (ys.drop k) = if nth xs k == nth ys k then befF (xs.drop (k + 1)) (ys.drop (k + 1)) else decide (nth xs k < nth ys k) := by
  rw [List.drop_eq_getElem_cons h, List.drop_eq_getElem_cons h', befF, nth_eq h, nth_eq h']
theorem befF_end (xs ys : List Int) (k : Nat) (h : xs.length ≤ k ∨ ys.length ≤ k) : befF (xs.drop k) (ys.drop k) = false := by
  rcases h with h | h
  · rw [List.drop_eq_nil_of_le h, befF]; simp
  · rw [List.drop_eq_nil_of_le h, befF]; simp
set_option maxRecDepth 100000 in
set_option maxHeartbeats 1000000 in
theorem before_calls (u v : Value) (xs ys : List Int) (w : World) (hx : Ints w u xs) (hy : Ints w v ys) :
    Calls Try.prog 42 #[u, v] w (Gives (.bool (befF xs ys)) w) := by
  have hlx := hx.1
  have hly := hy.1
  obtain ⟨au, cu, rfl⟩ := hx.form
  obtain ⟨av, cv, rfl⟩ := hy.form
  go_enter Try.func42, Try.ntmps42
  go_wp2
  go_loopw [5] (fun i wr => ∃ k : Nat, ∃ x : Later w, wr = x.w ∧ k ≤ xs.length ∧ i = .int .i64 k ∧ Hid (befF xs ys = befF (xs.drop k) (ys.drop k))) (fun i _ => xs.length - (intOf i).toNat)
  case atStart => exact ⟨0, Later.self _, rfl, Nat.zero_le _, rfl, rfl⟩
  case round =>
    obtain ⟨k, x, rfl, hk, rfl, hp⟩ := hrel
    by_cases hlt : k < xs.length
    · by_cases hlt' : k < ys.length
      · obtain ⟨bx, ox, cx, e, hcx, hbx, hgx⟩ := hx.at hlt
        cases e
        obtain ⟨by', oy, cy, e, hcy, hby, hgy⟩ := hy.at hlt'
        cases e
        have gx := (x.cell hbx).trans (hgx k hlt)
        have gy := (x.cell hby).trans (hgy k hlt')
        have sx : bx < x.w.heap.size := Nat.lt_of_lt_of_le hbx x.size
        have sy : by' < x.w.heap.size := Nat.lt_of_lt_of_le hby x.size
        have hs := Lib.hid (befF_at xs ys k hlt hlt')
        clear hgx hgy
        cases he : (nth xs k == nth ys k)
        all_goals
          have hne2 : (nth xs k != nth ys k) = !(nth xs k == nth ys k) := rfl
          rw [he] at hne2
        · have hs2 := Lib.hid (show befF xs ys = decide (nth xs k < nth ys k) by rw [hp.out, hs.out, he]; rfl)
          go_wp2
          refine Mix.region_mixL (Mix.kinds [] [] []) (by kernel_rfl) (by kernel_rfl) ?_
          repeat ((with_reducible refine Mix.atCons ?_); first | refine Mix.skipU (by rfl) rfl (by rfl) ?_ | (refine Mix.val rfl rfl (by rfl) (fun K hK => ?_); go_big_quiet_op; refine hK _ ?_; clear hK K) | simp only [hne2])
          refine Mix.done (fun z => ?_)
          have gxz := (z.cell sx).trans gx
          have gyz := (z.cell sy).trans gy
          have sxz : bx < z.w.heap.size := Nat.lt_of_lt_of_le sx z.size
          have syz : by' < z.w.heap.size := Nat.lt_of_lt_of_le sy z.size
          go_wp2
          refine Mix.region_mixL (Mix.kinds [] [] []) (by kernel_rfl) (by kernel_rfl) ?_
          repeat ((with_reducible refine Mix.atCons ?_); first | refine Mix.skipU (by rfl) rfl (by rfl) ?_ | (refine Mix.val rfl rfl (by rfl) (fun K hK => ?_); go_big_quiet_op; refine hK _ ?_; clear hK K))
          refine Mix.done (fun z2 => ?_)
          go_wp2
          go_ret
          exact ⟨ret_bool hs2.out.symm, (x.step z).step z2, rfl⟩
        · have hs2 := Lib.hid (show befF xs ys = befF (xs.drop (k + 1)) (ys.drop (k + 1)) by rw [hp.out, hs.out, he]; rfl)
          go_wp2
          refine Mix.region_mixL (Mix.kinds [] [] []) (by kernel_rfl) (by kernel_rfl) ?_
          repeat ((with_reducible refine Mix.atCons ?_); first | refine Mix.skipU (by rfl) rfl (by rfl) ?_ | (refine Mix.val rfl rfl (by rfl) (fun K hK => ?_); go_big_quiet_op; refine hK _ ?_; clear hK K) | simp only [hne2])
          refine Mix.done (fun z => ?_)
          go_wp2
          go_roundw
          case rel => exact ⟨k + 1, x.step z, rfl, by omega, by go_num, hs2⟩
          case measure => simp [intOf]; omega
      · have he := Lib.hid (show befF xs ys = false by rw [hp.out, befF_end _ _ _ (.inr (by omega))])
        go_wp2
        go_ret
        exact ⟨ret_bool he.out.symm, x, rfl⟩
    · have he := Lib.hid (show befF xs ys = false by rw [hp.out, befF_end _ _ _ (.inl (by omega))])
      go_wp2
      go_ret
      exact ⟨ret_bool he.out.symm, x, rfl⟩

theorem inv_succ (m : List Int) (k : Nat) : inv m (k + 1) = inv m k ++ [plc m k] := by simp [inv, List.range_succ]
set_option maxRecDepth 100000 in
set_option maxHeartbeats 1000000 in
theorem turned_calls (nv sv mv : Value) (ns ss : List (List Int)) (m : List Int) (w : World) (hn : Rows2 w nv ns) (hs : Rows2 w sv ss) (hm : Ints w mv m) (h6 : ss.length ≤ 6) :
    Calls Try.prog 48 #[.agg #[nv, sv], mv] w (GivesI (inv m ss.length) w) := by
  obtain ⟨an, cn, rfl⟩ := hn.form
  obtain ⟨aS, cS, rfl⟩ := hs.form
  go_enter Try.func48, Try.ntmps48
  go_wp2_with fail
  obtain ⟨B, hB⟩ : ∃ B, B = w.heap.size := ⟨_, rfl⟩
  obtain ⟨z, hz⟩ : ∃ z : Later w, z.w = w.alloc (.cells #[.slice an ns.length cn, .slice aS ss.length cS] 24) := ⟨Later.new _ _, rfl⟩
  have c0 : z.w.cell? ⟨B, 0, none⟩ = some (.slice an ns.length cn) := by rw [hz, hB]; simp [go_sem]
  have c1 : z.w.cell? ⟨B, 1, none⟩ = some (.slice aS ss.length cS) := by rw [hz, hB]; simp [go_sem]
  have hBz : B < z.w.heap.size := by rw [hz, hB]; simp [go_sem]
  have HZ : Hid (z.w.heap.size = B + 1) := Lib.hid (by rw [hz, hB]; simp)
  rw [← hz, ← hB]
  replace hn := hn.later z
  replace hs := hs.later z
  replace hm := hm.later z
  clear hz hB
  go_loopw [5, 6] (fun o i wr => ∃ k : Nat, ∃ x : Later z.w, wr = x.w ∧ k ≤ ss.length ∧ i = .int .i64 k ∧ IntsN z.w.heap.size wr o (inv m k)) (fun _ i _ => ss.length - (intOf i).toNat)
  case atStart => exact ⟨0, Later.self _, rfl, Nat.zero_le _, rfl, IntsN.nil _ _⟩
  case round =>
    obtain ⟨k, x, rfl, hk, rfl, hA⟩ := hrel
    rename_i o
    obtain ⟨ao, no, co, rfl⟩ := hA.form'
    by_cases hlt : k < ss.length
    · have hsu := Lib.hid (inv_succ m k)
      obtain ⟨v', q, hrun, hN, _⟩ := app_int_step x.le hA (plc m k) (by rw [inv_len]; omega) 25
      rw [← hsu.out] at hN
      have HR := Lib.hid hrun
      clear hrun
      go_wp2_with (first | (go_at_call 45; refine (Place_calls _ m _ _ (hm.later x)).mono ?_; rintro e w' ⟨rfl, rfl⟩) | ((with_reducible show wpList _ _ _ (⟨some 19, _, _, _, _, _⟩ :: _) _ _); refine Lib.wpList_append_run_sl _ rfl _ _ 25 rfl _ _ rfl rfl HR.out ?_))
      go_roundw
      case rel => exact ⟨k + 1, q, rfl, by omega, by go_num, hN⟩
      case measure => simp [intOf]; omega
    · obtain rfl : k = ss.length := by omega
      have hfin := hA.ints (by rw [inv_len]; omega)
      go_wp2
      go_ret
      exact ⟨_, z.step x, rfl, rfl, hfin⟩
end Go.Proofs.Ytieaibebnkdmhaa
