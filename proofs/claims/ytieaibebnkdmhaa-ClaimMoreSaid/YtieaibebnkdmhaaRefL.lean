import Derived.Test.YtieaibebnkdmhaaRefK
namespace Go.Proofs.Ytieaibebnkdmhaa
open Go.RowKit

def rAll (ns ss : List (List Int)) : List (List Int) := if vbook ns ss = 0 then allOf ns ss else []
def rBest (ns ss : List (List Int)) (stars : Bool) : List Int := if vbook ns ss = 0 then bestL ns ss stars else []
set_option maxRecDepth 100000 in
set_option maxHeartbeats 1000000 in
theorem refAll_calls (nv sv : Value) (ns ss : List (List Int)) (w : World) (hn : Rows2 w nv ns) (hs : Rows2 w sv ss) :
    Calls Try.prog 31 #[.agg #[nv, sv]] w (GivesLL (rAll ns ss) (vbook ns ss) w) := by
  obtain ⟨an, cn, rfl⟩ := hn.form
  obtain ⟨aS, cS, rfl⟩ := hs.form
  by_cases hv : vbook ns ss = 0
  rotate_left
  · have hr := Lib.hid (show rAll ns ss = [] by rw [rAll, if_neg hv])
    have hbb : (vbook ns ss != 0) = true := by simpa using hv
    clear hv
    go_enter Try.func31, Try.ntmps31
    go_wp2_with fail
    obtain ⟨B, hB⟩ : ∃ B, B = w.heap.size := ⟨_, rfl⟩
    obtain ⟨z, hz⟩ : ∃ z : Later w, z.w = w.alloc (.cells #[.slice an ns.length cn, .slice aS ss.length cS] 24) := ⟨Later.new _ _, rfl⟩
    have c0 : z.w.cell? ⟨B, 0, none⟩ = some (.slice an ns.length cn) := by rw [hz, hB]; simp [go_sem]
    have c1 : z.w.cell? ⟨B, 1, none⟩ = some (.slice aS ss.length cS) := by rw [hz, hB]; simp [go_sem]
    have hBz : B < z.w.heap.size := by rw [hz, hB]; simp [go_sem]
    have HZ : Hid (z.w.heap.size = B + 1) := Lib.hid (by rw [hz, hB]; simp)
    rw [← hz, ← hB]
    replace hn := hn.later z
    replace hs := hs.later z
    clear hz hB
    refine (refCheckBook_calls _ _ ns ss _ hn hs).mono ?_
    rintro e w' ⟨rfl, x, rfl⟩
    go_wp2_with fail
    refine (refCheckBook_calls _ _ ns ss _ (hn.later x) (hs.later x)).mono ?_
    rintro e w' ⟨rfl, y, rfl⟩
    go_wp2
    go_ret2
    exact ⟨_, (z.step x).step y, ret_two rfl, rfl, by rw [hr.out]; exact ⟨by simp, .inl ⟨rfl, none, 0, rfl⟩⟩⟩
  · have hr := Lib.hid (show rAll ns ss = allOf ns ss by rw [rAll, if_pos hv])
    have hb := vbook_valid hv
    have h6 := hb.2.1
    have s6 := hb.2.2.2.1
    have hv' := Lib.hid hv
    clear hv hb
    go_enter Try.func31, Try.ntmps31
    go_wp2_with fail
    obtain ⟨B, hB⟩ : ∃ B, B = w.heap.size := ⟨_, rfl⟩
    obtain ⟨z, hz⟩ : ∃ z : Later w, z.w = w.alloc (.cells #[.slice an ns.length cn, .slice aS ss.length cS] 24) := ⟨Later.new _ _, rfl⟩
    have c0 : z.w.cell? ⟨B, 0, none⟩ = some (.slice an ns.length cn) := by rw [hz, hB]; simp [go_sem]
    have c1 : z.w.cell? ⟨B, 1, none⟩ = some (.slice aS ss.length cS) := by rw [hz, hB]; simp [go_sem]
    have hBz : B < z.w.heap.size := by rw [hz, hB]; simp [go_sem]
    have HZ : Hid (z.w.heap.size = B + 1) := Lib.hid (by rw [hz, hB]; simp)
    rw [← hz, ← hB]
    replace hn := hn.later z
    replace hs := hs.later z
    clear hz hB
    refine (refCheckBook_calls _ _ ns ss _ hn hs).mono ?_
    rintro e w' ⟨rfl, x, rfl⟩
    rw [hv'.out]
    go_wp2_with fail
    refine (AllOf_calls _ _ ns ss _ (hn.later x) (hs.later x) h6 s6).mono ?_
    rintro e w' ⟨v, y, rfl, rfl, hi⟩
    go_wp2
    go_ret2
    exact ⟨v, (z.step x).step y, ret_two hv'.out.symm, rfl, by rw [hr.out]; exact hi⟩

set_option maxRecDepth 100000 in
set_option maxHeartbeats 1000000 in
theorem refFirst_calls (nv sv : Value) (ns ss : List (List Int)) (w : World) (hn : Rows2 w nv ns) (hs : Rows2 w sv ss) :
    Calls Try.prog 26 #[.agg #[nv, sv]] w (GivesL (rBest ns ss false) (vbook ns ss) w) := by
  obtain ⟨an, cn, rfl⟩ := hn.form
  obtain ⟨aS, cS, rfl⟩ := hs.form
  by_cases hv : vbook ns ss = 0
  rotate_left
  · have hr := Lib.hid (show rBest ns ss false = [] by rw [rBest, if_neg hv])
    have hbb : (vbook ns ss != 0) = true := by simpa using hv
    clear hv
    go_enter Try.func26, Try.ntmps26
    go_wp2_with fail
    obtain ⟨B, hB⟩ : ∃ B, B = w.heap.size := ⟨_, rfl⟩
    obtain ⟨z, hz⟩ : ∃ z : Later w, z.w = w.alloc (.cells #[.slice an ns.length cn, .slice aS ss.length cS] 24) := ⟨Later.new _ _, rfl⟩
    have c0 : z.w.cell? ⟨B, 0, none⟩ = some (.slice an ns.length cn) := by rw [hz, hB]; simp [go_sem]
    have c1 : z.w.cell? ⟨B, 1, none⟩ = some (.slice aS ss.length cS) := by rw [hz, hB]; simp [go_sem]
    have hBz : B < z.w.heap.size := by rw [hz, hB]; simp [go_sem]
    have HZ : Hid (z.w.heap.size = B + 1) := Lib.hid (by rw [hz, hB]; simp)
    rw [← hz, ← hB]
    replace hn := hn.later z
    replace hs := hs.later z
    clear hz hB
    refine (refCheckBook_calls _ _ ns ss _ hn hs).mono ?_
    rintro e w' ⟨rfl, x, rfl⟩
    go_wp2_with fail
    refine (refCheckBook_calls _ _ ns ss _ (hn.later x) (hs.later x)).mono ?_
    rintro e w' ⟨rfl, y, rfl⟩
    go_wp2
    go_ret2
    exact ⟨_, (z.step x).step y, ret_two rfl, rfl, by rw [hr.out]; exact Ints.nil none 0⟩
  · have hr := Lib.hid (show rBest ns ss false = bestL ns ss false by rw [rBest, if_pos hv])
    have hb := vbook_valid hv
    have h6 := hb.2.1
    have s6 := hb.2.2.2.1
    have hv' := Lib.hid hv
    clear hv hb
    go_enter Try.func26, Try.ntmps26
    go_wp2_with fail
    obtain ⟨B, hB⟩ : ∃ B, B = w.heap.size := ⟨_, rfl⟩
    obtain ⟨z, hz⟩ : ∃ z : Later w, z.w = w.alloc (.cells #[.slice an ns.length cn, .slice aS ss.length cS] 24) := ⟨Later.new _ _, rfl⟩
    have c0 : z.w.cell? ⟨B, 0, none⟩ = some (.slice an ns.length cn) := by rw [hz, hB]; simp [go_sem]
    have c1 : z.w.cell? ⟨B, 1, none⟩ = some (.slice aS ss.length cS) := by rw [hz, hB]; simp [go_sem]
    have hBz : B < z.w.heap.size := by rw [hz, hB]; simp [go_sem]
    have HZ : Hid (z.w.heap.size = B + 1) := Lib.hid (by rw [hz, hB]; simp)
    rw [← hz, ← hB]
    replace hn := hn.later z
    replace hs := hs.later z
    clear hz hB
    refine (refCheckBook_calls _ _ ns ss _ hn hs).mono ?_
    rintro e w' ⟨rfl, x, rfl⟩
    rw [hv'.out]
    go_wp2_with fail
    refine (bestOf_false _ _ ns ss _ (hn.later x) (hs.later x) h6 s6).mono ?_
    rintro e w' ⟨v, y, rfl, rfl, hi⟩
    go_wp2
    go_ret2
    exact ⟨v, (z.step x).step y, ret_two hv'.out.symm, rfl, by rw [hr.out]; exact hi⟩

set_option maxRecDepth 100000 in
set_option maxHeartbeats 1000000 in
theorem refLast_calls (nv sv : Value) (ns ss : List (List Int)) (w : World) (hn : Rows2 w nv ns) (hs : Rows2 w sv ss) :
    Calls Try.prog 28 #[.agg #[nv, sv]] w (GivesL (rBest ns ss true) (vbook ns ss) w) := by
  obtain ⟨an, cn, rfl⟩ := hn.form
  obtain ⟨aS, cS, rfl⟩ := hs.form
  by_cases hv : vbook ns ss = 0
  rotate_left
  · have hr := Lib.hid (show rBest ns ss true = [] by rw [rBest, if_neg hv])
    have hbb : (vbook ns ss != 0) = true := by simpa using hv
    clear hv
    go_enter Try.func28, Try.ntmps28
    go_wp2_with fail
    obtain ⟨B, hB⟩ : ∃ B, B = w.heap.size := ⟨_, rfl⟩
    obtain ⟨z, hz⟩ : ∃ z : Later w, z.w = w.alloc (.cells #[.slice an ns.length cn, .slice aS ss.length cS] 24) := ⟨Later.new _ _, rfl⟩
    have c0 : z.w.cell? ⟨B, 0, none⟩ = some (.slice an ns.length cn) := by rw [hz, hB]; simp [go_sem]
    have c1 : z.w.cell? ⟨B, 1, none⟩ = some (.slice aS ss.length cS) := by rw [hz, hB]; simp [go_sem]
    have hBz : B < z.w.heap.size := by rw [hz, hB]; simp [go_sem]
    have HZ : Hid (z.w.heap.size = B + 1) := Lib.hid (by rw [hz, hB]; simp)
    rw [← hz, ← hB]
    replace hn := hn.later z
    replace hs := hs.later z
    clear hz hB
    refine (refCheckBook_calls _ _ ns ss _ hn hs).mono ?_
    rintro e w' ⟨rfl, x, rfl⟩
    go_wp2_with fail
    refine (refCheckBook_calls _ _ ns ss _ (hn.later x) (hs.later x)).mono ?_
    rintro e w' ⟨rfl, y, rfl⟩
    go_wp2
    go_ret2
    exact ⟨_, (z.step x).step y, ret_two rfl, rfl, by rw [hr.out]; exact Ints.nil none 0⟩
  · have hr := Lib.hid (show rBest ns ss true = bestL ns ss true by rw [rBest, if_pos hv])
    have hb := vbook_valid hv
    have h6 := hb.2.1
    have s6 := hb.2.2.2.1
    have hv' := Lib.hid hv
    clear hv hb
    go_enter Try.func28, Try.ntmps28
    go_wp2_with fail
    obtain ⟨B, hB⟩ : ∃ B, B = w.heap.size := ⟨_, rfl⟩
    obtain ⟨z, hz⟩ : ∃ z : Later w, z.w = w.alloc (.cells #[.slice an ns.length cn, .slice aS ss.length cS] 24) := ⟨Later.new _ _, rfl⟩
    have c0 : z.w.cell? ⟨B, 0, none⟩ = some (.slice an ns.length cn) := by rw [hz, hB]; simp [go_sem]
    have c1 : z.w.cell? ⟨B, 1, none⟩ = some (.slice aS ss.length cS) := by rw [hz, hB]; simp [go_sem]
    have hBz : B < z.w.heap.size := by rw [hz, hB]; simp [go_sem]
    have HZ : Hid (z.w.heap.size = B + 1) := Lib.hid (by rw [hz, hB]; simp)
    rw [← hz, ← hB]
    replace hn := hn.later z
    replace hs := hs.later z
    clear hz hB
    refine (refCheckBook_calls _ _ ns ss _ hn hs).mono ?_
    rintro e w' ⟨rfl, x, rfl⟩
    rw [hv'.out]
    go_wp2_with fail
    refine (bestOf_true _ _ ns ss _ (hn.later x) (hs.later x) h6 s6).mono ?_
    rintro e w' ⟨v, y, rfl, rfl, hi⟩
    go_wp2
    go_ret2
    exact ⟨v, (z.step x).step y, ret_two hv'.out.symm, rfl, by rw [hr.out]; exact hi⟩


theorem cntK_le (n : Nat) (s : Int) : ∀ l : List (List Int), cntK n s l ≤ l.length
  | [] => by simp [cntK]
  | x :: l => by have := cntK_le n s l; simp only [cntK, List.length_cons]; split <;> omega
def rKind (ns ss : List (List Int)) (n s : Int) : Int × Int :=
  if vbook ns ss ≠ 0 then (0, vbook ns ss)
  else if n < 0 ∨ ns.length ≤ n ∨ s < 0 ∨ ss.length ≤ s then (0, 2)
  else if cntK n.toNat s (allOf ns ss) = (allOf ns ss).length then (2, 0)
  else if cntK n.toNat s (allOf ns ss) = 0 then (0, 0) else (1, 0)

set_option maxRecDepth 100000 in
set_option maxHeartbeats 2000000 in
theorem refKind_calls (nv sv : Value) (ns ss : List (List Int)) (n s : Int) (w : World) (hn : Rows2 w nv ns) (hs : Rows2 w sv ss) :
    Calls Try.prog 33 #[.agg #[nv, sv], .int .i64 n, .int .i64 s] w (Gives (.tuple #[.int .i64 (rKind ns ss n s).1, .int .i64 (rKind ns ss n s).2]) w) := by
  have hln := hn.1
  have hls := hs.1
  obtain ⟨an, cn, rfl⟩ := hn.form
  obtain ⟨aS, cS, rfl⟩ := hs.form
  by_cases hv : vbook ns ss = 0
  rotate_left
  · have hr := Lib.hid (show rKind ns ss n s = (0, vbook ns ss) by rw [rKind, if_pos hv])
    have hbb : (vbook ns ss != 0) = true := by simpa using hv
    clear hv
    go_enter Try.func33, Try.ntmps33
    go_wp2_with fail
    obtain ⟨B, hB⟩ : ∃ B, B = w.heap.size := ⟨_, rfl⟩
    obtain ⟨z, hz⟩ : ∃ z : Later w, z.w = w.alloc (.cells #[.slice an ns.length cn, .slice aS ss.length cS] 24) := ⟨Later.new _ _, rfl⟩
    have c0 : z.w.cell? ⟨B, 0, none⟩ = some (.slice an ns.length cn) := by rw [hz, hB]; simp [go_sem]
    have c1 : z.w.cell? ⟨B, 1, none⟩ = some (.slice aS ss.length cS) := by rw [hz, hB]; simp [go_sem]
    have hBz : B < z.w.heap.size := by rw [hz, hB]; simp [go_sem]
    have HZ : Hid (z.w.heap.size = B + 1) := Lib.hid (by rw [hz, hB]; simp)
    rw [← hz, ← hB]
    replace hn := hn.later z
    replace hs := hs.later z
    clear hz hB
    refine (refCheckBook_calls _ _ ns ss _ hn hs).mono ?_
    rintro e w' ⟨rfl, x, rfl⟩
    go_wp2_with fail
    refine (refCheckBook_calls _ _ ns ss _ (hn.later x) (hs.later x)).mono ?_
    rintro e w' ⟨rfl, y, rfl⟩
    go_wp2
    go_ret2
    exact ⟨ret_two2 (by rw [hr.out]) (by rw [hr.out]), (z.step x).step y, rfl⟩
  have hv' := Lib.hid hv
  by_cases hbad : n < 0 ∨ ns.length ≤ n ∨ s < 0 ∨ ss.length ≤ s
  · have hr := Lib.hid (show rKind ns ss n s = (0, 2) by rw [rKind, if_neg (by simp [hv]), if_pos hbad])
    clear hv
    go_enter Try.func33, Try.ntmps33
    go_wp2_with fail
    obtain ⟨B, hB⟩ : ∃ B, B = w.heap.size := ⟨_, rfl⟩
    obtain ⟨z, hz⟩ : ∃ z : Later w, z.w = w.alloc (.cells #[.slice an ns.length cn, .slice aS ss.length cS] 24) := ⟨Later.new _ _, rfl⟩
    have c0 : z.w.cell? ⟨B, 0, none⟩ = some (.slice an ns.length cn) := by rw [hz, hB]; simp [go_sem]
    have c1 : z.w.cell? ⟨B, 1, none⟩ = some (.slice aS ss.length cS) := by rw [hz, hB]; simp [go_sem]
    have hBz : B < z.w.heap.size := by rw [hz, hB]; simp [go_sem]
    have HZ : Hid (z.w.heap.size = B + 1) := Lib.hid (by rw [hz, hB]; simp)
    rw [← hz, ← hB]
    replace hn := hn.later z
    replace hs := hs.later z
    clear hz hB
    refine (refCheckBook_calls _ _ ns ss _ hn hs).mono ?_
    rintro e w' ⟨rfl, x, rfl⟩
    rw [hv'.out]
    by_cases a1 : n < 0
    · clear hbad
      go_wp2
      go_ret2
      exact ⟨ret_two2 (by rw [hr.out]) (by rw [hr.out]), z.step x, rfl⟩
    by_cases a2 : (ns.length : Int) ≤ n
    · clear hbad
      go_wp2
      go_ret2
      exact ⟨ret_two2 (by rw [hr.out]) (by rw [hr.out]), z.step x, rfl⟩
    by_cases a3 : s < 0
    · clear hbad
      go_wp2
      go_ret2
      exact ⟨ret_two2 (by rw [hr.out]) (by rw [hr.out]), z.step x, rfl⟩
    have a4 : (ss.length : Int) ≤ s := by omega
    clear hbad
    go_wp2
    go_ret2
    exact ⟨ret_two2 (by rw [hr.out]) (by rw [hr.out]), z.step x, rfl⟩
  · have hr := Lib.hid (show rKind ns ss n s = if cntK n.toNat s (allOf ns ss) = (allOf ns ss).length then (2, 0) else if cntK n.toNat s (allOf ns ss) = 0 then (0, 0) else (1, 0) by rw [rKind, if_neg (by simp [hv]), if_neg hbad])
    have a1 : ¬ n < 0 := by omega
    have a2 : ¬ (ns.length : Int) ≤ n := by omega
    have a3 : ¬ s < 0 := by omega
    have a4 : ¬ (ss.length : Int) ≤ s := by omega
    have b1 : 0 ≤ n := by omega
    have b2 : n < ns.length := by omega
    have hb := vbook_valid hv
    have h6 := hb.2.1
    have s6 := hb.2.2.2.1
    have hsz := allOf_size ns ss h6 s6
    clear hv hbad hb
    go_enter Try.func33, Try.ntmps33
    go_wp2_with fail
    obtain ⟨B, hB⟩ : ∃ B, B = w.heap.size := ⟨_, rfl⟩
    obtain ⟨z, hz⟩ : ∃ z : Later w, z.w = w.alloc (.cells #[.slice an ns.length cn, .slice aS ss.length cS] 24) := ⟨Later.new _ _, rfl⟩
    have c0 : z.w.cell? ⟨B, 0, none⟩ = some (.slice an ns.length cn) := by rw [hz, hB]; simp [go_sem]
    have c1 : z.w.cell? ⟨B, 1, none⟩ = some (.slice aS ss.length cS) := by rw [hz, hB]; simp [go_sem]
    have hBz : B < z.w.heap.size := by rw [hz, hB]; simp [go_sem]
    have HZ : Hid (z.w.heap.size = B + 1) := Lib.hid (by rw [hz, hB]; simp)
    rw [← hz, ← hB]
    replace hn := hn.later z
    replace hs := hs.later z
    clear hz hB
    refine (refCheckBook_calls _ _ ns ss _ hn hs).mono ?_
    rintro e w' ⟨rfl, x0, rfl⟩
    rw [hv'.out]
    go_wp2_with fail
    refine (AllOf_calls _ _ ns ss _ (hn.later x0) (hs.later x0) h6 s6).mono ?_
    rintro e w' ⟨av, x1, rfl, rfl, hA⟩
    obtain ⟨x, hx⟩ : ∃ q : Later z.w, x1.w = q.w := ⟨x0.step x1, rfl⟩
    rw [hx] at hA ⊢
    clear hx x1 x0
    obtain ⟨aA, cA, rfl⟩ := hA.form
    go_wp2
    go_loopw [9, 10] (fun c i wr => ∃ k : Nat, ∃ cc : Nat, ∃ y : Later x.w, wr = y.w ∧ k ≤ (allOf ns ss).length ∧ i = .int .i64 k ∧ c = .int .i64 cc ∧ cc ≤ k ∧ Hid (cntK n.toNat s (allOf ns ss) = cc + cntK n.toNat s ((allOf ns ss).drop k))) (fun _ i _ => (allOf ns ss).length - (intOf i).toNat)
    case atStart => exact ⟨0, 0, Later.self _, rfl, Nat.zero_le _, rfl, rfl, Nat.le_refl _, by simp [Hid]⟩
    case round =>
      obtain ⟨k, cc, y, rfl, hk, rfl, rfl, hck, hp⟩ := hrel
      by_cases hlt : k < (allOf ns ss).length
      · obtain ⟨bA, oA, cA', fl, e, hcpA, hbA, hcA⟩ := hA.at hlt
        cases e
        obtain ⟨gl0, hrow⟩ := hcA k hlt
        obtain ⟨bI, oI, cI, e, hcpI, hbI, hcI⟩ := hrow.at (k := n.toNat) (by rw [allOf_len hlt]; omega)
        rw [e] at gl0 hrow
        clear e
        have gA := (y.cell hbA).trans gl0
        have sA : bA < y.w.heap.size := Nat.lt_of_lt_of_le hbA y.size
        have sI : bI < y.w.heap.size := Nat.lt_of_lt_of_le hbI y.size
        have gI := (y.cell hbI).trans (hcI n.toNat (by rw [allOf_len hlt]; omega))
        have hrl : n < (row (allOf ns ss) k).length := by rw [allOf_len hlt]; exact b2
        have hks := Lib.hid (cntK_at n.toNat s (allOf ns ss) k hlt)
        clear hcA hcI
        cases he : (nth (row (allOf ns ss) k) n.toNat == s)
        · have hs2 := Lib.hid (show cntK n.toNat s ((allOf ns ss).drop k) = cntK n.toNat s ((allOf ns ss).drop (k + 1)) by rw [hks.out, if_neg (by simpa using he)]; omega)
          go_wp2
          go_roundw
          case rel => exact ⟨k + 1, cc, y, rfl, by omega, by go_num, rfl, by omega, by unfold Hid; rw [hp.out, hs2.out]⟩
          case measure => simp [intOf]; omega
        · have hs2 := Lib.hid (show cntK n.toNat s ((allOf ns ss).drop k) = 1 + cntK n.toNat s ((allOf ns ss).drop (k + 1)) by rw [hks.out, if_pos (by simpa using he)])
          go_wp2
          go_roundw
          case rel => exact ⟨k + 1, cc + 1, y, rfl, by omega, by go_num, by go_num, by omega, by unfold Hid; rw [hp.out, hs2.out]; omega⟩
          case measure => simp [intOf]; omega
      · have hc := Lib.hid (show cntK n.toNat s (allOf ns ss) = cc by rw [hp.out, cntK_end _ _ _ _ (by omega)]; omega)
        by_cases e1 : cc = (allOf ns ss).length
        · have hfin := Lib.hid (show rKind ns ss n s = (2, 0) by rw [hr.out, if_pos (by rw [hc.out]; exact e1)])
          have e1' : ((cc : Int) == ((allOf ns ss).length : Int)) = true := by simp; omega
          clear e1
          go_wp2
          go_ret2
          exact ⟨ret_two2 (by rw [hfin.out]) (by rw [hfin.out]), (z.step x).step y, rfl⟩
        · have e1' : ((cc : Int) == ((allOf ns ss).length : Int)) = false := by simp; omega
          by_cases e2 : cc = 0
          · have hfin := Lib.hid (show rKind ns ss n s = (0, 0) by rw [hr.out, if_neg (by rw [hc.out]; exact e1), if_pos (by rw [hc.out]; exact e2)])
            subst e2
            clear e1
            go_wp2
            go_ret2
            exact ⟨ret_two2 (by rw [hfin.out]; rfl) (by rw [hfin.out]), (z.step x).step y, rfl⟩
          · have hfin := Lib.hid (show rKind ns ss n s = (1, 0) by rw [hr.out, if_neg (by rw [hc.out]; exact e1), if_neg (by rw [hc.out]; exact e2)])
            clear e1
            go_wp2
            go_ret2
            exact ⟨ret_two2 (by rw [hfin.out]; simp; omega) (by rw [hfin.out]), (z.step x).step y, rfl⟩
end Go.Proofs.Ytieaibebnkdmhaa
