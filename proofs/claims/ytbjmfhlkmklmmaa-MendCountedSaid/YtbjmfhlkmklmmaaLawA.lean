import Derived.Test.YtbjmfhlkmklmmaaAll7
/-  The laws' own functions: equal lists, what is too great, what is valid. -/
namespace Go.Proofs.Ytbjmfhlkmklmmaa
open Go.RowKit

/-- two lists are equal -/
def eqF : List Int → List Int → Bool
  | x :: xs, y :: ys => x == y && eqF xs ys
  | _, _ => true
def eqI (xs ys : List Int) : Bool := decide (xs.length = ys.length) && eqF xs ys
theorem eqF_at (xs ys : List Int) (k : Nat) (h : k < xs.length) (h' : k < ys.length) : eqF (xs.drop k) (ys.drop k) = (nth xs k == nth ys k && eqF (xs.drop (k + 1)) (ys.drop (k + 1))) := by
  rw [List.drop_eq_getElem_cons h, List.drop_eq_getElem_cons h', eqF, nth_eq h, nth_eq h']
theorem eqF_end (xs ys : List Int) (k : Nat) (h : xs.length ≤ k) : eqF (xs.drop k) (ys.drop k) = true := by
  rw [List.drop_eq_nil_of_le h, eqF]; simp
theorem eqF_iff : ∀ (xs ys : List Int), xs.length = ys.length → (eqF xs ys = true ↔ xs = ys)
  | [], [], _ => by simp [eqF]
  | x :: xs, y :: ys, h => by
    rw [eqF, Bool.and_eq_true, eqF_iff xs ys (by simpa using h)]
    simp
theorem eqI_iff (xs ys : List Int) : eqI xs ys = true ↔ xs = ys := by
  rw [eqI, Bool.and_eq_true, decide_eq_true_iff]
  constructor
  · rintro ⟨h, h2⟩; exact (eqF_iff xs ys h).1 h2
  · rintro rfl; exact ⟨rfl, (eqF_iff xs xs rfl).2 rfl⟩

set_option maxRecDepth 100000 in
set_option maxHeartbeats 1000000 in
theorem IntsEq_calls (u v : Value) (xs ys : List Int) (w : World) (hx : Ints w u xs) (hy : Ints w v ys) :
    Calls Try.prog 35 #[u, v] w (Gives (.bool (eqI xs ys)) w) := by
  have hlx := hx.1
  have hly := hy.1
  obtain ⟨au, cu, rfl⟩ := hx.form
  obtain ⟨av, cv, rfl⟩ := hy.form
  go_enter Try.func35, Try.ntmps35
  by_cases hl : xs.length = ys.length
  rotate_left
  · have hv := Lib.hid (show eqI xs ys = false by rw [eqI, decide_eq_false hl]; rfl)
    have hne : ((xs.length : Int) != (ys.length : Int)) = true := by simp; omega
    go_wp2
    go_ret
    exact ⟨ret_bool hv.out.symm, Later.self _, rfl⟩
  · have hv := Lib.hid (show eqI xs ys = eqF xs ys by rw [eqI, decide_eq_true hl]; rfl)
    have hne : ((xs.length : Int) != (ys.length : Int)) = false := by simp; omega
    have hl := Lib.hid hl
    go_wp2
    go_loopw [5] (fun i wr => ∃ k : Nat, ∃ x : Later w, wr = x.w ∧ k ≤ xs.length ∧ i = .int .i64 k ∧ Hid (eqF xs ys = eqF (xs.drop k) (ys.drop k))) (fun i _ => xs.length - (intOf i).toNat)
    case atStart => exact ⟨0, Later.self _, rfl, Nat.zero_le _, rfl, rfl⟩
    case round =>
      obtain ⟨k, x, rfl, hk, rfl, hp⟩ := hrel
      by_cases hlt : k < xs.length
      · have hlt' : k < ys.length := by have := hl.out; omega
        obtain ⟨bx, ox, cx, e, hcx, hbx, hgx⟩ := hx.at hlt
        cases e
        obtain ⟨by', oy, cy, e, hcy, hby, hgy⟩ := hy.at hlt'
        cases e
        have gx := (x.cell hbx).trans (hgx k hlt)
        have gy := (x.cell hby).trans (hgy k hlt')
        have sx : bx < x.w.heap.size := Nat.lt_of_lt_of_le hbx x.size
        have sy : by' < x.w.heap.size := Nat.lt_of_lt_of_le hby x.size
        have hs := Lib.hid (eqF_at xs ys k hlt hlt')
        clear hgx hgy
        cases he : (nth xs k == nth ys k)
        all_goals
          have hne2 : (nth xs k != nth ys k) = !(nth xs k == nth ys k) := rfl
          rw [he] at hne2
          go_wp2
          refine Mix.region_mixL (Mix.kinds [] [] []) (by kernel_rfl) (by kernel_rfl) ?_
          repeat ((with_reducible refine Mix.atCons ?_); first | refine Mix.skipU (by rfl) rfl (by rfl) ?_ | (refine Mix.val rfl rfl (by rfl) (fun K hK => ?_); go_big_quiet_op; refine hK _ ?_; clear hK K) | simp only [hne2])
          refine Mix.done (fun z => ?_)
          go_wp2
        · go_ret
          exact ⟨ret_bool (by rw [hv.out, hp.out, hs.out, he]; rfl), x.step z, rfl⟩
        · go_roundw
          case rel => exact ⟨k + 1, x.step z, rfl, by omega, by go_num, by unfold Hid; rw [hp.out, hs.out, he, Bool.true_and]⟩
          case measure => simp [intOf]; omega
      · have he := Lib.hid (eqF_end xs ys k (by omega))
        go_wp2
        go_ret
        exact ⟨ret_bool (by rw [hv.out, hp.out, he.out]), x, rfl⟩

set_option maxRecDepth 100000 in
set_option maxHeartbeats 1000000 in
theorem Longs_calls (u v : Value) (xs ys : List Int) (w : World) (hx : Ints w u xs) (hy : Ints w v ys) :
    Calls Try.prog 24 #[u, v] w (Gives (.bool (eqI xs ys)) w) := by
  have hlx := hx.1
  have hly := hy.1
  obtain ⟨au, cu, rfl⟩ := hx.form
  obtain ⟨av, cv, rfl⟩ := hy.form
  go_enter Try.func24, Try.ntmps24
  by_cases hl : xs.length = ys.length
  rotate_left
  · have hv := Lib.hid (show eqI xs ys = false by rw [eqI, decide_eq_false hl]; rfl)
    have hne : ((xs.length : Int) != (ys.length : Int)) = true := by simp; omega
    go_wp2
    go_ret
    exact ⟨ret_bool hv.out.symm, Later.self _, rfl⟩
  · have hv := Lib.hid (show eqI xs ys = eqF xs ys by rw [eqI, decide_eq_true hl]; rfl)
    have hne : ((xs.length : Int) != (ys.length : Int)) = false := by simp; omega
    have hl := Lib.hid hl
    go_wp2
    go_loopw [5] (fun i wr => ∃ k : Nat, ∃ x : Later w, wr = x.w ∧ k ≤ xs.length ∧ i = .int .i64 k ∧ Hid (eqF xs ys = eqF (xs.drop k) (ys.drop k))) (fun i _ => xs.length - (intOf i).toNat)
    case atStart => exact ⟨0, Later.self _, rfl, Nat.zero_le _, rfl, rfl⟩
    case round =>
      obtain ⟨k, x, rfl, hk, rfl, hp⟩ := hrel
      by_cases hlt : k < xs.length
      · have hlt' : k < ys.length := by have := hl.out; omega
        obtain ⟨bx, ox, cx, e, hcx, hbx, hgx⟩ := hx.at hlt
        cases e
        obtain ⟨by', oy, cy, e, hcy, hby, hgy⟩ := hy.at hlt'
        cases e
        have gx := (x.cell hbx).trans (hgx k hlt)
        have gy := (x.cell hby).trans (hgy k hlt')
        have sx : bx < x.w.heap.size := Nat.lt_of_lt_of_le hbx x.size
        have sy : by' < x.w.heap.size := Nat.lt_of_lt_of_le hby x.size
        have hs := Lib.hid (eqF_at xs ys k hlt hlt')
        clear hgx hgy
        cases he : (nth xs k == nth ys k)
        all_goals
          have hne2 : (nth xs k != nth ys k) = !(nth xs k == nth ys k) := rfl
          rw [he] at hne2
          go_wp2
          refine Mix.region_mixL (Mix.kinds [] [] []) (by kernel_rfl) (by kernel_rfl) ?_
          repeat ((with_reducible refine Mix.atCons ?_); first | refine Mix.skipU (by rfl) rfl (by rfl) ?_ | (refine Mix.val rfl rfl (by rfl) (fun K hK => ?_); go_big_quiet_op; refine hK _ ?_; clear hK K) | simp only [hne2])
          refine Mix.done (fun z => ?_)
          go_wp2
        · go_ret
          exact ⟨ret_bool (by rw [hv.out, hp.out, hs.out, he]; rfl), x.step z, rfl⟩
        · go_roundw
          case rel => exact ⟨k + 1, x.step z, rfl, by omega, by go_num, by unfold Hid; rw [hp.out, hs.out, he, Bool.true_and]⟩
          case measure => simp [intOf]; omega
      · have he := Lib.hid (eqF_end xs ys k (by omega))
        go_wp2
        go_ret
        exact ⟨ret_bool (by rw [hv.out, hp.out, he.out]), x, rfl⟩

theorem eqI_self (xs : List Int) : eqI xs xs = true := (eqI_iff xs xs).2 rfl
theorem of_calls (a : Option Addr) (n c : Nat) (w : World) : Calls Try.prog 51 #[.slice a n c] w fun e w' => e = .returned (.slice a n c) ∧ w' = w := by
  go_enter Try.func51, Try.ntmps51
  go_wp2
  go_ret
  exact ⟨rfl, rfl⟩
theorem longs_calls (a : Option Addr) (n c : Nat) (w : World) : Calls Try.prog 50 #[.slice a n c] w fun e w' => e = .returned (.slice a n c) ∧ w' = w := by
  go_enter Try.func50, Try.ntmps50
  go_wp2
  go_ret
  exact ⟨rfl, rfl⟩
theorem results_agg3 {fn : Func} {t : Tmp} {T : TypeId} (h : fn.results = #[.cell t T]) (tmps : Array Value) (w : World) {A : Nat} {x y z : Value}
    (P : Program) (ht : tmps.getD t undef = .pointer (some ⟨A, 0, none⟩)) (i1 : ∀ w, (isAgg T).run P w = .ok true w) (i2 : ∀ w, (sizeOf T).run P w = .ok 3 w) (h1 : w.cell? ⟨A, 0, none⟩ = some x) (h2 : w.cell? ⟨A, 1, none⟩ = some y) (h3 : w.cell? ⟨A, 2, none⟩ = some z) :
    (results fn tmps).run P w = .ok (.agg #[x, y, z]) w := by
  rw [Array.getD_eq_getD_getElem?] at ht
  simp [results, h, go_sem, ht, i1, i2, loadCellsFrom, h1, h2, h3]
theorem results_agg3_1 {fn : Func} {t u : Tmp} {T : TypeId} (h : fn.results = #[.cell t T, .tmp u]) (tmps : Array Value) (w : World) {A : Nat} {x y z : Value}
    (P : Program) (ht : tmps.getD t undef = .pointer (some ⟨A, 0, none⟩)) (i1 : ∀ w, (isAgg T).run P w = .ok true w) (i2 : ∀ w, (sizeOf T).run P w = .ok 3 w) (h1 : w.cell? ⟨A, 0, none⟩ = some x) (h2 : w.cell? ⟨A, 1, none⟩ = some y) (h3 : w.cell? ⟨A, 2, none⟩ = some z) :
    (results fn tmps).run P w = .ok (.tuple #[.agg #[x, y, z], tmps.getD u undef]) w := by
  rw [Array.getD_eq_getD_getElem?] at ht
  simp [results, h, go_sem, ht, i1, i2, loadCellsFrom, h1, h2, h3]
theorem results_agg3_2 {fn : Func} {t u v : Tmp} {T : TypeId} (h : fn.results = #[.cell t T, .tmp u, .tmp v]) (tmps : Array Value) (w : World) {A : Nat} {x y z : Value}
    (P : Program) (ht : tmps.getD t undef = .pointer (some ⟨A, 0, none⟩)) (i1 : ∀ w, (isAgg T).run P w = .ok true w) (i2 : ∀ w, (sizeOf T).run P w = .ok 3 w) (h1 : w.cell? ⟨A, 0, none⟩ = some x) (h2 : w.cell? ⟨A, 1, none⟩ = some y) (h3 : w.cell? ⟨A, 2, none⟩ = some z) :
    (results fn tmps).run P w = .ok (.tuple #[.agg #[x, y, z], tmps.getD u undef, tmps.getD v undef]) w := by
  rw [Array.getD_eq_getD_getElem?] at ht
  simp [results, h, go_sem, ht, i1, i2, loadCellsFrom, h1, h2, h3]
set_option maxRecDepth 100000 in
set_option maxHeartbeats 1000000 in
theorem plate_calls (w h : Int) (a : Option Addr) (n c : Nat) (W : World) : Calls Try.prog 49 #[.int .i64 w, .int .i64 h, .slice a n c] W (Gives (.agg #[.int .i64 w, .int .i64 h, .slice a n c]) W) := by
  go_enter Try.func49, Try.ntmps49
  go_wp2
  refine bodyPost_ret (results_agg3 rfl _ _ _ rfl (fun w => by kernel_rfl) (fun w => by kernel_rfl) (x := .int .i64 w) (y := .int .i64 h) (z := .slice a n c) (by simp [go_sem]) (by simp [go_sem]) (by simp [go_sem])) rfl ?_
  exact ⟨rfl, Later.new _ _, rfl⟩
def greatB (d : List Int) : Bool := decide (50 < d.length)
set_option maxRecDepth 100000 in
set_option maxHeartbeats 1000000 in
theorem great_calls (w h : Int) (dv : Value) (d : List Int) (W : World) (hd : Ints W dv d) :
    Calls Try.prog 18 #[.agg #[.int .i64 w, .int .i64 h, dv]] W (Gives (.bool (greatB d)) W) := by
  have hdl := hd.1
  obtain ⟨a, c, rfl⟩ := hd.form
  go_enter Try.func18, Try.ntmps18
  go_wp2_with fail
  have hr := Lib.hid (show decide ((50 : Int) < (d.length : Int)) = greatB d by rw [greatB]; exact decide_eq_decide.2 (by omega))
  go_ret
  exact ⟨ret_bool hr.out, Later.new _ _, rfl⟩

theorem valid_len {w h : Int} {d : List Int} (hv : vplate w h d = 0) : d.length ≤ 36 := by
  obtain ⟨wn, hn, rfl, rfl, hs, hl, _⟩ := vplate_zero hv
  rw [hl]; exact Nat.mul_le_mul hs.2.1 hs.2.2.2
theorem valid_great {w h : Int} {d : List Int} (hv : vplate w h d = 0) : greatB d = false := by
  have := valid_len hv
  rw [greatB]; exact decide_eq_false (by omega)
set_option maxRecDepth 100000 in
set_option maxHeartbeats 1000000 in
/-- which plates are valid, for a statement -/
theorem fine_calls (w h : Int) (dv : Value) (d : List Int) (W : World) (hd : Ints W dv d) :
    Calls Try.prog 42 #[.agg #[.int .i64 w, .int .i64 h, dv]] W (Gives (.bool (vplate w h d == 0)) W) := by
  have hdl := hd.1
  obtain ⟨a, c, rfl⟩ := hd.form
  by_cases hv : vplate w h d = 0
  · have hg := valid_great hv
    have HV := Lib.hid hv
    have hr := Lib.hid (show (vplate w h d == 0) = true by rw [hv]; rfl)
    clear hv
    go_enter Try.func42, Try.ntmps42
    go_wp2_with fail
    obtain ⟨B, hB⟩ : ∃ B, B = W.heap.size := ⟨_, rfl⟩
    obtain ⟨z, hz⟩ : ∃ z : Later W, z.w = W.alloc (.cells #[.int .i64 w, .int .i64 h, .slice a d.length c] 24) := ⟨Later.new _ _, rfl⟩
    have c0 : z.w.cell? ⟨B, 0, none⟩ = some (.int .i64 w) := by rw [hz, hB]; simp [go_sem]
    have c1 : z.w.cell? ⟨B, 1, none⟩ = some (.int .i64 h) := by rw [hz, hB]; simp [go_sem]
    have c2 : z.w.cell? ⟨B, 2, none⟩ = some (.slice a d.length c) := by rw [hz, hB]; simp [go_sem]
    have hBz : B < z.w.heap.size := by rw [hz, hB]; simp [go_sem]
    have HZ : Hid (z.w.heap.size = B + 1) := Lib.hid (by rw [hz, hB]; simp)
    rw [← hz, ← hB]
    replace hd := hd.later z
    clear hz hB
    refine (great_calls _ _ _ d _ hd).mono ?_
    rintro e w' ⟨rfl, x, rfl⟩
    rw [hg]
    have gB0 : x.w.cell? ⟨B, 0, none⟩ = some (.int .i64 w) := ((x).cell hBz).trans c0
    have gB1 : x.w.cell? ⟨B, 1, none⟩ = some (.int .i64 h) := ((x).cell hBz).trans c1
    have gB2 : x.w.cell? ⟨B, 2, none⟩ = some (.slice a d.length c) := ((x).cell hBz).trans c2
    have sB : B < x.w.heap.size := Nat.lt_of_lt_of_le hBz (x).size
    go_wp2_with fail
    refine (refCheckPlate_calls w h _ d _ (hd.later x)).mono ?_
    rintro e w' ⟨rfl, y, rfl⟩
    rw [HV.out]
    go_wp2
    go_ret
    exact ⟨ret_bool hr.out.symm, (z.step x).step y, rfl⟩
  · have hr := Lib.hid (show (vplate w h d == 0) = false by simpa using hv)
    have hne : (vplate w h d == 0) = false := by simpa using hv
    clear hv
    go_enter Try.func42, Try.ntmps42
    go_wp2_with fail
    obtain ⟨B, hB⟩ : ∃ B, B = W.heap.size := ⟨_, rfl⟩
    obtain ⟨z, hz⟩ : ∃ z : Later W, z.w = W.alloc (.cells #[.int .i64 w, .int .i64 h, .slice a d.length c] 24) := ⟨Later.new _ _, rfl⟩
    have c0 : z.w.cell? ⟨B, 0, none⟩ = some (.int .i64 w) := by rw [hz, hB]; simp [go_sem]
    have c1 : z.w.cell? ⟨B, 1, none⟩ = some (.int .i64 h) := by rw [hz, hB]; simp [go_sem]
    have c2 : z.w.cell? ⟨B, 2, none⟩ = some (.slice a d.length c) := by rw [hz, hB]; simp [go_sem]
    have hBz : B < z.w.heap.size := by rw [hz, hB]; simp [go_sem]
    have HZ : Hid (z.w.heap.size = B + 1) := Lib.hid (by rw [hz, hB]; simp)
    rw [← hz, ← hB]
    replace hd := hd.later z
    clear hz hB
    refine (great_calls _ _ _ d _ hd).mono ?_
    rintro e w' ⟨rfl, x, rfl⟩
    have gB0 : x.w.cell? ⟨B, 0, none⟩ = some (.int .i64 w) := ((x).cell hBz).trans c0
    have gB1 : x.w.cell? ⟨B, 1, none⟩ = some (.int .i64 h) := ((x).cell hBz).trans c1
    have gB2 : x.w.cell? ⟨B, 2, none⟩ = some (.slice a d.length c) := ((x).cell hBz).trans c2
    have sB : B < x.w.heap.size := Nat.lt_of_lt_of_le hBz (x).size
    cases hg : greatB d
    · go_wp2_with fail
      refine (refCheckPlate_calls w h _ d _ (hd.later x)).mono ?_
      rintro e w' ⟨rfl, y, rfl⟩
      go_wp2
      go_ret
      exact ⟨ret_bool hr.out.symm, (z.step x).step y, rfl⟩
    · go_wp2
      go_ret
      exact ⟨ret_bool hr.out.symm, z.step x, rfl⟩

end Go.Proofs.Ytbjmfhlkmklmmaa
