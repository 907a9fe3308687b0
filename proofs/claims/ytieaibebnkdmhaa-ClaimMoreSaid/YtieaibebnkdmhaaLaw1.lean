import Derived.Test.YtieaibebnkdmhaaWorse
namespace Go.Proofs.Ytieaibebnkdmhaa
open Go.RowKit

theorem of_calls (a : Option Addr) (n c : Nat) (w : World) : Calls Try.prog 51 #[.slice a n c] w fun e w' => e = .returned (.slice a n c) ∧ w' = w := by
  go_enter Try.func51, Try.ntmps51
  go_wp2
  go_ret
  exact ⟨rfl, rfl⟩
theorem lists_calls (a : Option Addr) (n c : Nat) (w : World) : Calls Try.prog 53 #[.slice a n c] w fun e w' => e = .returned (.slice a n c) ∧ w' = w := by
  go_enter Try.func53, Try.ntmps53
  go_wp2
  go_ret
  exact ⟨rfl, rfl⟩

/-- two lists are equal -/
def eqF : List Int → List Int → Bool
  | x :: xs, y :: ys => x == y && eqF xs ys
  | _, _ => true
def eqI (xs ys : List Int) : Bool := decide (xs.length = ys.length) && eqF xs ys
theorem eqF_at (xs ys : List Int) (k : Nat) (h : k < xs.length) (h' : k < ys.length) : eqF (xs.drop k) (ys.drop k) = (nth xs k == nth ys k && eqF (xs.drop (k + 1)) (ys.drop (k + 1))) := by
  rw [List.drop_eq_getElem_cons h, List.drop_eq_getElem_cons h', eqF, nth_eq h, nth_eq h']
theorem eqF_end (xs ys : List Int) (k : Nat) (h : xs.length ≤ k) : eqF (xs.drop k) (ys.drop k) = true := by
  rw [List.drop_eq_nil_of_le h, eqF]; simp
theorem eqF_iff : ∀ (xs ys : List Int), xs.length = ys.length → (eqF xs ys = true ↔ xs = ys)
  | [], [], _ => by simp [eqF]
  | x :: xs, y :: ys, h => by
    rw [eqF, Bool.and_eq_true, eqF_iff xs ys (by simpa using h)]
    simp
theorem eqI_iff (xs ys : List Int) : eqI xs ys = true ↔ xs = ys := by
  rw [eqI, Bool.and_eq_true, decide_eq_true_iff]
  constructor
  · rintro ⟨h, h2⟩; exact (eqF_iff xs ys h).1 h2
  · rintro rfl; exact ⟨rfl, (eqF_iff xs xs rfl).2 rfl⟩

set_option maxRecDepth 100000 in
set_option maxHeartbeats 1000000 in
theorem Ints_calls (u v : Value) (xs ys : List Int) (w : World) (hx : Ints w u xs) (hy : Ints w v ys) :
    Calls Try.prog 29 #[u, v] w (Gives (.bool (eqI xs ys)) w) := by
  have hlx := hx.1
  have hly := hy.1
  obtain ⟨au, cu, rfl⟩ := hx.form
  obtain ⟨av, cv, rfl⟩ := hy.form
  go_enter Try.func29, Try.ntmps29
  by_cases hl : xs.length = ys.length
  rotate_left
  · have hv := Lib.hid (show eqI xs ys = false by rw [eqI, decide_eq_false hl]; rfl)
    have hne : ((xs.length : Int) != (ys.length : Int)) = true := by simp; omega
    go_wp2
    go_ret
    exact ⟨ret_bool hv.out.symm, Later.self _, rfl⟩
  · have hv := Lib.hid (show eqI xs ys = eqF xs ys by rw [eqI, decide_eq_true hl]; rfl)
    have hne : ((xs.length : Int) != (ys.length : Int)) = false := by simp; omega
    have hl := Lib.hid hl
    go_wp2
    go_loopw [5] (fun i wr => ∃ k : Nat, ∃ x : Later w, wr = x.w ∧ k ≤ xs.length ∧ i = .int .i64 k ∧ Hid (eqF xs ys = eqF (xs.drop k) (ys.drop k))) (fun i _ => xs.length - (intOf i).toNat)
    case atStart => exact ⟨0, Later.self _, rfl, Nat.zero_le _, rfl, rfl⟩
    case round =>
      obtain ⟨k, x, rfl, hk, rfl, hp⟩ := hrel
      by_cases hlt : k < xs.length
      · have hlt' : k < ys.length := by have := hl.out; omega
        obtain ⟨bx, ox, cx, e, hcx, hbx, hgx⟩ := hx.at hlt
        cases e
        obtain ⟨by', oy, cy, e, hcy, hby, hgy⟩ := hy.at hlt'
        cases e
        have gx := (x.cell hbx).trans (hgx k hlt)
        have gy := (x.cell hby).trans (hgy k hlt')
        have sx : bx < x.w.heap.size := Nat.lt_of_lt_of_le hbx x.size
        have sy : by' < x.w.heap.size := Nat.lt_of_lt_of_le hby x.size
        have hs := Lib.hid (eqF_at xs ys k hlt hlt')
        clear hgx hgy
        cases he : (nth xs k == nth ys k)
        all_goals
          have hne2 : (nth xs k != nth ys k) = !(nth xs k == nth ys k) := rfl
          rw [he] at hne2
          go_wp2
          refine Mix.region_mixL (Mix.kinds [] [] []) (by kernel_rfl) (by kernel_rfl) ?_
          repeat ((with_reducible refine Mix.atCons ?_); first | refine Mix.skipU (by rfl) rfl (by rfl) ?_ | (refine Mix.val rfl rfl (by rfl) (fun K hK => ?_); go_big_quiet_op; refine hK _ ?_; clear hK K) | simp only [hne2])
          refine Mix.done (fun z => ?_)
          go_wp2
        · go_ret
          exact ⟨ret_bool (by rw [hv.out, hp.out, hs.out, he]; rfl), x.step z, rfl⟩
        · go_roundw
          case rel => exact ⟨k + 1, x.step z, rfl, by omega, by go_num, by unfold Hid; rw [hp.out, hs.out, he, Bool.true_and]⟩
          case measure => simp [intOf]; omega
      · have he := Lib.hid (eqF_end xs ys k (by omega))
        go_wp2
        go_ret
        exact ⟨ret_bool (by rw [hv.out, hp.out, he.out]), x, rfl⟩

/-- two lists of lists are equal -/
def eqG : List (List Int) → List (List Int) → Bool
  | x :: xs, y :: ys => eqI x y && eqG xs ys
  | _, _ => true
def eqL (xs ys : List (List Int)) : Bool := decide (xs.length = ys.length) && eqG xs ys
theorem eqG_at (xs ys : List (List Int)) (k : Nat) (h : k < xs.length) (h' : k < ys.length) : eqG (xs.drop k) (ys.drop k) = (eqI (row xs k) (row ys k) && eqG (xs.drop (k + 1)) (ys.drop (k + 1))) := by
  rw [List.drop_eq_getElem_cons h, List.drop_eq_getElem_cons h', eqG, row_eq h, row_eq h']
theorem eqG_end (xs ys : List (List Int)) (k : Nat) (h : xs.length ≤ k) : eqG (xs.drop k) (ys.drop k) = true := by
  rw [List.drop_eq_nil_of_le h, eqG]; simp
theorem eqG_iff : ∀ (xs ys : List (List Int)), xs.length = ys.length → (eqG xs ys = true ↔ xs = ys)
  | [], [], _ => by simp [eqG]
  | x :: xs, y :: ys, h => by
    rw [eqG, Bool.and_eq_true, eqG_iff xs ys (by simpa using h), eqI_iff]
    simp
theorem eqL_iff (xs ys : List (List Int)) : eqL xs ys = true ↔ xs = ys := by
  rw [eqL, Bool.and_eq_true, decide_eq_true_iff]
  constructor
  · rintro ⟨h, h2⟩; exact (eqG_iff xs ys h).1 h2
  · rintro rfl; exact ⟨rfl, (eqG_iff xs xs rfl).2 rfl⟩

set_option maxRecDepth 100000 in
set_option maxHeartbeats 1000000 in
theorem Lists_calls (u v : Value) (xs ys : List (List Int)) (w : World) (hx : Rows2 w u xs) (hy : Rows2 w v ys) :
    Calls Try.prog 34 #[u, v] w (Gives (.bool (eqL xs ys)) w) := by
  have hlx := hx.1
  have hly := hy.1
  obtain ⟨au, cu, rfl⟩ := hx.form
  obtain ⟨av, cv, rfl⟩ := hy.form
  go_enter Try.func34, Try.ntmps34
  by_cases hl : xs.length = ys.length
  rotate_left
  · have hv := Lib.hid (show eqL xs ys = false by rw [eqL, decide_eq_false hl]; rfl)
    have hne : ((xs.length : Int) != (ys.length : Int)) = true := by simp; omega
    go_wp2
    go_ret
    exact ⟨ret_bool hv.out.symm, Later.self _, rfl⟩
  · have hv := Lib.hid (show eqL xs ys = eqG xs ys by rw [eqL, decide_eq_true hl]; rfl)
    have hne : ((xs.length : Int) != (ys.length : Int)) = false := by simp; omega
    have hl := Lib.hid hl
    go_wp2
    go_loopw [5] (fun i wr => ∃ k : Nat, ∃ x : Later w, wr = x.w ∧ k ≤ xs.length ∧ i = .int .i64 k ∧ Hid (eqG xs ys = eqG (xs.drop k) (ys.drop k))) (fun i _ => xs.length - (intOf i).toNat)
    case atStart => exact ⟨0, Later.self _, rfl, Nat.zero_le _, rfl, rfl⟩
    case round =>
      obtain ⟨k, x, rfl, hk, rfl, hp⟩ := hrel
      by_cases hlt : k < xs.length
      · have hlt' : k < ys.length := by have := hl.out; omega
        obtain ⟨bx, ox, cx, fx, e, hcx, hbx, hgx⟩ := hx.at hlt
        cases e
        obtain ⟨by', oy, cy, fy, e, hcy, hby, hgy⟩ := hy.at hlt'
        cases e
        obtain ⟨gx0, rx⟩ := hgx k hlt
        obtain ⟨gy0, ry⟩ := hgy k hlt'
        have gx := (x.cell hbx).trans gx0
        have gy := (x.cell hby).trans gy0
        have sx : bx < x.w.heap.size := Nat.lt_of_lt_of_le hbx x.size
        have sy : by' < x.w.heap.size := Nat.lt_of_lt_of_le hby x.size
        have hs := Lib.hid (eqG_at xs ys k hlt hlt')
        clear hgx hgy gx0 gy0
        cases he : eqI (row xs k) (row ys k)
        all_goals
          go_wp2
          refine Mix.region_mixL (Mix.kinds [] [8] []) (by kernel_rfl) (by kernel_rfl) ?_
          repeat ((with_reducible refine Mix.atCons ?_); first | refine Mix.skipU (by rfl) rfl (by rfl) ?_ | (refine Mix.val rfl rfl (by rfl) (fun K hK => ?_); go_big_quiet_op; refine hK _ ?_; clear hK K))
          refine Mix.loud rfl (by rfl) (fun x1 K hK => ?_)
          have har := Ints_calls _ _ _ _ x1.w ((rx.later x).later x1) ((ry.later x).later x1)
          rw [he] at har
          go_wp2_with fail
          refine har.mono ?_
          rintro e w' ⟨rfl, x2, rfl⟩
          refine hK _ x2 ?_
          clear hK K
          repeat ((with_reducible refine Mix.atCons ?_); first | refine Mix.skipU (by rfl) rfl (by rfl) ?_ | (refine Mix.val rfl rfl (by rfl) (fun K hK => ?_); go_big_quiet_op; refine hK _ ?_; clear hK K))
          refine Mix.done (fun z => ?_)
          go_wp2
        · go_ret
          exact ⟨ret_bool (by rw [hv.out, hp.out, hs.out, he]; rfl), ((x.step x1).step x2).step z, rfl⟩
        · go_roundw
          case rel => exact ⟨k + 1, ((x.step x1).step x2).step z, rfl, by omega, by go_num, by unfold Hid; rw [hp.out, hs.out, he, Bool.true_and]⟩
          case measure => simp [intOf]; omega
      · have he := Lib.hid (eqG_end xs ys k (by omega))
        go_wp2
        go_ret
        exact ⟨ret_bool (by rw [hv.out, hp.out, he.out]), x, rfl⟩

theorem ints_of1 {w : World} {b : Nat} {x0 : Int} (h0 : w.cell? ⟨b, 0, none⟩ = some (.int .i64 x0)) : Ints w (.slice (some ⟨b, 0, none⟩) 1 1) [x0] := by
  refine ⟨by simp, .inr ⟨b, 0, 1, rfl, Nat.le_refl _, World.block_lt_of_cell? w ⟨b, 0, none⟩ h0, fun k hk => ?_⟩⟩
  have hk2 : k = 0 := by simp at hk; omega
  rcases hk2 with rfl
  · exact h0
theorem rows_of1 {w : World} {b : Nat} {r0 : List Int} {v0 : Value} (h0 : w.cell? ⟨b, 0, none⟩ = some v0) (i0 : Ints w v0 r0) : Rows2 w (.slice (some ⟨b, 0, none⟩) 1 1) [r0] := by
  refine ⟨by simp, .inr ⟨b, 0, 1, fun k => [v0].getD k undef, rfl, Nat.le_refl _, World.block_lt_of_cell? w ⟨b, 0, none⟩ h0, fun k hk => ?_⟩⟩
  have hk2 : k = 0 := by simp at hk; omega
  rcases hk2 with rfl
  · exact ⟨h0, i0⟩
theorem ints_of2 {w : World} {b : Nat} {x0 x1 : Int} (h0 : w.cell? ⟨b, 0, none⟩ = some (.int .i64 x0)) (h1 : w.cell? ⟨b, 1, none⟩ = some (.int .i64 x1)) : Ints w (.slice (some ⟨b, 0, none⟩) 2 2) [x0, x1] := by
  refine ⟨by simp, .inr ⟨b, 0, 2, rfl, Nat.le_refl _, World.block_lt_of_cell? w ⟨b, 0, none⟩ h0, fun k hk => ?_⟩⟩
  have hk2 : k = 0 ∨ k = 1 := by simp at hk; omega
  rcases hk2 with rfl | rfl
  · exact h0
  · exact h1
theorem rows_of2 {w : World} {b : Nat} {r0 r1 : List Int} {v0 v1 : Value} (h0 : w.cell? ⟨b, 0, none⟩ = some v0) (h1 : w.cell? ⟨b, 1, none⟩ = some v1) (i0 : Ints w v0 r0) (i1 : Ints w v1 r1) : Rows2 w (.slice (some ⟨b, 0, none⟩) 2 2) [r0, r1] := by
  refine ⟨by simp, .inr ⟨b, 0, 2, fun k => [v0, v1].getD k undef, rfl, Nat.le_refl _, World.block_lt_of_cell? w ⟨b, 0, none⟩ h0, fun k hk => ?_⟩⟩
  have hk2 : k = 0 ∨ k = 1 := by simp at hk; omega
  rcases hk2 with rfl | rfl
  · exact ⟨h0, i0⟩
  · exact ⟨h1, i1⟩
theorem ints_of3 {w : World} {b : Nat} {x0 x1 x2 : Int} (h0 : w.cell? ⟨b, 0, none⟩ = some (.int .i64 x0)) (h1 : w.cell? ⟨b, 1, none⟩ = some (.int .i64 x1)) (h2 : w.cell? ⟨b, 2, none⟩ = some (.int .i64 x2)) : Ints w (.slice (some ⟨b, 0, none⟩) 3 3) [x0, x1, x2] := by
  refine ⟨by simp, .inr ⟨b, 0, 3, rfl, Nat.le_refl _, World.block_lt_of_cell? w ⟨b, 0, none⟩ h0, fun k hk => ?_⟩⟩
  have hk2 : k = 0 ∨ k = 1 ∨ k = 2 := by simp at hk; omega
  rcases hk2 with rfl | rfl | rfl
  · exact h0
  · exact h1
  · exact h2
theorem rows_of3 {w : World} {b : Nat} {r0 r1 r2 : List Int} {v0 v1 v2 : Value} (h0 : w.cell? ⟨b, 0, none⟩ = some v0) (h1 : w.cell? ⟨b, 1, none⟩ = some v1) (h2 : w.cell? ⟨b, 2, none⟩ = some v2) (i0 : Ints w v0 r0) (i1 : Ints w v1 r1) (i2 : Ints w v2 r2) : Rows2 w (.slice (some ⟨b, 0, none⟩) 3 3) [r0, r1, r2] := by
  refine ⟨by simp, .inr ⟨b, 0, 3, fun k => [v0, v1, v2].getD k undef, rfl, Nat.le_refl _, World.block_lt_of_cell? w ⟨b, 0, none⟩ h0, fun k hk => ?_⟩⟩
  have hk2 : k = 0 ∨ k = 1 ∨ k = 2 := by simp at hk; omega
  rcases hk2 with rfl | rfl | rfl
  · exact ⟨h0, i0⟩
  · exact ⟨h1, i1⟩
  · exact ⟨h2, i2⟩

theorem results_agg2 {fn : Func} {t : Tmp} {T : TypeId} (h : fn.results = #[.cell t T]) (tmps : Array Value) (w : World) {A : Nat} {x y : Value}
    (P : Program) (ht : tmps.getD t undef = .pointer (some ⟨A, 0, none⟩)) (i1 : ∀ w, (isAgg T).run P w = .ok true w) (i2 : ∀ w, (sizeOf T).run P w = .ok 2 w) (h1 : w.cell? ⟨A, 0, none⟩ = some x) (h2 : w.cell? ⟨A, 1, none⟩ = some y) :
    (results fn tmps).run P w = .ok (.agg #[x, y]) w := by
  rw [Array.getD_eq_getD_getElem?] at ht
  simp [results, h, go_sem, ht, i1, i2, loadCellsFrom, h1, h2]

/-- The books of the chapter's examples. -/
def bN : List (List Int) := [[0, 1, 2], [1, 2, 0], [2, 0, 1]]
def bS : List (List Int) := [[1, 2, 0], [2, 0, 1], [0, 1, 2]]
def cN : List (List Int) := [[0, 1], [0]]
def cS' : List (List Int) := [[0, 1], [0]]
/-- a book by value -/
def GivesB (ns ss : List (List Int)) (w : World) (e : Ending) (w' : World) : Prop := ∃ a c a' c', ∃ x : Later w, e = .returned (.agg #[.slice a ns.length c, .slice a' ss.length c']) ∧ w' = x.w ∧ Rows2 x.w (.slice a ns.length c) ns ∧ Rows2 x.w (.slice a' ss.length c') ss

set_option maxRecDepth 100000 in
set_option maxHeartbeats 1000000 in
theorem Book_calls (w : World) : Calls Try.prog 49 #[] w (GivesB bN bS w) := by
  go_enter Try.func49, Try.ntmps49
  go_wp2_with (first
    | (go_at_call 51; (with_reducible refine (of_calls _ _ _ _).mono ?_); rintro e w' ⟨rfl, rfl⟩)
    | (go_at_call 53; (with_reducible refine (lists_calls _ _ _ _).mono ?_); rintro e w' ⟨rfl, rfl⟩))
  obtain ⟨W, hW⟩ : ∃ W, W = (((((((((w.alloc (.cells #[.slice (some ⟨w.heap.size + 1 + 1 + 1 + 1, 0, none⟩) 3 3, .slice (some ⟨w.heap.size + 1 + 1 + 1 + 1 + 1 + 1 + 1 + 1, 0, none⟩) 3 3] 24)).alloc (.cells #[.int .i64 0, .int .i64 1, .int .i64 2] 3)).alloc (.cells #[.int .i64 1, .int .i64 2, .int .i64 0] 3)).alloc (.cells #[.int .i64 2, .int .i64 0, .int .i64 1] 3)).alloc (.cells #[.slice (some ⟨w.heap.size + 1, 0, none⟩) 3 3, .slice (some ⟨w.heap.size + 1 + 1, 0, none⟩) 3 3, .slice (some ⟨w.heap.size + 1 + 1 + 1, 0, none⟩) 3 3] 25)).alloc (.cells #[.int .i64 1, .int .i64 2, .int .i64 0] 3)).alloc (.cells #[.int .i64 2, .int .i64 0, .int .i64 1] 3)).alloc (.cells #[.int .i64 0, .int .i64 1, .int .i64 2] 3)).alloc (.cells #[.slice (some ⟨w.heap.size + 1 + 1 + 1 + 1 + 1, 0, none⟩) 3 3, .slice (some ⟨w.heap.size + 1 + 1 + 1 + 1 + 1 + 1, 0, none⟩) 3 3, .slice (some ⟨w.heap.size + 1 + 1 + 1 + 1 + 1 + 1 + 1, 0, none⟩) 3 3] 25)) := ⟨_, rfl⟩
  rw [← hW]
  have a0 : W.cell? ⟨w.heap.size, 0, none⟩ = some (.slice (some ⟨w.heap.size + 1 + 1 + 1 + 1, 0, none⟩) 3 3) := by rw [hW]; simp [go_sem]
  have a1 : W.cell? ⟨w.heap.size, 1, none⟩ = some (.slice (some ⟨w.heap.size + 1 + 1 + 1 + 1 + 1 + 1 + 1 + 1, 0, none⟩) 3 3) := by rw [hW]; simp [go_sem]
  have p0_0 : W.cell? ⟨w.heap.size + 1, 0, none⟩ = some (.int .i64 0) := by rw [hW]; simp [go_sem]
  have p0_1 : W.cell? ⟨w.heap.size + 1, 1, none⟩ = some (.int .i64 1) := by rw [hW]; simp [go_sem]
  have p0_2 : W.cell? ⟨w.heap.size + 1, 2, none⟩ = some (.int .i64 2) := by rw [hW]; simp [go_sem]
  have n0 : W.cell? ⟨w.heap.size + 1 + 1 + 1 + 1, 0, none⟩ = some (.slice (some ⟨w.heap.size + 1, 0, none⟩) 3 3) := by rw [hW]; simp [go_sem]
  have p1_0 : W.cell? ⟨w.heap.size + 1 + 1, 0, none⟩ = some (.int .i64 1) := by rw [hW]; simp [go_sem]
  have p1_1 : W.cell? ⟨w.heap.size + 1 + 1, 1, none⟩ = some (.int .i64 2) := by rw [hW]; simp [go_sem]
  have p1_2 : W.cell? ⟨w.heap.size + 1 + 1, 2, none⟩ = some (.int .i64 0) := by rw [hW]; simp [go_sem]
  have n1 : W.cell? ⟨w.heap.size + 1 + 1 + 1 + 1, 1, none⟩ = some (.slice (some ⟨w.heap.size + 1 + 1, 0, none⟩) 3 3) := by rw [hW]; simp [go_sem]
  have p2_0 : W.cell? ⟨w.heap.size + 1 + 1 + 1, 0, none⟩ = some (.int .i64 2) := by rw [hW]; simp [go_sem]
  have p2_1 : W.cell? ⟨w.heap.size + 1 + 1 + 1, 1, none⟩ = some (.int .i64 0) := by rw [hW]; simp [go_sem]
  have p2_2 : W.cell? ⟨w.heap.size + 1 + 1 + 1, 2, none⟩ = some (.int .i64 1) := by rw [hW]; simp [go_sem]
  have n2 : W.cell? ⟨w.heap.size + 1 + 1 + 1 + 1, 2, none⟩ = some (.slice (some ⟨w.heap.size + 1 + 1 + 1, 0, none⟩) 3 3) := by rw [hW]; simp [go_sem]
  have q0_0 : W.cell? ⟨w.heap.size + 1 + 1 + 1 + 1 + 1, 0, none⟩ = some (.int .i64 1) := by rw [hW]; simp [go_sem]
  have q0_1 : W.cell? ⟨w.heap.size + 1 + 1 + 1 + 1 + 1, 1, none⟩ = some (.int .i64 2) := by rw [hW]; simp [go_sem]
  have q0_2 : W.cell? ⟨w.heap.size + 1 + 1 + 1 + 1 + 1, 2, none⟩ = some (.int .i64 0) := by rw [hW]; simp [go_sem]
  have s0 : W.cell? ⟨w.heap.size + 1 + 1 + 1 + 1 + 1 + 1 + 1 + 1, 0, none⟩ = some (.slice (some ⟨w.heap.size + 1 + 1 + 1 + 1 + 1, 0, none⟩) 3 3) := by rw [hW]; simp [go_sem]
  have q1_0 : W.cell? ⟨w.heap.size + 1 + 1 + 1 + 1 + 1 + 1, 0, none⟩ = some (.int .i64 2) := by rw [hW]; simp [go_sem]
  have q1_1 : W.cell? ⟨w.heap.size + 1 + 1 + 1 + 1 + 1 + 1, 1, none⟩ = some (.int .i64 0) := by rw [hW]; simp [go_sem]
  have q1_2 : W.cell? ⟨w.heap.size + 1 + 1 + 1 + 1 + 1 + 1, 2, none⟩ = some (.int .i64 1) := by rw [hW]; simp [go_sem]
  have s1 : W.cell? ⟨w.heap.size + 1 + 1 + 1 + 1 + 1 + 1 + 1 + 1, 1, none⟩ = some (.slice (some ⟨w.heap.size + 1 + 1 + 1 + 1 + 1 + 1, 0, none⟩) 3 3) := by rw [hW]; simp [go_sem]
  have q2_0 : W.cell? ⟨w.heap.size + 1 + 1 + 1 + 1 + 1 + 1 + 1, 0, none⟩ = some (.int .i64 0) := by rw [hW]; simp [go_sem]
  have q2_1 : W.cell? ⟨w.heap.size + 1 + 1 + 1 + 1 + 1 + 1 + 1, 1, none⟩ = some (.int .i64 1) := by rw [hW]; simp [go_sem]
  have q2_2 : W.cell? ⟨w.heap.size + 1 + 1 + 1 + 1 + 1 + 1 + 1, 2, none⟩ = some (.int .i64 2) := by rw [hW]; simp [go_sem]
  have s2 : W.cell? ⟨w.heap.size + 1 + 1 + 1 + 1 + 1 + 1 + 1 + 1, 2, none⟩ = some (.slice (some ⟨w.heap.size + 1 + 1 + 1 + 1 + 1 + 1 + 1, 0, none⟩) 3 3) := by rw [hW]; simp [go_sem]
  have hle : Below w.heap.size w W := by rw [hW]; exact (((((((((Later.new _ _).step (Later.new _ _)).step (Later.new _ _)).step (Later.new _ _)).step (Later.new _ _)).step (Later.new _ _)).step (Later.new _ _)).step (Later.new _ _)).step (Later.new _ _)) |>.le
  clear hW
  refine bodyPost_ret (results_agg2 rfl _ _ _ rfl (fun w => by kernel_rfl) (fun w => by kernel_rfl) a0 a1) rfl ?_
  exact ⟨_, _, _, _, ⟨W, hle⟩, rfl, rfl, rows_of3 n0 n1 n2 (ints_of3 p0_0 p0_1 p0_2) (ints_of3 p1_0 p1_1 p1_2) (ints_of3 p2_0 p2_1 p2_2), rows_of3 s0 s1 s2 (ints_of3 q0_0 q0_1 q0_2) (ints_of3 q1_0 q1_1 q1_2) (ints_of3 q2_0 q2_1 q2_2)⟩

set_option maxRecDepth 100000 in
set_option maxHeartbeats 1000000 in
theorem plain_calls (w : World) : Calls Try.prog 50 #[] w (GivesB cN cS' w) := by
  go_enter Try.func50, Try.ntmps50
  go_wp2_with (first
    | (go_at_call 51; (with_reducible refine (of_calls _ _ _ _).mono ?_); rintro e w' ⟨rfl, rfl⟩)
    | (go_at_call 53; (with_reducible refine (lists_calls _ _ _ _).mono ?_); rintro e w' ⟨rfl, rfl⟩))
  obtain ⟨W, hW⟩ : ∃ W, W = (((((((w.alloc (.cells #[.slice (some ⟨w.heap.size + 1 + 1 + 1, 0, none⟩) 2 2, .slice (some ⟨w.heap.size + 1 + 1 + 1 + 1 + 1 + 1, 0, none⟩) 2 2] 24)).alloc (.cells #[.int .i64 0, .int .i64 1] 3)).alloc (.cells #[.int .i64 0] 3)).alloc (.cells #[.slice (some ⟨w.heap.size + 1, 0, none⟩) 2 2, .slice (some ⟨w.heap.size + 1 + 1, 0, none⟩) 1 1] 25)).alloc (.cells #[.int .i64 0, .int .i64 1] 3)).alloc (.cells #[.int .i64 0] 3)).alloc (.cells #[.slice (some ⟨w.heap.size + 1 + 1 + 1 + 1, 0, none⟩) 2 2, .slice (some ⟨w.heap.size + 1 + 1 + 1 + 1 + 1, 0, none⟩) 1 1] 25)) := ⟨_, rfl⟩
  rw [← hW]
  have a0 : W.cell? ⟨w.heap.size, 0, none⟩ = some (.slice (some ⟨w.heap.size + 1 + 1 + 1, 0, none⟩) 2 2) := by rw [hW]; simp [go_sem]
  have a1 : W.cell? ⟨w.heap.size, 1, none⟩ = some (.slice (some ⟨w.heap.size + 1 + 1 + 1 + 1 + 1 + 1, 0, none⟩) 2 2) := by rw [hW]; simp [go_sem]
  have p0_0 : W.cell? ⟨w.heap.size + 1, 0, none⟩ = some (.int .i64 0) := by rw [hW]; simp [go_sem]
  have p0_1 : W.cell? ⟨w.heap.size + 1, 1, none⟩ = some (.int .i64 1) := by rw [hW]; simp [go_sem]
  have n0 : W.cell? ⟨w.heap.size + 1 + 1 + 1, 0, none⟩ = some (.slice (some ⟨w.heap.size + 1, 0, none⟩) 2 2) := by rw [hW]; simp [go_sem]
  have p1_0 : W.cell? ⟨w.heap.size + 1 + 1, 0, none⟩ = some (.int .i64 0) := by rw [hW]; simp [go_sem]
  have n1 : W.cell? ⟨w.heap.size + 1 + 1 + 1, 1, none⟩ = some (.slice (some ⟨w.heap.size + 1 + 1, 0, none⟩) 1 1) := by rw [hW]; simp [go_sem]
  have q0_0 : W.cell? ⟨w.heap.size + 1 + 1 + 1 + 1, 0, none⟩ = some (.int .i64 0) := by rw [hW]; simp [go_sem]
  have q0_1 : W.cell? ⟨w.heap.size + 1 + 1 + 1 + 1, 1, none⟩ = some (.int .i64 1) := by rw [hW]; simp [go_sem]
  have s0 : W.cell? ⟨w.heap.size + 1 + 1 + 1 + 1 + 1 + 1, 0, none⟩ = some (.slice (some ⟨w.heap.size + 1 + 1 + 1 + 1, 0, none⟩) 2 2) := by rw [hW]; simp [go_sem]
  have q1_0 : W.cell? ⟨w.heap.size + 1 + 1 + 1 + 1 + 1, 0, none⟩ = some (.int .i64 0) := by rw [hW]; simp [go_sem]
  have s1 : W.cell? ⟨w.heap.size + 1 + 1 + 1 + 1 + 1 + 1, 1, none⟩ = some (.slice (some ⟨w.heap.size + 1 + 1 + 1 + 1 + 1, 0, none⟩) 1 1) := by rw [hW]; simp [go_sem]
  have hle : Below w.heap.size w W := by rw [hW]; exact (((((((Later.new _ _).step (Later.new _ _)).step (Later.new _ _)).step (Later.new _ _)).step (Later.new _ _)).step (Later.new _ _)).step (Later.new _ _)) |>.le
  clear hW
  refine bodyPost_ret (results_agg2 rfl _ _ _ rfl (fun w => by kernel_rfl) (fun w => by kernel_rfl) a0 a1) rfl ?_
  exact ⟨_, _, _, _, ⟨W, hle⟩, rfl, rfl, rows_of2 n0 n1 (ints_of2 p0_0 p0_1) (ints_of1 p1_0), rows_of2 s0 s1 (ints_of2 q0_0 q0_1) (ints_of1 q1_0)⟩

end Go.Proofs.Ytieaibebnkdmhaa
