import Derived.Test.YtieaibebnkdmhaaBase
namespace Go.Proofs.Ytieaibebnkdmhaa
open Go.RowKit
/-- the first place, from k on, at which p holds -/
def idxF (p : Int → Bool) : List Int → Nat → Int
  | [], _ => -1
  | x :: xs, k => if p x then (k : Int) else idxF p xs (k + 1)
theorem idxF_at (p : Int → Bool) (xs : List Int) (k : Nat) (h : k < xs.length) :
    idxF p (xs.drop k) k = if p (nth xs k) then (k : Int) else idxF p (xs.drop (k + 1)) (k + 1) := by
  rw [List.drop_eq_getElem_cons h, idxF, nth_eq h]
theorem idxF_end (p : Int → Bool) (xs : List Int) (k : Nat) (h : xs.length ≤ k) : idxF p (xs.drop k) k = -1 := by
  rw [List.drop_eq_nil_of_le h, idxF]
theorem idxF_lo (p : Int → Bool) : ∀ (xs : List Int) (k : Nat), (0 ≤ idxF p xs k ↔ xs.any p = true)
  | [], _ => by simp [idxF]
  | x :: xs, k => by
    simp only [idxF, List.any_cons, Bool.or_eq_true]
    by_cases h : p x = true
    · simp [h]
    · simp only [h, Bool.false_eq_true, if_false, false_or]
      exact idxF_lo p xs (k + 1)
theorem idxF_any (p : Int → Bool) (xs : List Int) : decide (0 ≤ idxF p xs 0) = xs.any p := by
  rw [Bool.eq_iff_iff, decide_eq_true_iff]; exact idxF_lo p xs 0
/-- the same of lists of lists -/
def idxR (p : List Int → Bool) : List (List Int) → Nat → Int
  | [], _ => -1
  | x :: xs, k => if p x then (k : Int) else idxR p xs (k + 1)
theorem idxR_at (p : List Int → Bool) (xs : List (List Int)) (k : Nat) (h : k < xs.length) :
    idxR p (xs.drop k) k = if p (row xs k) then (k : Int) else idxR p (xs.drop (k + 1)) (k + 1) := by
  rw [List.drop_eq_getElem_cons h, idxR, row_eq h]
theorem idxR_end (p : List Int → Bool) (xs : List (List Int)) (k : Nat) (h : xs.length ≤ k) : idxR p (xs.drop k) k = -1 := by
  rw [List.drop_eq_nil_of_le h, idxR]
theorem idxR_lo (p : List Int → Bool) : ∀ (xs : List (List Int)) (k : Nat), (0 ≤ idxR p xs k ↔ xs.any p = true)
  | [], _ => by simp [idxR]
  | x :: xs, k => by
    simp only [idxR, List.any_cons, Bool.or_eq_true]
    by_cases h : p x = true
    · simp [h]
    · simp only [h, Bool.false_eq_true, if_false, false_or]
      exact idxR_lo p xs (k + 1)
theorem idxR_any (p : List Int → Bool) (xs : List (List Int)) : decide (0 ≤ idxR p xs 0) = xs.any p := by
  rw [Bool.eq_iff_iff, decide_eq_true_iff]; exact idxR_lo p xs 0
def isN (n : Int) : Int → Bool := fun x => n == x

set_option maxHeartbeats 400000 in
theorem Index_calls (v : Value) (xs : List Int) (n : Int) (w : World) (hx : Ints w v xs) :
    Calls Try.prog 69 #[v, .int .i64 n] w fun e w' => e = .returned (.int .i64 (idxF (isN n) xs 0)) ∧ w' = w := by
  obtain ⟨hl, ⟨rfl, a, cap, rfl⟩ | ⟨b, off, cap, rfl, hcp, hb, hc⟩⟩ := hx
  · go_enter Try.func69, Try.ntmps69
    go_wp2
    go_loop [8] (fun i => i = .int .i64 0) (fun _ => 0)
    case atStart => rfl
    case round =>
      obtain rfl := hrel
      go_wp2
      go_ret
      exact ⟨rfl, rfl⟩
  · go_enter Try.func69, Try.ntmps69
    go_wp2
    go_loop [8] (fun i => ∃ k : Nat, k ≤ xs.length ∧ i = .int .i64 k ∧ Hid (idxF (isN n) xs 0 = idxF (isN n) (xs.drop k) k)) (fun i => xs.length - (intOf i).toNat)
    case atStart => exact ⟨0, Nat.zero_le _, rfl, rfl⟩
    case round =>
      obtain ⟨k, hk, rfl, hp⟩ := hrel
      by_cases hlt : k < xs.length
      · have hcell := hc k hlt
        have hs := Lib.hid (idxF_at (isN n) xs k hlt)
        clear hc
        cases he : (n == nth xs k)
        · go_wp2
          go_round
          case rel => exact ⟨k + 1, by omega, by go_num, by unfold Hid; rw [hp.out, hs.out, if_neg (by simp only [isN, he]; simp)]⟩
          case measure => simp [intOf]; omega
        · go_wp2
          go_ret
          exact ⟨ret_int (by rw [hp.out, hs.out, if_pos (by simp only [isN, he])]), rfl⟩
      · have hs := Lib.hid (idxF_end (isN n) xs k (by omega))
        clear hc
        go_wp2
        go_ret
        exact ⟨ret_int (by rw [hp.out, hs.out]), rfl⟩

set_option maxHeartbeats 400000 in
theorem Contains_calls (v : Value) (xs : List Int) (n : Int) (w : World) (hx : Ints w v xs) :
    Calls Try.prog 80 #[v, .int .i64 n] w fun e w' => e = .returned (.bool (xs.any (isN n))) ∧ w' = w := by
  have h := Lib.hid (idxF_any (isN n) xs)
  go_enter Try.func80, Try.ntmps80
  go_wp2_with (go_at_call 69; (with_reducible refine (Index_calls _ xs _ _ hx).mono ?_); rintro e w' ⟨rfl, rfl⟩)
  go_ret
  exact ⟨ret_bool h.out, rfl⟩

def outB (lo hi : Int) : Int → Bool := fun n => decide (n < lo) || decide (hi < n)
set_option maxHeartbeats 400000 in
theorem within1_calls (n lo hi : Int) (b1 b2 : Nat) (w : World) (h1 : w.cell? ⟨b1, 0, none⟩ = some (.int .i64 lo)) (h2 : w.cell? ⟨b2, 0, none⟩ = some (.int .i64 hi)) :
    Calls Try.prog 84 #[.int .i64 n, .pointer (some ⟨b1, 0, none⟩), .pointer (some ⟨b2, 0, none⟩)] w fun e w' => e = .returned (.bool (outB lo hi n)) ∧ w' = w := by
  go_enter Try.func84, Try.ntmps84
  go_wp2
  all_goals (go_ret; refine ⟨ret_bool ?_, rfl⟩; simp [outB, *])
  all_goals omega

set_option maxHeartbeats 400000 in
theorem IndexFunc_within (v : Value) (xs : List Int) (lo hi : Int) (b1 b2 : Nat) (w : World) (hx : Ints w v xs) (hb1 : b1 < w.heap.size) (hb2 : b2 < w.heap.size) (h1 : w.cell? ⟨b1, 0, none⟩ = some (.int .i64 lo)) (h2 : w.cell? ⟨b2, 0, none⟩ = some (.int .i64 hi)) :
    Calls Try.prog 87 #[v, .func (.func 84) #[] #[.pointer (some ⟨b1, 0, none⟩), .pointer (some ⟨b2, 0, none⟩)]] w (Gives (.int .i64 (idxF (outB lo hi) xs 0)) w) := by
  obtain ⟨hl, ⟨rfl, a, cap, rfl⟩ | ⟨b, off, cap, rfl, hcp, hb, hc⟩⟩ := hx
  · go_enter Try.func87, Try.ntmps87
    go_wp2
    go_loop [8] (fun i => i = .int .i64 0) (fun _ => 0)
    case atStart => rfl
    case round =>
      obtain rfl := hrel
      go_wp2
      go_ret
      exact ⟨rfl, Later.self _, rfl⟩
  · go_enter Try.func87, Try.ntmps87
    go_wp2
    go_loopw [8] (fun i wr => ∃ k : Nat, ∃ x : Later w, wr = x.w ∧ k ≤ xs.length ∧ i = .int .i64 k ∧ Hid (idxF (outB lo hi) xs 0 = idxF (outB lo hi) (xs.drop k) k)) (fun i _ => xs.length - (intOf i).toNat)
    case atStart => exact ⟨0, Later.self _, rfl, Nat.zero_le _, rfl, rfl⟩
    case round =>
      obtain ⟨k, x, rfl, hk, rfl, hp⟩ := hrel
      by_cases hlt : k < xs.length
      · have hcell := hc k hlt
        
        have hs := Lib.hid (idxF_at (outB lo hi) xs k hlt)
        clear hc
        cases he : (outB lo hi) (nth xs k)
        · go_wp2_with (go_at_call 84; refine (Later.quiet_same x (within1_calls _ lo hi b1 b2 _ ((x.cell hb1).trans h1) ((x.cell hb2).trans h2))).mono ?_; rintro e w' ⟨rfl, x, rfl⟩)
          go_roundw
          case rel => exact ⟨k + 1, _, rfl, by omega, by go_num, by unfold Hid; rw [hp.out, hs.out, if_neg (by rw [he]; simp)]⟩
          case measure => simp [intOf]; omega
        · go_wp2_with (go_at_call 84; refine (Later.quiet_same x (within1_calls _ lo hi b1 b2 _ ((x.cell hb1).trans h1) ((x.cell hb2).trans h2))).mono ?_; rintro e w' ⟨rfl, x, rfl⟩)
          go_ret
          exact ⟨ret_int (by rw [hp.out, hs.out, if_pos he]), _, rfl⟩
      · have hs := Lib.hid (idxF_end (outB lo hi) xs k (by omega))
        clear hc
        go_wp2
        go_ret
        exact ⟨ret_int (by rw [hp.out, hs.out]), x, rfl⟩


set_option maxHeartbeats 400000 in
theorem ContainsFunc_within (v : Value) (xs : List Int) (lo hi : Int) (b1 b2 : Nat) (w : World) (hx : Ints w v xs) (hb1 : b1 < w.heap.size) (hb2 : b2 < w.heap.size) (h1 : w.cell? ⟨b1, 0, none⟩ = some (.int .i64 lo)) (h2 : w.cell? ⟨b2, 0, none⟩ = some (.int .i64 hi)) :
    Calls Try.prog 83 #[v, .func (.func 84) #[] #[.pointer (some ⟨b1, 0, none⟩), .pointer (some ⟨b2, 0, none⟩)]] w (Gives (.bool (xs.any (outB lo hi))) w) := by
  have h := Lib.hid (idxF_any (outB lo hi) xs)
  go_enter Try.func83, Try.ntmps83
  go_wp2_with (go_at_call 87; (with_reducible refine (IndexFunc_within _ xs lo hi b1 b2 _ hx hb1 hb2 h1 h2).mono ?_); rintro e w' ⟨rfl, x, rfl⟩)
  go_ret
  exact ⟨ret_bool h.out, x, rfl⟩

set_option maxHeartbeats 400000 in
theorem within_calls (v : Value) (xs : List Int) (lo hi : Int) (w : World) (hx : Ints w v xs) :
    Calls Try.prog 60 #[.int .i64 lo, .int .i64 hi, v] w (Gives (.bool (!xs.any (outB lo hi))) w) := by
  go_enter Try.func60, Try.ntmps60
  go_wp2_with fail
  refine (ContainsFunc_within v xs lo hi _ _ _ ?_ ?_ ?_ ?_ ?_).mono ?_
  · exact (hx.later (Later.new _ _)).later (Later.new _ _)
  · simp; omega
  · simp
  · simp [go_sem]
  · simp [go_sem]
  rintro e w' ⟨rfl, x, rfl⟩
  go_wp2
  go_ret
  exact ⟨rfl, ((Later.new _ _).step (Later.new _ _)).step x, rfl⟩

/-- a list has a number twice -/
def twcF (xs : List Int) : List Int → Nat → Bool
  | [], _ => false
  | x :: r, k => (xs.take k).any (isN x) || twcF xs r (k + 1)
def twc (xs : List Int) : Bool := twcF xs xs 0
theorem twcF_at (xs : List Int) (k : Nat) (h : k < xs.length) : twcF xs (xs.drop k) k = ((xs.take k).any (isN (nth xs k)) || twcF xs (xs.drop (k + 1)) (k + 1)) := by
  rw [List.drop_eq_getElem_cons h, twcF, nth_eq h]
theorem twcF_end (xs : List Int) (k : Nat) (h : xs.length ≤ k) : twcF xs (xs.drop k) k = false := by
  rw [List.drop_eq_nil_of_le h, twcF]

theorem Ints.take {w : World} {b off cap n : Nat} {xs : List Int} (h : Ints w (.slice (some ⟨b, off, none⟩) n cap) xs) (k : Nat) (hk : k ≤ xs.length) (cap' : Nat) (hcap : k ≤ cap') :
    Ints w (.slice (some ⟨b, off, none⟩) k cap') (xs.take k) := by
  obtain ⟨h1, ⟨rfl, a, c, e⟩ | ⟨b', off', cp, e, hl, hb, hc⟩⟩ := h
  · have : k = 0 := by simpa using hk
    subst this
    exact ⟨by simp, .inl ⟨by simp, _, _, rfl⟩⟩
  · cases e
    refine ⟨by simp; omega, .inr ⟨b, off, cap', ?_, ?_, hb, ?_⟩⟩
    · rw [List.length_take, Nat.min_eq_left hk]
    · rw [List.length_take, Nat.min_eq_left hk]; exact hcap
    · intro j hj
      rw [List.length_take, Nat.min_eq_left hk] at hj
      rw [hc j (by omega)]
      simp [nth, hj]

set_option maxHeartbeats 400000 in
theorem twice_calls (v : Value) (xs : List Int) (w : World) (hx : Ints w v xs) :
    Calls Try.prog 62 #[v] w fun e w' => e = .returned (.bool (twc xs)) ∧ w' = w := by
  have hx0 := hx
  obtain ⟨hl, ⟨rfl, a, cap, rfl⟩ | ⟨b, off, cap, rfl, hcp, hb, hc⟩⟩ := hx
  · go_enter Try.func62, Try.ntmps62
    go_wp2
    go_loop [7] (fun i => i = .int .i64 0) (fun _ => 0)
    case atStart => rfl
    case round =>
      obtain rfl := hrel
      go_wp2
      go_ret
      exact ⟨rfl, rfl⟩
  · go_enter Try.func62, Try.ntmps62
    go_wp2
    go_loop [7] (fun i => ∃ k : Nat, k ≤ xs.length ∧ i = .int .i64 k ∧ Hid (twc xs = twcF xs (xs.drop k) k)) (fun i => xs.length - (intOf i).toNat)
    case atStart => exact ⟨0, Nat.zero_le _, rfl, rfl⟩
    case round =>
      obtain ⟨k, hk, rfl, hp⟩ := hrel
      by_cases hlt : k < xs.length
      · have hcell := hc k hlt
        have hs := Lib.hid (twcF_at xs k hlt)
        clear hc
        cases he : (xs.take k).any (isN (nth xs k))
        · go_wp2_with (go_at_call 80; (with_reducible refine (Contains_calls _ (xs.take k) _ _ ?_).mono ?_); (exact hx0.take k (by omega) _ (by omega)); rintro e w' ⟨rfl, rfl⟩)
          go_round
          case rel => exact ⟨k + 1, by omega, by go_num, by unfold Hid; rw [hp.out, hs.out, he, Bool.false_or]⟩
          case measure => simp [intOf]; omega
        · go_wp2_with (go_at_call 80; (with_reducible refine (Contains_calls _ (xs.take k) _ _ ?_).mono ?_); (exact hx0.take k (by omega) _ (by omega)); rintro e w' ⟨rfl, rfl⟩)
          go_ret
          exact ⟨ret_bool (by rw [hp.out, hs.out, he, Bool.true_or]), rfl⟩
      · have hs := Lib.hid (twcF_end xs k (by omega))
        clear hc
        go_wp2
        go_ret
        exact ⟨ret_bool (by rw [hp.out, hs.out]), rfl⟩

end Go.Proofs.Ytieaibebnkdmhaa
