import Derived.Test.YtpkgfkeekcgkcaaKC
/-  The library's functions on lists, and 'within'. -/
namespace Go.Proofs.Ytpkgfkeekcgkcaa
open Go.RowKit
/-- the first place, from k on, at which p holds -/
def idxF (p : Int → Bool) : List Int → Nat → Int
  | [], _ => -1
  | x :: xs, k => if p x then (k : Int) else idxF p xs (k + 1)
theorem idxF_at (p : Int → Bool) (xs : List Int) (k : Nat) (h : k < xs.length) :
    idxF p (xs.drop k) k = if p (nth xs k) then (k : Int) else idxF p (xs.drop (k + 1)) (k + 1) := by
  rw [List.drop_eq_getElem_cons h, idxF, nth_eq h]
theorem idxF_end (p : Int → Bool) (xs : List Int) (k : Nat) (h : xs.length ≤ k) : idxF p (xs.drop k) k = -1 := by
  rw [List.drop_eq_nil_of_le h, idxF]
theorem idxF_lo (p : Int → Bool) : ∀ (xs : List Int) (k : Nat), (0 ≤ idxF p xs k ↔ xs.any p = true)
  | [], _ => by simp [idxF]
  | x :: xs, k => by
    simp only [idxF, List.any_cons, Bool.or_eq_true]
    by_cases h : p x = true
    · simp [h]
    · simp only [h, Bool.false_eq_true, if_false, false_or]
      exact idxF_lo p xs (k + 1)
theorem idxF_any (p : Int → Bool) (xs : List Int) : decide (0 ≤ idxF p xs 0) = xs.any p := by
  rw [Bool.eq_iff_iff, decide_eq_true_iff]; exact idxF_lo p xs 0
def outB (lo hi : Int) : Int → Bool := fun n => decide (n < lo) || decide (hi < n)
set_option maxHeartbeats 400000 in
theorem within1_calls (n lo hi : Int) (b1 b2 : Nat) (w : World) (h1 : w.cell? ⟨b1, 0, none⟩ = some (.int .i64 lo)) (h2 : w.cell? ⟨b2, 0, none⟩ = some (.int .i64 hi)) :
    Calls Try.prog 87 #[.int .i64 n, .pointer (some ⟨b1, 0, none⟩), .pointer (some ⟨b2, 0, none⟩)] w fun e w' => e = .returned (.bool (outB lo hi n)) ∧ w' = w := by
  go_enter Try.func87, Try.ntmps87
  go_wp2
  all_goals (go_ret; refine ⟨ret_bool ?_, rfl⟩; simp [outB, *])
  all_goals omega

set_option maxHeartbeats 400000 in
theorem IndexFunc_within (v : Value) (xs : List Int) (lo hi : Int) (b1 b2 : Nat) (w : World) (hx : Ints w v xs) (hb1 : b1 < w.heap.size) (hb2 : b2 < w.heap.size) (h1 : w.cell? ⟨b1, 0, none⟩ = some (.int .i64 lo)) (h2 : w.cell? ⟨b2, 0, none⟩ = some (.int .i64 hi)) :
    Calls Try.prog 96 #[v, .func (.func 87) #[] #[.pointer (some ⟨b1, 0, none⟩), .pointer (some ⟨b2, 0, none⟩)]] w (Gives (.int .i64 (idxF (outB lo hi) xs 0)) w) := by
  obtain ⟨hl, ⟨rfl, a, cap, rfl⟩ | ⟨b, off, cap, rfl, hcp, hb, hc⟩⟩ := hx
  · go_enter Try.func96, Try.ntmps96
    go_wp2
    go_loop [8] (fun i => i = .int .i64 0) (fun _ => 0)
    case atStart => rfl
    case round =>
      obtain rfl := hrel
      go_wp2
      go_ret
      exact ⟨rfl, Later.self _, rfl⟩
  · go_enter Try.func96, Try.ntmps96
    go_wp2
    go_loopw [8] (fun i wr => ∃ k : Nat, ∃ x : Later w, wr = x.w ∧ k ≤ xs.length ∧ i = .int .i64 k ∧ Hid (idxF (outB lo hi) xs 0 = idxF (outB lo hi) (xs.drop k) k)) (fun i _ => xs.length - (intOf i).toNat)
    case atStart => exact ⟨0, Later.self _, rfl, Nat.zero_le _, rfl, rfl⟩
    case round =>
      obtain ⟨k, x, rfl, hk, rfl, hp⟩ := hrel
      by_cases hlt : k < xs.length
      · have hcell := hc k hlt
        
        have hs := Lib.hid (idxF_at (outB lo hi) xs k hlt)
        clear hc
        cases he : (outB lo hi) (nth xs k)
        · go_wp2_with (go_at_call 87; refine (Later.quiet_same x (within1_calls _ lo hi b1 b2 _ ((x.cell hb1).trans h1) ((x.cell hb2).trans h2))).mono ?_; rintro e w' ⟨rfl, x, rfl⟩)
          go_roundw
          case rel => exact ⟨k + 1, _, rfl, by omega, by go_num, by unfold Hid; rw [hp.out, hs.out, if_neg (by rw [he]; simp)]⟩
          case measure => simp [intOf]; omega
        · go_wp2_with (go_at_call 87; refine (Later.quiet_same x (within1_calls _ lo hi b1 b2 _ ((x.cell hb1).trans h1) ((x.cell hb2).trans h2))).mono ?_; rintro e w' ⟨rfl, x, rfl⟩)
          go_ret
          exact ⟨ret_int (by rw [hp.out, hs.out, if_pos he]), _, rfl⟩
      · have hs := Lib.hid (idxF_end (outB lo hi) xs k (by omega))
        clear hc
        go_wp2
        go_ret
        exact ⟨ret_int (by rw [hp.out, hs.out]), x, rfl⟩


set_option maxHeartbeats 400000 in
theorem ContainsFunc_within (v : Value) (xs : List Int) (lo hi : Int) (b1 b2 : Nat) (w : World) (hx : Ints w v xs) (hb1 : b1 < w.heap.size) (hb2 : b2 < w.heap.size) (h1 : w.cell? ⟨b1, 0, none⟩ = some (.int .i64 lo)) (h2 : w.cell? ⟨b2, 0, none⟩ = some (.int .i64 hi)) :
    Calls Try.prog 86 #[v, .func (.func 87) #[] #[.pointer (some ⟨b1, 0, none⟩), .pointer (some ⟨b2, 0, none⟩)]] w (Gives (.bool (xs.any (outB lo hi))) w) := by
  have h := Lib.hid (idxF_any (outB lo hi) xs)
  go_enter Try.func86, Try.ntmps86
  go_wp2_with (go_at_call 96; (with_reducible refine (IndexFunc_within _ xs lo hi b1 b2 _ hx hb1 hb2 h1 h2).mono ?_); rintro e w' ⟨rfl, x, rfl⟩)
  go_ret
  exact ⟨ret_bool h.out, x, rfl⟩

set_option maxHeartbeats 400000 in
theorem within_calls (v : Value) (xs : List Int) (lo hi : Int) (w : World) (hx : Ints w v xs) :
    Calls Try.prog 60 #[.int .i64 lo, .int .i64 hi, v] w (Gives (.bool (!xs.any (outB lo hi))) w) := by
  go_enter Try.func60, Try.ntmps60
  go_wp2_with fail
  refine (ContainsFunc_within v xs lo hi _ _ _ ?_ ?_ ?_ ?_ ?_).mono ?_
  · exact (hx.later (Later.new _ _)).later (Later.new _ _)
  · simp; omega
  · simp
  · simp [go_sem]
  · simp [go_sem]
  rintro e w' ⟨rfl, x, rfl⟩
  go_wp2
  go_ret
  exact ⟨rfl, ((Later.new _ _).step (Later.new _ _)).step x, rfl⟩

/-! strings that are too long; the numbers of a list -/
def idxS : List (List UInt8) → Nat → Int
  | [], _ => -1
  | x :: xs, k => if 12 < x.length then (k : Int) else idxS xs (k + 1)
theorem idxS_at (xs : List (List UInt8)) (k : Nat) (h : k < xs.length) : idxS (xs.drop k) k = if 12 < (sat xs k).length then (k : Int) else idxS (xs.drop (k + 1)) (k + 1) := by
  rw [List.drop_eq_getElem_cons h, idxS, sat_eq h]
theorem idxS_end (xs : List (List UInt8)) (k : Nat) (h : xs.length ≤ k) : idxS (xs.drop k) k = -1 := by rw [List.drop_eq_nil_of_le h, idxS]
theorem idxS_lo : ∀ (xs : List (List UInt8)) (k : Nat), (0 ≤ idxS xs k ↔ (xs.any fun s => decide (12 < s.length)) = true)
  | [], _ => by simp [idxS]
  | x :: xs, k => by
    simp only [idxS, List.any_cons, Bool.or_eq_true]
    by_cases h : 12 < x.length
    · simp [h]
    · simp only [h, if_false, decide_false, Bool.false_eq_true, false_or]
      exact idxS_lo xs (k + 1)
theorem idxS_any (xs : List (List UInt8)) : decide (0 ≤ idxS xs 0) = xs.any fun s => decide (12 < s.length) := by
  rw [Bool.eq_iff_iff, decide_eq_true_iff]; exact idxS_lo xs 0
def idxN (n : Int) : List Int → Nat → Int
  | [], _ => -1
  | x :: xs, k => if n = x then (k : Int) else idxN n xs (k + 1)
theorem idxN_at (n : Int) (xs : List Int) (k : Nat) (h : k < xs.length) : idxN n (xs.drop k) k = if n = nth xs k then (k : Int) else idxN n (xs.drop (k + 1)) (k + 1) := by
  rw [List.drop_eq_getElem_cons h, idxN, nth_eq h]
theorem idxN_end (n : Int) (xs : List Int) (k : Nat) (h : xs.length ≤ k) : idxN n (xs.drop k) k = -1 := by rw [List.drop_eq_nil_of_le h, idxN]
theorem idxN_lo (n : Int) : ∀ (xs : List Int) (k : Nat), (0 ≤ idxN n xs k ↔ hasB xs n = true)
  | [], _ => by simp [idxN, hasB]
  | x :: xs, k => by
    rw [hasB, List.any_cons, ← hasB, Bool.or_eq_true, idxN]
    by_cases h : n = x
    · simp [h]
    · have h2 : (x == n) = false := by simp; omega
      simp only [h, if_false, h2, Bool.false_eq_true, false_or]
      exact idxN_lo n xs (k + 1)
theorem idxN_has (n : Int) (xs : List Int) : decide (0 ≤ idxN n xs 0) = hasB xs n := by
  rw [Bool.eq_iff_iff, decide_eq_true_iff]; exact idxN_lo n xs 0
set_option maxHeartbeats 1000000 in
theorem Index_calls (v : Value) (xs : List Int) (n : Int) (W : World) (hx : Ints W v xs) : Calls Try.prog 97 #[v, .int .i64 n] W fun e w' => e = .returned (.int .i64 (idxN n xs 0)) ∧ w' = W := by
  have hl := hx.1
  obtain ⟨a, nn, c, rfl⟩ : ∃ a n c, v = .slice a n c := by obtain ⟨a, c, e⟩ := hx.form; exact ⟨a, _, c, e⟩
  have HN := Lib.hid (show nn = xs.length by obtain ⟨a, c, e⟩ := hx.form; cases e; rfl)
  have hl2 : nn ≤ 9007199254740992 := by rw [HN.out]; exact hl
  go_enter Try.func97, Try.ntmps97
  go_wp2
  go_loopw [8] (fun i wr => ∃ (k : Nat), wr = W ∧ k ≤ nn ∧ i = .int .i64 k ∧ Hid (idxN n xs 0 = idxN n (xs.drop k) k)) (fun i _ => nn - (intOf i).toNat)
  case atStart => exact ⟨0, rfl, Nat.zero_le _, rfl, rfl⟩
  case round =>
    obtain ⟨k, rfl, hk, rfl, hP⟩ := hrel
    by_cases hlt : k < nn
    · obtain ⟨bm, om, km, e, hkm, hbm, hgm⟩ := hx.at (k := k) (by rw [← HN.out]; exact hlt)
      injection e with e1 e2 e3
      subst e1
      have m1 := hgm k (by rw [← HN.out]; exact hlt)
      have hs := Lib.hid (idxN_at n xs k (by rw [← HN.out]; exact hlt))
      obtain ⟨p1, hp1⟩ : ∃ p, nth xs k = p := ⟨_, rfl⟩
      rw [hp1] at m1 hs
      clear e2 e3 hgm hkm hp1
      by_cases hb : n = p1
      · have hb1 : (n == p1) = true := by simpa using hb
        have HE := Lib.hid (show idxN n xs 0 = k by rw [hP.out, hs.out, if_pos hb])
        clear hb
        go_wp2
        go_ret
        exact ⟨ret_int HE.out.symm, rfl⟩
      · have hb1 : (n == p1) = false := by simpa using hb
        have HE := Lib.hid (show idxN n xs 0 = idxN n (xs.drop (k + 1)) (k + 1) by rw [hP.out, hs.out, if_neg hb])
        clear hb
        go_wp2
        go_roundw
        case rel => exact ⟨k + 1, by trivial, by omega, by go_num, HE⟩
        case measure => simp [intOf]; omega
    · have HE := Lib.hid (show idxN n xs 0 = -1 by rw [hP.out, idxN_end n xs k (by rw [← HN.out]; omega)])
      go_wp2
      go_ret
      exact ⟨ret_int HE.out.symm, rfl⟩
theorem Contains_calls (v : Value) (xs : List Int) (n : Int) (W : World) (hx : Ints W v xs) : Calls Try.prog 88 #[v, .int .i64 n] W fun e w' => e = .returned (.bool (hasB xs n)) ∧ w' = W := by
  have h := Lib.hid (idxN_has n xs)
  obtain ⟨a, nn, c, rfl⟩ : ∃ a n c, v = .slice a n c := by obtain ⟨a, c, e⟩ := hx.form; exact ⟨a, _, c, e⟩
  go_enter Try.func88, Try.ntmps88
  go_wp2_with fail
  refine (Index_calls _ xs n _ hx).mono ?_
  rintro e w' ⟨rfl, rfl⟩
  go_wp2
  go_ret
  exact ⟨ret_bool h.out, rfl⟩
set_option maxHeartbeats 1000000 in
theorem IndexFunc_long (v : Value) (xs : List (List UInt8)) (W : World) (hx : Strs W v xs) : Calls Try.prog 85 #[v, .func (.func 57) #[] #[]] W fun e w' => e = .returned (.int .i64 (idxS xs 0)) ∧ w' = W := by
  have hl := hx.1
  obtain ⟨a, nn, c, rfl⟩ : ∃ a n c, v = .slice a n c := by obtain ⟨a, c, e⟩ := hx.form; exact ⟨a, _, c, e⟩
  have HN := Lib.hid (show nn = xs.length by obtain ⟨a, c, e⟩ := hx.form; cases e; rfl)
  have hl2 : nn ≤ 9007199254740992 := by rw [HN.out]; exact hl
  go_enter Try.func85, Try.ntmps85
  go_wp2
  go_loopw [8] (fun i wr => ∃ (k : Nat), wr = W ∧ k ≤ nn ∧ i = .int .i64 k ∧ Hid (idxS xs 0 = idxS (xs.drop k) k)) (fun i _ => nn - (intOf i).toNat)
  case atStart => exact ⟨0, rfl, Nat.zero_le _, rfl, rfl⟩
  case round =>
    obtain ⟨k, rfl, hk, rfl, hP⟩ := hrel
    by_cases hlt : k < nn
    · obtain ⟨bm, om, km, e, hkm, hbm, hgm⟩ := hx.at (k := k) (by rw [← HN.out]; exact hlt)
      injection e with e1 e2 e3
      subst e1
      have m1 := hgm k (by rw [← HN.out]; exact hlt)
      have hs := Lib.hid (idxS_at xs k (by rw [← HN.out]; exact hlt))
      obtain ⟨p1, hp1⟩ : ∃ p, sat xs k = p := ⟨_, rfl⟩
      rw [hp1] at m1 hs
      clear e2 e3 hgm hkm hp1
      obtain ⟨B, hB⟩ : ∃ B, decide (12 < p1.length) = B := ⟨_, rfl⟩
      have HB := Lib.hid hB
      cases B
      · have HE := Lib.hid (show idxS xs 0 = idxS (xs.drop (k + 1)) (k + 1) by rw [hP.out, hs.out, if_neg (by simpa using hB)])
        clear hB
        go_wp2_with fail
        refine (plong_calls p1 _).mono ?_
        rintro e w' ⟨rfl, hw⟩
        rw [hw, HB.out]
        clear hw w'
        go_wp2
        go_roundw
        case rel => exact ⟨k + 1, by trivial, by omega, by go_num, HE⟩
        case measure => simp [intOf]; omega
      · have HE := Lib.hid (show idxS xs 0 = k by rw [hP.out, hs.out, if_pos (by simpa using hB)])
        clear hB
        go_wp2_with fail
        refine (plong_calls p1 _).mono ?_
        rintro e w' ⟨rfl, hw⟩
        rw [hw, HB.out]
        clear hw w'
        go_wp2
        go_ret
        exact ⟨ret_int HE.out.symm, rfl⟩
    · have HE := Lib.hid (show idxS xs 0 = -1 by rw [hP.out, idxS_end xs k (by rw [← HN.out]; omega)])
      go_wp2
      go_ret
      exact ⟨ret_int HE.out.symm, rfl⟩
theorem ContainsFunc_long (v : Value) (xs : List (List UInt8)) (W : World) (hx : Strs W v xs) : Calls Try.prog 59 #[v, .func (.func 57) #[] #[]] W fun e w' => e = .returned (.bool (xs.any fun s => decide (12 < s.length))) ∧ w' = W := by
  have h := Lib.hid (idxS_any xs)
  obtain ⟨a, nn, c, rfl⟩ : ∃ a n c, v = .slice a n c := by obtain ⟨a, c, e⟩ := hx.form; exact ⟨a, _, c, e⟩
  go_enter Try.func59, Try.ntmps59
  go_wp2_with fail
  refine (IndexFunc_long _ xs _ hx).mono ?_
  rintro e w' ⟨rfl, rfl⟩
  go_wp2
  go_ret
  exact ⟨ret_bool h.out, rfl⟩
/-- one number between bounds -/
theorem within_one (n lo hi : Int) (b c : Nat) (w : World) (h : w.cell? ⟨b, 0, none⟩ = some (.int .i64 n)) (hc : 1 ≤ c) : Calls Try.prog 60 #[.int .i64 lo, .int .i64 hi, .slice (some ⟨b, 0, none⟩) 1 c] w (Gives (.bool (decide (lo ≤ n) && decide (n ≤ hi))) w) := by
  have hx : Ints w (.slice (some ⟨b, 0, none⟩) 1 c) [n] := ⟨by simp, .inr ⟨b, 0, c, rfl, hc, World.block_lt_of_cell? w _ h, fun k hk => by
    obtain rfl : k = 0 := by simpa using hk
    exact h⟩⟩
  refine (within_calls _ [n] lo hi w hx).mono ?_
  rintro e w' ⟨rfl, x, rfl⟩
  refine ⟨ret_bool ?_, x, rfl⟩
  rw [Bool.eq_iff_iff]
  simp [outB]
end Go.Proofs.Ytpkgfkeekcgkcaa

/-  The program's CheckMarks, open, strikes. -/
namespace Go.Proofs.Ytpkgfkeekcgkcaa
open Go.RowKit
/-- the least letter that may come k-th -/
def nextI (st : List Int) (k : Nat) : Int := if k = 0 then 0 else nth st (k - 1) + 1
theorem nextI_succ (st : List Int) (k : Nat) : nextI st (k + 1) = nth st k + 1 := by rw [nextI, if_neg (by omega)]; rfl
theorem nextI_no {n : Nat} {st : List Int} {k : Nat} (hP : ∀ j, j < k → strayI n st j = false) : 0 ≤ nextI st k ∧ nextI st k ≤ n := by
  cases k with
  | zero => rw [nextI, if_pos rfl]; omega
  | succ k =>
    have h := hP k (by omega)
    rw [strayI] at h
    simp only [Bool.or_eq_false_iff, decide_eq_false_iff_not] at h
    rw [nextI_succ]; omega
theorem nextI_iff {n : Nat} {st : List Int} {k : Nat} (hP : ∀ j, j < k → strayI n st j = false) : strayI n st k = !(decide (nextI st k ≤ nth st k) && decide (nth st k ≤ (n : Int) - 1)) := by
  have h1 := nextI_no hP
  rw [Bool.eq_iff_iff]
  cases k with
  | zero =>
    rw [nextI, if_pos rfl] at *
    simp [strayI]; omega
  | succ k =>
    rw [nextI_succ] at *
    simp [strayI]; omega
set_option maxRecDepth 100000 in
set_option maxHeartbeats 4000000 in
theorem CheckMarks_calls (l : List UInt8) (sv av : Value) (st : List Int) (ad : List (List UInt8)) (W : World) (hm : Mks W sv av st ad) :
    Calls Try.prog 24 #[.string ⟨l.toArray⟩, .agg #[sv, av]] W (Gives (.int .i64 (marksE l st ad)) W) := by
  have S : Ins W [] := Ins.nil _
  obtain ⟨sx, ns, cs, rfl⟩ : ∃ a n c, sv = .slice a n c := by obtain ⟨a, c, e⟩ := hm.s.form; exact ⟨a, _, c, e⟩
  obtain ⟨aa, na, ca, rfl⟩ : ∃ a n c, av = .slice a n c := by obtain ⟨a, c, e⟩ := hm.a.form; exact ⟨a, _, c, e⟩
  have HS := Lib.hid (show ns = st.length by obtain ⟨a, c, e⟩ := hm.s.form; cases e; rfl)
  have HA := Lib.hid (show na = ad.length by obtain ⟨a, c, e⟩ := hm.a.form; cases e; rfl)
  have hsl : ns ≤ 9007199254740992 := by rw [HS.out]; exact hm.s.1
  have hal : na ≤ 9007199254740992 := by rw [HA.out]; exact hm.a.1
  by_cases hl : 12 < l.length
  · have HB := Lib.hid (decide_eq_true hl)
    have HF := Lib.hid (marksE_long hl st ad)
    clear hl
    go_enter Try.func24, Try.ntmps24
    go_wp2_with fail
    obtain ⟨B1, hb⟩ : ∃ b, b = W.heap.size := ⟨_, rfl⟩
    have l1 : Lin (W.alloc (.cells #[.slice sx ns cs, .slice aa na ca] 25)) B1 25 [.slice sx ns cs, .slice aa na ca] := by rw [hb]; exact Lin.new _ _ [.slice sx ns cs, .slice aa na ca]
    replace S := S.later (Later.new _ (.cells #[.slice sx ns cs, .slice aa na ca] 25))
    rw [Later.new_w] at S
    replace hm := hm.later (Later.new _ (.cells #[.slice sx ns cs, .slice aa na ca] 25))
    rw [Later.new_w] at hm
    have hsz : (W.alloc (.cells #[.slice sx ns cs, .slice aa na ca] 25)).heap.size = B1 + 1 := by rw [hb]; simp
    obtain ⟨Y2, hZ⟩ : ∃ Z : Later W, Z.w = W.alloc (.cells #[.slice sx ns cs, .slice aa na ca] 25) := ⟨Later.new _ _, rfl⟩
    rw [← hZ] at S hsz hm l1 ⊢
    clear hZ
    rw [← hb]
    clear hb
    clear hsz
    refine (plong_calls l _).mono ?_
    rintro e w' ⟨rfl, hw⟩
    rw [hw, HB.out]
    clear hw w'
    go_wp2
    go_ret
    exact ⟨ret_int HF.out.symm, Y2, rfl⟩
  have HB := Lib.hid (decide_eq_false hl)
  obtain ⟨n, hn0⟩ : ∃ n, l.length = n := ⟨_, rfl⟩
  have hsz : (⟨l.toArray⟩ : ByteArray).size = n := by rw [str_size]; exact hn0
  have h12 : n ≤ 12 := by omega
  have HN := Lib.hid hn0
  by_cases hn : na = n + 1
  rotate_left
  · have HF := Lib.hid (marksE_len hl (st := st) (ad := ad) (by rw [← HA.out, hn0]; exact hn))
    have hne : ((na : Int) != (n : Int) + 1) = true := by simp; omega
    clear hl hn0 hn
    go_enter Try.func24, Try.ntmps24
    go_wp2_with fail
    obtain ⟨B1, hb⟩ : ∃ b, b = W.heap.size := ⟨_, rfl⟩
    have l1 : Lin (W.alloc (.cells #[.slice sx ns cs, .slice aa na ca] 25)) B1 25 [.slice sx ns cs, .slice aa na ca] := by rw [hb]; exact Lin.new _ _ [.slice sx ns cs, .slice aa na ca]
    replace S := S.later (Later.new _ (.cells #[.slice sx ns cs, .slice aa na ca] 25))
    rw [Later.new_w] at S
    replace hm := hm.later (Later.new _ (.cells #[.slice sx ns cs, .slice aa na ca] 25))
    rw [Later.new_w] at hm
    have hsz : (W.alloc (.cells #[.slice sx ns cs, .slice aa na ca] 25)).heap.size = B1 + 1 := by rw [hb]; simp
    obtain ⟨Y2, hZ⟩ : ∃ Z : Later W, Z.w = W.alloc (.cells #[.slice sx ns cs, .slice aa na ca] 25) := ⟨Later.new _ _, rfl⟩
    rw [← hZ] at S hsz hm l1 ⊢
    clear hZ
    rw [← hb]
    clear hb
    clear hsz
    refine (plong_calls l _).mono ?_
    rintro e w' ⟨rfl, hw⟩
    rw [hw, HB.out]
    clear hw w'
    have p_0 := l1.cell (k := 0) rfl
    have p_1 := l1.cell (k := 1) rfl
    have p_l := l1.lt
    go_wp2
    go_ret
    exact ⟨ret_int HF.out.symm, Y2, rfl⟩
  have hne : ((na : Int) != (n : Int) + 1) = false := by simp; omega
  have HNA := Lib.hid (show ad.length = l.length + 1 by rw [← HA.out, hn0]; exact hn)
  have HLL := Lib.hid hl
  clear hn hn0 hl
  obtain ⟨X, hX⟩ : ∃ X, (ad.any fun s => decide (12 < s.length)) = X := ⟨_, rfl⟩
  have HX := Lib.hid hX
  clear hX
  cases X
  rotate_left
  · have HF := Lib.hid (marksE_add HLL.out (st := st) HNA.out HX.out)
    go_enter Try.func24, Try.ntmps24
    go_wp2_with fail
    obtain ⟨B1, hb⟩ : ∃ b, b = W.heap.size := ⟨_, rfl⟩
    have l1 : Lin (W.alloc (.cells #[.slice sx ns cs, .slice aa na ca] 25)) B1 25 [.slice sx ns cs, .slice aa na ca] := by rw [hb]; exact Lin.new _ _ [.slice sx ns cs, .slice aa na ca]
    replace S := S.later (Later.new _ (.cells #[.slice sx ns cs, .slice aa na ca] 25))
    rw [Later.new_w] at S
    replace hm := hm.later (Later.new _ (.cells #[.slice sx ns cs, .slice aa na ca] 25))
    rw [Later.new_w] at hm
    have hsz : (W.alloc (.cells #[.slice sx ns cs, .slice aa na ca] 25)).heap.size = B1 + 1 := by rw [hb]; simp
    obtain ⟨Y2, hZ⟩ : ∃ Z : Later W, Z.w = W.alloc (.cells #[.slice sx ns cs, .slice aa na ca] 25) := ⟨Later.new _ _, rfl⟩
    rw [← hZ] at S hsz hm l1 ⊢
    clear hZ
    rw [← hb]
    clear hb
    clear hsz
    refine (plong_calls l _).mono ?_
    rintro e w' ⟨rfl, hw⟩
    rw [hw, HB.out]
    clear hw w'
    have q0_0 := l1.cell (k := 0) rfl
    have q0_1 := l1.cell (k := 1) rfl
    have q0_l := l1.lt
    go_wp2_with fail
    clear q0_0 q0_1 q0_l
    refine (ContainsFunc_long _ ad _ hm.a).mono ?_
    rintro e w' ⟨rfl, hw⟩
    rw [hw, HX.out]
    clear hw w'
    go_wp2
    go_ret
    exact ⟨ret_int HF.out.symm, Y2, rfl⟩
  have HF := Lib.hid (marksE_st HLL.out (st := st) HNA.out HX.out)
  rw [HN.out] at HF
  go_enter Try.func24, Try.ntmps24
  go_wp2_with fail
  obtain ⟨B1, hb⟩ : ∃ b, b = W.heap.size := ⟨_, rfl⟩
  have l1 : Lin (W.alloc (.cells #[.slice sx ns cs, .slice aa na ca] 25)) B1 25 [.slice sx ns cs, .slice aa na ca] := by rw [hb]; exact Lin.new _ _ [.slice sx ns cs, .slice aa na ca]
  replace S := S.later (Later.new _ (.cells #[.slice sx ns cs, .slice aa na ca] 25))
  rw [Later.new_w] at S
  replace hm := hm.later (Later.new _ (.cells #[.slice sx ns cs, .slice aa na ca] 25))
  rw [Later.new_w] at hm
  have hsz : (W.alloc (.cells #[.slice sx ns cs, .slice aa na ca] 25)).heap.size = B1 + 1 := by rw [hb]; simp
  obtain ⟨Y2, hZ⟩ : ∃ Z : Later W, Z.w = W.alloc (.cells #[.slice sx ns cs, .slice aa na ca] 25) := ⟨Later.new _ _, rfl⟩
  rw [← hZ] at S hsz hm l1 ⊢
  clear hZ
  rw [← hb]
  clear hb
  clear hsz
  refine (plong_calls l _).mono ?_
  rintro e w' ⟨rfl, hw⟩
  rw [hw, HB.out]
  clear hw w'
  have q0_0 := l1.cell (k := 0) rfl
  have q0_1 := l1.cell (k := 1) rfl
  have q0_l := l1.lt
  go_wp2_with fail
  clear q0_0 q0_1 q0_l
  refine (ContainsFunc_long _ ad _ hm.a).mono ?_
  rintro e w' ⟨rfl, hw⟩
  rw [hw, HX.out]
  clear hw w'
  have p_0 := l1.cell (k := 0) rfl
  have p_1 := l1.cell (k := 1) rfl
  have p_l := l1.lt
  go_wp2
  clear p_0 p_1 p_l
  go_loopw [5, 7, 26] (fun i1 i2 i0 wr => ∃ (k : Nat) (nx : Int) (u : Later Y2.w), wr = u.w ∧ k ≤ ns ∧ i0 = .int .i64 k ∧ i1 = .int .i64 nx ∧ Hid (nx = nextI st k) ∧ Hid (∀ j, j < k → strayI n st j = false)) (fun i1 i2 i0 _ => ns - (intOf i0).toNat)
  case atStart => exact ⟨0, 0, Later.self _, rfl, Nat.zero_le _, rfl, rfl, Lib.hid rfl, Lib.hid (fun j hj => absurd hj (Nat.not_lt_zero _))⟩
  obtain ⟨k, nx, u, rfl, hk, rfl, rfl, HNX, hP⟩ := hrel
  replace hm := hm.later u
  replace l1 := l1.later u
  replace S := S.later u
  by_cases hlt : k < ns
  · obtain ⟨bs, os, ks, e, hks, hbs, hgs⟩ := hm.s.at (k := k) (by rw [← HS.out]; exact hlt)
    injection e with e1 e2 e3
    subst e1 e3
    clear e2
    have qk := hgs k (by rw [← HS.out]; exact hlt)
    obtain ⟨x, hx⟩ : ∃ v, nth st k = v := ⟨_, rfl⟩
    rw [hx] at qk
    have hbd := nextI_no hP.out
    have hiff := nextI_iff hP.out
    rw [← HNX.out] at hbd hiff
    rw [hx] at hiff
    obtain ⟨hb0, hb1⟩ := hbd
    have HXE := Lib.hid hx
    clear hgs hx
    obtain ⟨B, hB⟩ : ∃ B, (decide (nx ≤ x) && decide (x ≤ (n : Int) - 1)) = B := ⟨_, rfl⟩
    rw [hB] at hiff
    have HBB := Lib.hid hB
    have HI := Lib.hid hiff
    clear hiff
    cases B
    · have HR := Lib.hid (show marksE l st ad = 3 by rw [HF.out, if_pos (List.any_eq_true.2 ⟨k, List.mem_range.2 (by rw [← HS.out]; exact hlt), HI.out⟩)])
      clear hB
      go_wp2_with fail
      refine (within_one x nx ((n : Int) - 1) _ _ _ (by simp [go_sem]) (by omega)).mono ?_
      rintro e w' ⟨rfl, y, hw⟩
      rw [hw, HBB.out]
      obtain ⟨z, hz⟩ : ∃ z : Later u.w, z.w = y.w := ⟨(Later.new _ _).step y, rfl⟩
      rw [← hz]
      clear hw hz w' y
      go_wp2
      go_ret
      exact ⟨ret_int HR.out.symm, (Y2.step (u)).step z, rfl⟩
    · have hxb : nx ≤ x ∧ x ≤ (n : Int) - 1 := by simpa using hB
      obtain ⟨hx1, hx2⟩ := hxb
      clear hB
      go_wp2_with fail
      refine (within_one x nx ((n : Int) - 1) _ _ _ (by simp [go_sem]) (by omega)).mono ?_
      rintro e w' ⟨rfl, y, hw⟩
      rw [hw, HBB.out]
      obtain ⟨z, hz⟩ : ∃ z : Later u.w, z.w = y.w := ⟨(Later.new _ _).step y, rfl⟩
      rw [← hz]
      clear hw hz w' y
      go_wp2
      go_roundw
      case rel => first | exact ⟨k + 1, x + 1, u.step z, rfl, by omega, by go_num, by go_num, Lib.hid (by rw [nextI_succ, HXE.out]), Lib.hid (fun j hj => by
        by_cases h : j = k
        · rw [h]; exact HI.out
        · exact hP.out j (by omega))⟩ | ((repeat apply Exists.intro); exact ⟨⟨k + 1, x + 1, u.step z, rfl, by omega, by go_num, by go_num, Lib.hid (by rw [nextI_succ, HXE.out]), Lib.hid (fun j hj => by
        by_cases h : j = k
        · rw [h]; exact HI.out
        · exact hP.out j (by omega))⟩, rfl⟩)
      case measure => simp [intOf]; omega
  obtain rfl : ns = k := by omega
  have HR := Lib.hid (show marksE l st ad = 0 by rw [HF.out, if_neg (fun h => by
    obtain ⟨j, hj, h2⟩ := List.any_eq_true.1 h
    rw [hP.out j (by rw [HS.out]; exact List.mem_range.1 hj)] at h2
    cases h2)])
  go_wp2
  go_ret
  exact ⟨ret_int HR.out.symm, Y2.step (u), rfl⟩
end Go.Proofs.Ytpkgfkeekcgkcaa

/-  Pages: open, pages, strikes, clash; Clash. -/
namespace Go.Proofs.Ytpkgfkeekcgkcaa
open Go.RowKit
def Pag (w : World) (b : Nat) (sv av : Value) (l : List UInt8) : Prop := Lin w b 117 [sv, av, .string ⟨l.toArray⟩]
theorem Pag.later {w : World} {b : Nat} {sv av : Value} {l : List UInt8} (h : Pag w b sv av l) (x : Later w) : Pag x.w b sv av l := Lin.later h x
def OpenOk (l : List UInt8) (sv av : Value) (W : World) (e : Ending) (w' : World) : Prop := ∃ b, ∃ x : Later W, e = .returned (.tuple #[.pointer (some ⟨b, 0, none⟩), .int .i64 0]) ∧ w' = x.w ∧ Pag x.w b sv av l
def PagesOk (l : List UInt8) (sv av sw aw : Value) (W : World) (e : Ending) (w' : World) : Prop := ∃ b b2, ∃ x : Later W, e = .returned (.tuple #[.pointer (some ⟨b, 0, none⟩), .pointer (some ⟨b2, 0, none⟩), .int .i64 0]) ∧ w' = x.w ∧ Pag x.w b sv av l ∧ Pag x.w b2 sw aw l
set_option maxRecDepth 100000 in
set_option maxHeartbeats 4000000 in
theorem open_err (l : List UInt8) (sv av : Value) (st : List Int) (ad : List (List UInt8)) (W : World) (hm : Mks W sv av st ad) (hE : marksE l st ad ≠ 0) :
    Calls Try.prog 54 #[.string ⟨l.toArray⟩, .agg #[sv, av]] W (Gives (.tuple #[.pointer none, .int .i64 (marksE l st ad)]) W) := by
  have S : Ins W [] := Ins.nil _
  obtain ⟨sx, ns, cs, rfl⟩ : ∃ a n c, sv = .slice a n c := by obtain ⟨a, c, e⟩ := hm.s.form; exact ⟨a, _, c, e⟩
  obtain ⟨aa, na, ca, rfl⟩ : ∃ a n c, av = .slice a n c := by obtain ⟨a, c, e⟩ := hm.a.form; exact ⟨a, _, c, e⟩
  have HS := Lib.hid (show ns = st.length by obtain ⟨a, c, e⟩ := hm.s.form; cases e; rfl)
  have HA := Lib.hid (show na = ad.length by obtain ⟨a, c, e⟩ := hm.a.form; cases e; rfl)
  have hsl : ns ≤ 9007199254740992 := by rw [HS.out]; exact hm.s.1
  have hal : na ≤ 9007199254740992 := by rw [HA.out]; exact hm.a.1
  obtain ⟨E, hE'⟩ : ∃ E, marksE l st ad = E := ⟨_, rfl⟩
  rw [hE'] at hE ⊢
  have HE := Lib.hid hE'
  clear hE'
  have hne : (E != 0) = true := by simpa using hE
  clear hE
  go_enter Try.func54, Try.ntmps54
  go_wp2_with fail
  obtain ⟨B1, hb⟩ : ∃ b, b = W.heap.size := ⟨_, rfl⟩
  have l1 : Lin (W.alloc (.cells #[.slice sx ns cs, .slice aa na ca] 25)) B1 25 [.slice sx ns cs, .slice aa na ca] := by rw [hb]; exact Lin.new _ _ [.slice sx ns cs, .slice aa na ca]
  replace S := S.later (Later.new _ (.cells #[.slice sx ns cs, .slice aa na ca] 25))
  rw [Later.new_w] at S
  replace hm := hm.later (Later.new _ (.cells #[.slice sx ns cs, .slice aa na ca] 25))
  rw [Later.new_w] at hm
  have hsz : (W.alloc (.cells #[.slice sx ns cs, .slice aa na ca] 25)).heap.size = B1 + 1 := by rw [hb]; simp
  obtain ⟨Y2, hZ⟩ : ∃ Z : Later W, Z.w = W.alloc (.cells #[.slice sx ns cs, .slice aa na ca] 25) := ⟨Later.new _ _, rfl⟩
  rw [← hZ] at S hsz hm l1 ⊢
  clear hZ
  rw [← hb]
  clear hb
  clear hsz
  have q0_0 := l1.cell (k := 0) rfl
  have q0_1 := l1.cell (k := 1) rfl
  have q0_l := l1.lt
  go_wp2_with fail
  clear q0_0 q0_1 q0_l
  refine (CheckMarks_calls l _ _ st ad _ hm).mono ?_
  rintro e w' ⟨rfl, y, rfl⟩
  rw [HE.out]
  replace hm := hm.later y
  replace l1 := l1.later y
  replace S := S.later y
  obtain ⟨Y3, hZ⟩ : ∃ Z : Later W, Z.w = y.w := ⟨Y2.step (y), rfl⟩
  rw [← hZ] at S hm l1 ⊢
  clear hZ
  clear y
  have p_0 := l1.cell (k := 0) rfl
  have p_1 := l1.cell (k := 1) rfl
  have p_l := l1.lt
  go_wp2
  refine bodyPost_ret (v := .tuple #[.pointer none, .int .i64 E]) (by simp [results, Try.results54, go_sem]) rfl ?_
  exact ⟨rfl, Y3, rfl⟩
set_option maxRecDepth 100000 in
set_option maxHeartbeats 4000000 in
theorem open_ok (l : List UInt8) (sv av : Value) (st : List Int) (ad : List (List UInt8)) (W : World) (hm : Mks W sv av st ad) (hE : marksE l st ad = 0) :
    Calls Try.prog 54 #[.string ⟨l.toArray⟩, .agg #[sv, av]] W (OpenOk l sv av W) := by
  have S : Ins W [] := Ins.nil _
  obtain ⟨sx, ns, cs, rfl⟩ : ∃ a n c, sv = .slice a n c := by obtain ⟨a, c, e⟩ := hm.s.form; exact ⟨a, _, c, e⟩
  obtain ⟨aa, na, ca, rfl⟩ : ∃ a n c, av = .slice a n c := by obtain ⟨a, c, e⟩ := hm.a.form; exact ⟨a, _, c, e⟩
  have HS := Lib.hid (show ns = st.length by obtain ⟨a, c, e⟩ := hm.s.form; cases e; rfl)
  have HA := Lib.hid (show na = ad.length by obtain ⟨a, c, e⟩ := hm.a.form; cases e; rfl)
  have hsl : ns ≤ 9007199254740992 := by rw [HS.out]; exact hm.s.1
  have hal : na ≤ 9007199254740992 := by rw [HA.out]; exact hm.a.1
  obtain ⟨E, hE'⟩ : ∃ E, marksE l st ad = E := ⟨_, rfl⟩
  rw [hE'] at hE
  have HE := Lib.hid hE'
  clear hE'
  subst hE
  go_enter Try.func54, Try.ntmps54
  go_wp2_with fail
  obtain ⟨B1, hb⟩ : ∃ b, b = W.heap.size := ⟨_, rfl⟩
  have l1 : Lin (W.alloc (.cells #[.slice sx ns cs, .slice aa na ca] 25)) B1 25 [.slice sx ns cs, .slice aa na ca] := by rw [hb]; exact Lin.new _ _ [.slice sx ns cs, .slice aa na ca]
  replace S := S.later (Later.new _ (.cells #[.slice sx ns cs, .slice aa na ca] 25))
  rw [Later.new_w] at S
  replace hm := hm.later (Later.new _ (.cells #[.slice sx ns cs, .slice aa na ca] 25))
  rw [Later.new_w] at hm
  have hsz : (W.alloc (.cells #[.slice sx ns cs, .slice aa na ca] 25)).heap.size = B1 + 1 := by rw [hb]; simp
  obtain ⟨Y2, hZ⟩ : ∃ Z : Later W, Z.w = W.alloc (.cells #[.slice sx ns cs, .slice aa na ca] 25) := ⟨Later.new _ _, rfl⟩
  rw [← hZ] at S hsz hm l1 ⊢
  clear hZ
  rw [← hb]
  clear hb
  clear hsz
  have q0_0 := l1.cell (k := 0) rfl
  have q0_1 := l1.cell (k := 1) rfl
  have q0_l := l1.lt
  go_wp2_with fail
  clear q0_0 q0_1 q0_l
  refine (CheckMarks_calls l _ _ st ad _ hm).mono ?_
  rintro e w' ⟨rfl, y, rfl⟩
  rw [HE.out]
  replace hm := hm.later y
  replace l1 := l1.later y
  replace S := S.later y
  obtain ⟨Y3, hZ⟩ : ∃ Z : Later W, Z.w = y.w := ⟨Y2.step (y), rfl⟩
  rw [← hZ] at S hm l1 ⊢
  clear hZ
  clear y
  have p_0 := l1.cell (k := 0) rfl
  have p_1 := l1.cell (k := 1) rfl
  have p_l := l1.lt
  go_wp2
  refine bodyPost_ret (v := .tuple #[.pointer (some ⟨Y3.w.heap.size, 0, none⟩), .int .i64 0]) (by simp [results, Try.results54, go_sem]) rfl ?_
  exact ⟨_, Y3.step (Later.new _ _), rfl, rfl, Lin.new _ _ [_, _, _]⟩
set_option maxRecDepth 100000 in
theorem strikes_calls (b : Nat) (sv av : Value) (l : List UInt8) (st : List Int) (n : Int) (W : World) (hp : Pag W b sv av l) (hs : Ints W sv st) :
    Calls Try.prog 63 #[.pointer (some ⟨b, 0, none⟩), .int .i64 n] W fun e w' => e = .returned (.bool (hasB st n)) ∧ w' = W := by
  obtain ⟨a, nn, c, rfl⟩ : ∃ a n c, sv = .slice a n c := by obtain ⟨a, c, e⟩ := hs.form; exact ⟨a, _, c, e⟩
  have c0 := Lin.cell hp (k := 0) rfl
  have cl := Lin.lt hp
  go_enter Try.func63, Try.ntmps63
  go_wp2_with fail
  refine (Contains_calls _ st n _ hs).mono ?_
  rintro e w' ⟨rfl, rfl⟩
  go_wp2
  go_ret
  exact ⟨rfl, rfl⟩
set_option maxRecDepth 100000 in
set_option maxHeartbeats 4000000 in
theorem pages_err (l : List UInt8) (sv av : Value) (st : List Int) (ad : List (List UInt8)) (sw aw : Value) (st2 : List Int) (ad2 : List (List UInt8)) (W : World) (hm : Mks W sv av st ad) (hm2 : Mks W sw aw st2 ad2) (hE : bothE l st ad st2 ad2 ≠ 0) :
    Calls Try.prog 61 #[.string ⟨l.toArray⟩, .agg #[sv, av], .agg #[sw, aw]] W (Gives (.tuple #[.pointer none, .pointer none, .int .i64 (bothE l st ad st2 ad2)]) W) := by
  have S : Ins W [] := Ins.nil _
  obtain ⟨sx, ns, cs, rfl⟩ : ∃ a n c, sv = .slice a n c := by obtain ⟨a, c, e⟩ := hm.s.form; exact ⟨a, _, c, e⟩
  obtain ⟨aa, na, ca, rfl⟩ : ∃ a n c, av = .slice a n c := by obtain ⟨a, c, e⟩ := hm.a.form; exact ⟨a, _, c, e⟩
  have HS := Lib.hid (show ns = st.length by obtain ⟨a, c, e⟩ := hm.s.form; cases e; rfl)
  have HA := Lib.hid (show na = ad.length by obtain ⟨a, c, e⟩ := hm.a.form; cases e; rfl)
  have hsl : ns ≤ 9007199254740992 := by rw [HS.out]; exact hm.s.1
  have hal : na ≤ 9007199254740992 := by rw [HA.out]; exact hm.a.1
  obtain ⟨sx2, ns2, cs2, rfl⟩ : ∃ a n c, sw = .slice a n c := by obtain ⟨a, c, e⟩ := hm2.s.form; exact ⟨a, _, c, e⟩
  obtain ⟨aa2, na2, ca2, rfl⟩ : ∃ a n c, aw = .slice a n c := by obtain ⟨a, c, e⟩ := hm2.a.form; exact ⟨a, _, c, e⟩
  have HS2 := Lib.hid (show ns2 = st2.length by obtain ⟨a, c, e⟩ := hm2.s.form; cases e; rfl)
  have HA2 := Lib.hid (show na2 = ad2.length by obtain ⟨a, c, e⟩ := hm2.a.form; cases e; rfl)
  have hsl2 : ns2 ≤ 9007199254740992 := by rw [HS2.out]; exact hm2.s.1
  have hal2 : na2 ≤ 9007199254740992 := by rw [HA2.out]; exact hm2.a.1
  by_cases h1 : marksE l st ad = 0
  · have hB : bothE l st ad st2 ad2 = marksE l st2 ad2 := by rw [bothE, if_neg (by simpa using h1)]
    rw [hB] at hE ⊢
    clear hB
    have HNE := Lib.hid hE
    obtain ⟨E, hE'⟩ : ∃ E, marksE l st2 ad2 = E := ⟨_, rfl⟩
    have HE := Lib.hid hE'
    rw [hE'] at hE ⊢
    have hne : (E != 0) = true := by simpa using hE
    clear hE hE'
    go_enter Try.func61, Try.ntmps61
    go_wp2_with fail
    obtain ⟨B1, hb⟩ : ∃ b, b = W.heap.size := ⟨_, rfl⟩
    have l1 : Lin (W.alloc (.cells #[.slice sx ns cs, .slice aa na ca] 25)) B1 25 [.slice sx ns cs, .slice aa na ca] := by rw [hb]; exact Lin.new _ _ [.slice sx ns cs, .slice aa na ca]
    replace S := S.later (Later.new _ (.cells #[.slice sx ns cs, .slice aa na ca] 25))
    rw [Later.new_w] at S
    replace hm := hm.later (Later.new _ (.cells #[.slice sx ns cs, .slice aa na ca] 25))
    rw [Later.new_w] at hm
    replace hm2 := hm2.later (Later.new _ (.cells #[.slice sx ns cs, .slice aa na ca] 25))
    rw [Later.new_w] at hm2
    have hsz : (W.alloc (.cells #[.slice sx ns cs, .slice aa na ca] 25)).heap.size = B1 + 1 := by rw [hb]; simp
    obtain ⟨Y2, hZ⟩ : ∃ Z : Later W, Z.w = W.alloc (.cells #[.slice sx ns cs, .slice aa na ca] 25) := ⟨Later.new _ _, rfl⟩
    rw [← hZ] at S hsz hm hm2 l1 ⊢
    clear hZ
    rw [← hb]
    clear hb
    have hs2 := hsz
    rw [← hsz]
    clear hsz hs2
    obtain ⟨B3, hb⟩ : ∃ b, b = Y2.w.heap.size := ⟨_, rfl⟩
    have l3 : Lin (Y2.w.alloc (.cells #[.slice sx2 ns2 cs2, .slice aa2 na2 ca2] 25)) B3 25 [.slice sx2 ns2 cs2, .slice aa2 na2 ca2] := by rw [hb]; exact Lin.new _ _ [.slice sx2 ns2 cs2, .slice aa2 na2 ca2]
    replace S := S.later (Later.new _ (.cells #[.slice sx2 ns2 cs2, .slice aa2 na2 ca2] 25))
    rw [Later.new_w] at S
    replace hm := hm.later (Later.new _ (.cells #[.slice sx2 ns2 cs2, .slice aa2 na2 ca2] 25))
    rw [Later.new_w] at hm
    replace hm2 := hm2.later (Later.new _ (.cells #[.slice sx2 ns2 cs2, .slice aa2 na2 ca2] 25))
    rw [Later.new_w] at hm2
    replace l1 := l1.later (Later.new _ (.cells #[.slice sx2 ns2 cs2, .slice aa2 na2 ca2] 25))
    rw [Later.new_w] at l1
    have hsz : (Y2.w.alloc (.cells #[.slice sx2 ns2 cs2, .slice aa2 na2 ca2] 25)).heap.size = B3 + 1 := by rw [hb]; simp
    obtain ⟨Y4, hZ⟩ : ∃ Z : Later W, Z.w = Y2.w.alloc (.cells #[.slice sx2 ns2 cs2, .slice aa2 na2 ca2] 25) := ⟨Y2.step (Later.new _ _), rfl⟩
    rw [← hZ] at S hsz hm hm2 l1 l3 ⊢
    clear hZ
    rw [← hb]
    clear hb
    clear hsz
    have q0_0 := l1.cell (k := 0) rfl
    have q0_1 := l1.cell (k := 1) rfl
    have q0_l := l1.lt
    have q1_0 := l3.cell (k := 0) rfl
    have q1_1 := l3.cell (k := 1) rfl
    have q1_l := l3.lt
    go_wp2_with fail
    clear q0_0 q0_1 q0_l
    clear q1_0 q1_1 q1_l
    refine (open_ok l _ _ st ad _ hm h1).mono ?_
    rintro e w' ⟨b, y, rfl, rfl, hp⟩
    replace hm := hm.later y
    replace hm2 := hm2.later y
    replace l1 := l1.later y
    replace l3 := l3.later y
    replace S := S.later y
    obtain ⟨Y5, hZ⟩ : ∃ Z : Later W, Z.w = y.w := ⟨Y4.step (y), rfl⟩
    rw [← hZ] at S hm hm2 l1 l3 hp ⊢
    clear hZ
    clear y
    have q0_0 := l1.cell (k := 0) rfl
    have q0_1 := l1.cell (k := 1) rfl
    have q0_l := l1.lt
    have q1_0 := l3.cell (k := 0) rfl
    have q1_1 := l3.cell (k := 1) rfl
    have q1_l := l3.lt
    go_wp2_with fail
    clear q0_0 q0_1 q0_l
    clear q1_0 q1_1 q1_l
    refine (open_err l _ _ st2 ad2 _ hm2 HNE.out).mono ?_
    rintro e w' ⟨rfl, y, rfl⟩
    rw [HE.out]
    replace hm := hm.later y
    replace hm2 := hm2.later y
    replace l1 := l1.later y
    replace l3 := l3.later y
    replace hp := hp.later y
    replace S := S.later y
    obtain ⟨Y6, hZ⟩ : ∃ Z : Later W, Z.w = y.w := ⟨Y5.step (y), rfl⟩
    rw [← hZ] at S hm hm2 l1 l3 hp ⊢
    clear hZ
    clear y
    go_wp2
    refine bodyPost_ret (v := .tuple #[.pointer none, .pointer none, .int .i64 E]) (by simp [results, Try.results61, go_sem]) rfl ?_
    exact ⟨rfl, Y6, rfl⟩
  have hB : bothE l st ad st2 ad2 = marksE l st ad := by rw [bothE, if_pos h1]
  rw [hB] at hE ⊢
  clear hB
  have HNE := Lib.hid h1
  obtain ⟨E, hE'⟩ : ∃ E, marksE l st ad = E := ⟨_, rfl⟩
  have HE := Lib.hid hE'
  rw [hE'] at hE ⊢
  have hne : (E != 0) = true := by simpa using hE
  clear hE hE' h1
  go_enter Try.func61, Try.ntmps61
  go_wp2_with fail
  obtain ⟨B1, hb⟩ : ∃ b, b = W.heap.size := ⟨_, rfl⟩
  have l1 : Lin (W.alloc (.cells #[.slice sx ns cs, .slice aa na ca] 25)) B1 25 [.slice sx ns cs, .slice aa na ca] := by rw [hb]; exact Lin.new _ _ [.slice sx ns cs, .slice aa na ca]
  replace S := S.later (Later.new _ (.cells #[.slice sx ns cs, .slice aa na ca] 25))
  rw [Later.new_w] at S
  replace hm := hm.later (Later.new _ (.cells #[.slice sx ns cs, .slice aa na ca] 25))
  rw [Later.new_w] at hm
  replace hm2 := hm2.later (Later.new _ (.cells #[.slice sx ns cs, .slice aa na ca] 25))
  rw [Later.new_w] at hm2
  have hsz : (W.alloc (.cells #[.slice sx ns cs, .slice aa na ca] 25)).heap.size = B1 + 1 := by rw [hb]; simp
  obtain ⟨Y2, hZ⟩ : ∃ Z : Later W, Z.w = W.alloc (.cells #[.slice sx ns cs, .slice aa na ca] 25) := ⟨Later.new _ _, rfl⟩
  rw [← hZ] at S hsz hm hm2 l1 ⊢
  clear hZ
  rw [← hb]
  clear hb
  have hs2 := hsz
  rw [← hsz]
  clear hsz hs2
  obtain ⟨B3, hb⟩ : ∃ b, b = Y2.w.heap.size := ⟨_, rfl⟩
  have l3 : Lin (Y2.w.alloc (.cells #[.slice sx2 ns2 cs2, .slice aa2 na2 ca2] 25)) B3 25 [.slice sx2 ns2 cs2, .slice aa2 na2 ca2] := by rw [hb]; exact Lin.new _ _ [.slice sx2 ns2 cs2, .slice aa2 na2 ca2]
  replace S := S.later (Later.new _ (.cells #[.slice sx2 ns2 cs2, .slice aa2 na2 ca2] 25))
  rw [Later.new_w] at S
  replace hm := hm.later (Later.new _ (.cells #[.slice sx2 ns2 cs2, .slice aa2 na2 ca2] 25))
  rw [Later.new_w] at hm
  replace hm2 := hm2.later (Later.new _ (.cells #[.slice sx2 ns2 cs2, .slice aa2 na2 ca2] 25))
  rw [Later.new_w] at hm2
  replace l1 := l1.later (Later.new _ (.cells #[.slice sx2 ns2 cs2, .slice aa2 na2 ca2] 25))
  rw [Later.new_w] at l1
  have hsz : (Y2.w.alloc (.cells #[.slice sx2 ns2 cs2, .slice aa2 na2 ca2] 25)).heap.size = B3 + 1 := by rw [hb]; simp
  obtain ⟨Y4, hZ⟩ : ∃ Z : Later W, Z.w = Y2.w.alloc (.cells #[.slice sx2 ns2 cs2, .slice aa2 na2 ca2] 25) := ⟨Y2.step (Later.new _ _), rfl⟩
  rw [← hZ] at S hsz hm hm2 l1 l3 ⊢
  clear hZ
  rw [← hb]
  clear hb
  clear hsz
  have q0_0 := l1.cell (k := 0) rfl
  have q0_1 := l1.cell (k := 1) rfl
  have q0_l := l1.lt
  have q1_0 := l3.cell (k := 0) rfl
  have q1_1 := l3.cell (k := 1) rfl
  have q1_l := l3.lt
  go_wp2_with fail
  clear q0_0 q0_1 q0_l
  clear q1_0 q1_1 q1_l
  refine (open_err l _ _ st ad _ hm HNE.out).mono ?_
  rintro e w' ⟨rfl, y, rfl⟩
  rw [HE.out]
  replace hm := hm.later y
  replace hm2 := hm2.later y
  replace l1 := l1.later y
  replace l3 := l3.later y
  replace S := S.later y
  obtain ⟨Y5, hZ⟩ : ∃ Z : Later W, Z.w = y.w := ⟨Y4.step (y), rfl⟩
  rw [← hZ] at S hm hm2 l1 l3 ⊢
  clear hZ
  clear y
  go_wp2
  refine bodyPost_ret (v := .tuple #[.pointer none, .pointer none, .int .i64 E]) (by simp [results, Try.results61, go_sem]) rfl ?_
  exact ⟨rfl, Y5, rfl⟩
set_option maxRecDepth 100000 in
set_option maxHeartbeats 4000000 in
theorem pages_ok (l : List UInt8) (sv av : Value) (st : List Int) (ad : List (List UInt8)) (sw aw : Value) (st2 : List Int) (ad2 : List (List UInt8)) (W : World) (hm : Mks W sv av st ad) (hm2 : Mks W sw aw st2 ad2) (hE : bothE l st ad st2 ad2 = 0) :
    Calls Try.prog 61 #[.string ⟨l.toArray⟩, .agg #[sv, av], .agg #[sw, aw]] W (PagesOk l sv av sw aw W) := by
  have S : Ins W [] := Ins.nil _
  obtain ⟨sx, ns, cs, rfl⟩ : ∃ a n c, sv = .slice a n c := by obtain ⟨a, c, e⟩ := hm.s.form; exact ⟨a, _, c, e⟩
  obtain ⟨aa, na, ca, rfl⟩ : ∃ a n c, av = .slice a n c := by obtain ⟨a, c, e⟩ := hm.a.form; exact ⟨a, _, c, e⟩
  have HS := Lib.hid (show ns = st.length by obtain ⟨a, c, e⟩ := hm.s.form; cases e; rfl)
  have HA := Lib.hid (show na = ad.length by obtain ⟨a, c, e⟩ := hm.a.form; cases e; rfl)
  have hsl : ns ≤ 9007199254740992 := by rw [HS.out]; exact hm.s.1
  have hal : na ≤ 9007199254740992 := by rw [HA.out]; exact hm.a.1
  obtain ⟨sx2, ns2, cs2, rfl⟩ : ∃ a n c, sw = .slice a n c := by obtain ⟨a, c, e⟩ := hm2.s.form; exact ⟨a, _, c, e⟩
  obtain ⟨aa2, na2, ca2, rfl⟩ : ∃ a n c, aw = .slice a n c := by obtain ⟨a, c, e⟩ := hm2.a.form; exact ⟨a, _, c, e⟩
  have HS2 := Lib.hid (show ns2 = st2.length by obtain ⟨a, c, e⟩ := hm2.s.form; cases e; rfl)
  have HA2 := Lib.hid (show na2 = ad2.length by obtain ⟨a, c, e⟩ := hm2.a.form; cases e; rfl)
  have hsl2 : ns2 ≤ 9007199254740992 := by rw [HS2.out]; exact hm2.s.1
  have hal2 : na2 ≤ 9007199254740992 := by rw [HA2.out]; exact hm2.a.1
  have h1 : marksE l st ad = 0 := by
    by_cases h : marksE l st ad = 0
    · exact h
    · rw [bothE, if_pos h] at hE; exact absurd hE h
  have h2 : marksE l st2 ad2 = 0 := by rw [bothE, if_neg (by simpa using h1)] at hE; exact hE
  clear hE
  go_enter Try.func61, Try.ntmps61
  go_wp2_with fail
  obtain ⟨B1, hb⟩ : ∃ b, b = W.heap.size := ⟨_, rfl⟩
  have l1 : Lin (W.alloc (.cells #[.slice sx ns cs, .slice aa na ca] 25)) B1 25 [.slice sx ns cs, .slice aa na ca] := by rw [hb]; exact Lin.new _ _ [.slice sx ns cs, .slice aa na ca]
  replace S := S.later (Later.new _ (.cells #[.slice sx ns cs, .slice aa na ca] 25))
  rw [Later.new_w] at S
  replace hm := hm.later (Later.new _ (.cells #[.slice sx ns cs, .slice aa na ca] 25))
  rw [Later.new_w] at hm
  replace hm2 := hm2.later (Later.new _ (.cells #[.slice sx ns cs, .slice aa na ca] 25))
  rw [Later.new_w] at hm2
  have hsz : (W.alloc (.cells #[.slice sx ns cs, .slice aa na ca] 25)).heap.size = B1 + 1 := by rw [hb]; simp
  obtain ⟨Y2, hZ⟩ : ∃ Z : Later W, Z.w = W.alloc (.cells #[.slice sx ns cs, .slice aa na ca] 25) := ⟨Later.new _ _, rfl⟩
  rw [← hZ] at S hsz hm hm2 l1 ⊢
  clear hZ
  rw [← hb]
  clear hb
  have hs2 := hsz
  rw [← hsz]
  clear hsz hs2
  obtain ⟨B3, hb⟩ : ∃ b, b = Y2.w.heap.size := ⟨_, rfl⟩
  have l3 : Lin (Y2.w.alloc (.cells #[.slice sx2 ns2 cs2, .slice aa2 na2 ca2] 25)) B3 25 [.slice sx2 ns2 cs2, .slice aa2 na2 ca2] := by rw [hb]; exact Lin.new _ _ [.slice sx2 ns2 cs2, .slice aa2 na2 ca2]
  replace S := S.later (Later.new _ (.cells #[.slice sx2 ns2 cs2, .slice aa2 na2 ca2] 25))
  rw [Later.new_w] at S
  replace hm := hm.later (Later.new _ (.cells #[.slice sx2 ns2 cs2, .slice aa2 na2 ca2] 25))
  rw [Later.new_w] at hm
  replace hm2 := hm2.later (Later.new _ (.cells #[.slice sx2 ns2 cs2, .slice aa2 na2 ca2] 25))
  rw [Later.new_w] at hm2
  replace l1 := l1.later (Later.new _ (.cells #[.slice sx2 ns2 cs2, .slice aa2 na2 ca2] 25))
  rw [Later.new_w] at l1
  have hsz : (Y2.w.alloc (.cells #[.slice sx2 ns2 cs2, .slice aa2 na2 ca2] 25)).heap.size = B3 + 1 := by rw [hb]; simp
  obtain ⟨Y4, hZ⟩ : ∃ Z : Later W, Z.w = Y2.w.alloc (.cells #[.slice sx2 ns2 cs2, .slice aa2 na2 ca2] 25) := ⟨Y2.step (Later.new _ _), rfl⟩
  rw [← hZ] at S hsz hm hm2 l1 l3 ⊢
  clear hZ
  rw [← hb]
  clear hb
  clear hsz
  have q0_0 := l1.cell (k := 0) rfl
  have q0_1 := l1.cell (k := 1) rfl
  have q0_l := l1.lt
  have q1_0 := l3.cell (k := 0) rfl
  have q1_1 := l3.cell (k := 1) rfl
  have q1_l := l3.lt
  go_wp2_with fail
  clear q0_0 q0_1 q0_l
  clear q1_0 q1_1 q1_l
  refine (open_ok l _ _ st ad _ hm h1).mono ?_
  rintro e w' ⟨b, y, rfl, rfl, hp⟩
  replace hm := hm.later y
  replace hm2 := hm2.later y
  replace l1 := l1.later y
  replace l3 := l3.later y
  replace S := S.later y
  obtain ⟨Y5, hZ⟩ : ∃ Z : Later W, Z.w = y.w := ⟨Y4.step (y), rfl⟩
  rw [← hZ] at S hm hm2 l1 l3 hp ⊢
  clear hZ
  clear y
  have q0_0 := l1.cell (k := 0) rfl
  have q0_1 := l1.cell (k := 1) rfl
  have q0_l := l1.lt
  have q1_0 := l3.cell (k := 0) rfl
  have q1_1 := l3.cell (k := 1) rfl
  have q1_l := l3.lt
  go_wp2_with fail
  clear q0_0 q0_1 q0_l
  clear q1_0 q1_1 q1_l
  refine (open_ok l _ _ st2 ad2 _ hm2 h2).mono ?_
  rintro e w' ⟨b2, y, rfl, rfl, hp2⟩
  replace hm := hm.later y
  replace hm2 := hm2.later y
  replace l1 := l1.later y
  replace l3 := l3.later y
  replace hp := hp.later y
  replace S := S.later y
  obtain ⟨Y6, hZ⟩ : ∃ Z : Later W, Z.w = y.w := ⟨Y5.step (y), rfl⟩
  rw [← hZ] at S hm hm2 l1 l3 hp hp2 ⊢
  clear hZ
  clear y
  go_wp2
  refine bodyPost_ret (v := .tuple #[.pointer (some ⟨b, 0, none⟩), .pointer (some ⟨b2, 0, none⟩), .int .i64 0]) (by simp [results, Try.results61, go_sem]) rfl ?_
  exact ⟨b, b2, Y6, rfl, rfl, hp, hp2⟩
set_option maxRecDepth 100000 in
set_option maxHeartbeats 4000000 in
theorem pclash_calls (p q : Nat) (l l2 : List UInt8) (sv av : Value) (st : List Int) (ad : List (List UInt8)) (sw aw : Value) (st2 : List Int) (ad2 : List (List UInt8)) (W : World) (hp : Pag W p sv av l) (hq : Pag W q sw aw l2) (hm : Mks W sv av st ad) (hm2 : Mks W sw aw st2 ad2) (hl : ad2.length = ad.length) :
    Calls Try.prog 62 #[.pointer (some ⟨p, 0, none⟩), .pointer (some ⟨q, 0, none⟩)] W fun e w' => e = .returned (.int .i64 (clashN ad ad2)) ∧ w' = W := by
  have S : Ins W [] := Ins.nil _
  obtain ⟨sx, ns, cs, rfl⟩ : ∃ a n c, sv = .slice a n c := by obtain ⟨a, c, e⟩ := hm.s.form; exact ⟨a, _, c, e⟩
  obtain ⟨aa, na, ca, rfl⟩ : ∃ a n c, av = .slice a n c := by obtain ⟨a, c, e⟩ := hm.a.form; exact ⟨a, _, c, e⟩
  have HS := Lib.hid (show ns = st.length by obtain ⟨a, c, e⟩ := hm.s.form; cases e; rfl)
  have HA := Lib.hid (show na = ad.length by obtain ⟨a, c, e⟩ := hm.a.form; cases e; rfl)
  have hsl : ns ≤ 9007199254740992 := by rw [HS.out]; exact hm.s.1
  have hal : na ≤ 9007199254740992 := by rw [HA.out]; exact hm.a.1
  obtain ⟨sx2, ns2, cs2, rfl⟩ : ∃ a n c, sw = .slice a n c := by obtain ⟨a, c, e⟩ := hm2.s.form; exact ⟨a, _, c, e⟩
  obtain ⟨aa2, na2, ca2, rfl⟩ : ∃ a n c, aw = .slice a n c := by obtain ⟨a, c, e⟩ := hm2.a.form; exact ⟨a, _, c, e⟩
  have HS2 := Lib.hid (show ns2 = st2.length by obtain ⟨a, c, e⟩ := hm2.s.form; cases e; rfl)
  have HA2 := Lib.hid (show na2 = ad2.length by obtain ⟨a, c, e⟩ := hm2.a.form; cases e; rfl)
  have hsl2 : ns2 ≤ 9007199254740992 := by rw [HS2.out]; exact hm2.s.1
  have hal2 : na2 ≤ 9007199254740992 := by rw [HA2.out]; exact hm2.a.1
  obtain rfl : na = na2 := by rw [HA.out, HA2.out, hl]
  clear hl
  have c1 := Lin.cell hp (k := 1) rfl
  have cl := Lin.lt hp
  have d1 := Lin.cell hq (k := 1) rfl
  have dl := Lin.lt hq
  go_enter Try.func62, Try.ntmps62
  go_wp2_with fail
  go_wp2
  go_loopw [5, 6, 7, 14] (fun _ _ _ i0 wr => ∃ (k : Nat), wr = W ∧ k ≤ na ∧ i0 = .int .i64 k ∧ Hid (∀ j, j < k → clashB (sat ad j) (sat ad2 j) = false)) (fun _ _ _ i0 _ => na - (intOf i0).toNat)
  case atStart => exact ⟨0, rfl, Nat.zero_le _, rfl, Lib.hid (fun j hj => absurd hj (Nat.not_lt_zero _))⟩
  obtain ⟨k, hwr, hk, rfl, hP⟩ := hrel
  rw [hwr]
  clear hwr
  by_cases hlt : k < na
  · obtain ⟨ba, oa, ka, e, hka, hba, hga⟩ := hm.a.at (k := k) (by rw [← HA.out]; exact hlt)
    injection e with e1 e2 e3
    subst e1 e3
    have qa := hga k (by rw [← HA.out]; exact hlt)
    clear hga e2
    obtain ⟨bb, ob, kb, e, hkb, hbb, hgb⟩ := hm2.a.at (k := k) (by rw [← HA2.out]; exact hlt)
    injection e with e1 e2 e3
    subst e1 e3
    have qb := hgb k (by rw [← HA2.out]; exact hlt)
    clear hgb e2
    obtain ⟨x, hx⟩ : ∃ v, sat ad k = v := ⟨_, rfl⟩
    obtain ⟨y, hy⟩ : ∃ v, sat ad2 k = v := ⟨_, rfl⟩
    rw [hx] at qa
    rw [hy] at qb
    have HB := Lib.hid (show clashB (sat ad k) (sat ad2 k) = (!x.isEmpty && (!y.isEmpty && !(x == y))) by rw [hx, hy]; rfl)
    clear hx hy
    by_cases h3 : x = y
    rotate_left
    by_cases h1 : x = []
    rotate_left
    by_cases h2 : y = []
    rotate_left
    · have d3 : (x == y) = false := by simpa using h3
      have d1 : (x == []) = false := by simpa using h1
      have d2 : (y == []) = false := by simpa using h2
      have HC := Lib.hid (show clashB (sat ad k) (sat ad2 k) = true by rw [HB.out]; simp [h1, h2, h3])
      clear h1 h2 h3
      have HF := Lib.hid (clashN_yes (k := k) (by rw [← HA.out]; exact hlt) hP.out HC.out)
      go_wp2
      go_ret
      exact ⟨ret_int HF.out.symm, rfl⟩
    · have d3 : (x == y) = true := by simpa using h3
      have HC := Lib.hid (show clashB (sat ad k) (sat ad2 k) = false by rw [HB.out]; simp [h3])
      clear h3
      go_wp2
      go_roundw
      case rel => first | exact ⟨k + 1, by trivial, by omega, by go_num, Lib.hid (fun j hj => by
        by_cases h : j = k
        · rw [h]; exact HC.out
        · exact hP.out j (by omega))⟩ | ((repeat apply Exists.intro); exact ⟨⟨k + 1, by trivial, by omega, by go_num, Lib.hid (fun j hj => by
        by_cases h : j = k
        · rw [h]; exact HC.out
        · exact hP.out j (by omega))⟩, rfl⟩)
      case measure => simp [intOf]; omega
    · have d3 : (x == y) = false := by simpa using h3
      have d1 : (x == []) = true := by simpa using h1
      have HC := Lib.hid (show clashB (sat ad k) (sat ad2 k) = false by rw [HB.out]; simp [h1])
      clear h1 h3
      go_wp2
      go_roundw
      case rel => first | exact ⟨k + 1, by trivial, by omega, by go_num, Lib.hid (fun j hj => by
        by_cases h : j = k
        · rw [h]; exact HC.out
        · exact hP.out j (by omega))⟩ | ((repeat apply Exists.intro); exact ⟨⟨k + 1, by trivial, by omega, by go_num, Lib.hid (fun j hj => by
        by_cases h : j = k
        · rw [h]; exact HC.out
        · exact hP.out j (by omega))⟩, rfl⟩)
      case measure => simp [intOf]; omega
    · have d3 : (x == y) = false := by simpa using h3
      have d1 : (x == []) = false := by simpa using h1
      have d2 : (y == []) = true := by simpa using h2
      have HC := Lib.hid (show clashB (sat ad k) (sat ad2 k) = false by rw [HB.out]; simp [h2])
      clear h1 h2 h3
      go_wp2
      go_roundw
      case rel => first | exact ⟨k + 1, by trivial, by omega, by go_num, Lib.hid (fun j hj => by
        by_cases h : j = k
        · rw [h]; exact HC.out
        · exact hP.out j (by omega))⟩ | ((repeat apply Exists.intro); exact ⟨⟨k + 1, by trivial, by omega, by go_num, Lib.hid (fun j hj => by
        by_cases h : j = k
        · rw [h]; exact HC.out
        · exact hP.out j (by omega))⟩, rfl⟩)
      case measure => simp [intOf]; omega
  obtain rfl : na = k := by omega
  have HF := Lib.hid (clashN_no (ad := ad) (ad2 := ad2) fun j hj => hP.out j (by rw [HA.out]; exact hj))
  go_wp2
  go_ret
  exact ⟨ret_int HF.out.symm, rfl⟩
end Go.Proofs.Ytpkgfkeekcgkcaa

/-  The program's Clash, best. -/
namespace Go.Proofs.Ytpkgfkeekcgkcaa
open Go.RowKit
def bestS (x y : List UInt8) : List UInt8 := if x.length < y.length then y else x
theorem longer_calls (x y : List UInt8) (W : World) : Calls Try.prog 65 #[.string ⟨x.toArray⟩, .string ⟨y.toArray⟩] W fun e w' => e = .returned (.bool (decide (y.length < x.length))) ∧ w' = W := by
  go_enter Try.func65, Try.ntmps65
  go_wp2
  go_ret
  exact ⟨ret_bool (by simp), rfl⟩
set_option maxRecDepth 100000 in
set_option maxHeartbeats 1000000 in
theorem best_calls (b c : Nat) (x y : List UInt8) (W : World) (hc : 2 ≤ c) (h0 : W.cell? ⟨b, 0, none⟩ = some (.string ⟨x.toArray⟩)) (h1 : W.cell? ⟨b, 1, none⟩ = some (.string ⟨y.toArray⟩)) :
    Calls Try.prog 64 #[.slice (some ⟨b, 0, none⟩) 2 c, .func (.func 65) #[] #[]] W fun e w' => e = .returned (.string ⟨(bestS x y).toArray⟩) ∧ w' = W := by
  obtain ⟨R, hR⟩ : ∃ R, bestS x y = R := ⟨_, rfl⟩
  have HR := Lib.hid hR
  rw [hR]
  clear hR
  have hb : b < W.heap.size := World.block_lt_of_cell? W _ h0
  go_enter Try.func64, Try.ntmps64
  go_wp2
  go_loopw [5, 7, 14] (fun o0 _ i0 wr => ∃ (k : Nat) (o : List UInt8), wr = W ∧ k ≤ 1 ∧ i0 = .int .i64 k ∧ o0 = .string ⟨o.toArray⟩ ∧ Hid (o = if k = 0 then x else R)) (fun _ _ i0 _ => 1 - (intOf i0).toNat)
  case atStart => exact ⟨0, x, rfl, Nat.zero_le _, rfl, rfl, Lib.hid rfl⟩
  case round =>
    obtain ⟨k, o, hwr, hk, rfl, rfl, hO⟩ := hrel
    rw [hwr]
    clear hwr
    by_cases hlt : k < 1
    · obtain rfl : k = 0 := by omega
      obtain rfl : o = x := by rw [hO.out, if_pos rfl]
      obtain ⟨B, hB⟩ : ∃ B, decide (o.length < y.length) = B := ⟨_, rfl⟩
      have HB := Lib.hid hB
      cases B
      · have HE := Lib.hid (show o = R by rw [← HR.out, bestS, if_neg (by simpa using hB)])
        clear hB
        go_wp2_with fail
        refine (longer_calls y o _).mono ?_
        rintro e w' ⟨rfl, hw⟩
        rw [hw, HB.out]
        clear hw w'
        go_wp2
        go_roundw
        case rel => first | exact ⟨1, o, by trivial, by omega, by go_num, rfl, Lib.hid HE.out⟩ | ((repeat apply Exists.intro); exact ⟨⟨1, o, by trivial, by omega, by go_num, rfl, Lib.hid HE.out⟩, rfl⟩)
        case measure => simp [intOf]
      · have HE := Lib.hid (show y = R by rw [← HR.out, bestS, if_pos (by simpa using hB)])
        clear hB
        go_wp2_with fail
        refine (longer_calls y o _).mono ?_
        rintro e w' ⟨rfl, hw⟩
        rw [hw, HB.out]
        clear hw w'
        go_wp2
        go_roundw
        case rel => first | exact ⟨1, y, by trivial, by omega, by go_num, rfl, Lib.hid HE.out⟩ | ((repeat apply Exists.intro); exact ⟨⟨1, y, by trivial, by omega, by go_num, rfl, Lib.hid HE.out⟩, rfl⟩)
        case measure => simp [intOf]
    · obtain rfl : k = 1 := by omega
      obtain rfl : o = R := by rw [hO.out, if_neg (by omega)]
      go_wp2
      go_ret
      exact ⟨rfl, rfl⟩
set_option maxRecDepth 100000 in
set_option maxHeartbeats 4000000 in
theorem Clash_calls (l : List UInt8) (sv av : Value) (st : List Int) (ad : List (List UInt8)) (sw aw : Value) (st2 : List Int) (ad2 : List (List UInt8)) (W : World) (hm : Mks W sv av st ad) (hm2 : Mks W sw aw st2 ad2) :
    Calls Try.prog 29 #[.string ⟨l.toArray⟩, .agg #[sv, av], .agg #[sw, aw]] W (Gives (.tuple #[.int .i64 (clashV l st ad st2 ad2), .int .i64 (clashE l st ad st2 ad2)]) W) := by
  have S : Ins W [] := Ins.nil _
  obtain ⟨sx, ns, cs, rfl⟩ : ∃ a n c, sv = .slice a n c := by obtain ⟨a, c, e⟩ := hm.s.form; exact ⟨a, _, c, e⟩
  obtain ⟨aa, na, ca, rfl⟩ : ∃ a n c, av = .slice a n c := by obtain ⟨a, c, e⟩ := hm.a.form; exact ⟨a, _, c, e⟩
  have HS := Lib.hid (show ns = st.length by obtain ⟨a, c, e⟩ := hm.s.form; cases e; rfl)
  have HA := Lib.hid (show na = ad.length by obtain ⟨a, c, e⟩ := hm.a.form; cases e; rfl)
  have hsl : ns ≤ 9007199254740992 := by rw [HS.out]; exact hm.s.1
  have hal : na ≤ 9007199254740992 := by rw [HA.out]; exact hm.a.1
  obtain ⟨sx2, ns2, cs2, rfl⟩ : ∃ a n c, sw = .slice a n c := by obtain ⟨a, c, e⟩ := hm2.s.form; exact ⟨a, _, c, e⟩
  obtain ⟨aa2, na2, ca2, rfl⟩ : ∃ a n c, aw = .slice a n c := by obtain ⟨a, c, e⟩ := hm2.a.form; exact ⟨a, _, c, e⟩
  have HS2 := Lib.hid (show ns2 = st2.length by obtain ⟨a, c, e⟩ := hm2.s.form; cases e; rfl)
  have HA2 := Lib.hid (show na2 = ad2.length by obtain ⟨a, c, e⟩ := hm2.a.form; cases e; rfl)
  have hsl2 : ns2 ≤ 9007199254740992 := by rw [HS2.out]; exact hm2.s.1
  have hal2 : na2 ≤ 9007199254740992 := by rw [HA2.out]; exact hm2.a.1
  obtain ⟨E, hE⟩ : ∃ E, bothE l st ad st2 ad2 = E := ⟨_, rfl⟩
  have HE := Lib.hid hE
  by_cases h0 : E = 0
  rotate_left
  · have HR := Lib.hid (show clashV l st ad st2 ad2 = 0 ∧ clashE l st ad st2 ad2 = E by rw [clashV, clashE, hE, if_neg (fun h => h0 h.1), if_pos h0]; exact ⟨rfl, rfl⟩)
    have hne : (E != 0) = true := by simpa using h0
    have HNE := Lib.hid (show bothE l st ad st2 ad2 ≠ 0 by rw [hE]; exact h0)
    clear hE h0
    go_enter Try.func29, Try.ntmps29
    go_wp2_with fail
    obtain ⟨B1, hb⟩ : ∃ b, b = W.heap.size := ⟨_, rfl⟩
    have l1 : Lin (W.alloc (.cells #[.slice sx ns cs, .slice aa na ca] 25)) B1 25 [.slice sx ns cs, .slice aa na ca] := by rw [hb]; exact Lin.new _ _ [.slice sx ns cs, .slice aa na ca]
    replace S := S.later (Later.new _ (.cells #[.slice sx ns cs, .slice aa na ca] 25))
    rw [Later.new_w] at S
    replace hm := hm.later (Later.new _ (.cells #[.slice sx ns cs, .slice aa na ca] 25))
    rw [Later.new_w] at hm
    replace hm2 := hm2.later (Later.new _ (.cells #[.slice sx ns cs, .slice aa na ca] 25))
    rw [Later.new_w] at hm2
    have hsz : (W.alloc (.cells #[.slice sx ns cs, .slice aa na ca] 25)).heap.size = B1 + 1 := by rw [hb]; simp
    obtain ⟨Y2, hZ⟩ : ∃ Z : Later W, Z.w = W.alloc (.cells #[.slice sx ns cs, .slice aa na ca] 25) := ⟨Later.new _ _, rfl⟩
    rw [← hZ] at S hsz hm hm2 l1 ⊢
    clear hZ
    rw [← hb]
    clear hb
    have hs2 := hsz
    rw [← hsz]
    clear hsz hs2
    obtain ⟨B3, hb⟩ : ∃ b, b = Y2.w.heap.size := ⟨_, rfl⟩
    have l3 : Lin (Y2.w.alloc (.cells #[.slice sx2 ns2 cs2, .slice aa2 na2 ca2] 25)) B3 25 [.slice sx2 ns2 cs2, .slice aa2 na2 ca2] := by rw [hb]; exact Lin.new _ _ [.slice sx2 ns2 cs2, .slice aa2 na2 ca2]
    replace S := S.later (Later.new _ (.cells #[.slice sx2 ns2 cs2, .slice aa2 na2 ca2] 25))
    rw [Later.new_w] at S
    replace hm := hm.later (Later.new _ (.cells #[.slice sx2 ns2 cs2, .slice aa2 na2 ca2] 25))
    rw [Later.new_w] at hm
    replace hm2 := hm2.later (Later.new _ (.cells #[.slice sx2 ns2 cs2, .slice aa2 na2 ca2] 25))
    rw [Later.new_w] at hm2
    replace l1 := l1.later (Later.new _ (.cells #[.slice sx2 ns2 cs2, .slice aa2 na2 ca2] 25))
    rw [Later.new_w] at l1
    have hsz : (Y2.w.alloc (.cells #[.slice sx2 ns2 cs2, .slice aa2 na2 ca2] 25)).heap.size = B3 + 1 := by rw [hb]; simp
    obtain ⟨Y4, hZ⟩ : ∃ Z : Later W, Z.w = Y2.w.alloc (.cells #[.slice sx2 ns2 cs2, .slice aa2 na2 ca2] 25) := ⟨Y2.step (Later.new _ _), rfl⟩
    rw [← hZ] at S hsz hm hm2 l1 l3 ⊢
    clear hZ
    rw [← hb]
    clear hb
    clear hsz
    have q0_0 := l1.cell (k := 0) rfl
    have q0_1 := l1.cell (k := 1) rfl
    have q0_l := l1.lt
    have q1_0 := l3.cell (k := 0) rfl
    have q1_1 := l3.cell (k := 1) rfl
    have q1_l := l3.lt
    go_wp2_with fail
    clear q0_0 q0_1 q0_l
    clear q1_0 q1_1 q1_l
    refine (pages_err l _ _ st ad _ _ st2 ad2 _ hm hm2 HNE.out).mono ?_
    rintro e w' ⟨rfl, y, rfl⟩
    rw [HE.out]
    replace hm := hm.later y
    replace hm2 := hm2.later y
    replace l1 := l1.later y
    replace l3 := l3.later y
    replace S := S.later y
    obtain ⟨Y5, hZ⟩ : ∃ Z : Later W, Z.w = y.w := ⟨Y4.step (y), rfl⟩
    rw [← hZ] at S hm hm2 l1 l3 ⊢
    clear hZ
    clear y
    go_wp2
    refine bodyPost_ret (v := .tuple #[.int .i64 0, .int .i64 E]) (by simp [results, Try.results29, go_sem]) rfl ?_
    exact ⟨by rw [HR.out.1, HR.out.2], Y5, rfl⟩
  subst h0
  have hok := both_ok hE
  have HLL := Lib.hid (show ad2.length = ad.length by rw [hok.1.al, hok.2.al])
  clear hok
  obtain ⟨C, hC⟩ : ∃ C, clashN ad ad2 = C := ⟨_, rfl⟩
  have HC := Lib.hid hC
  by_cases hc : C < 0
  · have HR := Lib.hid (show clashV l st ad st2 ad2 = 0 ∧ clashE l st ad st2 ad2 = 5 by rw [clashV, clashE, hE, hC, if_neg (fun h => by omega), if_neg (by simp), if_pos hc]; exact ⟨rfl, rfl⟩)
    have hcd : decide (C < 0) = true := by simp; omega
    clear hE hC
    go_enter Try.func29, Try.ntmps29
    go_wp2_with fail
    obtain ⟨B1, hb⟩ : ∃ b, b = W.heap.size := ⟨_, rfl⟩
    have l1 : Lin (W.alloc (.cells #[.slice sx ns cs, .slice aa na ca] 25)) B1 25 [.slice sx ns cs, .slice aa na ca] := by rw [hb]; exact Lin.new _ _ [.slice sx ns cs, .slice aa na ca]
    replace S := S.later (Later.new _ (.cells #[.slice sx ns cs, .slice aa na ca] 25))
    rw [Later.new_w] at S
    replace hm := hm.later (Later.new _ (.cells #[.slice sx ns cs, .slice aa na ca] 25))
    rw [Later.new_w] at hm
    replace hm2 := hm2.later (Later.new _ (.cells #[.slice sx ns cs, .slice aa na ca] 25))
    rw [Later.new_w] at hm2
    have hsz : (W.alloc (.cells #[.slice sx ns cs, .slice aa na ca] 25)).heap.size = B1 + 1 := by rw [hb]; simp
    obtain ⟨Y2, hZ⟩ : ∃ Z : Later W, Z.w = W.alloc (.cells #[.slice sx ns cs, .slice aa na ca] 25) := ⟨Later.new _ _, rfl⟩
    rw [← hZ] at S hsz hm hm2 l1 ⊢
    clear hZ
    rw [← hb]
    clear hb
    have hs2 := hsz
    rw [← hsz]
    clear hsz hs2
    obtain ⟨B3, hb⟩ : ∃ b, b = Y2.w.heap.size := ⟨_, rfl⟩
    have l3 : Lin (Y2.w.alloc (.cells #[.slice sx2 ns2 cs2, .slice aa2 na2 ca2] 25)) B3 25 [.slice sx2 ns2 cs2, .slice aa2 na2 ca2] := by rw [hb]; exact Lin.new _ _ [.slice sx2 ns2 cs2, .slice aa2 na2 ca2]
    replace S := S.later (Later.new _ (.cells #[.slice sx2 ns2 cs2, .slice aa2 na2 ca2] 25))
    rw [Later.new_w] at S
    replace hm := hm.later (Later.new _ (.cells #[.slice sx2 ns2 cs2, .slice aa2 na2 ca2] 25))
    rw [Later.new_w] at hm
    replace hm2 := hm2.later (Later.new _ (.cells #[.slice sx2 ns2 cs2, .slice aa2 na2 ca2] 25))
    rw [Later.new_w] at hm2
    replace l1 := l1.later (Later.new _ (.cells #[.slice sx2 ns2 cs2, .slice aa2 na2 ca2] 25))
    rw [Later.new_w] at l1
    have hsz : (Y2.w.alloc (.cells #[.slice sx2 ns2 cs2, .slice aa2 na2 ca2] 25)).heap.size = B3 + 1 := by rw [hb]; simp
    obtain ⟨Y4, hZ⟩ : ∃ Z : Later W, Z.w = Y2.w.alloc (.cells #[.slice sx2 ns2 cs2, .slice aa2 na2 ca2] 25) := ⟨Y2.step (Later.new _ _), rfl⟩
    rw [← hZ] at S hsz hm hm2 l1 l3 ⊢
    clear hZ
    rw [← hb]
    clear hb
    clear hsz
    have q0_0 := l1.cell (k := 0) rfl
    have q0_1 := l1.cell (k := 1) rfl
    have q0_l := l1.lt
    have q1_0 := l3.cell (k := 0) rfl
    have q1_1 := l3.cell (k := 1) rfl
    have q1_l := l3.lt
    go_wp2_with fail
    clear q0_0 q0_1 q0_l
    clear q1_0 q1_1 q1_l
    refine (pages_ok l _ _ st ad _ _ st2 ad2 _ hm hm2 HE.out).mono ?_
    rintro e w' ⟨b, b2, y, rfl, rfl, hp, hq⟩
    replace hm := hm.later y
    replace hm2 := hm2.later y
    replace l1 := l1.later y
    replace l3 := l3.later y
    replace S := S.later y
    obtain ⟨Y5, hZ⟩ : ∃ Z : Later W, Z.w = y.w := ⟨Y4.step (y), rfl⟩
    rw [← hZ] at S hm hm2 l1 l3 hp hq ⊢
    clear hZ
    clear y
    go_wp2_with fail
    refine (pclash_calls b b2 l l _ _ st ad _ _ st2 ad2 _ hp hq hm hm2 HLL.out).mono ?_
    rintro e w' ⟨rfl, hw⟩
    rw [hw, HC.out]
    clear hw w'
    go_wp2
    refine bodyPost_ret (v := .tuple #[.int .i64 0, .int .i64 5]) (by simp [results, Try.results29, go_sem]) rfl ?_
    exact ⟨by rw [HR.out.1, HR.out.2], Y5, rfl⟩
  · have HR := Lib.hid (show clashV l st ad st2 ad2 = C ∧ clashE l st ad st2 ad2 = 0 by rw [clashV, clashE, hE, hC, if_pos ⟨rfl, by omega⟩, if_neg (by simp), if_neg hc]; exact ⟨rfl, rfl⟩)
    have hcd : decide (C < 0) = false := by simp; omega
    clear hE hC
    go_enter Try.func29, Try.ntmps29
    go_wp2_with fail
    obtain ⟨B1, hb⟩ : ∃ b, b = W.heap.size := ⟨_, rfl⟩
    have l1 : Lin (W.alloc (.cells #[.slice sx ns cs, .slice aa na ca] 25)) B1 25 [.slice sx ns cs, .slice aa na ca] := by rw [hb]; exact Lin.new _ _ [.slice sx ns cs, .slice aa na ca]
    replace S := S.later (Later.new _ (.cells #[.slice sx ns cs, .slice aa na ca] 25))
    rw [Later.new_w] at S
    replace hm := hm.later (Later.new _ (.cells #[.slice sx ns cs, .slice aa na ca] 25))
    rw [Later.new_w] at hm
    replace hm2 := hm2.later (Later.new _ (.cells #[.slice sx ns cs, .slice aa na ca] 25))
    rw [Later.new_w] at hm2
    have hsz : (W.alloc (.cells #[.slice sx ns cs, .slice aa na ca] 25)).heap.size = B1 + 1 := by rw [hb]; simp
    obtain ⟨Y2, hZ⟩ : ∃ Z : Later W, Z.w = W.alloc (.cells #[.slice sx ns cs, .slice aa na ca] 25) := ⟨Later.new _ _, rfl⟩
    rw [← hZ] at S hsz hm hm2 l1 ⊢
    clear hZ
    rw [← hb]
    clear hb
    have hs2 := hsz
    rw [← hsz]
    clear hsz hs2
    obtain ⟨B3, hb⟩ : ∃ b, b = Y2.w.heap.size := ⟨_, rfl⟩
    have l3 : Lin (Y2.w.alloc (.cells #[.slice sx2 ns2 cs2, .slice aa2 na2 ca2] 25)) B3 25 [.slice sx2 ns2 cs2, .slice aa2 na2 ca2] := by rw [hb]; exact Lin.new _ _ [.slice sx2 ns2 cs2, .slice aa2 na2 ca2]
    replace S := S.later (Later.new _ (.cells #[.slice sx2 ns2 cs2, .slice aa2 na2 ca2] 25))
    rw [Later.new_w] at S
    replace hm := hm.later (Later.new _ (.cells #[.slice sx2 ns2 cs2, .slice aa2 na2 ca2] 25))
    rw [Later.new_w] at hm
    replace hm2 := hm2.later (Later.new _ (.cells #[.slice sx2 ns2 cs2, .slice aa2 na2 ca2] 25))
    rw [Later.new_w] at hm2
    replace l1 := l1.later (Later.new _ (.cells #[.slice sx2 ns2 cs2, .slice aa2 na2 ca2] 25))
    rw [Later.new_w] at l1
    have hsz : (Y2.w.alloc (.cells #[.slice sx2 ns2 cs2, .slice aa2 na2 ca2] 25)).heap.size = B3 + 1 := by rw [hb]; simp
    obtain ⟨Y4, hZ⟩ : ∃ Z : Later W, Z.w = Y2.w.alloc (.cells #[.slice sx2 ns2 cs2, .slice aa2 na2 ca2] 25) := ⟨Y2.step (Later.new _ _), rfl⟩
    rw [← hZ] at S hsz hm hm2 l1 l3 ⊢
    clear hZ
    rw [← hb]
    clear hb
    clear hsz
    have q0_0 := l1.cell (k := 0) rfl
    have q0_1 := l1.cell (k := 1) rfl
    have q0_l := l1.lt
    have q1_0 := l3.cell (k := 0) rfl
    have q1_1 := l3.cell (k := 1) rfl
    have q1_l := l3.lt
    go_wp2_with fail
    clear q0_0 q0_1 q0_l
    clear q1_0 q1_1 q1_l
    refine (pages_ok l _ _ st ad _ _ st2 ad2 _ hm hm2 HE.out).mono ?_
    rintro e w' ⟨b, b2, y, rfl, rfl, hp, hq⟩
    replace hm := hm.later y
    replace hm2 := hm2.later y
    replace l1 := l1.later y
    replace l3 := l3.later y
    replace S := S.later y
    obtain ⟨Y5, hZ⟩ : ∃ Z : Later W, Z.w = y.w := ⟨Y4.step (y), rfl⟩
    rw [← hZ] at S hm hm2 l1 l3 hp hq ⊢
    clear hZ
    clear y
    go_wp2_with fail
    refine (pclash_calls b b2 l l _ _ st ad _ _ st2 ad2 _ hp hq hm hm2 HLL.out).mono ?_
    rintro e w' ⟨rfl, hw⟩
    rw [hw, HC.out]
    clear hw w'
    go_wp2
    refine bodyPost_ret (v := .tuple #[.int .i64 C, .int .i64 0]) (by simp [results, Try.results29, go_sem]) rfl ?_
    exact ⟨by rw [HR.out.1, HR.out.2], Y5, rfl⟩
end Go.Proofs.Ytpkgfkeekcgkcaa

/-  The program's Merge. -/
namespace Go.Proofs.Ytpkgfkeekcgkcaa
open Go.RowKit
theorem clashN_none {ad ad2 : List (List UInt8)} (h : ¬ 0 ≤ clashN ad ad2) : ∀ j, j < ad.length → clashB (sat ad j) (sat ad2 j) = false := by
  intro j
  induction j using Nat.strongRecOn with
  | _ j ih =>
    intro hj
    cases hc : clashB (sat ad j) (sat ad2 j)
    · rfl
    · exact absurd (by rw [clashN_yes hj (fun i hi => ih i hi (by omega)) hc]; omega) h
theorem best_eq {x y : List UInt8} (h : clashB x y = false) : bestS x y = if x = [] then y else x := by
  rw [bestS]
  by_cases hx : x = []
  · subst hx
    rw [if_pos rfl]
    cases y with
    | nil => rfl
    | cons a l => rw [if_pos (by simp)]
  · rw [if_neg hx]
    by_cases hy : y = []
    · subst hy; rw [if_neg (by simp)]
    · have : x = y := by simpa [clashB, hx, hy] using h
      rw [this, if_neg (by omega)]
set_option maxRecDepth 100000 in
set_option maxHeartbeats 4000000 in
theorem Merge_calls (l : List UInt8) (sv av : Value) (st : List Int) (ad : List (List UInt8)) (sw aw : Value) (st2 : List Int) (ad2 : List (List UInt8)) (W : World) (hm : Mks W sv av st ad) (hm2 : Mks W sw aw st2 ad2) :
    Calls Try.prog 27 #[.string ⟨l.toArray⟩, .agg #[sv, av], .agg #[sw, aw]] W (MksG (mergeS l st ad st2 ad2) (mergeA l st ad st2 ad2) (mergeE l st ad st2 ad2) W) := by
  have S : Ins W [] := Ins.nil _
  obtain ⟨sx, ns, cs, rfl⟩ : ∃ a n c, sv = .slice a n c := by obtain ⟨a, c, e⟩ := hm.s.form; exact ⟨a, _, c, e⟩
  obtain ⟨aa, na, ca, rfl⟩ : ∃ a n c, av = .slice a n c := by obtain ⟨a, c, e⟩ := hm.a.form; exact ⟨a, _, c, e⟩
  have HS := Lib.hid (show ns = st.length by obtain ⟨a, c, e⟩ := hm.s.form; cases e; rfl)
  have HA := Lib.hid (show na = ad.length by obtain ⟨a, c, e⟩ := hm.a.form; cases e; rfl)
  have hsl : ns ≤ 9007199254740992 := by rw [HS.out]; exact hm.s.1
  have hal : na ≤ 9007199254740992 := by rw [HA.out]; exact hm.a.1
  obtain ⟨sx2, ns2, cs2, rfl⟩ : ∃ a n c, sw = .slice a n c := by obtain ⟨a, c, e⟩ := hm2.s.form; exact ⟨a, _, c, e⟩
  obtain ⟨aa2, na2, ca2, rfl⟩ : ∃ a n c, aw = .slice a n c := by obtain ⟨a, c, e⟩ := hm2.a.form; exact ⟨a, _, c, e⟩
  have HS2 := Lib.hid (show ns2 = st2.length by obtain ⟨a, c, e⟩ := hm2.s.form; cases e; rfl)
  have HA2 := Lib.hid (show na2 = ad2.length by obtain ⟨a, c, e⟩ := hm2.a.form; cases e; rfl)
  have hsl2 : ns2 ≤ 9007199254740992 := by rw [HS2.out]; exact hm2.s.1
  have hal2 : na2 ≤ 9007199254740992 := by rw [HA2.out]; exact hm2.a.1
  obtain ⟨E, hE⟩ : ∃ E, bothE l st ad st2 ad2 = E := ⟨_, rfl⟩
  have HE := Lib.hid hE
  by_cases h0 : E = 0
  rotate_left
  · have HR := Lib.hid (show mergeE l st ad st2 ad2 = E ∧ mergeS l st ad st2 ad2 = [] ∧ mergeA l st ad st2 ad2 = [] by
      have h : mergeE l st ad st2 ad2 = E := by rw [mergeE, hE, if_pos h0]
      rw [mergeS, mergeA, h]; exact ⟨rfl, if_neg h0, if_neg h0⟩)
    have hne : (E != 0) = true := by simpa using h0
    have HNE := Lib.hid (show bothE l st ad st2 ad2 ≠ 0 by rw [hE]; exact h0)
    clear hE h0
    go_enter Try.func27, Try.ntmps27
    go_wp2_with fail
    obtain ⟨B1, hb⟩ : ∃ b, b = W.heap.size := ⟨_, rfl⟩
    have l1 : Lin (W.alloc (.cells #[.slice sx ns cs, .slice aa na ca] 25)) B1 25 [.slice sx ns cs, .slice aa na ca] := by rw [hb]; exact Lin.new _ _ [.slice sx ns cs, .slice aa na ca]
    replace S := S.later (Later.new _ (.cells #[.slice sx ns cs, .slice aa na ca] 25))
    rw [Later.new_w] at S
    replace hm := hm.later (Later.new _ (.cells #[.slice sx ns cs, .slice aa na ca] 25))
    rw [Later.new_w] at hm
    replace hm2 := hm2.later (Later.new _ (.cells #[.slice sx ns cs, .slice aa na ca] 25))
    rw [Later.new_w] at hm2
    have hsz : (W.alloc (.cells #[.slice sx ns cs, .slice aa na ca] 25)).heap.size = B1 + 1 := by rw [hb]; simp
    obtain ⟨Y2, hZ⟩ : ∃ Z : Later W, Z.w = W.alloc (.cells #[.slice sx ns cs, .slice aa na ca] 25) := ⟨Later.new _ _, rfl⟩
    rw [← hZ] at S hsz hm hm2 l1 ⊢
    clear hZ
    rw [← hb]
    clear hb
    have hs2 := hsz
    rw [← hsz]
    clear hsz hs2
    obtain ⟨B3, hb⟩ : ∃ b, b = Y2.w.heap.size := ⟨_, rfl⟩
    have l3 : Lin (Y2.w.alloc (.cells #[.slice sx2 ns2 cs2, .slice aa2 na2 ca2] 25)) B3 25 [.slice sx2 ns2 cs2, .slice aa2 na2 ca2] := by rw [hb]; exact Lin.new _ _ [.slice sx2 ns2 cs2, .slice aa2 na2 ca2]
    replace S := S.later (Later.new _ (.cells #[.slice sx2 ns2 cs2, .slice aa2 na2 ca2] 25))
    rw [Later.new_w] at S
    replace hm := hm.later (Later.new _ (.cells #[.slice sx2 ns2 cs2, .slice aa2 na2 ca2] 25))
    rw [Later.new_w] at hm
    replace hm2 := hm2.later (Later.new _ (.cells #[.slice sx2 ns2 cs2, .slice aa2 na2 ca2] 25))
    rw [Later.new_w] at hm2
    replace l1 := l1.later (Later.new _ (.cells #[.slice sx2 ns2 cs2, .slice aa2 na2 ca2] 25))
    rw [Later.new_w] at l1
    have hsz : (Y2.w.alloc (.cells #[.slice sx2 ns2 cs2, .slice aa2 na2 ca2] 25)).heap.size = B3 + 1 := by rw [hb]; simp
    obtain ⟨Y4, hZ⟩ : ∃ Z : Later W, Z.w = Y2.w.alloc (.cells #[.slice sx2 ns2 cs2, .slice aa2 na2 ca2] 25) := ⟨Y2.step (Later.new _ _), rfl⟩
    rw [← hZ] at S hsz hm hm2 l1 l3 ⊢
    clear hZ
    rw [← hb]
    clear hb
    have hs2 := hsz
    rw [← hsz]
    clear hsz hs2
    obtain ⟨B5, hb⟩ : ∃ b, b = Y4.w.heap.size := ⟨_, rfl⟩
    have hloB5 : W.heap.size ≤ B5 := by rw [hb]; exact Y4.size
    have l5 : Lin (Y4.w.alloc (.cells #[.slice none 0 0, .slice none 0 0] 25)) B5 25 [.slice none 0 0, .slice none 0 0] := by rw [hb]; exact Lin.new _ _ [.slice none 0 0, .slice none 0 0]
    replace S := S.later (Later.new _ (.cells #[.slice none 0 0, .slice none 0 0] 25))
    rw [Later.new_w] at S
    replace hm := hm.later (Later.new _ (.cells #[.slice none 0 0, .slice none 0 0] 25))
    rw [Later.new_w] at hm
    replace hm2 := hm2.later (Later.new _ (.cells #[.slice none 0 0, .slice none 0 0] 25))
    rw [Later.new_w] at hm2
    replace l1 := l1.later (Later.new _ (.cells #[.slice none 0 0, .slice none 0 0] 25))
    rw [Later.new_w] at l1
    replace l3 := l3.later (Later.new _ (.cells #[.slice none 0 0, .slice none 0 0] 25))
    rw [Later.new_w] at l3
    have hsz : (Y4.w.alloc (.cells #[.slice none 0 0, .slice none 0 0] 25)).heap.size = B5 + 1 := by rw [hb]; simp
    obtain ⟨Y6, hZ⟩ : ∃ Z : Later W, Z.w = Y4.w.alloc (.cells #[.slice none 0 0, .slice none 0 0] 25) := ⟨Y4.step (Later.new _ _), rfl⟩
    rw [← hZ] at S hsz hm hm2 l1 l3 l5 ⊢
    clear hZ
    rw [← hb]
    clear hb
    clear hsz
    have q0_0 := l1.cell (k := 0) rfl
    have q0_1 := l1.cell (k := 1) rfl
    have q0_l := l1.lt
    have q1_0 := l3.cell (k := 0) rfl
    have q1_1 := l3.cell (k := 1) rfl
    have q1_l := l3.lt
    go_wp2_with fail
    clear q0_0 q0_1 q0_l
    clear q1_0 q1_1 q1_l
    refine (pages_err l _ _ st ad _ _ st2 ad2 _ hm hm2 HNE.out).mono ?_
    rintro e w' ⟨rfl, y, rfl⟩
    rw [HE.out]
    replace hm := hm.later y
    replace hm2 := hm2.later y
    replace l1 := l1.later y
    replace l3 := l3.later y
    replace l5 := l5.later y
    replace S := S.later y
    obtain ⟨Y7, hZ⟩ : ∃ Z : Later W, Z.w = y.w := ⟨Y6.step (y), rfl⟩
    rw [← hZ] at S hm hm2 l1 l3 l5 ⊢
    clear hZ
    clear y
    have t0 := l5.cell (k := 0) rfl
    have t1' := l5.cell (k := 1) rfl
    have f0 := l5.frozen 0
    have f1 := l5.frozen 1
    have tl := l5.lt
    go_wp2
    refine bodyPost_ret (v := .tuple #[.agg #[.slice none 0 0, .slice none 0 0], .int .i64 E]) (by simp [results, Try.results27, go_sem, t0, t1']) rfl ?_
    refine ⟨_, _, ⟨_, ((Y7.le.setCell (p := ⟨B5, 0, none⟩) hloB5 (.slice none 0 0)).setCell (p := ⟨B5, 1, none⟩) hloB5 (.slice none 0 0))⟩, by rw [HR.out.1], rfl, by rw [HR.out.2.1, HR.out.2.2]; exact ⟨Ints.nil _ _, Strs.nil _ _⟩⟩
  subst h0
  have hok := both_ok hE
  have HLL := Lib.hid (show ad2.length = ad.length by rw [hok.1.al, hok.2.al])
  have HOK := Lib.hid hok
  clear hok
  obtain ⟨C, hC⟩ : ∃ C, clashN ad ad2 = C := ⟨_, rfl⟩
  have HC := Lib.hid hC
  by_cases hc : 0 ≤ C
  · have HR := Lib.hid (show mergeE l st ad st2 ad2 = 21 ∧ mergeS l st ad st2 ad2 = [] ∧ mergeA l st ad st2 ad2 = [] by
      have h : mergeE l st ad st2 ad2 = 21 := by rw [mergeE, hE, hC, if_neg (by simp), if_pos hc]
      rw [mergeS, mergeA, h]; exact ⟨rfl, if_neg (by decide), if_neg (by decide)⟩)
    have hcd : decide (0 ≤ C) = true := by simpa using hc
    clear hE hC
    go_enter Try.func27, Try.ntmps27
    go_wp2_with fail
    obtain ⟨B1, hb⟩ : ∃ b, b = W.heap.size := ⟨_, rfl⟩
    have l1 : Lin (W.alloc (.cells #[.slice sx ns cs, .slice aa na ca] 25)) B1 25 [.slice sx ns cs, .slice aa na ca] := by rw [hb]; exact Lin.new _ _ [.slice sx ns cs, .slice aa na ca]
    replace S := S.later (Later.new _ (.cells #[.slice sx ns cs, .slice aa na ca] 25))
    rw [Later.new_w] at S
    replace hm := hm.later (Later.new _ (.cells #[.slice sx ns cs, .slice aa na ca] 25))
    rw [Later.new_w] at hm
    replace hm2 := hm2.later (Later.new _ (.cells #[.slice sx ns cs, .slice aa na ca] 25))
    rw [Later.new_w] at hm2
    have hsz : (W.alloc (.cells #[.slice sx ns cs, .slice aa na ca] 25)).heap.size = B1 + 1 := by rw [hb]; simp
    obtain ⟨Y2, hZ⟩ : ∃ Z : Later W, Z.w = W.alloc (.cells #[.slice sx ns cs, .slice aa na ca] 25) := ⟨Later.new _ _, rfl⟩
    rw [← hZ] at S hsz hm hm2 l1 ⊢
    clear hZ
    rw [← hb]
    clear hb
    have hs2 := hsz
    rw [← hsz]
    clear hsz hs2
    obtain ⟨B3, hb⟩ : ∃ b, b = Y2.w.heap.size := ⟨_, rfl⟩
    have l3 : Lin (Y2.w.alloc (.cells #[.slice sx2 ns2 cs2, .slice aa2 na2 ca2] 25)) B3 25 [.slice sx2 ns2 cs2, .slice aa2 na2 ca2] := by rw [hb]; exact Lin.new _ _ [.slice sx2 ns2 cs2, .slice aa2 na2 ca2]
    replace S := S.later (Later.new _ (.cells #[.slice sx2 ns2 cs2, .slice aa2 na2 ca2] 25))
    rw [Later.new_w] at S
    replace hm := hm.later (Later.new _ (.cells #[.slice sx2 ns2 cs2, .slice aa2 na2 ca2] 25))
    rw [Later.new_w] at hm
    replace hm2 := hm2.later (Later.new _ (.cells #[.slice sx2 ns2 cs2, .slice aa2 na2 ca2] 25))
    rw [Later.new_w] at hm2
    replace l1 := l1.later (Later.new _ (.cells #[.slice sx2 ns2 cs2, .slice aa2 na2 ca2] 25))
    rw [Later.new_w] at l1
    have hsz : (Y2.w.alloc (.cells #[.slice sx2 ns2 cs2, .slice aa2 na2 ca2] 25)).heap.size = B3 + 1 := by rw [hb]; simp
    obtain ⟨Y4, hZ⟩ : ∃ Z : Later W, Z.w = Y2.w.alloc (.cells #[.slice sx2 ns2 cs2, .slice aa2 na2 ca2] 25) := ⟨Y2.step (Later.new _ _), rfl⟩
    rw [← hZ] at S hsz hm hm2 l1 l3 ⊢
    clear hZ
    rw [← hb]
    clear hb
    have hs2 := hsz
    rw [← hsz]
    clear hsz hs2
    obtain ⟨B5, hb⟩ : ∃ b, b = Y4.w.heap.size := ⟨_, rfl⟩
    have hloB5 : W.heap.size ≤ B5 := by rw [hb]; exact Y4.size
    have l5 : Lin (Y4.w.alloc (.cells #[.slice none 0 0, .slice none 0 0] 25)) B5 25 [.slice none 0 0, .slice none 0 0] := by rw [hb]; exact Lin.new _ _ [.slice none 0 0, .slice none 0 0]
    replace S := S.later (Later.new _ (.cells #[.slice none 0 0, .slice none 0 0] 25))
    rw [Later.new_w] at S
    replace hm := hm.later (Later.new _ (.cells #[.slice none 0 0, .slice none 0 0] 25))
    rw [Later.new_w] at hm
    replace hm2 := hm2.later (Later.new _ (.cells #[.slice none 0 0, .slice none 0 0] 25))
    rw [Later.new_w] at hm2
    replace l1 := l1.later (Later.new _ (.cells #[.slice none 0 0, .slice none 0 0] 25))
    rw [Later.new_w] at l1
    replace l3 := l3.later (Later.new _ (.cells #[.slice none 0 0, .slice none 0 0] 25))
    rw [Later.new_w] at l3
    have hsz : (Y4.w.alloc (.cells #[.slice none 0 0, .slice none 0 0] 25)).heap.size = B5 + 1 := by rw [hb]; simp
    obtain ⟨Y6, hZ⟩ : ∃ Z : Later W, Z.w = Y4.w.alloc (.cells #[.slice none 0 0, .slice none 0 0] 25) := ⟨Y4.step (Later.new _ _), rfl⟩
    rw [← hZ] at S hsz hm hm2 l1 l3 l5 ⊢
    clear hZ
    rw [← hb]
    clear hb
    clear hsz
    have q0_0 := l1.cell (k := 0) rfl
    have q0_1 := l1.cell (k := 1) rfl
    have q0_l := l1.lt
    have q1_0 := l3.cell (k := 0) rfl
    have q1_1 := l3.cell (k := 1) rfl
    have q1_l := l3.lt
    go_wp2_with fail
    clear q0_0 q0_1 q0_l
    clear q1_0 q1_1 q1_l
    refine (pages_ok l _ _ st ad _ _ st2 ad2 _ hm hm2 HE.out).mono ?_
    rintro e w' ⟨b, b2, y, rfl, rfl, hp, hq⟩
    replace hm := hm.later y
    replace hm2 := hm2.later y
    replace l1 := l1.later y
    replace l3 := l3.later y
    replace l5 := l5.later y
    replace S := S.later y
    obtain ⟨Y7, hZ⟩ : ∃ Z : Later W, Z.w = y.w := ⟨Y6.step (y), rfl⟩
    rw [← hZ] at S hm hm2 l1 l3 l5 hp hq ⊢
    clear hZ
    clear y
    go_wp2_with fail
    refine (pclash_calls b b2 l l _ _ st ad _ _ st2 ad2 _ hp hq hm hm2 HLL.out).mono ?_
    rintro e w' ⟨rfl, hw⟩
    rw [hw, HC.out]
    clear hw w'
    have t0 := l5.cell (k := 0) rfl
    have t1' := l5.cell (k := 1) rfl
    have f0 := l5.frozen 0
    have f1 := l5.frozen 1
    have tl := l5.lt
    go_wp2
    refine bodyPost_ret (v := .tuple #[.agg #[.slice none 0 0, .slice none 0 0], .int .i64 21]) (by simp [results, Try.results27, go_sem, t0, t1']) rfl ?_
    refine ⟨_, _, ⟨_, ((Y7.le.setCell (p := ⟨B5, 0, none⟩) hloB5 (.slice none 0 0)).setCell (p := ⟨B5, 1, none⟩) hloB5 (.slice none 0 0))⟩, by rw [HR.out.1], rfl, by rw [HR.out.2.1, HR.out.2.2]; exact ⟨Ints.nil _ _, Strs.nil _ _⟩⟩
  have HR := Lib.hid (show mergeE l st ad st2 ad2 = 0 ∧ mergeS l st ad st2 ad2 = mgS st st2 l.length ∧ mergeA l st ad st2 ad2 = mgA ad ad2 (l.length + 1) by
    have h : mergeE l st ad st2 ad2 = 0 := by rw [mergeE, hE, hC, if_neg (by simp), if_neg hc]
    rw [mergeS, mergeA, h]; exact ⟨rfl, if_pos rfl, if_pos rfl⟩)
  have hcd : decide (0 ≤ C) = false := by simpa using hc
  have HNC := Lib.hid (clashN_none (ad := ad) (ad2 := ad2) (by rw [hC]; exact hc))
  clear hE hC
  obtain ⟨n, hn⟩ : ∃ n, l.length = n := ⟨_, rfl⟩
  have h12 : n ≤ 12 := by rw [← hn]; exact HOK.out.1.l12
  have HL := Lib.hid hn
  have HAL := Lib.hid (show na = n + 1 by rw [HA.out, HOK.out.1.al, hn])
  have HAL2 := Lib.hid (show na2 = n + 1 by rw [HA2.out, HOK.out.2.al, hn])
  rw [hn] at HR
  clear hn
  go_enter Try.func27, Try.ntmps27
  go_wp2_with fail
  obtain ⟨B1, hb⟩ : ∃ b, b = W.heap.size := ⟨_, rfl⟩
  have l1 : Lin (W.alloc (.cells #[.slice sx ns cs, .slice aa na ca] 25)) B1 25 [.slice sx ns cs, .slice aa na ca] := by rw [hb]; exact Lin.new _ _ [.slice sx ns cs, .slice aa na ca]
  replace S := S.later (Later.new _ (.cells #[.slice sx ns cs, .slice aa na ca] 25))
  rw [Later.new_w] at S
  replace hm := hm.later (Later.new _ (.cells #[.slice sx ns cs, .slice aa na ca] 25))
  rw [Later.new_w] at hm
  replace hm2 := hm2.later (Later.new _ (.cells #[.slice sx ns cs, .slice aa na ca] 25))
  rw [Later.new_w] at hm2
  have hsz : (W.alloc (.cells #[.slice sx ns cs, .slice aa na ca] 25)).heap.size = B1 + 1 := by rw [hb]; simp
  obtain ⟨Y2, hZ⟩ : ∃ Z : Later W, Z.w = W.alloc (.cells #[.slice sx ns cs, .slice aa na ca] 25) := ⟨Later.new _ _, rfl⟩
  rw [← hZ] at S hsz hm hm2 l1 ⊢
  clear hZ
  rw [← hb]
  clear hb
  have hs2 := hsz
  rw [← hsz]
  clear hsz hs2
  obtain ⟨B3, hb⟩ : ∃ b, b = Y2.w.heap.size := ⟨_, rfl⟩
  have l3 : Lin (Y2.w.alloc (.cells #[.slice sx2 ns2 cs2, .slice aa2 na2 ca2] 25)) B3 25 [.slice sx2 ns2 cs2, .slice aa2 na2 ca2] := by rw [hb]; exact Lin.new _ _ [.slice sx2 ns2 cs2, .slice aa2 na2 ca2]
  replace S := S.later (Later.new _ (.cells #[.slice sx2 ns2 cs2, .slice aa2 na2 ca2] 25))
  rw [Later.new_w] at S
  replace hm := hm.later (Later.new _ (.cells #[.slice sx2 ns2 cs2, .slice aa2 na2 ca2] 25))
  rw [Later.new_w] at hm
  replace hm2 := hm2.later (Later.new _ (.cells #[.slice sx2 ns2 cs2, .slice aa2 na2 ca2] 25))
  rw [Later.new_w] at hm2
  replace l1 := l1.later (Later.new _ (.cells #[.slice sx2 ns2 cs2, .slice aa2 na2 ca2] 25))
  rw [Later.new_w] at l1
  have hsz : (Y2.w.alloc (.cells #[.slice sx2 ns2 cs2, .slice aa2 na2 ca2] 25)).heap.size = B3 + 1 := by rw [hb]; simp
  obtain ⟨Y4, hZ⟩ : ∃ Z : Later W, Z.w = Y2.w.alloc (.cells #[.slice sx2 ns2 cs2, .slice aa2 na2 ca2] 25) := ⟨Y2.step (Later.new _ _), rfl⟩
  rw [← hZ] at S hsz hm hm2 l1 l3 ⊢
  clear hZ
  rw [← hb]
  clear hb
  have hs2 := hsz
  rw [← hsz]
  clear hsz hs2
  obtain ⟨B5, hb⟩ : ∃ b, b = Y4.w.heap.size := ⟨_, rfl⟩
  have hloB5 : W.heap.size ≤ B5 := by rw [hb]; exact Y4.size
  have l5 : Lin (Y4.w.alloc (.cells #[.slice none 0 0, .slice none 0 0] 25)) B5 25 [.slice none 0 0, .slice none 0 0] := by rw [hb]; exact Lin.new _ _ [.slice none 0 0, .slice none 0 0]
  replace S := S.later (Later.new _ (.cells #[.slice none 0 0, .slice none 0 0] 25))
  rw [Later.new_w] at S
  replace hm := hm.later (Later.new _ (.cells #[.slice none 0 0, .slice none 0 0] 25))
  rw [Later.new_w] at hm
  replace hm2 := hm2.later (Later.new _ (.cells #[.slice none 0 0, .slice none 0 0] 25))
  rw [Later.new_w] at hm2
  replace l1 := l1.later (Later.new _ (.cells #[.slice none 0 0, .slice none 0 0] 25))
  rw [Later.new_w] at l1
  replace l3 := l3.later (Later.new _ (.cells #[.slice none 0 0, .slice none 0 0] 25))
  rw [Later.new_w] at l3
  have hsz : (Y4.w.alloc (.cells #[.slice none 0 0, .slice none 0 0] 25)).heap.size = B5 + 1 := by rw [hb]; simp
  obtain ⟨Y6, hZ⟩ : ∃ Z : Later W, Z.w = Y4.w.alloc (.cells #[.slice none 0 0, .slice none 0 0] 25) := ⟨Y4.step (Later.new _ _), rfl⟩
  rw [← hZ] at S hsz hm hm2 l1 l3 l5 ⊢
  clear hZ
  rw [← hb]
  clear hb
  clear hsz
  have q0_0 := l1.cell (k := 0) rfl
  have q0_1 := l1.cell (k := 1) rfl
  have q0_l := l1.lt
  have q1_0 := l3.cell (k := 0) rfl
  have q1_1 := l3.cell (k := 1) rfl
  have q1_l := l3.lt
  go_wp2_with fail
  clear q0_0 q0_1 q0_l
  clear q1_0 q1_1 q1_l
  refine (pages_ok l _ _ st ad _ _ st2 ad2 _ hm hm2 HE.out).mono ?_
  rintro e w' ⟨b, b2, y, rfl, rfl, hp, hq⟩
  replace hm := hm.later y
  replace hm2 := hm2.later y
  replace l1 := l1.later y
  replace l3 := l3.later y
  replace l5 := l5.later y
  replace S := S.later y
  obtain ⟨Y7, hZ⟩ : ∃ Z : Later W, Z.w = y.w := ⟨Y6.step (y), rfl⟩
  rw [← hZ] at S hm hm2 l1 l3 l5 hp hq ⊢
  clear hZ
  clear y
  have hsz : (⟨l.toArray⟩ : ByteArray).size = n := by rw [str_size]; exact HL.out
  go_wp2_with fail
  refine (pclash_calls b b2 l l _ _ st ad _ _ st2 ad2 _ hp hq hm hm2 HLL.out).mono ?_
  rintro e w' ⟨rfl, hw⟩
  rw [hw, HC.out]
  clear hw w'
  go_wp2
  have hRY : B5 < Y7.w.heap.size := l5.lt
  have hm_Y := hm
  have hm2_Y := hm2
  have l1_Y := l1
  have l3_Y := l3
  have l5_Y := l5
  have hp_Y := hp
  have hq_Y := hq
  have S_Y := S
  obtain ⟨B8, hb⟩ : ∃ b, b = Y7.w.heap.size := ⟨_, rfl⟩
  have hloB8 : Y7.w.heap.size ≤ B8 := by rw [hb]; exact Nat.le_refl _
  have l8 : Lin (Y7.w.alloc (.cells #[.slice none 0 0, .slice none 0 0] 25)) B8 25 [.slice none 0 0, .slice none 0 0] := by rw [hb]; exact Lin.new _ _ [.slice none 0 0, .slice none 0 0]
  replace S := S.later (Later.new _ (.cells #[.slice none 0 0, .slice none 0 0] 25))
  rw [Later.new_w] at S
  replace hm := hm.later (Later.new _ (.cells #[.slice none 0 0, .slice none 0 0] 25))
  rw [Later.new_w] at hm
  replace hm2 := hm2.later (Later.new _ (.cells #[.slice none 0 0, .slice none 0 0] 25))
  rw [Later.new_w] at hm2
  replace l1 := l1.later (Later.new _ (.cells #[.slice none 0 0, .slice none 0 0] 25))
  rw [Later.new_w] at l1
  replace l3 := l3.later (Later.new _ (.cells #[.slice none 0 0, .slice none 0 0] 25))
  rw [Later.new_w] at l3
  replace l5 := l5.later (Later.new _ (.cells #[.slice none 0 0, .slice none 0 0] 25))
  rw [Later.new_w] at l5
  replace hp := hp.later (Later.new _ (.cells #[.slice none 0 0, .slice none 0 0] 25))
  rw [Later.new_w] at hp
  replace hq := hq.later (Later.new _ (.cells #[.slice none 0 0, .slice none 0 0] 25))
  rw [Later.new_w] at hq
  have hsz : (Y7.w.alloc (.cells #[.slice none 0 0, .slice none 0 0] 25)).heap.size = B8 + 1 := by rw [hb]; simp
  obtain ⟨Y9, hZ⟩ : ∃ Z : Later Y7.w, Z.w = Y7.w.alloc (.cells #[.slice none 0 0, .slice none 0 0] 25) := ⟨Later.new _ _, rfl⟩
  rw [← hZ] at S hsz hm hm2 l1 l3 l5 hp hq l8 ⊢
  clear hZ
  rw [← hb]
  clear hb
  have hbm := Bm.new Y9.le l8 hloB8
  clear hsz l8 hm hm2 l1 l3 l5 hp hq S
  have hm := hm_Y
  clear hm_Y
  have hm2 := hm2_Y
  clear hm2_Y
  have l1 := l1_Y
  clear l1_Y
  have l3 := l3_Y
  clear l3_Y
  have l5 := l5_Y
  clear l5_Y
  have hp := hp_Y
  clear hp_Y
  have hq := hq_Y
  clear hq_Y
  have S := S_Y
  clear S_Y
  have hsz : (⟨l.toArray⟩ : ByteArray).size = n := by rw [str_size]; exact HL.out
  go_loopw [12, 36] (fun _ i0 wr => ∃ (k : Nat) (V : Later Y7.w) (sx' : Value), wr = V.w ∧ k ≤ n ∧ i0 = .int .i64 k ∧ Bm Y7.w V.w B8 sx' (.slice none 0 0) sx' (.slice none 0 0) (mgS st st2 k) []) (fun _ i0 _ => n - (intOf i0).toNat)
  case atStart => exact ⟨0, Y9, _, rfl, Nat.zero_le _, rfl, hbm⟩
  clear hbm
  obtain ⟨k, V, sx', rfl, hk, rfl, hbm⟩ := hrel
  obtain ⟨a0, n0, c0, rfl⟩ := hbm.s.form'
  by_cases hlt : k < n
  · replace hm := hm.later V
    replace hm2 := hm2.later V
    replace l1 := l1.later V
    replace l3 := l3.later V
    replace l5 := l5.later V
    replace hp := hp.later V
    replace hq := hq.later V
    replace S := S.later V
    have hmg := mgS_len st st2 k
    have hsx := mgS_succ st st2 k
    obtain ⟨P, hP⟩ : ∃ P, hasB st k = P := ⟨_, rfl⟩
    obtain ⟨Q, hQ⟩ : ∃ P, hasB st2 k = P := ⟨_, rfl⟩
    rw [hP, hQ] at hsx
    have HP := Lib.hid hP
    have HQ := Lib.hid hQ
    clear hP hQ
    cases P
    all_goals cases Q
    · have HSX := Lib.hid (show mgS st st2 (k + 1) = mgS st st2 k by rw [hsx]; simp)
      clear hsx
      go_wp2_with fail
      refine (strikes_calls b _ _ l st k _ hp hm.s).mono ?_
      rintro e w' ⟨rfl, hw⟩
      rw [hw, HP.out]
      clear hw w'
      go_wp2_with fail
      refine (strikes_calls b2 _ _ l st2 k _ hq hm2.s).mono ?_
      rintro e w' ⟨rfl, hw⟩
      rw [hw, HQ.out]
      clear hw w'
      go_wp2
      go_roundw
      case rel => first | exact ⟨k + 1, V, _, rfl, by omega, by go_num, by rw [HSX.out]; exact hbm⟩ | ((repeat apply Exists.intro); exact ⟨⟨k + 1, V, _, rfl, by omega, by go_num, by rw [HSX.out]; exact hbm⟩, rfl⟩)
      case measure => simp [intOf]; omega
    · have HSX := Lib.hid (show mgS st st2 (k + 1) = mgS st st2 k ++ [(k : Int)] by rw [hsx]; simp)
      clear hsx
      go_wp2_with fail
      refine (strikes_calls b _ _ l st k _ hp hm.s).mono ?_
      rintro e w' ⟨rfl, hw⟩
      rw [hw, HP.out]
      clear hw w'
      go_wp2_with fail
      refine (strikes_calls b2 _ _ l st2 k _ hq hm2.s).mono ?_
      rintro e w' ⟨rfl, hw⟩
      rw [hw, HQ.out]
      clear hw w'
      have hA := hbm.later (Later.new V.w (.cells #[.int .i64 k] 3))
      rw [Later.new_w] at hA
      obtain ⟨v6, w6, hr6, hb6⟩ := hA.appS V.w.heap.size 1 _ (by simp [go_sem]; rfl) (by omega) 22
      obtain ⟨a7, n7, c7, rfl⟩ := hb6.s.form'
      have HR6 := Lib.hid hr6
      clear hr6 hA
      have lT := hbm.lin
      have u0 := lT.cell (k := 0) rfl
      have uT := lT.lt
      have lX8 := hb6.lin
      have v1' := lX8.cell (k := 0) rfl
      have v1f := lX8.frozen 0
      have v1l := lX8.lt
      have HB9 := Lib.hid hb6.setS
      clear lT lX8 hb6 hbm
      go_wp2_with ((with_reducible show wpList _ _ _ (⟨some 51, _, _, _, _, _⟩ :: _) _ _); refine Lib.wpList_append_run_sl _ rfl _ _ 22 rfl _ _ rfl rfl HR6.out ?_)
      go_roundw
      case rel => first | exact ⟨k + 1, ⟨_, HB9.out.le⟩, _, rfl, by omega, by go_num, by rw [HSX.out]; exact HB9.out⟩ | ((repeat apply Exists.intro); exact ⟨⟨k + 1, ⟨_, HB9.out.le⟩, _, rfl, by omega, by go_num, by rw [HSX.out]; exact HB9.out⟩, rfl⟩)
      case measure => simp [intOf]; omega
    · have HSX := Lib.hid (show mgS st st2 (k + 1) = mgS st st2 k ++ [(k : Int)] by rw [hsx]; simp)
      clear hsx
      go_wp2_with fail
      refine (strikes_calls b _ _ l st k _ hp hm.s).mono ?_
      rintro e w' ⟨rfl, hw⟩
      rw [hw, HP.out]
      clear hw w'
      have hA := hbm.later (Later.new V.w (.cells #[.int .i64 k] 3))
      rw [Later.new_w] at hA
      obtain ⟨v6, w6, hr6, hb6⟩ := hA.appS V.w.heap.size 1 _ (by simp [go_sem]; rfl) (by omega) 22
      obtain ⟨a7, n7, c7, rfl⟩ := hb6.s.form'
      have HR6 := Lib.hid hr6
      clear hr6 hA
      have lT := hbm.lin
      have u0 := lT.cell (k := 0) rfl
      have uT := lT.lt
      have lX8 := hb6.lin
      have v1' := lX8.cell (k := 0) rfl
      have v1f := lX8.frozen 0
      have v1l := lX8.lt
      have HB9 := Lib.hid hb6.setS
      clear lT lX8 hb6 hbm
      go_wp2_with ((with_reducible show wpList _ _ _ (⟨some 51, _, _, _, _, _⟩ :: _) _ _); refine Lib.wpList_append_run_sl _ rfl _ _ 22 rfl _ _ rfl rfl HR6.out ?_)
      go_roundw
      case rel => first | exact ⟨k + 1, ⟨_, HB9.out.le⟩, _, rfl, by omega, by go_num, by rw [HSX.out]; exact HB9.out⟩ | ((repeat apply Exists.intro); exact ⟨⟨k + 1, ⟨_, HB9.out.le⟩, _, rfl, by omega, by go_num, by rw [HSX.out]; exact HB9.out⟩, rfl⟩)
      case measure => simp [intOf]; omega
    · have HSX := Lib.hid (show mgS st st2 (k + 1) = mgS st st2 k ++ [(k : Int)] by rw [hsx]; simp)
      clear hsx
      go_wp2_with fail
      refine (strikes_calls b _ _ l st k _ hp hm.s).mono ?_
      rintro e w' ⟨rfl, hw⟩
      rw [hw, HP.out]
      clear hw w'
      have hA := hbm.later (Later.new V.w (.cells #[.int .i64 k] 3))
      rw [Later.new_w] at hA
      obtain ⟨v6, w6, hr6, hb6⟩ := hA.appS V.w.heap.size 1 _ (by simp [go_sem]; rfl) (by omega) 22
      obtain ⟨a7, n7, c7, rfl⟩ := hb6.s.form'
      have HR6 := Lib.hid hr6
      clear hr6 hA
      have lT := hbm.lin
      have u0 := lT.cell (k := 0) rfl
      have uT := lT.lt
      have lX8 := hb6.lin
      have v1' := lX8.cell (k := 0) rfl
      have v1f := lX8.frozen 0
      have v1l := lX8.lt
      have HB9 := Lib.hid hb6.setS
      clear lT lX8 hb6 hbm
      go_wp2_with ((with_reducible show wpList _ _ _ (⟨some 51, _, _, _, _, _⟩ :: _) _ _); refine Lib.wpList_append_run_sl _ rfl _ _ 22 rfl _ _ rfl rfl HR6.out ?_)
      go_roundw
      case rel => first | exact ⟨k + 1, ⟨_, HB9.out.le⟩, _, rfl, by omega, by go_num, by rw [HSX.out]; exact HB9.out⟩ | ((repeat apply Exists.intro); exact ⟨⟨k + 1, ⟨_, HB9.out.le⟩, _, rfl, by omega, by go_num, by rw [HSX.out]; exact HB9.out⟩, rfl⟩)
      case measure => simp [intOf]; omega
  obtain rfl : n = k := by omega
  clear hk
  have l1_V := l1.later V
  have p_0 := l1_V.cell (k := 0) rfl
  have p_1 := l1_V.cell (k := 1) rfl
  have p_l := l1_V.lt
  go_wp2
  clear p_0 p_1 p_l l1_V
  go_loopw [13, 14, 57] (fun _ _ i0 wr => ∃ (k : Nat) (V : Later Y7.w) (ax' : Value), wr = V.w ∧ k ≤ n + 1 ∧ i0 = .int .i64 k ∧ Bm Y7.w V.w B8 (.slice a0 n0 c0) ax' (.slice a0 n0 c0) ax' (mgS st st2 n) (mgA ad ad2 k)) (fun _ _ i0 _ => n + 1 - (intOf i0).toNat)
  case atStart => exact ⟨0, V, _, rfl, Nat.zero_le _, rfl, hbm⟩
  clear hbm hlt
  obtain ⟨k, V2, ax', rfl, hk, rfl, hbm⟩ := hrel
  obtain ⟨g0, m0, d0, rfl⟩ := hbm.a.form'
  by_cases hlt : k < n + 1
  · replace hm := hm.later V2
    replace hm2 := hm2.later V2
    replace l1 := l1.later V2
    replace l3 := l3.later V2
    replace l5 := l5.later V2
    replace hp := hp.later V2
    replace hq := hq.later V2
    replace S := S.later V2
    have hkna : k < na := by have := HAL.out; omega
    have hkna2 : k < na2 := by have := HAL2.out; omega
    have hmg := mgA_len ad ad2 k
    have hsx := mgA_succ ad ad2 k
    have hbe := best_eq (HNC.out k (by rw [← HA.out]; exact hkna))
    obtain ⟨ba, oa, ka, e, hka, hba, hga⟩ := hm.a.at (k := k) (by rw [← HA.out]; exact hkna)
    injection e with e1 e2 e3
    subst e1 e3
    have qa := hga k (by rw [← HA.out]; exact hkna)
    clear hga e2
    obtain ⟨bb, ob, kb, e, hkb, hbb, hgb⟩ := hm2.a.at (k := k) (by rw [← HA2.out]; exact hkna2)
    injection e with e1 e2 e3
    subst e1 e3
    have qb := hgb k (by rw [← HA2.out]; exact hkna2)
    clear hgb e2
    obtain ⟨x, hx⟩ : ∃ v, sat ad k = v := ⟨_, rfl⟩
    obtain ⟨y, hy⟩ : ∃ v, sat ad2 k = v := ⟨_, rfl⟩
    rw [hx] at qa hsx hbe
    rw [hy] at qb hsx hbe
    rw [← hbe] at hsx
    clear hx hy hbe
    obtain ⟨z, hz⟩ : ∃ z, bestS x y = z := ⟨_, rfl⟩
    rw [hz] at hsx
    have HZ := Lib.hid hz
    have HSX := Lib.hid hsx
    clear hz hsx
    have r_0 := l3.cell (k := 0) rfl
    have r_1 := l3.cell (k := 1) rfl
    have r_l := l3.lt
    have lT := hbm.lin
    have u1 := lT.cell (k := 1) rfl
    have uT := lT.lt
    clear lT
    go_wp2
    refine Mix.region_mixL (Mix.kinds [8, 10] [9] [11, 12, 13]) (by kernel_rfl) (by kernel_rfl) ?_
    repeat ((with_reducible refine Mix.atCons ?_); first | refine Mix.skipU (by rfl) rfl (by rfl) ?_ | (refine Mix.val rfl rfl (by rfl) (fun K hK => ?_); go_big_quiet_op; refine hK _ ?_; clear hK K) | (refine Mix.skip (by rfl) ?_; go_frame))
    refine Mix.new rfl (by rfl) (fun b => .slice (some ⟨b, 0, none⟩) 2 2) (.cells #[.string ⟨x.toArray⟩, .string ⟨y.toArray⟩] 9) (fun w => by simp [go_sem]) (fun E0 x1 hE0 hx1 => ?_)
    try go_frame
    repeat ((with_reducible refine Mix.atCons ?_); first | refine Mix.skipU (by rfl) rfl (by rfl) ?_ | (refine Mix.val rfl rfl (by rfl) (fun K hK => ?_); go_big_quiet_op; refine hK _ ?_; clear hK K) | (refine Mix.skip (by rfl) ?_; go_frame))
    refine Mix.loud rfl (by rfl) (fun x2 K hK => ?_)
    have hc : ∀ i v, (#[Value.string ⟨x.toArray⟩, .string ⟨y.toArray⟩] : Array Value)[i]? = some v → x2.w.cell? ⟨E0, i, none⟩ = some v := fun i v hi => by
      have h1 := (x2.le.block E0 (Array.getElem?_eq_some_iff.1 hx1).1).trans hx1
      simpa [World.cell?, h1] using hi
    have hc0 := hc 0 _ rfl
    have hc1 := hc 1 _ rfl
    clear hc
    go_wp2_with fail
    refine (best_calls E0 2 x y _ (Nat.le_refl _) hc0 hc1).mono ?_
    rintro e w' ⟨rfl, hw⟩
    rw [hw, HZ.out]
    refine hK _ (Later.self _) ?_
    clear hK K hw w' hc0 hc1
    simp only [Later.self_w]
    try go_frame
    repeat ((with_reducible refine Mix.atCons ?_); first | refine Mix.skipU (by rfl) rfl (by rfl) ?_ | (refine Mix.val rfl rfl (by rfl) (fun K hK => ?_); go_big_quiet_op; refine hK _ ?_; clear hK K) | (refine Mix.skip (by rfl) ?_; go_frame))
    refine Mix.new rfl (by rfl) (fun b => .slice (some ⟨b, 0, none⟩) 1 1) (.cells #[.string ⟨z.toArray⟩] 9) (fun w => by simp [go_sem]) (fun E4 x4 hE4 hx4 => ?_)
    try go_frame
    repeat ((with_reducible refine Mix.atCons ?_); first | refine Mix.skipU (by rfl) rfl (by rfl) ?_ | (refine Mix.val rfl rfl (by rfl) (fun K hK => ?_); go_big_quiet_op; refine hK _ ?_; clear hK K) | (refine Mix.skip (by rfl) ?_; go_frame))
    refine Mix.lastR rfl (by rfl) (by decide) (fun x5 K5 hK5 => ?_)
    have hb5 := (((hbm.later x1).later x2).later x4).later x5
    have hc0 : x5.w.cell? ⟨E4, 0, none⟩ = some (.string ⟨z.toArray⟩) := by
      have h1 := (x5.le.block E4 (Array.getElem?_eq_some_iff.1 hx4).1).trans hx4
      simp [World.cell?, h1]
    obtain ⟨v6, w6, hr6, hb6⟩ := hb5.appA E4 1 z hc0 (by omega) 23
    obtain ⟨a7, n7, c7, rfl⟩ := hb6.a.form'
    refine Lib.wp_append_run_sl _ _ _ 23 rfl _ _ rfl rfl hr6 ?_
    refine hK5 _ _ ?_
    clear hK5 K5 hr6 hc0 hb5 hx4
    try go_frame
    refine Mix.lastR rfl (by rfl) (by decide) (fun x7 K7 hK7 => ?_)
    go_wp2_with fail
    try go_frame
    refine Mix.last rfl (by rfl) (fun x8 K8 hK8 => ?_)
    have hb8 := (hb6.later x7).later x8
    have lX8 := hb8.lin
    have v1' := lX8.cell (k := 1) rfl
    have v1f := lX8.frozen 1
    have v1l := lX8.lt
    have HB9 := Lib.hid hb8.setA
    clear hb8 lX8 hb6
    go_wp2_with fail
    clear v1' v1f v1l
    refine Mix.done (fun x9 => ?_)
    have hb9 := HB9.out.later x9
    obtain ⟨V9, hV9⟩ : ∃ V : Later Y7.w, V.w = x9.w := ⟨⟨_, hb9.le⟩, rfl⟩
    rw [← hV9] at hb9 ⊢
    clear hV9 HB9 x9 u1 uT r_0 r_1 r_l
    go_wp2
    go_roundw
    case rel => first | exact ⟨k + 1, V9, _, rfl, by omega, by go_num, by rw [HSX.out]; exact hb9⟩ | ((repeat apply Exists.intro); exact ⟨⟨k + 1, V9, _, rfl, by omega, by go_num, by rw [HSX.out]; exact hb9⟩, rfl⟩)
    case measure => simp [intOf]; omega
  obtain rfl : k = n + 1 := by omega
  have hlS := mgS_len st st2 n
  have hlA := mgA_len ad ad2 (n + 1)
  have hna1 : na ≤ n + 1 := by have := HAL.out; omega
  replace hm := hm.later V2
  replace hm2 := hm2.later V2
  replace l1 := l1.later V2
  replace l3 := l3.later V2
  replace l5 := l5.later V2
  replace hp := hp.later V2
  replace hq := hq.later V2
  replace S := S.later V2
  have t0 := l5.cell (k := 0) rfl
  have t1' := l5.cell (k := 1) rfl
  have f0 := l5.frozen 0
  have f1 := l5.frozen 1
  have tl := l5.lt
  have lT := hbm.lin
  have z0 := lT.cell (k := 0) rfl
  have z1 := lT.cell (k := 1) rfl
  have zl := lT.lt
  clear lT
  go_wp2
  refine bodyPost_ret (v := .tuple #[.agg #[.slice a0 n0 c0, .slice g0 m0 d0], .int .i64 0]) (by simp [results, Try.results27, go_sem, t0, t1']) rfl ?_
  refine ⟨_, _, ⟨_, (((Y7.step V2).le.setCell (p := ⟨B5, 0, none⟩) hloB5 (.slice a0 n0 c0)).setCell (p := ⟨B5, 1, none⟩) hloB5 (.slice g0 m0 d0))⟩, by rw [HR.out.1], rfl, by rw [HR.out.2.1, HR.out.2.2]; exact hbm.past hRY _ _ (by omega) (by omega)⟩
end Go.Proofs.Ytpkgfkeekcgkcaa
