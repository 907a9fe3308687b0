import Derived.Test.YtpkgfkeekcgkcaaKE
import Derived.Laws.IdiomStrings
import Derived.Test.YtpkgfkeekcgkcaaKD
/-  The laws' own functions: equal lists, equal marks, what is too great. -/
namespace Go.Proofs.Ytpkgfkeekcgkcaa
open Go.RowKit
/-- two lists are equal -/
def eqF : List Int → List Int → Bool
  | x :: xs, y :: ys => x == y && eqF xs ys
  | _, _ => true
def eqI (xs ys : List Int) : Bool := decide (xs.length = ys.length) && eqF xs ys
theorem eqF_at (xs ys : List Int) (k : Nat) (h : k < xs.length) (h' : k < ys.length) : eqF (xs.drop k) (ys.drop k) = (nth xs k == nth ys k && eqF (xs.drop (k + 1)) (ys.drop (k + 1))) := by
  rw [List.drop_eq_getElem_cons h, List.drop_eq_getElem_cons h', eqF, nth_eq h, nth_eq h']
theorem eqF_end (xs ys : List Int) (k : Nat) (h : xs.length ≤ k) : eqF (xs.drop k) (ys.drop k) = true := by
  rw [List.drop_eq_nil_of_le h, eqF]; simp
theorem eqF_iff : ∀ (xs ys : List Int), xs.length = ys.length → (eqF xs ys = true ↔ xs = ys)
  | [], [], _ => by simp [eqF]
  | x :: xs, y :: ys, h => by
    rw [eqF, Bool.and_eq_true, eqF_iff xs ys (by simpa using h)]
    simp
theorem eqI_iff (xs ys : List Int) : eqI xs ys = true ↔ xs = ys := by
  rw [eqI, Bool.and_eq_true, decide_eq_true_iff]
  constructor
  · rintro ⟨h, h2⟩; exact (eqF_iff xs ys h).1 h2
  · rintro rfl; exact ⟨rfl, (eqF_iff xs xs rfl).2 rfl⟩
theorem eqI_eq (xs ys : List Int) : eqI xs ys = decide (xs = ys) := by
  rw [Bool.eq_iff_iff, eqI_iff, decide_eq_true_iff]

set_option maxRecDepth 100000 in
set_option maxHeartbeats 1000000 in
theorem IntsEq_calls (u v : Value) (xs ys : List Int) (w : World) (hx : Ints w u xs) (hy : Ints w v ys) :
    Calls Try.prog 41 #[u, v] w (Gives (.bool (eqI xs ys)) w) := by
  have hlx := hx.1
  have hly := hy.1
  obtain ⟨au, cu, rfl⟩ := hx.form
  obtain ⟨av, cv, rfl⟩ := hy.form
  go_enter Try.func41, Try.ntmps41
  by_cases hl : xs.length = ys.length
  rotate_left
  · have hv := Lib.hid (show eqI xs ys = false by rw [eqI, decide_eq_false hl]; rfl)
    have hne : ((xs.length : Int) != (ys.length : Int)) = true := by simp; omega
    go_wp2
    go_ret
    exact ⟨ret_bool hv.out.symm, Later.self _, rfl⟩
  · have hv := Lib.hid (show eqI xs ys = eqF xs ys by rw [eqI, decide_eq_true hl]; rfl)
    have hne : ((xs.length : Int) != (ys.length : Int)) = false := by simp; omega
    have hl := Lib.hid hl
    go_wp2
    go_loopw [5] (fun i wr => ∃ k : Nat, ∃ x : Later w, wr = x.w ∧ k ≤ xs.length ∧ i = .int .i64 k ∧ Hid (eqF xs ys = eqF (xs.drop k) (ys.drop k))) (fun i _ => xs.length - (intOf i).toNat)
    case atStart => exact ⟨0, Later.self _, rfl, Nat.zero_le _, rfl, rfl⟩
    case round =>
      obtain ⟨k, x, rfl, hk, rfl, hp⟩ := hrel
      by_cases hlt : k < xs.length
      · have hlt' : k < ys.length := by have := hl.out; omega
        obtain ⟨bx, ox, cx, e, hcx, hbx, hgx⟩ := hx.at hlt
        cases e
        obtain ⟨by', oy, cy, e, hcy, hby, hgy⟩ := hy.at hlt'
        cases e
        have gx := (x.cell hbx).trans (hgx k hlt)
        have gy := (x.cell hby).trans (hgy k hlt')
        have sx : bx < x.w.heap.size := Nat.lt_of_lt_of_le hbx x.size
        have sy : by' < x.w.heap.size := Nat.lt_of_lt_of_le hby x.size
        have hs := Lib.hid (eqF_at xs ys k hlt hlt')
        clear hgx hgy
        cases he : (nth xs k == nth ys k)
        all_goals
          have hne2 : (nth xs k != nth ys k) = !(nth xs k == nth ys k) := rfl
          rw [he] at hne2
          go_wp2
          refine Mix.region_mixL (Mix.kinds [] [] []) (by kernel_rfl) (by kernel_rfl) ?_
          repeat ((with_reducible refine Mix.atCons ?_); first | refine Mix.skipU (by rfl) rfl (by rfl) ?_ | (refine Mix.val rfl rfl (by rfl) (fun K hK => ?_); go_big_quiet_op; refine hK _ ?_; clear hK K) | simp only [hne2] | (refine Mix.skip (by rfl) ?_; go_frame))
          refine Mix.done (fun z => ?_)
          go_wp2
        · go_ret
          exact ⟨ret_bool (by rw [hv.out, hp.out, hs.out, he]; rfl), x.step z, rfl⟩
        · go_roundw
          case rel => exact ⟨k + 1, x.step z, rfl, by omega, by go_num, by unfold Hid; rw [hp.out, hs.out, he, Bool.true_and]⟩
          case measure => simp [intOf]; omega
      · have he := Lib.hid (eqF_end xs ys k (by omega))
        go_wp2
        go_ret
        exact ⟨ret_bool (by rw [hv.out, hp.out, he.out]), x, rfl⟩
theorem Ints_calls (u v : Value) (xs ys : List Int) (w : World) (hx : Ints w u xs) (hy : Ints w v ys) :
    Calls Try.prog 41 #[u, v] w (Gives (.bool (decide (xs = ys))) w) := by
  rw [← eqI_eq]; exact IntsEq_calls u v xs ys w hx hy
/-- two lists of strings are equal, as far as the k-th -/
theorem sat_ext {xs ys : List (List UInt8)} (hl : xs.length = ys.length) (h : ∀ j, j < xs.length → (sat xs j == sat ys j) = true) : xs = ys := by
  refine List.ext_getElem hl fun i h1 h2 => ?_
  have := h i h1
  rw [sat_eq h1, sat_eq h2] at this
  simpa using this
def sameM (st : List Int) (ad : List (List UInt8)) (st2 : List Int) (ad2 : List (List UInt8)) : Bool := decide (st = st2) && decide (ad = ad2)
set_option maxRecDepth 100000 in
set_option maxHeartbeats 4000000 in
theorem Same_calls (sv av : Value) (st : List Int) (ad : List (List UInt8)) (sw aw : Value) (st2 : List Int) (ad2 : List (List UInt8)) (W : World) (hm : Mks W sv av st ad) (hm2 : Mks W sw aw st2 ad2) :
    Calls Try.prog 26 #[.agg #[sv, av], .agg #[sw, aw]] W (Gives (.bool (sameM st ad st2 ad2)) W) := by
  have S : Ins W [] := Ins.nil _
  obtain ⟨sx, ns, cs, rfl⟩ : ∃ a n c, sv = .slice a n c := by obtain ⟨a, c, e⟩ := hm.s.form; exact ⟨a, _, c, e⟩
  obtain ⟨aa, na, ca, rfl⟩ : ∃ a n c, av = .slice a n c := by obtain ⟨a, c, e⟩ := hm.a.form; exact ⟨a, _, c, e⟩
  have HS := Lib.hid (show ns = st.length by obtain ⟨a, c, e⟩ := hm.s.form; cases e; rfl)
  have HA := Lib.hid (show na = ad.length by obtain ⟨a, c, e⟩ := hm.a.form; cases e; rfl)
  have hsl : ns ≤ 9007199254740992 := by rw [HS.out]; exact hm.s.1
  have hal : na ≤ 9007199254740992 := by rw [HA.out]; exact hm.a.1
  obtain ⟨sx2, ns2, cs2, rfl⟩ : ∃ a n c, sw = .slice a n c := by obtain ⟨a, c, e⟩ := hm2.s.form; exact ⟨a, _, c, e⟩
  obtain ⟨aa2, na2, ca2, rfl⟩ : ∃ a n c, aw = .slice a n c := by obtain ⟨a, c, e⟩ := hm2.a.form; exact ⟨a, _, c, e⟩
  have HS2 := Lib.hid (show ns2 = st2.length by obtain ⟨a, c, e⟩ := hm2.s.form; cases e; rfl)
  have HA2 := Lib.hid (show na2 = ad2.length by obtain ⟨a, c, e⟩ := hm2.a.form; cases e; rfl)
  have hsl2 : ns2 ≤ 9007199254740992 := by rw [HS2.out]; exact hm2.s.1
  have hal2 : na2 ≤ 9007199254740992 := by rw [HA2.out]; exact hm2.a.1
  by_cases h0 : st = st2
  rotate_left
  · have HE := Lib.hid (decide_eq_false h0)
    have HR := Lib.hid (show sameM st ad st2 ad2 = false by rw [sameM, decide_eq_false h0]; rfl)
    clear h0
    go_enter Try.func26, Try.ntmps26
    go_wp2_with fail
    obtain ⟨B1, hb⟩ : ∃ b, b = W.heap.size := ⟨_, rfl⟩
    have l1 : Lin (W.alloc (.cells #[.slice sx ns cs, .slice aa na ca] 25)) B1 25 [.slice sx ns cs, .slice aa na ca] := by rw [hb]; exact Lin.new _ _ [.slice sx ns cs, .slice aa na ca]
    replace S := S.later (Later.new _ (.cells #[.slice sx ns cs, .slice aa na ca] 25))
    rw [Later.new_w] at S
    replace hm := hm.later (Later.new _ (.cells #[.slice sx ns cs, .slice aa na ca] 25))
    rw [Later.new_w] at hm
    replace hm2 := hm2.later (Later.new _ (.cells #[.slice sx ns cs, .slice aa na ca] 25))
    rw [Later.new_w] at hm2
    have hsz : (W.alloc (.cells #[.slice sx ns cs, .slice aa na ca] 25)).heap.size = B1 + 1 := by rw [hb]; simp
    obtain ⟨Y2, hZ⟩ : ∃ Z : Later W, Z.w = W.alloc (.cells #[.slice sx ns cs, .slice aa na ca] 25) := ⟨Later.new _ _, rfl⟩
    rw [← hZ] at S hsz hm hm2 l1 ⊢
    clear hZ
    rw [← hb]
    clear hb
    have hs2 := hsz
    rw [← hsz]
    clear hsz
    obtain ⟨B3, hb⟩ : ∃ b, b = Y2.w.heap.size := ⟨_, rfl⟩
    have l3 : Lin (Y2.w.alloc (.cells #[.slice sx2 ns2 cs2, .slice aa2 na2 ca2] 25)) B3 25 [.slice sx2 ns2 cs2, .slice aa2 na2 ca2] := by rw [hb]; exact Lin.new _ _ [.slice sx2 ns2 cs2, .slice aa2 na2 ca2]
    replace S := S.later (Later.new _ (.cells #[.slice sx2 ns2 cs2, .slice aa2 na2 ca2] 25))
    rw [Later.new_w] at S
    replace hm := hm.later (Later.new _ (.cells #[.slice sx2 ns2 cs2, .slice aa2 na2 ca2] 25))
    rw [Later.new_w] at hm
    replace hm2 := hm2.later (Later.new _ (.cells #[.slice sx2 ns2 cs2, .slice aa2 na2 ca2] 25))
    rw [Later.new_w] at hm2
    replace l1 := l1.later (Later.new _ (.cells #[.slice sx2 ns2 cs2, .slice aa2 na2 ca2] 25))
    rw [Later.new_w] at l1
    have hsz : (Y2.w.alloc (.cells #[.slice sx2 ns2 cs2, .slice aa2 na2 ca2] 25)).heap.size = B3 + 1 := by rw [hb]; simp
    obtain ⟨Y4, hZ⟩ : ∃ Z : Later W, Z.w = Y2.w.alloc (.cells #[.slice sx2 ns2 cs2, .slice aa2 na2 ca2] 25) := ⟨Y2.step (Later.new _ _), rfl⟩
    rw [← hZ] at S hsz hm hm2 l1 l3 ⊢
    clear hZ
    rw [← hb]
    clear hb
    clear hsz hs2
    have q0_0 := l1.cell (k := 0) rfl
    have q0_1 := l1.cell (k := 1) rfl
    have q0_l := l1.lt
    have q1_0 := l3.cell (k := 0) rfl
    have q1_1 := l3.cell (k := 1) rfl
    have q1_l := l3.lt
    go_wp2_with fail
    clear q0_0 q0_1 q0_l
    clear q1_0 q1_1 q1_l
    refine (Ints_calls _ _ st st2 _ hm.s hm2.s).mono ?_
    rintro e w' ⟨rfl, y, rfl⟩
    rw [HE.out]
    replace hm := hm.later y
    replace hm2 := hm2.later y
    replace l1 := l1.later y
    replace l3 := l3.later y
    replace S := S.later y
    obtain ⟨Y5, hZ⟩ : ∃ Z : Later W, Z.w = y.w := ⟨Y4.step (y), rfl⟩
    rw [← hZ] at S hm hm2 l1 l3 ⊢
    clear hZ
    clear y
    go_wp2
    go_ret
    exact ⟨ret_bool HR.out.symm, Y5, rfl⟩
  have HE := Lib.hid (decide_eq_true h0)
  have HS0 := Lib.hid h0
  clear h0
  by_cases hl : na = na2
  rotate_left
  · have HR := Lib.hid (show sameM st ad st2 ad2 = false by rw [sameM, decide_eq_false (p := ad = ad2) (fun e => hl (by rw [HA.out, HA2.out, e]))]; simp)
    have hne : ((na : Int) != (na2 : Int)) = true := by simp; omega
    clear hl
    go_enter Try.func26, Try.ntmps26
    go_wp2_with fail
    obtain ⟨B1, hb⟩ : ∃ b, b = W.heap.size := ⟨_, rfl⟩
    have l1 : Lin (W.alloc (.cells #[.slice sx ns cs, .slice aa na ca] 25)) B1 25 [.slice sx ns cs, .slice aa na ca] := by rw [hb]; exact Lin.new _ _ [.slice sx ns cs, .slice aa na ca]
    replace S := S.later (Later.new _ (.cells #[.slice sx ns cs, .slice aa na ca] 25))
    rw [Later.new_w] at S
    replace hm := hm.later (Later.new _ (.cells #[.slice sx ns cs, .slice aa na ca] 25))
    rw [Later.new_w] at hm
    replace hm2 := hm2.later (Later.new _ (.cells #[.slice sx ns cs, .slice aa na ca] 25))
    rw [Later.new_w] at hm2
    have hsz : (W.alloc (.cells #[.slice sx ns cs, .slice aa na ca] 25)).heap.size = B1 + 1 := by rw [hb]; simp
    obtain ⟨Y2, hZ⟩ : ∃ Z : Later W, Z.w = W.alloc (.cells #[.slice sx ns cs, .slice aa na ca] 25) := ⟨Later.new _ _, rfl⟩
    rw [← hZ] at S hsz hm hm2 l1 ⊢
    clear hZ
    rw [← hb]
    clear hb
    have hs2 := hsz
    rw [← hsz]
    clear hsz
    obtain ⟨B3, hb⟩ : ∃ b, b = Y2.w.heap.size := ⟨_, rfl⟩
    have l3 : Lin (Y2.w.alloc (.cells #[.slice sx2 ns2 cs2, .slice aa2 na2 ca2] 25)) B3 25 [.slice sx2 ns2 cs2, .slice aa2 na2 ca2] := by rw [hb]; exact Lin.new _ _ [.slice sx2 ns2 cs2, .slice aa2 na2 ca2]
    replace S := S.later (Later.new _ (.cells #[.slice sx2 ns2 cs2, .slice aa2 na2 ca2] 25))
    rw [Later.new_w] at S
    replace hm := hm.later (Later.new _ (.cells #[.slice sx2 ns2 cs2, .slice aa2 na2 ca2] 25))
    rw [Later.new_w] at hm
    replace hm2 := hm2.later (Later.new _ (.cells #[.slice sx2 ns2 cs2, .slice aa2 na2 ca2] 25))
    rw [Later.new_w] at hm2
    replace l1 := l1.later (Later.new _ (.cells #[.slice sx2 ns2 cs2, .slice aa2 na2 ca2] 25))
    rw [Later.new_w] at l1
    have hsz : (Y2.w.alloc (.cells #[.slice sx2 ns2 cs2, .slice aa2 na2 ca2] 25)).heap.size = B3 + 1 := by rw [hb]; simp
    obtain ⟨Y4, hZ⟩ : ∃ Z : Later W, Z.w = Y2.w.alloc (.cells #[.slice sx2 ns2 cs2, .slice aa2 na2 ca2] 25) := ⟨Y2.step (Later.new _ _), rfl⟩
    rw [← hZ] at S hsz hm hm2 l1 l3 ⊢
    clear hZ
    rw [← hb]
    clear hb
    clear hsz hs2
    have q0_0 := l1.cell (k := 0) rfl
    have q0_1 := l1.cell (k := 1) rfl
    have q0_l := l1.lt
    have q1_0 := l3.cell (k := 0) rfl
    have q1_1 := l3.cell (k := 1) rfl
    have q1_l := l3.lt
    go_wp2_with fail
    clear q0_0 q0_1 q0_l
    clear q1_0 q1_1 q1_l
    refine (Ints_calls _ _ st st2 _ hm.s hm2.s).mono ?_
    rintro e w' ⟨rfl, y, rfl⟩
    rw [HE.out]
    replace hm := hm.later y
    replace hm2 := hm2.later y
    replace l1 := l1.later y
    replace l3 := l3.later y
    replace S := S.later y
    obtain ⟨Y5, hZ⟩ : ∃ Z : Later W, Z.w = y.w := ⟨Y4.step (y), rfl⟩
    rw [← hZ] at S hm hm2 l1 l3 ⊢
    clear hZ
    clear y
    have p_0 := l1.cell (k := 0) rfl
    have p_1 := l1.cell (k := 1) rfl
    have p_l := l1.lt
    have r_0 := l3.cell (k := 0) rfl
    have r_1 := l3.cell (k := 1) rfl
    have r_l := l3.lt
    go_wp2
    go_ret
    exact ⟨ret_bool HR.out.symm, Y5, rfl⟩
  have HLL := Lib.hid (show ad.length = ad2.length by rw [← HA.out, ← HA2.out, hl])
  subst hl
  go_enter Try.func26, Try.ntmps26
  go_wp2_with fail
  obtain ⟨B1, hb⟩ : ∃ b, b = W.heap.size := ⟨_, rfl⟩
  have l1 : Lin (W.alloc (.cells #[.slice sx ns cs, .slice aa na ca] 25)) B1 25 [.slice sx ns cs, .slice aa na ca] := by rw [hb]; exact Lin.new _ _ [.slice sx ns cs, .slice aa na ca]
  replace S := S.later (Later.new _ (.cells #[.slice sx ns cs, .slice aa na ca] 25))
  rw [Later.new_w] at S
  replace hm := hm.later (Later.new _ (.cells #[.slice sx ns cs, .slice aa na ca] 25))
  rw [Later.new_w] at hm
  replace hm2 := hm2.later (Later.new _ (.cells #[.slice sx ns cs, .slice aa na ca] 25))
  rw [Later.new_w] at hm2
  have hsz : (W.alloc (.cells #[.slice sx ns cs, .slice aa na ca] 25)).heap.size = B1 + 1 := by rw [hb]; simp
  obtain ⟨Y2, hZ⟩ : ∃ Z : Later W, Z.w = W.alloc (.cells #[.slice sx ns cs, .slice aa na ca] 25) := ⟨Later.new _ _, rfl⟩
  rw [← hZ] at S hsz hm hm2 l1 ⊢
  clear hZ
  rw [← hb]
  clear hb
  have hs2 := hsz
  rw [← hsz]
  clear hsz
  obtain ⟨B3, hb⟩ : ∃ b, b = Y2.w.heap.size := ⟨_, rfl⟩
  have l3 : Lin (Y2.w.alloc (.cells #[.slice sx2 ns2 cs2, .slice aa2 na ca2] 25)) B3 25 [.slice sx2 ns2 cs2, .slice aa2 na ca2] := by rw [hb]; exact Lin.new _ _ [.slice sx2 ns2 cs2, .slice aa2 na ca2]
  replace S := S.later (Later.new _ (.cells #[.slice sx2 ns2 cs2, .slice aa2 na ca2] 25))
  rw [Later.new_w] at S
  replace hm := hm.later (Later.new _ (.cells #[.slice sx2 ns2 cs2, .slice aa2 na ca2] 25))
  rw [Later.new_w] at hm
  replace hm2 := hm2.later (Later.new _ (.cells #[.slice sx2 ns2 cs2, .slice aa2 na ca2] 25))
  rw [Later.new_w] at hm2
  replace l1 := l1.later (Later.new _ (.cells #[.slice sx2 ns2 cs2, .slice aa2 na ca2] 25))
  rw [Later.new_w] at l1
  have hsz : (Y2.w.alloc (.cells #[.slice sx2 ns2 cs2, .slice aa2 na ca2] 25)).heap.size = B3 + 1 := by rw [hb]; simp
  obtain ⟨Y4, hZ⟩ : ∃ Z : Later W, Z.w = Y2.w.alloc (.cells #[.slice sx2 ns2 cs2, .slice aa2 na ca2] 25) := ⟨Y2.step (Later.new _ _), rfl⟩
  rw [← hZ] at S hsz hm hm2 l1 l3 ⊢
  clear hZ
  rw [← hb]
  clear hb
  clear hsz hs2
  have q0_0 := l1.cell (k := 0) rfl
  have q0_1 := l1.cell (k := 1) rfl
  have q0_l := l1.lt
  have q1_0 := l3.cell (k := 0) rfl
  have q1_1 := l3.cell (k := 1) rfl
  have q1_l := l3.lt
  go_wp2_with fail
  clear q0_0 q0_1 q0_l
  clear q1_0 q1_1 q1_l
  refine (Ints_calls _ _ st st2 _ hm.s hm2.s).mono ?_
  rintro e w' ⟨rfl, y, rfl⟩
  rw [HE.out]
  replace hm := hm.later y
  replace hm2 := hm2.later y
  replace l1 := l1.later y
  replace l3 := l3.later y
  replace S := S.later y
  obtain ⟨Y5, hZ⟩ : ∃ Z : Later W, Z.w = y.w := ⟨Y4.step (y), rfl⟩
  rw [← hZ] at S hm hm2 l1 l3 ⊢
  clear hZ
  clear y
  have p_0 := l1.cell (k := 0) rfl
  have p_1 := l1.cell (k := 1) rfl
  have p_l := l1.lt
  have r_0 := l3.cell (k := 0) rfl
  have r_1 := l3.cell (k := 1) rfl
  have r_l := l3.lt
  go_wp2
  clear p_0 p_1 p_l
  clear r_0 r_1 r_l
  go_loopw [5] (fun i0 wr => ∃ (k : Nat) (u : Later Y5.w), wr = u.w ∧ k ≤ na ∧ i0 = .int .i64 k ∧ Hid (∀ j, j < k → (sat ad j == sat ad2 j) = true)) (fun i0 _ => na - (intOf i0).toNat)
  case atStart => exact ⟨0, Later.self _, rfl, Nat.zero_le _, rfl, Lib.hid (fun j hj => absurd hj (Nat.not_lt_zero _))⟩
  obtain ⟨k, u, rfl, hk, rfl, hP⟩ := hrel
  replace hm := hm.later u
  replace hm2 := hm2.later u
  replace l1 := l1.later u
  replace l3 := l3.later u
  replace S := S.later u
  by_cases hlt : k < na
  · obtain ⟨ba, oa, ka, e, hka, hba, hga⟩ := hm.a.at (k := k) (by rw [← HA.out]; exact hlt)
    injection e with e1 e2 e3
    subst e1 e3
    have qa := hga k (by rw [← HA.out]; exact hlt)
    clear hga e2
    obtain ⟨bb, ob, kb, e, hkb, hbb, hgb⟩ := hm2.a.at (k := k) (by rw [← HA2.out]; exact hlt)
    injection e with e1 e2 e3
    subst e1 e3
    have qb := hgb k (by rw [← HA2.out]; exact hlt)
    clear hgb e2
    obtain ⟨x, hx⟩ : ∃ v, sat ad k = v := ⟨_, rfl⟩
    obtain ⟨y, hy⟩ : ∃ v, sat ad2 k = v := ⟨_, rfl⟩
    rw [hx] at qa
    rw [hy] at qb
    have HXY := Lib.hid (show sat ad k = x ∧ sat ad2 k = y from ⟨hx, hy⟩)
    clear hx hy
    by_cases h1 : x = y
    rotate_left
    · have d3 : (x == y) = false := by simpa using h1
      have HR := Lib.hid (show sameM st ad st2 ad2 = false by rw [sameM, decide_eq_false (p := ad = ad2) (fun e => h1 (by rw [← HXY.out.1, ← HXY.out.2, e]))]; simp)
      clear h1
      have p_0 := l1.cell (k := 0) rfl
      have p_1 := l1.cell (k := 1) rfl
      have p_l := l1.lt
      have r_0 := l3.cell (k := 0) rfl
      have r_1 := l3.cell (k := 1) rfl
      have r_l := l3.lt
      go_wp2
      refine Mix.region_mixL (Mix.kinds [] [] []) (by kernel_rfl) (by kernel_rfl) ?_
      repeat ((with_reducible refine Mix.atCons ?_); first | refine Mix.skipU (by rfl) rfl (by rfl) ?_ | (refine Mix.val rfl rfl (by rfl) (fun K hK => ?_); go_big_quiet_op; refine hK _ ?_; clear hK K) | (refine Mix.skip (by rfl) ?_; go_frame))
      refine Mix.done (fun x1 => ?_)
      replace hm := (hm.later x1)
      replace hm2 := (hm2.later x1)
      replace l1 := (l1.later x1)
      replace l3 := (l3.later x1)
      replace S := (S.later x1)
      obtain ⟨Y6, hZ⟩ : ∃ Z : Later Y5.w, Z.w = x1.w := ⟨u.step (x1), rfl⟩
      rw [← hZ] at S hm hm2 l1 l3 ⊢
      clear hZ
      go_wp2
      go_ret
      exact ⟨ret_bool HR.out.symm, Y5.step (Y6), rfl⟩
    · have d3 : (x == y) = true := by simpa using h1
      have HC := Lib.hid (show (sat ad k == sat ad2 k) = true by rw [HXY.out.1, HXY.out.2]; simpa using h1)
      clear h1
      have p_0 := l1.cell (k := 0) rfl
      have p_1 := l1.cell (k := 1) rfl
      have p_l := l1.lt
      have r_0 := l3.cell (k := 0) rfl
      have r_1 := l3.cell (k := 1) rfl
      have r_l := l3.lt
      go_wp2
      refine Mix.region_mixL (Mix.kinds [] [] []) (by kernel_rfl) (by kernel_rfl) ?_
      repeat ((with_reducible refine Mix.atCons ?_); first | refine Mix.skipU (by rfl) rfl (by rfl) ?_ | (refine Mix.val rfl rfl (by rfl) (fun K hK => ?_); go_big_quiet_op; refine hK _ ?_; clear hK K) | (refine Mix.skip (by rfl) ?_; go_frame))
      refine Mix.done (fun x1 => ?_)
      replace hm := (hm.later x1)
      replace hm2 := (hm2.later x1)
      replace l1 := (l1.later x1)
      replace l3 := (l3.later x1)
      replace S := (S.later x1)
      obtain ⟨Y6, hZ⟩ : ∃ Z : Later Y5.w, Z.w = x1.w := ⟨u.step (x1), rfl⟩
      rw [← hZ] at S hm hm2 l1 l3 ⊢
      clear hZ
      go_wp2
      go_roundw
      case rel => exact ⟨k + 1, Y6, rfl, by omega, by go_num, Lib.hid (fun j hj => by
        by_cases h : j = k
        · rw [h]; exact HC.out
        · exact hP.out j (by omega))⟩
      case measure => simp [intOf]; omega
  obtain rfl : na = k := by omega
  have HR := Lib.hid (show sameM st ad st2 ad2 = true by
    rw [sameM, decide_eq_true HS0.out, decide_eq_true (sat_ext HLL.out fun j hj => hP.out j (by rw [HA.out]; exact hj))]; rfl)
  have p_0 := l1.cell (k := 0) rfl
  have p_1 := l1.cell (k := 1) rfl
  have p_l := l1.lt
  go_wp2
  go_ret
  exact ⟨ret_bool HR.out.symm, Y5.step (u), rfl⟩
def greatM (st : List Int) (ad : List (List UInt8)) : Bool := decide (25 < st.length) || (decide (25 < ad.length) || ad.any fun s => decide (20 < s.length))
set_option maxRecDepth 100000 in
set_option maxHeartbeats 4000000 in
theorem great_calls (sv av : Value) (st : List Int) (ad : List (List UInt8)) (W : World) (hm : Mks W sv av st ad) :
    Calls Try.prog 18 #[.agg #[sv, av]] W (Gives (.bool (greatM st ad)) W) := by
  have S : Ins W [] := Ins.nil _
  obtain ⟨sx, ns, cs, rfl⟩ : ∃ a n c, sv = .slice a n c := by obtain ⟨a, c, e⟩ := hm.s.form; exact ⟨a, _, c, e⟩
  obtain ⟨aa, na, ca, rfl⟩ : ∃ a n c, av = .slice a n c := by obtain ⟨a, c, e⟩ := hm.a.form; exact ⟨a, _, c, e⟩
  have HS := Lib.hid (show ns = st.length by obtain ⟨a, c, e⟩ := hm.s.form; cases e; rfl)
  have HA := Lib.hid (show na = ad.length by obtain ⟨a, c, e⟩ := hm.a.form; cases e; rfl)
  have hsl : ns ≤ 9007199254740992 := by rw [HS.out]; exact hm.s.1
  have hal : na ≤ 9007199254740992 := by rw [HA.out]; exact hm.a.1
  by_cases h1 : 25 < ns
  rotate_left
  by_cases h2 : 25 < na
  rotate_left
  · have d1 : decide (25 < (ns : Int)) = false := by simp; omega
    have d2 : decide (25 < (na : Int)) = false := by simp; omega
    have HG := Lib.hid (show greatM st ad = ad.any fun s => decide (20 < s.length) by rw [greatM, ← HS.out, ← HA.out, decide_eq_false h1, decide_eq_false h2]; rfl)
    clear h1 h2
    go_enter Try.func18, Try.ntmps18
    go_wp2_with fail
    obtain ⟨B1, hb⟩ : ∃ b, b = W.heap.size := ⟨_, rfl⟩
    have l1 : Lin (W.alloc (.cells #[.slice sx ns cs, .slice aa na ca] 25)) B1 25 [.slice sx ns cs, .slice aa na ca] := by rw [hb]; exact Lin.new _ _ [.slice sx ns cs, .slice aa na ca]
    replace S := S.later (Later.new _ (.cells #[.slice sx ns cs, .slice aa na ca] 25))
    rw [Later.new_w] at S
    replace hm := hm.later (Later.new _ (.cells #[.slice sx ns cs, .slice aa na ca] 25))
    rw [Later.new_w] at hm
    have hsz : (W.alloc (.cells #[.slice sx ns cs, .slice aa na ca] 25)).heap.size = B1 + 1 := by rw [hb]; simp
    obtain ⟨Y2, hZ⟩ : ∃ Z : Later W, Z.w = W.alloc (.cells #[.slice sx ns cs, .slice aa na ca] 25) := ⟨Later.new _ _, rfl⟩
    rw [← hZ] at S hsz hm l1 ⊢
    clear hZ
    rw [← hb]
    clear hb
    clear hsz
    have p_0 := l1.cell (k := 0) rfl
    have p_1 := l1.cell (k := 1) rfl
    have p_l := l1.lt
    go_wp2
    clear p_0 p_1 p_l
    go_loopw [3] (fun i0 wr => ∃ (k : Nat) (u : Later Y2.w), wr = u.w ∧ k ≤ na ∧ i0 = .int .i64 k ∧ Hid (∀ j, j < k → decide (20 < (sat ad j).length) = false)) (fun i0 _ => na - (intOf i0).toNat)
    case atStart => exact ⟨0, Later.self _, rfl, Nat.zero_le _, rfl, Lib.hid (fun j hj => absurd hj (Nat.not_lt_zero _))⟩
    obtain ⟨k, u, rfl, hk, rfl, hP⟩ := hrel
    replace hm := hm.later u
    replace l1 := l1.later u
    replace S := S.later u
    by_cases hlt : k < na
    · obtain ⟨ba, oa, ka, e, hka, hba, hga⟩ := hm.a.at (k := k) (by rw [← HA.out]; exact hlt)
      injection e with e1 e2 e3
      subst e1 e3
      have qa := hga k (by rw [← HA.out]; exact hlt)
      clear hga e2
      obtain ⟨x, hx⟩ : ∃ v, sat ad k = v := ⟨_, rfl⟩
      rw [hx] at qa
      have HX := Lib.hid hx
      clear hx
      obtain ⟨B, hB⟩ : ∃ B, decide (20 < x.length) = B := ⟨_, rfl⟩
      have HB := Lib.hid hB
      clear hB
      cases B
      · have p_0 := l1.cell (k := 0) rfl
        have p_1 := l1.cell (k := 1) rfl
        have p_l := l1.lt
        go_wp2_with fail
        refine (llong_calls x _).mono ?_
        rintro e w' ⟨rfl, hw⟩
        rw [hw, HB.out]
        clear hw w'
        go_wp2
        go_roundw
        case rel => exact ⟨k + 1, u, rfl, by omega, by go_num, Lib.hid (fun j hj => by
          by_cases h : j = k
          · rw [h, HX.out]; exact HB.out
          · exact hP.out j (by omega))⟩
        case measure => simp [intOf]; omega
      · have HR := Lib.hid (show greatM st ad = true by rw [HG.out]; exact any_at (d := []) (k := k) (by rw [← HA.out]; exact hlt) (by show decide (20 < (sat ad k).length) = true; rw [HX.out]; exact HB.out))
        have p_0 := l1.cell (k := 0) rfl
        have p_1 := l1.cell (k := 1) rfl
        have p_l := l1.lt
        go_wp2_with fail
        refine (llong_calls x _).mono ?_
        rintro e w' ⟨rfl, hw⟩
        rw [hw, HB.out]
        clear hw w'
        go_wp2
        go_ret
        exact ⟨ret_bool HR.out.symm, Y2.step (u), rfl⟩
    obtain rfl : na = k := by omega
    have HR := Lib.hid (show greatM st ad = false by rw [HG.out]; exact any_off (d := []) fun j hj => hP.out j (by rw [HA.out]; exact hj))
    have p_0 := l1.cell (k := 0) rfl
    have p_1 := l1.cell (k := 1) rfl
    have p_l := l1.lt
    go_wp2
    go_ret
    exact ⟨ret_bool HR.out.symm, Y2.step (u), rfl⟩
  · have d1 : decide (25 < (ns : Int)) = true := by simp; omega
    have HR := Lib.hid (show greatM st ad = true by rw [greatM, ← HS.out, ← HA.out, decide_eq_true h1, Bool.true_or])
    clear h1
    go_enter Try.func18, Try.ntmps18
    go_wp2_with fail
    obtain ⟨B1, hb⟩ : ∃ b, b = W.heap.size := ⟨_, rfl⟩
    have l1 : Lin (W.alloc (.cells #[.slice sx ns cs, .slice aa na ca] 25)) B1 25 [.slice sx ns cs, .slice aa na ca] := by rw [hb]; exact Lin.new _ _ [.slice sx ns cs, .slice aa na ca]
    replace S := S.later (Later.new _ (.cells #[.slice sx ns cs, .slice aa na ca] 25))
    rw [Later.new_w] at S
    replace hm := hm.later (Later.new _ (.cells #[.slice sx ns cs, .slice aa na ca] 25))
    rw [Later.new_w] at hm
    have hsz : (W.alloc (.cells #[.slice sx ns cs, .slice aa na ca] 25)).heap.size = B1 + 1 := by rw [hb]; simp
    obtain ⟨Y2, hZ⟩ : ∃ Z : Later W, Z.w = W.alloc (.cells #[.slice sx ns cs, .slice aa na ca] 25) := ⟨Later.new _ _, rfl⟩
    rw [← hZ] at S hsz hm l1 ⊢
    clear hZ
    rw [← hb]
    clear hb
    clear hsz
    have p_0 := l1.cell (k := 0) rfl
    have p_1 := l1.cell (k := 1) rfl
    have p_l := l1.lt
    go_wp2
    go_ret
    exact ⟨ret_bool HR.out.symm, Y2, rfl⟩
  · have d1 : decide (25 < (ns : Int)) = false := by simp; omega
    have d2 : decide (25 < (na : Int)) = true := by simp; omega
    have HR := Lib.hid (show greatM st ad = true by rw [greatM, ← HS.out, ← HA.out, decide_eq_false h1, decide_eq_true h2, Bool.true_or]; rfl)
    clear h1 h2
    go_enter Try.func18, Try.ntmps18
    go_wp2_with fail
    obtain ⟨B1, hb⟩ : ∃ b, b = W.heap.size := ⟨_, rfl⟩
    have l1 : Lin (W.alloc (.cells #[.slice sx ns cs, .slice aa na ca] 25)) B1 25 [.slice sx ns cs, .slice aa na ca] := by rw [hb]; exact Lin.new _ _ [.slice sx ns cs, .slice aa na ca]
    replace S := S.later (Later.new _ (.cells #[.slice sx ns cs, .slice aa na ca] 25))
    rw [Later.new_w] at S
    replace hm := hm.later (Later.new _ (.cells #[.slice sx ns cs, .slice aa na ca] 25))
    rw [Later.new_w] at hm
    have hsz : (W.alloc (.cells #[.slice sx ns cs, .slice aa na ca] 25)).heap.size = B1 + 1 := by rw [hb]; simp
    obtain ⟨Y2, hZ⟩ : ∃ Z : Later W, Z.w = W.alloc (.cells #[.slice sx ns cs, .slice aa na ca] 25) := ⟨Later.new _ _, rfl⟩
    rw [← hZ] at S hsz hm l1 ⊢
    clear hZ
    rw [← hb]
    clear hb
    clear hsz
    have p_0 := l1.cell (k := 0) rfl
    have p_1 := l1.cell (k := 1) rfl
    have p_l := l1.lt
    go_wp2
    go_ret
    exact ⟨ret_bool HR.out.symm, Y2, rfl⟩
def fineM (l : List UInt8) (st : List Int) (ad : List (List UInt8)) : Bool := !decide (20 < l.length) && (!greatM st ad && decide (marksE l st ad = 0))
set_option maxRecDepth 100000 in
set_option maxHeartbeats 4000000 in
theorem fine_calls (l : List UInt8) (sv av : Value) (st : List Int) (ad : List (List UInt8)) (W : World) (hm : Mks W sv av st ad) :
    Calls Try.prog 47 #[.string ⟨l.toArray⟩, .agg #[sv, av]] W (Gives (.bool (fineM l st ad)) W) := by
  have S : Ins W [] := Ins.nil _
  obtain ⟨sx, ns, cs, rfl⟩ : ∃ a n c, sv = .slice a n c := by obtain ⟨a, c, e⟩ := hm.s.form; exact ⟨a, _, c, e⟩
  obtain ⟨aa, na, ca, rfl⟩ : ∃ a n c, av = .slice a n c := by obtain ⟨a, c, e⟩ := hm.a.form; exact ⟨a, _, c, e⟩
  have HS := Lib.hid (show ns = st.length by obtain ⟨a, c, e⟩ := hm.s.form; cases e; rfl)
  have HA := Lib.hid (show na = ad.length by obtain ⟨a, c, e⟩ := hm.a.form; cases e; rfl)
  have hsl : ns ≤ 9007199254740992 := by rw [HS.out]; exact hm.s.1
  have hal : na ≤ 9007199254740992 := by rw [HA.out]; exact hm.a.1
  obtain ⟨X, hX⟩ : ∃ X, decide (20 < l.length) = X := ⟨_, rfl⟩
  have HX := Lib.hid hX
  obtain ⟨G, hG⟩ : ∃ X, greatM st ad = X := ⟨_, rfl⟩
  have HG := Lib.hid hG
  obtain ⟨E, hE⟩ : ∃ X, marksE l st ad = X := ⟨_, rfl⟩
  have HE := Lib.hid hE
  have HR := Lib.hid (show fineM l st ad = (!X && (!G && decide (E = 0))) by rw [fineM, hX, hG, hE])
  clear hX hG hE
  cases X
  · cases G
    · obtain ⟨B, hB⟩ : ∃ B, decide (E = 0) = B := ⟨_, rfl⟩
      have hBE : (E == 0) = B := by rw [← hB]; rfl
      have HB := Lib.hid hB
      clear hB
      go_enter Try.func47, Try.ntmps47
      go_wp2_with fail
      obtain ⟨B1, hb⟩ : ∃ b, b = W.heap.size := ⟨_, rfl⟩
      have l1 : Lin (W.alloc (.cells #[.slice sx ns cs, .slice aa na ca] 25)) B1 25 [.slice sx ns cs, .slice aa na ca] := by rw [hb]; exact Lin.new _ _ [.slice sx ns cs, .slice aa na ca]
      replace S := S.later (Later.new _ (.cells #[.slice sx ns cs, .slice aa na ca] 25))
      rw [Later.new_w] at S
      replace hm := hm.later (Later.new _ (.cells #[.slice sx ns cs, .slice aa na ca] 25))
      rw [Later.new_w] at hm
      have hsz : (W.alloc (.cells #[.slice sx ns cs, .slice aa na ca] 25)).heap.size = B1 + 1 := by rw [hb]; simp
      obtain ⟨Y2, hZ⟩ : ∃ Z : Later W, Z.w = W.alloc (.cells #[.slice sx ns cs, .slice aa na ca] 25) := ⟨Later.new _ _, rfl⟩
      rw [← hZ] at S hsz hm l1 ⊢
      clear hZ
      rw [← hb]
      clear hb
      clear hsz
      have q0_0 := l1.cell (k := 0) rfl
      have q0_1 := l1.cell (k := 1) rfl
      have q0_l := l1.lt
      go_wp2_with fail
      clear q0_0 q0_1 q0_l
      refine (llong_calls l _).mono ?_
      rintro e w' ⟨rfl, hw⟩
      rw [hw, HX.out]
      clear hw w'
      have q0_0 := l1.cell (k := 0) rfl
      have q0_1 := l1.cell (k := 1) rfl
      have q0_l := l1.lt
      go_wp2_with fail
      clear q0_0 q0_1 q0_l
      refine (great_calls _ _ st ad _ hm).mono ?_
      rintro e w' ⟨rfl, y, rfl⟩
      rw [HG.out]
      replace hm := hm.later y
      replace l1 := l1.later y
      replace S := S.later y
      obtain ⟨Y3, hZ⟩ : ∃ Z : Later W, Z.w = y.w := ⟨Y2.step (y), rfl⟩
      rw [← hZ] at S hm l1 ⊢
      clear hZ
      clear y
      have q0_0 := l1.cell (k := 0) rfl
      have q0_1 := l1.cell (k := 1) rfl
      have q0_l := l1.lt
      go_wp2_with fail
      clear q0_0 q0_1 q0_l
      refine (rCheckMarks_calls l _ _ st ad _ hm).mono ?_
      rintro e w' ⟨rfl, y, rfl⟩
      rw [HE.out]
      replace hm := hm.later y
      replace l1 := l1.later y
      replace S := S.later y
      obtain ⟨Y4, hZ⟩ : ∃ Z : Later W, Z.w = y.w := ⟨Y3.step (y), rfl⟩
      rw [← hZ] at S hm l1 ⊢
      clear hZ
      clear y
      go_wp2
      go_ret
      exact ⟨ret_bool (by rw [HR.out, HB.out]; simp), Y4, rfl⟩
    · go_enter Try.func47, Try.ntmps47
      go_wp2_with fail
      obtain ⟨B1, hb⟩ : ∃ b, b = W.heap.size := ⟨_, rfl⟩
      have l1 : Lin (W.alloc (.cells #[.slice sx ns cs, .slice aa na ca] 25)) B1 25 [.slice sx ns cs, .slice aa na ca] := by rw [hb]; exact Lin.new _ _ [.slice sx ns cs, .slice aa na ca]
      replace S := S.later (Later.new _ (.cells #[.slice sx ns cs, .slice aa na ca] 25))
      rw [Later.new_w] at S
      replace hm := hm.later (Later.new _ (.cells #[.slice sx ns cs, .slice aa na ca] 25))
      rw [Later.new_w] at hm
      have hsz : (W.alloc (.cells #[.slice sx ns cs, .slice aa na ca] 25)).heap.size = B1 + 1 := by rw [hb]; simp
      obtain ⟨Y2, hZ⟩ : ∃ Z : Later W, Z.w = W.alloc (.cells #[.slice sx ns cs, .slice aa na ca] 25) := ⟨Later.new _ _, rfl⟩
      rw [← hZ] at S hsz hm l1 ⊢
      clear hZ
      rw [← hb]
      clear hb
      clear hsz
      have q0_0 := l1.cell (k := 0) rfl
      have q0_1 := l1.cell (k := 1) rfl
      have q0_l := l1.lt
      go_wp2_with fail
      clear q0_0 q0_1 q0_l
      refine (llong_calls l _).mono ?_
      rintro e w' ⟨rfl, hw⟩
      rw [hw, HX.out]
      clear hw w'
      have q0_0 := l1.cell (k := 0) rfl
      have q0_1 := l1.cell (k := 1) rfl
      have q0_l := l1.lt
      go_wp2_with fail
      clear q0_0 q0_1 q0_l
      refine (great_calls _ _ st ad _ hm).mono ?_
      rintro e w' ⟨rfl, y, rfl⟩
      rw [HG.out]
      replace hm := hm.later y
      replace l1 := l1.later y
      replace S := S.later y
      obtain ⟨Y3, hZ⟩ : ∃ Z : Later W, Z.w = y.w := ⟨Y2.step (y), rfl⟩
      rw [← hZ] at S hm l1 ⊢
      clear hZ
      clear y
      go_wp2
      go_ret
      exact ⟨ret_bool (by rw [HR.out]; simp), Y3, rfl⟩
  · go_enter Try.func47, Try.ntmps47
    go_wp2_with fail
    obtain ⟨B1, hb⟩ : ∃ b, b = W.heap.size := ⟨_, rfl⟩
    have l1 : Lin (W.alloc (.cells #[.slice sx ns cs, .slice aa na ca] 25)) B1 25 [.slice sx ns cs, .slice aa na ca] := by rw [hb]; exact Lin.new _ _ [.slice sx ns cs, .slice aa na ca]
    replace S := S.later (Later.new _ (.cells #[.slice sx ns cs, .slice aa na ca] 25))
    rw [Later.new_w] at S
    replace hm := hm.later (Later.new _ (.cells #[.slice sx ns cs, .slice aa na ca] 25))
    rw [Later.new_w] at hm
    have hsz : (W.alloc (.cells #[.slice sx ns cs, .slice aa na ca] 25)).heap.size = B1 + 1 := by rw [hb]; simp
    obtain ⟨Y2, hZ⟩ : ∃ Z : Later W, Z.w = W.alloc (.cells #[.slice sx ns cs, .slice aa na ca] 25) := ⟨Later.new _ _, rfl⟩
    rw [← hZ] at S hsz hm l1 ⊢
    clear hZ
    rw [← hb]
    clear hb
    clear hsz
    have q0_0 := l1.cell (k := 0) rfl
    have q0_1 := l1.cell (k := 1) rfl
    have q0_l := l1.lt
    go_wp2_with fail
    clear q0_0 q0_1 q0_l
    refine (llong_calls l _).mono ?_
    rintro e w' ⟨rfl, hw⟩
    rw [hw, HX.out]
    clear hw w'
    go_wp2
    go_ret
    exact ⟨ret_bool (by rw [HR.out]; simp), Y2, rfl⟩
theorem of_calls (v : Value) (a : Option Addr) (n c : Nat) (hv : v = .slice a n c) (W : World) : Calls Try.prog 53 #[v] W fun e w' => e = .returned v ∧ w' = W := by
  subst hv
  go_enter Try.func53, Try.ntmps53
  go_wp2
  go_ret
  exact ⟨rfl, rfl⟩
end Go.Proofs.Ytpkgfkeekcgkcaa

/-  The law's Marks. -/
namespace Go.Proofs.Ytpkgfkeekcgkcaa
open Go.RowKit
def marksA (n : Nat) (at_ : Int) (a : List UInt8) : List (List UInt8) := if 0 ≤ at_ ∧ at_ ≤ (n : Int) then (List.replicate (n + 1) []).set at_.toNat a else List.replicate (n + 1) []
theorem marksA_len (n : Nat) (at_ : Int) (a : List UInt8) : (marksA n at_ a).length = n + 1 := by
  rw [marksA]; split <;> simp
/-- marks whose strings are of the call's own -/
def MksN (st : List Int) (ad : List (List UInt8)) (W : World) (e : Ending) (w' : World) : Prop := ∃ sv av, ∃ x : Later W, e = .returned (.agg #[sv, av]) ∧ w' = x.w ∧ Ints x.w sv st ∧ StrsM W.heap.size x.w av ad
theorem madeStr (M : Nat) : madeCells #[Value.string ⟨#[]⟩] M = ((List.replicate M []).map strC).toArray := by
  apply Array.ext'
  apply List.ext_getElem?
  intro i
  by_cases hi : i < M
  · simp [madeCells, hi, Nat.mod_one, strC]
  · simp [madeCells, hi, Nat.mod_one]
theorem StrsM.arr (w : World) {lo b n : Nat} {cs : Array Value} {ad : List (List UInt8)} (hb : b = w.heap.size) (hlo : lo ≤ w.heap.size) (hn : n ≤ 1000000) (hl : ad.length = n) (hc : cs = (ad.map strC).toArray) : StrsM lo (w.alloc (.cells cs 9)) (.slice (some ⟨b, 0, none⟩) n n) ad := by
  subst hb hc hl
  have h := World.alloc_heap_new w (.cells (ad.map strC).toArray 9)
  exact ⟨by simp, .inr ⟨w.heap.size, ad.length, _, rfl, hlo, h, by simp, by simp only [maxLen]; omega, by simp, by simp [List.take_of_length_le]⟩⟩
theorem StrsM.made3 (W : World) (o1 o3 : Obj) {n : Nat} {cs : Array Value} {ad : List (List UInt8)} (hn : n ≤ 1000000) (hl : ad.length = n) (hc : cs = (ad.map strC).toArray) : StrsM W.heap.size (((W.alloc o1).alloc (.cells cs 9)).alloc o3) (.slice (some ⟨W.heap.size + 1, 0, none⟩) n n) ad :=
  (StrsM.arr (W.alloc o1) (by simp) (by simp) hn hl hc).later (Later.new _ o3)
set_option maxRecDepth 100000 in
set_option maxHeartbeats 4000000 in
theorem Marks_calls (l : List UInt8) (p : Int) (a : List UInt8) (xv : Value) (st : List Int) (hl : l.length ≤ 1000) (W : World) (hx : Ints W xv st) :
    Calls Try.prog 50 #[.string ⟨l.toArray⟩, .int .i64 p, .string ⟨a.toArray⟩, xv] W (MksN st (marksA l.length p a) W) := by
  have S : Ins W [] := Ins.nil _
  obtain ⟨ax, nx, cx, rfl⟩ : ∃ a n c, xv = .slice a n c := by obtain ⟨a, c, e⟩ := hx.form; exact ⟨a, _, c, e⟩
  have hnx : nx ≤ 9007199254740992 := by
    obtain ⟨a', c', e⟩ := hx.form
    cases e
    exact hx.1
  obtain ⟨n, hn⟩ : ∃ n, l.length = n := ⟨_, rfl⟩
  rw [hn] at hl ⊢
  have hsz0 : (⟨l.toArray⟩ : ByteArray).size = n := by rw [str_size]; exact hn
  clear hn
  obtain ⟨M, hM⟩ : ∃ M, n + 1 = M := ⟨_, rfl⟩
  have hMi : (n : Int) + 1 = (M : Int) := by omega
  have hmks := run_make_strs M (by omega)
  obtain ⟨A, hA⟩ : ∃ A, marksA n p a = A := ⟨_, rfl⟩
  have HA := Lib.hid hA
  rw [hA]
  clear hA
  by_cases h1 : p < 0
  · have d1 : decide (0 ≤ p) = false := by simp; omega
    have HAE := Lib.hid (show A = List.replicate M [] by rw [← HA.out, marksA, if_neg (by omega), hM])
    clear h1
    go_enter Try.func50, Try.ntmps50
    go_wp2_with fail
    skip
    refine bodyPost_ret (v := .agg #[.slice ax nx cx, .slice (some ⟨W.heap.size + 1, 0, none⟩) M M]) (by simp [results, Try.results50, go_sem]) rfl ?_
    refine ⟨_, _, ((Later.new W _).step (Later.new _ _)).step (Later.new _ _), rfl, rfl, hx.later _, ?_⟩
    rw [HAE.out]
    refine StrsM.made3 W _ _ (by omega) (by simp) ?_
    rw [madeStr]
  by_cases h2 : p ≤ n
  · have d1 : decide (0 ≤ p) = true := by simp; omega
    have d2 : decide (p ≤ (n : Int)) = true := by simp; omega
    obtain ⟨P, rfl⟩ := Int.eq_ofNat_of_zero_le (show 0 ≤ p by omega)
    have hPM : P < M := by omega
    have HAE := Lib.hid (show A = (List.replicate M []).set P a by rw [← HA.out, marksA, if_pos ⟨by omega, by omega⟩, hM]; rfl)
    have hmc : (madeCells #[Value.string ⟨#[]⟩] M)[P]? = some (.string ⟨#[]⟩) := by simp [madeCells, hPM, Nat.mod_one]
    clear h1 h2
    go_enter Try.func50, Try.ntmps50
    go_wp2_with fail
    skip
    refine bodyPost_ret (v := .agg #[.slice ax nx cx, .slice (some ⟨W.heap.size + 1, 0, none⟩) M M]) (by simp [results, Try.results50, go_sem]) rfl ?_
    refine ⟨_, _, ((Later.new W _).step (Later.new _ _)).step (Later.new _ _), rfl, rfl, hx.later _, ?_⟩
    rw [HAE.out]
    refine StrsM.made3 W _ _ (by omega) (by simp) ?_
    rw [madeStr]
    rw [List.setIfInBounds_toArray, List.map_set]
    rfl
  have d1 : decide (0 ≤ p) = true := by simp; omega
  have d2 : decide (p ≤ (n : Int)) = false := by simp; omega
  have HAE := Lib.hid (show A = List.replicate M [] by rw [← HA.out, marksA, if_neg (by omega), hM])
  clear h1 h2
  go_enter Try.func50, Try.ntmps50
  go_wp2_with fail
  skip
  refine bodyPost_ret (v := .agg #[.slice ax nx cx, .slice (some ⟨W.heap.size + 1, 0, none⟩) M M]) (by simp [results, Try.results50, go_sem]) rfl ?_
  refine ⟨_, _, ((Later.new W _).step (Later.new _ _)).step (Later.new _ _), rfl, rfl, hx.later _, ?_⟩
  rw [HAE.out]
  refine StrsM.made3 W _ _ (by omega) (by simp) ?_
  rw [madeStr]
end Go.Proofs.Ytpkgfkeekcgkcaa

/-  The law's turned. -/
namespace Go.Proofs.Ytpkgfkeekcgkcaa
open Go.RowKit
def bytC (b : UInt8) : Value := .int .u8 (b.toNat : Nat)
theorem info_byte : ∃ i : TypeInfo, Try.prog.info? 5 = some i ∧ i.zero = some (.int .u8 0) ∧ i.size = 1 ∧ i.bytes = 1 := by
  have h : (Try.prog.info? 5).map (fun i => (i.zero, i.size, i.bytes)) = some (some (.int .u8 0), 1, 1) := by kernel_rfl
  obtain ⟨i, hi, hz⟩ := Option.map_eq_some_iff.1 h
  simp only [Prod.mk.injEq] at hz
  exact ⟨i, hi, hz.1, hz.2.1, hz.2.2⟩
/-- a slice of bytes of one's own -/
def BytM (lo : Nat) (w : World) (v : Value) (l : List UInt8) : Prop := w.ownsRow lo 5 1 v l.length (l.map bytC)
theorem BytM.nil (lo : Nat) (w : World) : BytM lo w (.slice none 0 0) [] := World.ownsRow_nil _ _ _ _
theorem BytM.form' {lo : Nat} {w : World} {v : Value} {xs : List UInt8} (h : BytM lo w v xs) : ∃ a n c, v = .slice a n c := by
  obtain ⟨_, ⟨rfl, h0⟩ | ⟨g, cap, cur, rfl, _⟩⟩ := h
  · exact ⟨_, _, _, rfl⟩
  · exact ⟨_, _, _, rfl⟩
theorem BytM.later {lo : Nat} {w : World} {v : Value} {xs : List UInt8} (h : BytM lo w v xs) (x : Later w) : BytM lo x.w v xs :=
  World.ownsRow.kept h x.grown (by cases hv : v.ownBlock <;> simp)
theorem BytM.below {lo : Nat} {w w' : World} {v : Value} {xs : List UInt8} (h : BytM lo w v xs) (hg : w.grownBy w' v.ownBlock) (hlo : lo ≤ w.heap.size) : Below lo w w' :=
  (Below.refl lo w).grown hg hlo fun k hk => (World.ownsRow.lt h k hk).1
theorem app_byt_at {U : World} {lo : Nat} {v : Value} {xs : List UInt8} (hv : BytM lo U v xs) (b c : Nat) (y : UInt8) (h0 : U.cell? ⟨b, 0, none⟩ = some (bytC y)) (hlo : lo ≤ U.heap.size) (hbig : xs.length + 1 ≤ 1000000000000) (ty : TypeId) :
    ∃ v' w', (Builtin.append_ #[61, 61] ty #[v, .slice (some ⟨b, 0, none⟩) 1 c]).run Try.prog U = .ok v' w' ∧ BytM lo w' v' (xs ++ [y]) ∧ U.grownBy w' v.ownBlock := by
  obtain ⟨i, hi, hz, hsz, hby⟩ := info_byte
  obtain ⟨v', w', h1, h2, h3, _, h5⟩ := run_append_own_at (P := Try.prog) U lo 61 ty 5 i (.int .u8 0) 1 1 Try.underlying61 hi hz hsz hby rfl (by decide) v xs.length _ hv
    ⟨b, 0, none⟩ 1 c [bytC y] rfl (fun j u hj => by
      match j, hj with
      | 0, hj => simp at hj; subst hj; exact h0
      | j + 1, hj => simp at hj) (by intro u hu; simp at hu; subst hu; rfl) (by simp only [maxLen]; omega) (by omega) hlo
  refine ⟨v', w', h1, ?_, h3⟩
  unfold BytM
  rw [List.map_append, List.length_append]
  exact h2
theorem BytM.string {lo : Nat} {w : World} {v : Value} {xs : List UInt8} (h : BytM lo w v xs) : (convert 61 9 v).run Try.prog w = .ok (.string ⟨xs.toArray⟩) w := by
  obtain ⟨_, ⟨rfl, h0⟩ | ⟨g, cap, cur, rfl, _, hg, hnc, hcm, hcs, htk⟩⟩ := h
  · have : xs = [] := List.eq_nil_of_length_eq_zero h0
    subst this
    exact run_convert_bytes_nil w _ _ Try.underlying61 Try.underlying5 0 0 _ Try.underlying9
  · refine run_convert_bytes_back w _ _ _ _ cap xs Try.underlying61 Try.underlying5 Try.underlying9 fun j hj => ?_
    have hjm : (xs.map bytC)[j]? = some (bytC xs[j]) := by rw [List.getElem?_map, List.getElem?_eq_getElem hj]; rfl
    rw [← htk, List.getElem?_take, if_pos (by omega)] at hjm
    rw [Addr.add_lit]
    simp only [World.cell?, hg, Nat.zero_add]
    simpa [bytC] using hjm
def turnL (l : List UInt8) (m : Nat) : List UInt8 := l.reverse.map fun b => b + UInt8.ofNat m
def turnK (l : List UInt8) (m k : Nat) : List UInt8 := (l.reverse.take k).map fun b => b + UInt8.ofNat m
theorem turnK_succ {l : List UInt8} {m k : Nat} (h : k < l.length) : turnK l m (k + 1) = turnK l m k ++ [bt l (l.length - 1 - k) + UInt8.ofNat m] := by
  rw [turnK, List.take_succ_eq_append_getElem (by simpa using h), List.map_append, List.getElem_reverse, bt_eq (by omega)]; rfl
theorem turnK_len {l : List UInt8} {m k : Nat} (h : k ≤ l.length) : (turnK l m k).length = k := by simp [turnK]; omega
theorem u8_add (b : UInt8) (m : Nat) : IntKind.u8.wrap ((b.toNat : Int) + (m : Int)) = ((b + UInt8.ofNat m).toNat : Nat) := by
  have h1 : (b + UInt8.ofNat m).toNat = (b.toNat + m) % 256 := by
    rw [UInt8.toNat_add, UInt8.toNat_ofNat']
    omega
  rw [h1]
  simp only [IntKind.wrap, IntKind.bits, IntKind.signed]
  simp
set_option maxRecDepth 100000 in
set_option maxHeartbeats 4000000 in
theorem turned_calls (l : List UInt8) (m : Nat) (hl : l.length ≤ 1000) (W : World) :
    Calls Try.prog 52 #[.string ⟨l.toArray⟩, .int .u8 (m : Int)] W (Gives (.string ⟨(turnL l m).toArray⟩) W) := by
  have S : Ins W [] := Ins.nil _
  obtain ⟨n, hn⟩ : ∃ n, l.length = n := ⟨_, rfl⟩
  have HN := Lib.hid hn
  rw [hn] at hl
  have hsz : (⟨l.toArray⟩ : ByteArray).size = n := by rw [str_size]; exact hn
  clear hn
  go_enter Try.func52, Try.ntmps52
  go_wp2_with fail
  go_wp2
  go_loopw [5, 6] (fun ov i0 wr => ∃ (k : Nat) (u : Later W), wr = u.w ∧ k ≤ n ∧ i0 = .int .i64 ((n : Int) - 1 - k) ∧ BytM W.heap.size u.w ov (turnK l m k)) (fun _ i0 _ => (intOf i0 + 1).toNat)
  case atStart => exact ⟨0, Later.self _, rfl, Nat.zero_le _, by simp, BytM.nil _ _⟩
  obtain ⟨k, u, rfl, hk, rfl, hO⟩ := hrel
  obtain ⟨ao, no, co, rfl⟩ := hO.form'
  by_cases hlt : k < n
  · obtain ⟨q, hq⟩ : ∃ q, n - 1 - k = q := ⟨_, rfl⟩
    have hqi : (n : Int) - 1 - k = (q : Int) := by omega
    have hql : q < l.length := by rw [HN.out]; omega
    have hia := fun w => run_byte l hql w
    have hb := u8_add (bt l q) m
    obtain ⟨y, hy⟩ : ∃ y, bt l q + UInt8.ofNat m = y := ⟨_, rfl⟩
    rw [hy] at hb
    have HSX := Lib.hid (show turnK l m (k + 1) = turnK l m k ++ [y] by rw [turnK_succ (by rw [HN.out]; exact hlt), HN.out, hq, hy])
    rw [hqi]
    have hA := hO.later (Later.new u.w (.cells #[bytC y] 5))
    rw [Later.new_w] at hA
    obtain ⟨v6, w6, hr6, hb6, hg6⟩ := app_byt_at hA u.w.heap.size 1 y (by simp [go_sem]) (Nat.le_trans u.size (by simp)) (by rw [turnK_len (by rw [HN.out]; omega)]; omega) 61
    obtain ⟨a7, n7, c7, rfl⟩ := hb6.form'
    have HB9 := Lib.hid (show BytM W.heap.size w6 (.slice a7 n7 c7) (turnK l m (k + 1)) by rw [HSX.out]; exact hb6)
    have HL9 := Lib.hid (((u.step (Later.new u.w (.cells #[bytC y] 5))).le).trans (hA.below hg6 (Nat.le_trans u.size (by simp))))
    have HR6 := Lib.hid (show (Builtin.append_ #[61, 61] 61 #[.slice ao no co, .slice (some ⟨u.w.heap.size, 0, none⟩) 1 1]).run Try.prog (u.w.alloc (.cells #[.int .u8 (y.toNat : Nat)] 5)) = _ from hr6)
    clear hr6 hb6 hA hg6 hO hy hq
    go_wp2_with ((with_reducible show wpList _ _ _ (⟨some 21, _, _, _, _, _⟩ :: _) _ _); refine Lib.wpList_append_run_sl _ rfl _ _ 61 rfl _ _ rfl rfl HR6.out ?_)
    go_roundw
    case rel => exact ⟨k + 1, ⟨_, HL9.out⟩, rfl, by omega, by congr 1; push_cast; omega, HB9.out⟩
    case measure => simp [intOf]
  obtain rfl : n = k := by omega
  have hcv := hO.string
  rw [show turnK l m n = turnL l m by rw [turnK, turnL, List.take_of_length_le (by rw [List.length_reverse, HN.out]; exact Nat.le_refl _)]] at hcv
  go_wp2
  go_ret
  exact ⟨rfl, u, rfl⟩
end Go.Proofs.Ytpkgfkeekcgkcaa

/-  The law's given. -/
namespace Go.Proofs.Ytpkgfkeekcgkcaa
open Go.RowKit
def onB (bs : List Int) (k : Nat) : Bool := !bs.isEmpty && nth bs (k % bs.length) % 2 == 1
def lastP (ps : List (Int × Int)) : Int × Int := pr ps (ps.length - 1)
def takeB (bs : List Int) (ps : List (Int × Int)) (p : Int × Int) (k : Nat) : Bool := onB bs k && (ps.isEmpty || befP (lastP ps) p)
def gvL (bs : List Int) (ms : List (Int × Int)) : Nat → List (Int × Int)
  | 0 => []
  | k + 1 => if takeB bs (gvL bs ms k) (pr ms k) k = true then gvL bs ms k ++ [pr ms k] else gvL bs ms k
theorem gvL_len (bs : List Int) (ms : List (Int × Int)) : ∀ k, (gvL bs ms k).length ≤ k
  | 0 => Nat.le_refl _
  | k + 1 => by
    have := gvL_len bs ms k
    rw [gvL]; split
    · rw [List.length_append]; simp; omega
    · omega
def givenL (a b : List UInt8) (bs : List Int) : List (Int × Int) := gvL bs (matchL a b) (matchL a b).length
set_option maxRecDepth 100000 in
set_option maxHeartbeats 8000000 in
theorem given_calls (a b : List UInt8) (bv : Value) (bs : List Int) (ha : a.length ≤ 100) (hb : b.length ≤ 100) (W : World) (hx : Byts W bv bs) :
    Calls Try.prog 46 #[.string ⟨a.toArray⟩, .string ⟨b.toArray⟩, bv] W (PrsL (givenL a b bs) W) := by
  have S : Ins W [] := Ins.nil _
  obtain ⟨abv, nb, cb, rfl⟩ : ∃ a n c, bv = .slice a n c := by obtain ⟨a, c, e⟩ := hx.form; exact ⟨a, _, c, e⟩
  have HNB := Lib.hid (show nb = bs.length by obtain ⟨a, c, e⟩ := hx.form; cases e; rfl)
  have hnb : nb ≤ 9007199254740992 := by rw [HNB.out]; exact hx.1
  have hml := matchL_len ha hb
  obtain ⟨ms, hms⟩ : ∃ m, matchL a b = m := ⟨_, rfl⟩
  have HG := Lib.hid (show givenL a b bs = gvL bs ms ms.length by rw [givenL, hms])
  have HM := Matches_calls a b ha hb
  rw [hms] at HM hml
  have HMC := Lib.hid HM
  clear HM hms
  go_enter Try.func46, Try.ntmps46
  go_wp2_with fail
  refine (HMC.out _).mono ?_
  rintro e w' ⟨mv, y, rfl, rfl, hM⟩
  replace hx := hx.later y
  replace S := S.later y
  obtain ⟨u0, hu0⟩ : ∃ u : Later W, u = y := ⟨_, rfl⟩
  rw [← hu0] at hx S hM ⊢
  clear hu0 y
  obtain ⟨am, nm, cm, rfl⟩ : ∃ a n c, mv = .slice a n c := by obtain ⟨a, c, e⟩ := hM.form; exact ⟨a, _, c, e⟩
  have HNM := Lib.hid (show nm = ms.length by obtain ⟨a, c, e⟩ := hM.form; cases e; rfl)
  rw [← HNM.out] at hml
  go_wp2
  go_loopw [7, 9] (fun ov i0 wr => ∃ (k : Nat) (u : Later u0.w), wr = u.w ∧ k ≤ nm ∧ i0 = .int .i64 k ∧ PrsM u0.w.heap.size u.w ov (gvL bs ms k)) (fun _ i0 _ => nm - (intOf i0).toNat)
  case atStart => exact ⟨0, Later.self _, rfl, Nat.zero_le _, rfl, PrsM.nil _ _⟩
  obtain ⟨k, u, rfl, hk, rfl, hO⟩ := hrel
  replace hx := hx.later u
  replace hM := hM.later u
  replace S := S.later u
  by_cases hlt : k < nm
  · obtain ⟨G, hG⟩ : ∃ G, gvL bs ms k = G := ⟨_, rfl⟩
    have hGl := gvL_len bs ms k
    rw [hG] at hO hGl
    have HGE := Lib.hid hG
    have HNX := Lib.hid (show gvL bs ms (k + 1) = if takeB bs G (pr ms k) k = true then G ++ [pr ms k] else G by rw [gvL, hG])
    clear hG
    obtain ⟨ao, no, co, rfl⟩ : ∃ a n c, _ = Value.slice a n c := hO.form'
    have hno : no = G.length := by obtain ⟨a, c, e⟩ := hO.form; cases e; rfl
    have hP := hO.prs (by omega)
    have hnk : no ≤ 10000 := by omega
    have HNO := Lib.hid hno
    clear hno
    obtain ⟨bm, om, km, e, hkm, hbm, hgm⟩ := hM.at (k := k) (by rw [← HNM.out]; exact hlt)
    injection e with e1 e2 e3
    subst e1 e3
    clear e2
    obtain ⟨p1, p2⟩ := hgm k (by rw [← HNM.out]; exact hlt)
    obtain ⟨px, hpx⟩ : ∃ v, (pr ms k).1 = v := ⟨_, rfl⟩
    obtain ⟨py, hpy⟩ : ∃ v, (pr ms k).2 = v := ⟨_, rfl⟩
    rw [hpx] at p1
    rw [hpy] at p2
    have HPX := Lib.hid (show pr ms k = (px, py) by rw [← hpx, ← hpy])
    rw [HPX.out] at HNX
    clear hgm hpx hpy
    by_cases hz : nb = 0
    · have h0 : bs.isEmpty = true := by rw [List.isEmpty_iff]; exact List.eq_nil_of_length_eq_zero (by rw [← HNB.out, hz])
      have HN2 := Lib.hid (show gvL bs ms (k + 1) = G by rw [HNX.out, if_neg (by simp [takeB, onB, h0])])
      clear h0
      have d1 : decide (0 < nb) = false := by simp; omega
      clear hz
      go_wp2
      refine Mix.region_mixL (Mix.kinds [] [] []) (by kernel_rfl) (by kernel_rfl) ?_
      repeat ((with_reducible refine Mix.atCons ?_); first | refine Mix.skipU (by rfl) rfl (by rfl) ?_ | (refine Mix.val rfl rfl (by rfl) (fun K hK => ?_); go_big_quiet_op; refine hK _ ?_; clear hK K) | simp only [d1] | simp only [d2] | simp only [d2n] | simp only [hB] | simp only [d3] | simp only [d4] | (refine Mix.skip (by rfl) ?_; go_frame))
      refine Mix.done (fun x0 => ?_)
      go_wp2
      go_roundw
      case rel => exact ⟨k + 1, u.step x0, rfl, by omega, by go_num, by rw [HN2.out]; exact hO.later x0⟩
      case measure => simp [intOf]; omega
    have d1 : decide (0 < nb) = true := by simp; omega
    obtain ⟨Q, hQ⟩ : ∃ Q, k % nb = Q := ⟨_, rfl⟩
    have hQi : (k : Int) % (nb : Int) = (Q : Int) := by rw [← hQ]; omega
    have hQl : Q < nb := by rw [← hQ]; exact Nat.mod_lt _ (by omega)
    obtain ⟨bb, ob, kb, e, hkb, hbb, hgb⟩ := hx.at (k := Q) (by rw [← HNB.out]; exact hQl)
    injection e with e1 e2 e3
    subst e1 e3
    clear e2
    have c1 := hgb Q (by rw [← HNB.out]; exact hQl)
    obtain ⟨hc0, hc255⟩ := hx.2.1 Q (by rw [← HNB.out]; exact hQl)
    obtain ⟨cv, hcv⟩ : ∃ v, nth bs Q = v := ⟨_, rfl⟩
    rw [hcv] at c1 hc0 hc255
    have HON := Lib.hid (show onB bs k = (cv % 2 == 1) by
      have h0 : bs.isEmpty = false := by
        cases hb : bs with
        | nil => rw [hb] at HNB; exact absurd HNB.out hz
        | cons x l => rfl
      rw [onB, h0, ← HNB.out, hQ, hcv]; rfl)
    clear hgb hcv hQ
    obtain ⟨B, hB⟩ : ∃ B, (cv % 2 == 1) = B := ⟨_, rfl⟩
    cases B
    · have HN2 := Lib.hid (show gvL bs ms (k + 1) = G by rw [HNX.out, if_neg (by simp [takeB, HON.out, hB])])
      go_wp2
      refine Mix.region_mixL (Mix.kinds [] [] []) (by kernel_rfl) (by kernel_rfl) ?_
      repeat ((with_reducible refine Mix.atCons ?_); first | refine Mix.skipU (by rfl) rfl (by rfl) ?_ | (refine Mix.val rfl rfl (by rfl) (fun K hK => ?_); go_big_quiet_op; refine hK _ ?_; clear hK K) | simp only [d1] | simp only [d2] | simp only [d2n] | simp only [hB] | simp only [d3] | simp only [d4] | (refine Mix.skip (by rfl) ?_; go_frame))
      refine Mix.done (fun x0 => ?_)
      go_wp2
      go_roundw
      case rel => exact ⟨k + 1, u.step x0, rfl, by omega, by go_num, by rw [HN2.out]; exact hO.later x0⟩
      case measure => simp [intOf]; omega
    · by_cases hg0 : no = 0
      · have h0 : G.isEmpty = true := by rw [List.isEmpty_iff]; exact List.eq_nil_of_length_eq_zero (by rw [← HNO.out]; exact hg0)
        have HN2 := Lib.hid (show gvL bs ms (k + 1) = G ++ [(px, py)] by rw [HNX.out, if_pos (by simp [takeB, HON.out, hB, h0])])
        clear h0
        have d2 : ((no : Int) == 0) = true := by simp; omega
        have d2n : (no == 0) = true := by simp; omega
        go_wp2
        refine Mix.region_mixL (Mix.kinds [] [] []) (by kernel_rfl) (by kernel_rfl) ?_
        repeat ((with_reducible refine Mix.atCons ?_); first | refine Mix.skipU (by rfl) rfl (by rfl) ?_ | (refine Mix.val rfl rfl (by rfl) (fun K hK => ?_); go_big_quiet_op; refine hK _ ?_; clear hK K) | simp only [d1] | simp only [d2] | simp only [d2n] | simp only [hB] | simp only [d3] | simp only [d4] | (refine Mix.skip (by rfl) ?_; go_frame))
        refine Mix.done (fun x0 => ?_)
        obtain ⟨v2, q2, hr2, hA2, -⟩ := app_pair_step (W := u0.w) (wr := x0.w) (u.step x0).le (hO.later x0) px py (by omega) 44
        have HR2 := Lib.hid hr2
        rw [← HN2.out] at hA2
        have p1x := (x0.cell hbm).trans p1
        have p2x := (x0.cell hbm).trans p2
        have hbmx := Nat.lt_of_lt_of_le hbm x0.size
        clear hr2
        go_wp2_with ((with_reducible show wpList _ _ _ (⟨some 74, _, _, _, _, _⟩ :: _) _ _); refine Lib.wpList_append_run_sl _ rfl _ _ 44 rfl _ _ rfl rfl HR2.out ?_)
        go_roundw
        case rel => exact ⟨k + 1, q2, rfl, by omega, by go_num, hA2⟩
        case measure => simp [intOf]; omega
      have d2 : ((no : Int) == 0) = false := by simp; omega
      have d2n : (no == 0) = false := by simp; omega
      obtain ⟨L, hL⟩ : ∃ L, no - 1 = L := ⟨_, rfl⟩
      have hLi : (no : Int) - 1 = (L : Int) := by omega
      have hLn : L < no := by omega
      obtain ⟨bo, oo, ko, e, hko, hbo, hgo⟩ := hP.at (k := L) (by rw [← HNO.out]; exact hLn)
      injection e with e1 e2 e3
      subst e1 e3
      clear e2
      obtain ⟨q1, q2⟩ := hgo L (by rw [← HNO.out]; exact hLn)
      obtain ⟨qx, hqx⟩ : ∃ v, (pr G L).1 = v := ⟨_, rfl⟩
      obtain ⟨qy, hqy⟩ : ∃ v, (pr G L).2 = v := ⟨_, rfl⟩
      rw [hqx] at q1
      rw [hqy] at q2
      have HTK := Lib.hid (show takeB bs G (px, py) k = (decide (qx < px) && decide (qy < py)) by
        have h0 : G.isEmpty = false := by
          cases hb : G with
          | nil => rw [hb] at HNO; exact absurd HNO.out hg0
          | cons x l => rfl
        rw [takeB, HON.out, hB, h0, lastP, ← HNO.out, hL, befP, hqx, hqy]; rfl)
      clear hgo hqx hqy hL
      by_cases h1 : qx < px
      rotate_left
      · have d3 : decide (qx < px) = false := by simp; omega
        have HN2 := Lib.hid (show gvL bs ms (k + 1) = G by rw [HNX.out, if_neg (by rw [HTK.out, d3]; simp)])
        clear h1
        go_wp2
        refine Mix.region_mixL (Mix.kinds [] [] []) (by kernel_rfl) (by kernel_rfl) ?_
        repeat ((with_reducible refine Mix.atCons ?_); first | refine Mix.skipU (by rfl) rfl (by rfl) ?_ | (refine Mix.val rfl rfl (by rfl) (fun K hK => ?_); go_big_quiet_op; refine hK _ ?_; clear hK K) | simp only [d1] | simp only [d2] | simp only [d2n] | simp only [hB] | simp only [d3] | simp only [d4] | (refine Mix.skip (by rfl) ?_; go_frame))
        refine Mix.done (fun x0 => ?_)
        go_wp2
        go_roundw
        case rel => exact ⟨k + 1, u.step x0, rfl, by omega, by go_num, by rw [HN2.out]; exact hO.later x0⟩
        case measure => simp [intOf]; omega
      have d3 : decide (qx < px) = true := by simp; omega
      by_cases h2 : qy < py
      rotate_left
      · have d4 : decide (qy < py) = false := by simp; omega
        have HN2 := Lib.hid (show gvL bs ms (k + 1) = G by rw [HNX.out, if_neg (by rw [HTK.out, d3, d4]; simp)])
        clear h1 h2
        go_wp2
        refine Mix.region_mixL (Mix.kinds [] [] []) (by kernel_rfl) (by kernel_rfl) ?_
        repeat ((with_reducible refine Mix.atCons ?_); first | refine Mix.skipU (by rfl) rfl (by rfl) ?_ | (refine Mix.val rfl rfl (by rfl) (fun K hK => ?_); go_big_quiet_op; refine hK _ ?_; clear hK K) | simp only [d1] | simp only [d2] | simp only [d2n] | simp only [hB] | simp only [d3] | simp only [d4] | (refine Mix.skip (by rfl) ?_; go_frame))
        refine Mix.done (fun x0 => ?_)
        go_wp2
        go_roundw
        case rel => exact ⟨k + 1, u.step x0, rfl, by omega, by go_num, by rw [HN2.out]; exact hO.later x0⟩
        case measure => simp [intOf]; omega
      have d4 : decide (qy < py) = true := by simp; omega
      have HN2 := Lib.hid (show gvL bs ms (k + 1) = G ++ [(px, py)] by rw [HNX.out, if_pos (by rw [HTK.out, d3, d4]; simp)])
      clear h1 h2
      go_wp2
      refine Mix.region_mixL (Mix.kinds [] [] []) (by kernel_rfl) (by kernel_rfl) ?_
      repeat ((with_reducible refine Mix.atCons ?_); first | refine Mix.skipU (by rfl) rfl (by rfl) ?_ | (refine Mix.val rfl rfl (by rfl) (fun K hK => ?_); go_big_quiet_op; refine hK _ ?_; clear hK K) | simp only [d1] | simp only [d2] | simp only [d2n] | simp only [hB] | simp only [d3] | simp only [d4] | (refine Mix.skip (by rfl) ?_; go_frame))
      refine Mix.done (fun x0 => ?_)
      obtain ⟨v2, q2, hr2, hA2, -⟩ := app_pair_step (W := u0.w) (wr := x0.w) (u.step x0).le (hO.later x0) px py (by omega) 44
      have HR2 := Lib.hid hr2
      rw [← HN2.out] at hA2
      have p1x := (x0.cell hbm).trans p1
      have p2x := (x0.cell hbm).trans p2
      have hbmx := Nat.lt_of_lt_of_le hbm x0.size
      clear hr2
      go_wp2_with ((with_reducible show wpList _ _ _ (⟨some 74, _, _, _, _, _⟩ :: _) _ _); refine Lib.wpList_append_run_sl _ rfl _ _ 44 rfl _ _ rfl rfl HR2.out ?_)
      go_roundw
      case rel => exact ⟨k + 1, q2, rfl, by omega, by go_num, hA2⟩
      case measure => simp [intOf]; omega
  obtain rfl : nm = k := by omega
  have hgl := gvL_len bs ms nm
  go_wp2
  go_ret
  exact ⟨_, u0.step u, rfl, rfl, by rw [HG.out, ← HNM.out]; exact hO.prs (by omega)⟩
end Go.Proofs.Ytpkgfkeekcgkcaa
