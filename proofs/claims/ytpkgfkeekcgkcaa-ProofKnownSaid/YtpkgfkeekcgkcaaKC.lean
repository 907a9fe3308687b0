import Derived.Test.YtpkgfkeekcgkcaaKA
import Derived.Maps.AppendAt
/-  Has; lengths of texts. -/
namespace Go.Proofs.Ytpkgfkeekcgkcaa
open Go.RowKit
set_option maxHeartbeats 1000000 in
theorem Has_calls (v : Value) (xs : List Int) (n : Int) (W : World) (hx : Ints W v xs) : Calls Try.prog 51 #[v, .int .i64 n] W fun e w' => e = .returned (.bool (hasB xs n)) ∧ w' = W := by
  have hl := hx.1
  obtain ⟨a, nn, c, rfl⟩ : ∃ a n c, v = .slice a n c := by obtain ⟨a, c, e⟩ := hx.form; exact ⟨a, _, c, e⟩
  have HN := Lib.hid (show nn = xs.length by obtain ⟨a, c, e⟩ := hx.form; cases e; rfl)
  have hl2 : nn ≤ 9007199254740992 := by rw [HN.out]; exact hl
  go_enter Try.func51, Try.ntmps51
  go_wp2
  go_loopw [5] (fun i wr => ∃ (k : Nat), wr = W ∧ k ≤ nn ∧ i = .int .i64 k ∧ Hid (∀ j, j < k → (nth xs j == n) = false)) (fun i _ => nn - (intOf i).toNat)
  case atStart => exact ⟨0, rfl, Nat.zero_le _, rfl, fun j hj => absurd hj (Nat.not_lt_zero _)⟩
  case round =>
    obtain ⟨k, rfl, hk, rfl, hP⟩ := hrel
    by_cases hlt : k < nn
    · obtain ⟨bm, om, km, e, hkm, hbm, hgm⟩ := hx.at (k := k) (by rw [← HN.out]; exact hlt)
      injection e with e1 e2 e3
      subst e1
      have m1 := hgm k (by rw [← HN.out]; exact hlt)
      obtain ⟨p1, hp1⟩ : ∃ p, nth xs k = p := ⟨_, rfl⟩
      rw [hp1] at m1
      have HSB := Lib.hid hp1
      clear e2 e3 hgm hkm hp1
      cases hb1 : (p1 == n)
      · go_wp2
        go_roundw
        case rel => exact ⟨k + 1, by trivial, by omega, by go_num, any_snoc (l := xs) (d := 0) (f := fun x => x == n) hP.out (show (nth xs k == n) = false by rw [HSB.out, hb1])⟩
        case measure => simp [intOf]; omega
      · go_wp2
        go_ret
        exact ⟨ret_bool (any_at (l := xs) (d := 0) (f := fun x => x == n) (k := k) (by rw [← HN.out]; exact hlt) (show (nth xs k == n) = true by rw [HSB.out, hb1])).symm, rfl⟩
    · obtain rfl : nn = k := by omega
      have HC0 := Lib.hid (any_off (l := xs) (d := 0) (f := fun x => x == n) fun j hj => hP.out j (by rw [HN.out]; exact hj))
      go_wp2
      go_ret
      exact ⟨ret_bool HC0.out.symm, rfl⟩
theorem CheckText_calls (l : List UInt8) (W : World) : Calls Try.prog 49 #[.string ⟨l.toArray⟩] W fun e w' => e = .returned (.int .i64 (txtE l)) ∧ w' = W := by
  obtain ⟨n, hn⟩ : ∃ n, l.length = n := ⟨_, rfl⟩
  by_cases h : 12 < l.length
  · have HE := Lib.hid (show txtE l = 7 from if_pos h)
    go_enter Try.func49, Try.ntmps49
    go_wp2
    go_ret
    exact ⟨ret_int HE.out.symm, rfl⟩
  · have HE := Lib.hid (show txtE l = 0 from if_neg h)
    go_enter Try.func49, Try.ntmps49
    go_wp2
    go_ret
    exact ⟨ret_int HE.out.symm, rfl⟩
theorem plong_calls (l : List UInt8) (W : World) : Calls Try.prog 57 #[.string ⟨l.toArray⟩] W fun e w' => e = .returned (.bool (decide (12 < l.length))) ∧ w' = W := by
  go_enter Try.func57, Try.ntmps57
  go_wp2
  go_ret
  exact ⟨ret_bool (by simp; omega), rfl⟩
theorem llong_calls (l : List UInt8) (W : World) : Calls Try.prog 17 #[.string ⟨l.toArray⟩] W fun e w' => e = .returned (.bool (decide (20 < l.length))) ∧ w' = W := by
  go_enter Try.func17, Try.ntmps17
  go_wp2
  go_ret
  exact ⟨ret_bool (by simp; omega), rfl⟩
theorem Texts_calls (a b : List UInt8) (W : World) : Calls Try.prog 70 #[.string ⟨a.toArray⟩, .string ⟨b.toArray⟩] W fun e w' => e = .returned (.int .i64 (txtsE a b)) ∧ w' = W := by
  obtain ⟨E, hE⟩ : ∃ E, txtE a = E := ⟨_, rfl⟩
  have HE := Lib.hid hE
  by_cases h : E = 0
  · have HT := Lib.hid (show txtsE a b = txtE b by rw [txtsE, hE, if_neg (by simpa using h)])
    clear hE
    subst h
    go_enter Try.func70, Try.ntmps70
    go_wp2_with fail
    refine (CheckText_calls a _).mono ?_
    rintro e w' ⟨rfl, rfl⟩
    rw [HE.out]
    go_wp2_with fail
    refine (CheckText_calls b _).mono ?_
    rintro e w' ⟨rfl, rfl⟩
    go_wp2
    go_ret
    exact ⟨ret_int HT.out.symm, rfl⟩
  · have HT := Lib.hid (show txtsE a b = E by rw [txtsE, hE, if_pos h])
    have hne : (E != 0) = true := by simpa using h
    clear hE h
    go_enter Try.func70, Try.ntmps70
    go_wp2_with fail
    refine (CheckText_calls a _).mono ?_
    rintro e w' ⟨rfl, rfl⟩
    rw [HE.out]
    go_wp2_with fail
    refine (CheckText_calls a _).mono ?_
    rintro e w' ⟨rfl, rfl⟩
    rw [HE.out]
    go_wp2
    go_ret
    exact ⟨ret_int HT.out.symm, rfl⟩
theorem texts_calls (a b : List UInt8) (W : World) : Calls Try.prog 45 #[.string ⟨a.toArray⟩, .string ⟨b.toArray⟩] W fun e w' => e = .returned (.bool (txtsE a b == 0)) ∧ w' = W := by
  go_enter Try.func45, Try.ntmps45
  go_wp2_with fail
  refine (Texts_calls a b _).mono ?_
  rintro e w' ⟨rfl, rfl⟩
  go_wp2
  go_ret
  exact ⟨rfl, rfl⟩
end Go.Proofs.Ytpkgfkeekcgkcaa

/-  The definitions' CheckMarks, ReadOf, Read. -/
namespace Go.Proofs.Ytpkgfkeekcgkcaa
open Go.RowKit
theorem marksE_long {l : List UInt8} (h : 12 < l.length) (st : List Int) (ad : List (List UInt8)) : marksE l st ad = 7 := by rw [marksE, if_pos (by rw [txtE, if_pos h]; decide), txtE, if_pos h]
theorem marksE_len {l : List UInt8} (h : ¬ 12 < l.length) {st : List Int} {ad : List (List UInt8)} (h2 : ad.length ≠ l.length + 1) : marksE l st ad = 15 := by rw [marksE, if_neg (by rw [txtE, if_neg h]; simp), if_pos h2]
theorem marksE_add {l : List UInt8} (h : ¬ 12 < l.length) {st : List Int} {ad : List (List UInt8)} (h2 : ad.length = l.length + 1) (h3 : (ad.any fun s => decide (12 < s.length)) = true) : marksE l st ad = 7 := by rw [marksE, if_neg (by rw [txtE, if_neg h]; simp), if_neg (by simpa using h2), if_pos h3]
theorem marksE_st {l : List UInt8} (h : ¬ 12 < l.length) {st : List Int} {ad : List (List UInt8)} (h2 : ad.length = l.length + 1) (h3 : (ad.any fun s => decide (12 < s.length)) = false) : marksE l st ad = if ((List.range st.length).any (strayI l.length st)) = true then 3 else 0 := by rw [marksE, if_neg (by rw [txtE, if_neg h]; simp), if_neg (by simpa using h2), if_neg (by rw [h3]; simp)]
set_option maxRecDepth 100000 in
set_option maxHeartbeats 4000000 in
theorem rCheckMarks_calls (l : List UInt8) (sv av : Value) (st : List Int) (ad : List (List UInt8)) (W : World) (hm : Mks W sv av st ad) :
    Calls Try.prog 25 #[.string ⟨l.toArray⟩, .agg #[sv, av]] W (Gives (.int .i64 (marksE l st ad)) W) := by
  have S : Ins W [] := Ins.nil _
  obtain ⟨sx, ns, cs, rfl⟩ : ∃ a n c, sv = .slice a n c := by obtain ⟨a, c, e⟩ := hm.s.form; exact ⟨a, _, c, e⟩
  obtain ⟨aa, na, ca, rfl⟩ : ∃ a n c, av = .slice a n c := by obtain ⟨a, c, e⟩ := hm.a.form; exact ⟨a, _, c, e⟩
  have HS := Lib.hid (show ns = st.length by obtain ⟨a, c, e⟩ := hm.s.form; cases e; rfl)
  have HA := Lib.hid (show na = ad.length by obtain ⟨a, c, e⟩ := hm.a.form; cases e; rfl)
  have hsl : ns ≤ 9007199254740992 := by rw [HS.out]; exact hm.s.1
  have hal : na ≤ 9007199254740992 := by rw [HA.out]; exact hm.a.1
  by_cases hl : 12 < l.length
  · have HE := Lib.hid (show txtE l = 7 from if_pos hl)
    have HF := Lib.hid (marksE_long hl st ad)
    clear hl
    go_enter Try.func25, Try.ntmps25
    go_wp2_with fail
    obtain ⟨B1, hb⟩ : ∃ b, b = W.heap.size := ⟨_, rfl⟩
    have l1 : Lin (W.alloc (.cells #[.slice sx ns cs, .slice aa na ca] 25)) B1 25 [.slice sx ns cs, .slice aa na ca] := by rw [hb]; exact Lin.new _ _ [.slice sx ns cs, .slice aa na ca]
    replace S := S.later (Later.new _ (.cells #[.slice sx ns cs, .slice aa na ca] 25))
    rw [Later.new_w] at S
    replace hm := hm.later (Later.new _ (.cells #[.slice sx ns cs, .slice aa na ca] 25))
    rw [Later.new_w] at hm
    have hsz : (W.alloc (.cells #[.slice sx ns cs, .slice aa na ca] 25)).heap.size = B1 + 1 := by rw [hb]; simp
    obtain ⟨Y2, hZ⟩ : ∃ Z : Later W, Z.w = W.alloc (.cells #[.slice sx ns cs, .slice aa na ca] 25) := ⟨Later.new _ _, rfl⟩
    rw [← hZ] at S hsz hm l1 ⊢
    clear hZ
    rw [← hb]
    clear hb
    clear hsz
    refine (CheckText_calls l _).mono ?_
    rintro e w' ⟨rfl, rfl⟩
    rw [HE.out]
    go_wp2_with fail
    refine (CheckText_calls l _).mono ?_
    rintro e w' ⟨rfl, rfl⟩
    rw [HE.out]
    go_wp2
    go_ret
    exact ⟨ret_int HF.out.symm, Y2, rfl⟩
  have HE := Lib.hid (show txtE l = 0 from if_neg hl)
  by_cases hn : na = l.length + 1
  rotate_left
  · have HF := Lib.hid (marksE_len hl (st := st) (ad := ad) (by rw [← HA.out]; exact hn))
    have hne : ((na : Int) != (l.length : Int) + 1) = true := by simp; omega
    go_enter Try.func25, Try.ntmps25
    go_wp2_with fail
    obtain ⟨B1, hb⟩ : ∃ b, b = W.heap.size := ⟨_, rfl⟩
    have l1 : Lin (W.alloc (.cells #[.slice sx ns cs, .slice aa na ca] 25)) B1 25 [.slice sx ns cs, .slice aa na ca] := by rw [hb]; exact Lin.new _ _ [.slice sx ns cs, .slice aa na ca]
    replace S := S.later (Later.new _ (.cells #[.slice sx ns cs, .slice aa na ca] 25))
    rw [Later.new_w] at S
    replace hm := hm.later (Later.new _ (.cells #[.slice sx ns cs, .slice aa na ca] 25))
    rw [Later.new_w] at hm
    have hsz : (W.alloc (.cells #[.slice sx ns cs, .slice aa na ca] 25)).heap.size = B1 + 1 := by rw [hb]; simp
    obtain ⟨Y2, hZ⟩ : ∃ Z : Later W, Z.w = W.alloc (.cells #[.slice sx ns cs, .slice aa na ca] 25) := ⟨Later.new _ _, rfl⟩
    rw [← hZ] at S hsz hm l1 ⊢
    clear hZ
    rw [← hb]
    clear hb
    clear hsz
    refine (CheckText_calls l _).mono ?_
    rintro e w' ⟨rfl, rfl⟩
    rw [HE.out]
    have q0_0 := l1.cell (k := 0) rfl
    have q0_1 := l1.cell (k := 1) rfl
    have q0_l := l1.lt
    go_wp2_with fail
    clear q0_0 q0_1 q0_l
    go_ret
    exact ⟨ret_int HF.out.symm, Y2, rfl⟩
  have hne : ((na : Int) != (l.length : Int) + 1) = false := by simp; omega
  have HNA := Lib.hid hn
  clear hn
  go_enter Try.func25, Try.ntmps25
  go_wp2_with fail
  obtain ⟨B1, hb⟩ : ∃ b, b = W.heap.size := ⟨_, rfl⟩
  have l1 : Lin (W.alloc (.cells #[.slice sx ns cs, .slice aa na ca] 25)) B1 25 [.slice sx ns cs, .slice aa na ca] := by rw [hb]; exact Lin.new _ _ [.slice sx ns cs, .slice aa na ca]
  replace S := S.later (Later.new _ (.cells #[.slice sx ns cs, .slice aa na ca] 25))
  rw [Later.new_w] at S
  replace hm := hm.later (Later.new _ (.cells #[.slice sx ns cs, .slice aa na ca] 25))
  rw [Later.new_w] at hm
  have hsz : (W.alloc (.cells #[.slice sx ns cs, .slice aa na ca] 25)).heap.size = B1 + 1 := by rw [hb]; simp
  obtain ⟨Y2, hZ⟩ : ∃ Z : Later W, Z.w = W.alloc (.cells #[.slice sx ns cs, .slice aa na ca] 25) := ⟨Later.new _ _, rfl⟩
  rw [← hZ] at S hsz hm l1 ⊢
  clear hZ
  rw [← hb]
  clear hb
  clear hsz
  refine (CheckText_calls l _).mono ?_
  rintro e w' ⟨rfl, rfl⟩
  rw [HE.out]
  have p_0 := l1.cell (k := 0) rfl
  have p_1 := l1.cell (k := 1) rfl
  have p_l := l1.lt
  go_wp2
  clear p_0 p_1 p_l
  go_loopw [5] (fun i0 wr => ∃ (k : Nat) (u : Later Y2.w), wr = u.w ∧ k ≤ na ∧ i0 = .int .i64 k ∧ Hid (∀ j, j < k → decide (12 < (sat ad j).length) = false)) (fun i0 _ => na - (intOf i0).toNat)
  case atStart => exact ⟨0, Later.self _, rfl, Nat.zero_le _, rfl, Lib.hid (fun j hj => absurd hj (Nat.not_lt_zero _))⟩
  obtain ⟨k, u, rfl, hk, rfl, hP⟩ := hrel
  replace hm := hm.later u
  replace l1 := l1.later u
  replace S := S.later u
  by_cases hlt : k < na
  · obtain ⟨ba, oa, ka, e, hka, hba, hga⟩ := hm.a.at (k := k) (by rw [← HA.out]; exact hlt)
    injection e with e1 e2 e3
    subst e1 e3
    have qa := hga k (by rw [← HA.out]; exact hlt)
    clear hga e2
    obtain ⟨sk, hsk⟩ : ∃ v, sat ad k = v := ⟨_, rfl⟩
    rw [hsk] at qa
    have HSK := Lib.hid hsk
    clear hsk
    by_cases hb : 12 < sk.length
    · have p_0 := l1.cell (k := 0) rfl
      have p_1 := l1.cell (k := 1) rfl
      have p_l := l1.lt
      have HF := Lib.hid (marksE_add hl (st := st) (by rw [← HA.out]; exact HNA.out) (any_at (l := ad) (d := []) (f := fun s => decide (12 < s.length)) (k := k) (by rw [← HA.out]; exact hlt) (by show decide (12 < (sat ad k).length) = true; rw [HSK.out]; exact decide_eq_true hb)))
      go_wp2
      go_ret
      exact ⟨ret_int HF.out.symm, Y2.step (u), rfl⟩
    · have p_0 := l1.cell (k := 0) rfl
      have p_1 := l1.cell (k := 1) rfl
      have p_l := l1.lt
      go_wp2
      go_roundw
      case rel => exact ⟨k + 1, u, rfl, by omega, by go_num, Lib.hid (any_snoc (l := ad) (d := []) (f := fun s => decide (12 < s.length)) hP.out (show decide (12 < (sat ad k).length) = false by rw [HSK.out]; exact decide_eq_false hb))⟩
      case measure => simp [intOf]; omega
  obtain rfl : na = k := by omega
  have HF := Lib.hid (marksE_st hl (st := st) (by rw [← HA.out]; exact HNA.out) (any_off (l := ad) (d := []) (f := fun s => decide (12 < s.length)) fun j hj => hP.out j (by rw [HA.out]; exact hj)))
  clear hP hk
  have p_0 := l1.cell (k := 0) rfl
  have p_1 := l1.cell (k := 1) rfl
  have p_l := l1.lt
  go_wp2
  clear p_0 p_1 p_l
  go_loopw [6] (fun i0 wr => ∃ (k : Nat) (u : Later u.w), wr = u.w ∧ k ≤ ns ∧ i0 = .int .i64 k ∧ Hid (∀ j, j < k → strayI l.length st j = false)) (fun i0 _ => ns - (intOf i0).toNat)
  case atStart => exact ⟨0, Later.self _, rfl, Nat.zero_le _, rfl, Lib.hid (fun j hj => absurd hj (Nat.not_lt_zero _))⟩
  obtain ⟨k, u2, rfl, hk, rfl, hP⟩ := hrel
  replace hm := hm.later u2
  replace l1 := l1.later u2
  replace S := S.later u2
  by_cases hlt2 : k < ns
  · obtain ⟨bs, os, ks, e, hks, hbs, hgs⟩ := hm.s.at (k := k) (by rw [← HS.out]; exact hlt2)
    injection e with e1 e2 e3
    subst e1 e3
    clear e2
    have qk := hgs k (by rw [← HS.out]; exact hlt2)
    obtain ⟨x, hx⟩ : ∃ v, nth st k = v := ⟨_, rfl⟩
    rw [hx] at qk
    have hst : strayI l.length st k = (decide (x < 0) || decide ((l.length : Int) ≤ x) || (decide (0 < k) && decide (x ≤ nth st (k - 1)))) := by rw [strayI, hx]
    clear hx
    by_cases hk0 : k = 0
    · subst hk0
      rw [Nat.add_zero] at qk
      have hst2 : strayI l.length st 0 = (decide (x < 0) || decide ((l.length : Int) ≤ x)) := by rw [hst]; simp
      clear hgs
      clear hst
      by_cases hb : x < 0 ∨ (l.length : Int) ≤ x
      · have HX := Lib.hid (show strayI l.length st 0 = true by rw [hst2]; simp; omega)
        have HF2 := Lib.hid (show marksE l st ad = 3 by rw [HF.out, if_pos (List.any_eq_true.2 ⟨0, List.mem_range.2 (by rw [← HS.out]; exact hlt2), HX.out⟩)])
        clear hst2 HF
        by_cases h1 : x < 0
        all_goals by_cases h2 : (l.length : Int) ≤ x
        · exfalso
          omega
        · have d1 : decide (x < 0) = true := by simp; omega
          have d2 : decide ((l.length : Int) ≤ x) = false := by simp; omega
          have p_0 := l1.cell (k := 0) rfl
          have p_1 := l1.cell (k := 1) rfl
          have p_l := l1.lt
          go_wp2
          refine Mix.region_mixL (Mix.kinds [] [] []) (by kernel_rfl) (by kernel_rfl) ?_
          repeat ((with_reducible refine Mix.atCons ?_); first | refine Mix.skipU (by rfl) rfl (by rfl) ?_ | (refine Mix.val rfl rfl (by rfl) (fun K hK => ?_); go_big_quiet_op; refine hK _ ?_; clear hK K) | (refine Mix.skip (by rfl) ?_; go_frame))
          refine Mix.done (fun x1 => ?_)
          replace hm := (hm.later x1)
          replace l1 := (l1.later x1)
          replace S := (S.later x1)
          obtain ⟨Y3, hZ⟩ : ∃ Z : Later u.w, Z.w = x1.w := ⟨u2.step (x1), rfl⟩
          rw [← hZ] at S hm l1 ⊢
          clear hZ
          go_wp2
          go_ret
          exact ⟨ret_int HF2.out.symm, Y2.step (u.step (Y3)), rfl⟩
        · have d1 : decide (x < 0) = false := by simp; omega
          have d2 : decide ((l.length : Int) ≤ x) = true := by simp; omega
          have p_0 := l1.cell (k := 0) rfl
          have p_1 := l1.cell (k := 1) rfl
          have p_l := l1.lt
          go_wp2
          refine Mix.region_mixL (Mix.kinds [] [] []) (by kernel_rfl) (by kernel_rfl) ?_
          repeat ((with_reducible refine Mix.atCons ?_); first | refine Mix.skipU (by rfl) rfl (by rfl) ?_ | (refine Mix.val rfl rfl (by rfl) (fun K hK => ?_); go_big_quiet_op; refine hK _ ?_; clear hK K) | (refine Mix.skip (by rfl) ?_; go_frame))
          refine Mix.done (fun x1 => ?_)
          replace hm := (hm.later x1)
          replace l1 := (l1.later x1)
          replace S := (S.later x1)
          obtain ⟨Y3, hZ⟩ : ∃ Z : Later u.w, Z.w = x1.w := ⟨u2.step (x1), rfl⟩
          rw [← hZ] at S hm l1 ⊢
          clear hZ
          go_wp2
          go_ret
          exact ⟨ret_int HF2.out.symm, Y2.step (u.step (Y3)), rfl⟩
        · exfalso
          omega
      · have HX := Lib.hid (show strayI l.length st 0 = false by rw [hst2]; simp; omega)
        clear hst2
        by_cases h1 : x < 0
        all_goals by_cases h2 : (l.length : Int) ≤ x
        · exfalso
          omega
        · exfalso
          omega
        · exfalso
          omega
        · have d1 : decide (x < 0) = false := by simp; omega
          have d2 : decide ((l.length : Int) ≤ x) = false := by simp; omega
          have p_0 := l1.cell (k := 0) rfl
          have p_1 := l1.cell (k := 1) rfl
          have p_l := l1.lt
          go_wp2
          refine Mix.region_mixL (Mix.kinds [] [] []) (by kernel_rfl) (by kernel_rfl) ?_
          repeat ((with_reducible refine Mix.atCons ?_); first | refine Mix.skipU (by rfl) rfl (by rfl) ?_ | (refine Mix.val rfl rfl (by rfl) (fun K hK => ?_); go_big_quiet_op; refine hK _ ?_; clear hK K) | (refine Mix.skip (by rfl) ?_; go_frame))
          refine Mix.done (fun x1 => ?_)
          replace hm := (hm.later x1)
          replace l1 := (l1.later x1)
          replace S := (S.later x1)
          obtain ⟨Y3, hZ⟩ : ∃ Z : Later u.w, Z.w = x1.w := ⟨u2.step (x1), rfl⟩
          rw [← hZ] at S hm l1 ⊢
          clear hZ
          go_wp2
          go_roundw
          case rel => exact ⟨0 + 1, Y3, rfl, by omega, by go_num, Lib.hid (fun i hi => by
            by_cases h : i = 0
            · rw [h]; exact HX.out
            · exact hP.out i (by omega))⟩
          case measure => simp [intOf]; omega
    · have qj := hgs (k - 1) (by rw [← HS.out]; omega)
      clear hgs
      obtain ⟨j, hj⟩ : ∃ j, k - 1 = j := ⟨_, rfl⟩
      rw [hj] at qj hst
      obtain ⟨z, hz⟩ : ∃ v, nth st j = v := ⟨_, rfl⟩
      rw [hz] at qj hst
      have hkj : k = j + 1 := by omega
      subst hkj
      have hst2 : strayI l.length st (j + 1) = (decide (x < 0) || decide ((l.length : Int) ≤ x) || decide (x ≤ z)) := by rw [hst]; simp
      clear hj hz
      clear hst
      by_cases hb : x < 0 ∨ (l.length : Int) ≤ x ∨ x ≤ z
      · have HX := Lib.hid (show strayI l.length st (j + 1) = true by rw [hst2]; simp; omega)
        have HF2 := Lib.hid (show marksE l st ad = 3 by rw [HF.out, if_pos (List.any_eq_true.2 ⟨(j + 1), List.mem_range.2 (by rw [← HS.out]; exact hlt2), HX.out⟩)])
        clear hst2 HF
        by_cases h1 : x < 0
        all_goals by_cases h2 : (l.length : Int) ≤ x
        all_goals by_cases h3 : x ≤ z
        · exfalso
          omega
        · exfalso
          omega
        · have d1 : decide (x < 0) = true := by simp; omega
          have d2 : decide ((l.length : Int) ≤ x) = false := by simp; omega
          have d3 : decide (x ≤ z) = true := by simp; omega
          have p_0 := l1.cell (k := 0) rfl
          have p_1 := l1.cell (k := 1) rfl
          have p_l := l1.lt
          go_wp2
          refine Mix.region_mixL (Mix.kinds [] [] []) (by kernel_rfl) (by kernel_rfl) ?_
          repeat ((with_reducible refine Mix.atCons ?_); first | refine Mix.skipU (by rfl) rfl (by rfl) ?_ | (refine Mix.val rfl rfl (by rfl) (fun K hK => ?_); go_big_quiet_op; refine hK _ ?_; clear hK K) | (refine Mix.skip (by rfl) ?_; go_frame))
          refine Mix.done (fun x1 => ?_)
          replace hm := (hm.later x1)
          replace l1 := (l1.later x1)
          replace S := (S.later x1)
          obtain ⟨Y3, hZ⟩ : ∃ Z : Later u.w, Z.w = x1.w := ⟨u2.step (x1), rfl⟩
          rw [← hZ] at S hm l1 ⊢
          clear hZ
          go_wp2
          go_ret
          exact ⟨ret_int HF2.out.symm, Y2.step (u.step (Y3)), rfl⟩
        · have d1 : decide (x < 0) = true := by simp; omega
          have d2 : decide ((l.length : Int) ≤ x) = false := by simp; omega
          have d3 : decide (x ≤ z) = false := by simp; omega
          have p_0 := l1.cell (k := 0) rfl
          have p_1 := l1.cell (k := 1) rfl
          have p_l := l1.lt
          go_wp2
          refine Mix.region_mixL (Mix.kinds [] [] []) (by kernel_rfl) (by kernel_rfl) ?_
          repeat ((with_reducible refine Mix.atCons ?_); first | refine Mix.skipU (by rfl) rfl (by rfl) ?_ | (refine Mix.val rfl rfl (by rfl) (fun K hK => ?_); go_big_quiet_op; refine hK _ ?_; clear hK K) | (refine Mix.skip (by rfl) ?_; go_frame))
          refine Mix.done (fun x1 => ?_)
          replace hm := (hm.later x1)
          replace l1 := (l1.later x1)
          replace S := (S.later x1)
          obtain ⟨Y3, hZ⟩ : ∃ Z : Later u.w, Z.w = x1.w := ⟨u2.step (x1), rfl⟩
          rw [← hZ] at S hm l1 ⊢
          clear hZ
          go_wp2
          go_ret
          exact ⟨ret_int HF2.out.symm, Y2.step (u.step (Y3)), rfl⟩
        · have d1 : decide (x < 0) = false := by simp; omega
          have d2 : decide ((l.length : Int) ≤ x) = true := by simp; omega
          have d3 : decide (x ≤ z) = true := by simp; omega
          have p_0 := l1.cell (k := 0) rfl
          have p_1 := l1.cell (k := 1) rfl
          have p_l := l1.lt
          go_wp2
          refine Mix.region_mixL (Mix.kinds [] [] []) (by kernel_rfl) (by kernel_rfl) ?_
          repeat ((with_reducible refine Mix.atCons ?_); first | refine Mix.skipU (by rfl) rfl (by rfl) ?_ | (refine Mix.val rfl rfl (by rfl) (fun K hK => ?_); go_big_quiet_op; refine hK _ ?_; clear hK K) | (refine Mix.skip (by rfl) ?_; go_frame))
          refine Mix.done (fun x1 => ?_)
          replace hm := (hm.later x1)
          replace l1 := (l1.later x1)
          replace S := (S.later x1)
          obtain ⟨Y3, hZ⟩ : ∃ Z : Later u.w, Z.w = x1.w := ⟨u2.step (x1), rfl⟩
          rw [← hZ] at S hm l1 ⊢
          clear hZ
          go_wp2
          go_ret
          exact ⟨ret_int HF2.out.symm, Y2.step (u.step (Y3)), rfl⟩
        · have d1 : decide (x < 0) = false := by simp; omega
          have d2 : decide ((l.length : Int) ≤ x) = true := by simp; omega
          have d3 : decide (x ≤ z) = false := by simp; omega
          have p_0 := l1.cell (k := 0) rfl
          have p_1 := l1.cell (k := 1) rfl
          have p_l := l1.lt
          go_wp2
          refine Mix.region_mixL (Mix.kinds [] [] []) (by kernel_rfl) (by kernel_rfl) ?_
          repeat ((with_reducible refine Mix.atCons ?_); first | refine Mix.skipU (by rfl) rfl (by rfl) ?_ | (refine Mix.val rfl rfl (by rfl) (fun K hK => ?_); go_big_quiet_op; refine hK _ ?_; clear hK K) | (refine Mix.skip (by rfl) ?_; go_frame))
          refine Mix.done (fun x1 => ?_)
          replace hm := (hm.later x1)
          replace l1 := (l1.later x1)
          replace S := (S.later x1)
          obtain ⟨Y3, hZ⟩ : ∃ Z : Later u.w, Z.w = x1.w := ⟨u2.step (x1), rfl⟩
          rw [← hZ] at S hm l1 ⊢
          clear hZ
          go_wp2
          go_ret
          exact ⟨ret_int HF2.out.symm, Y2.step (u.step (Y3)), rfl⟩
        · have d1 : decide (x < 0) = false := by simp; omega
          have d2 : decide ((l.length : Int) ≤ x) = false := by simp; omega
          have d3 : decide (x ≤ z) = true := by simp; omega
          have p_0 := l1.cell (k := 0) rfl
          have p_1 := l1.cell (k := 1) rfl
          have p_l := l1.lt
          go_wp2
          refine Mix.region_mixL (Mix.kinds [] [] []) (by kernel_rfl) (by kernel_rfl) ?_
          repeat ((with_reducible refine Mix.atCons ?_); first | refine Mix.skipU (by rfl) rfl (by rfl) ?_ | (refine Mix.val rfl rfl (by rfl) (fun K hK => ?_); go_big_quiet_op; refine hK _ ?_; clear hK K) | (refine Mix.skip (by rfl) ?_; go_frame))
          refine Mix.done (fun x1 => ?_)
          replace hm := (hm.later x1)
          replace l1 := (l1.later x1)
          replace S := (S.later x1)
          obtain ⟨Y3, hZ⟩ : ∃ Z : Later u.w, Z.w = x1.w := ⟨u2.step (x1), rfl⟩
          rw [← hZ] at S hm l1 ⊢
          clear hZ
          go_wp2
          go_ret
          exact ⟨ret_int HF2.out.symm, Y2.step (u.step (Y3)), rfl⟩
        · exfalso
          omega
      · have HX := Lib.hid (show strayI l.length st (j + 1) = false by rw [hst2]; simp; omega)
        clear hst2
        by_cases h1 : x < 0
        all_goals by_cases h2 : (l.length : Int) ≤ x
        all_goals by_cases h3 : x ≤ z
        · exfalso
          omega
        · exfalso
          omega
        · exfalso
          omega
        · exfalso
          omega
        · exfalso
          omega
        · exfalso
          omega
        · exfalso
          omega
        · have d1 : decide (x < 0) = false := by simp; omega
          have d2 : decide ((l.length : Int) ≤ x) = false := by simp; omega
          have d3 : decide (x ≤ z) = false := by simp; omega
          have p_0 := l1.cell (k := 0) rfl
          have p_1 := l1.cell (k := 1) rfl
          have p_l := l1.lt
          go_wp2
          refine Mix.region_mixL (Mix.kinds [] [] []) (by kernel_rfl) (by kernel_rfl) ?_
          repeat ((with_reducible refine Mix.atCons ?_); first | refine Mix.skipU (by rfl) rfl (by rfl) ?_ | (refine Mix.val rfl rfl (by rfl) (fun K hK => ?_); go_big_quiet_op; refine hK _ ?_; clear hK K) | (refine Mix.skip (by rfl) ?_; go_frame))
          refine Mix.done (fun x1 => ?_)
          replace hm := (hm.later x1)
          replace l1 := (l1.later x1)
          replace S := (S.later x1)
          obtain ⟨Y3, hZ⟩ : ∃ Z : Later u.w, Z.w = x1.w := ⟨u2.step (x1), rfl⟩
          rw [← hZ] at S hm l1 ⊢
          clear hZ
          go_wp2
          go_roundw
          case rel => exact ⟨(j + 1) + 1, Y3, rfl, by omega, by go_num, Lib.hid (fun i hi => by
            by_cases h : i = (j + 1)
            · rw [h]; exact HX.out
            · exact hP.out i (by omega))⟩
          case measure => simp [intOf]; omega
  obtain rfl : ns = k := by omega
  have HF2 := Lib.hid (show marksE l st ad = 0 by
    rw [HF.out, if_neg]
    intro h
    obtain ⟨i, hi, h⟩ := List.any_eq_true.1 h
    rw [hP.out i (by rw [HS.out]; exact List.mem_range.1 hi)] at h
    cases h)
  have p_0 := l1.cell (k := 0) rfl
  have p_1 := l1.cell (k := 1) rfl
  have p_l := l1.lt
  go_wp2
  go_ret
  exact ⟨ret_int HF2.out.symm, Y2.step (u.step (u2)), rfl⟩
end Go.Proofs.Ytpkgfkeekcgkcaa

/-  The definitions' ReadOf, Read. -/
namespace Go.Proofs.Ytpkgfkeekcgkcaa
open Go.RowKit
/-- marks of a text -/
structure Okm (l : List UInt8) (st : List Int) (ad : List (List UInt8)) : Prop where
  l12 : l.length ≤ 12
  al : ad.length = l.length + 1
  a12 : ∀ s ∈ ad, s.length ≤ 12
  sr : ∀ i, i < st.length → 0 ≤ nth st i ∧ nth st i < l.length
  si : ∀ i, i + 1 < st.length → nth st i < nth st (i + 1)
theorem marks_ok {l : List UInt8} {st : List Int} {ad : List (List UInt8)} (h : marksE l st ad = 0) : Okm l st ad := by
  by_cases h1 : 12 < l.length
  · rw [marksE_long h1] at h; cases h
  · by_cases h2 : ad.length = l.length + 1
    · cases h3 : ad.any fun s => decide (12 < s.length)
      · rw [marksE_st h1 h2 h3] at h
        have h4 : ((List.range st.length).any (strayI l.length st)) = false := by
          cases h5 : (List.range st.length).any (strayI l.length st)
          · rfl
          · rw [h5, if_pos rfl] at h; cases h
        rw [List.any_eq_false] at h3 h4
        have key : ∀ i, i < st.length → strayI l.length st i = false := fun i hi => by simpa using h4 i (List.mem_range.2 hi)
        refine ⟨by omega, h2, fun s hs => by have := h3 s hs; simpa using this, fun i hi => ?_, fun i hi => ?_⟩
        · have := key i hi
          simp only [strayI, Bool.or_eq_false_iff, decide_eq_false_iff_not] at this
          omega
        · have := key (i + 1) hi
          simp only [strayI, Bool.or_eq_false_iff, Bool.and_eq_false_iff, decide_eq_false_iff_not, Nat.add_sub_cancel] at this
          omega
      · rw [marksE_add h1 h2 h3] at h; cases h
    · rw [marksE_len h1 h2] at h; cases h
theorem Okm.e {l : List UInt8} {st : List Int} {ad : List (List UInt8)} (h : Okm l st ad) : marksE l st ad = 0 := by
  have h3 : (ad.any fun s => decide (12 < s.length)) = false := by
    rw [List.any_eq_false]; intro s hs; have := h.a12 s hs; simp; omega
  rw [marksE_st (by have := h.l12; omega) h.al h3, if_neg]
  intro h5
  obtain ⟨i, hi, h6⟩ := List.any_eq_true.1 h5
  have hi := List.mem_range.1 hi
  have h1 := h.sr i hi
  rw [strayI] at h6
  cases i with
  | zero => simp at h6; omega
  | succ i =>
    have h2 := h.si i hi
    simp at h6; omega
theorem Okm.sat12 {l : List UInt8} {st : List Int} {ad : List (List UInt8)} (h : Okm l st ad) (k : Nat) : (sat ad k).length ≤ 12 := by
  by_cases hk : k < ad.length
  · rw [sat_eq hk]; exact h.a12 _ (List.getElem_mem hk)
  · rw [sat, List.getD_eq_getElem?_getD, List.getElem?_eq_none (by omega)]; simp
theorem kp_len (st : List Int) (l : List UInt8) (k : Nat) : (kp st l k).length ≤ 1 := by rw [kp]; split <;> simp
theorem Okm.rd_len {l : List UInt8} {st : List Int} {ad : List (List UInt8)} (h : Okm l st ad) : ∀ k, (rd st l ad k).length ≤ 13 * k
  | 0 => by simp [rd]
  | k + 1 => by
    have h1 := h.rd_len k
    have h2 := h.sat12 k
    have h3 := kp_len st l k
    rw [rd, List.length_append, List.length_append]; omega
theorem Okm.cn_len {l : List UInt8} {st : List Int} {ad : List (List UInt8)} (h : Okm l st ad) : ∀ k, cn ad k ≤ 12 * k
  | 0 => by simp [cn]
  | k + 1 => by
    have h1 := h.cn_len k
    have h2 := h.sat12 k
    rw [cn]; omega
theorem kp_yes {st : List Int} {l : List UInt8} {k : Nat} (h : hasB st k = true) : kp st l k = [] := by rw [kp, if_neg]; rw [h]; simp
theorem kp_no {st : List Int} {l : List UInt8} {k : Nat} (hk : k < l.length) (h : hasB st k = false) : kp st l k = [bt l k] := by rw [kp, if_pos ⟨hk, h⟩]
theorem kp_end {st : List Int} {l : List UInt8} {k : Nat} (hk : ¬ k < l.length) : kp st l k = [] := by rw [kp, if_neg fun e => hk e.1]
theorem take_bt {l : List UInt8} {k : Nat} (hk : k < l.length) : (l.drop k).take 1 = [bt l k] := by
  rw [bt_eq hk, List.drop_eq_getElem_cons hk]; rfl
theorem ext_bt {l : List UInt8} {k : Nat} (hk : k < l.length) : (⟨l.toArray⟩ : ByteArray).extract k (k + 1) = ⟨[bt l k].toArray⟩ := by
  rw [ByteArray.extract_mk, Nat.add_sub_cancel_left, take_bt hk]
set_option maxRecDepth 100000 in
set_option maxHeartbeats 4000000 in
theorem ReadOf_calls (l : List UInt8) (sv av : Value) (st : List Int) (ad : List (List UInt8)) (ho : Okm l st ad) (W : World) (hm : Mks W sv av st ad) :
    Calls Try.prog 48 #[.string ⟨l.toArray⟩, .agg #[sv, av]] W (Gives (.tuple #[.string ⟨(rd st l ad (l.length + 1)).toArray⟩, .int .i64 ((st.length : Int) + (cn ad (l.length + 1) : Nat))]) W) := by
  have S : Ins W [] := Ins.nil _
  obtain ⟨sx, ns, cs, rfl⟩ : ∃ a n c, sv = .slice a n c := by obtain ⟨a, c, e⟩ := hm.s.form; exact ⟨a, _, c, e⟩
  obtain ⟨aa, na, ca, rfl⟩ : ∃ a n c, av = .slice a n c := by obtain ⟨a, c, e⟩ := hm.a.form; exact ⟨a, _, c, e⟩
  have HS := Lib.hid (show ns = st.length by obtain ⟨a, c, e⟩ := hm.s.form; cases e; rfl)
  have HA := Lib.hid (show na = ad.length by obtain ⟨a, c, e⟩ := hm.a.form; cases e; rfl)
  have hsl : ns ≤ 9007199254740992 := by rw [HS.out]; exact hm.s.1
  have hal : na ≤ 9007199254740992 := by rw [HA.out]; exact hm.a.1
  obtain ⟨n, hn⟩ : ∃ n, l.length = n := ⟨_, rfl⟩
  have h12 : n ≤ 12 := by rw [← hn]; exact ho.l12
  have HO := Lib.hid ho
  have HL := Lib.hid hn
  have HAL := Lib.hid (show na = n + 1 by rw [HA.out, ho.al, hn])
  rw [hn]
  have hna : 0 < na := by have := HAL.out; omega
  clear hn ho
  go_enter Try.func48, Try.ntmps48
  go_wp2_with fail
  obtain ⟨B1, hb⟩ : ∃ b, b = W.heap.size := ⟨_, rfl⟩
  have l1 : Lin (W.alloc (.cells #[.slice sx ns cs, .slice aa na ca] 25)) B1 25 [.slice sx ns cs, .slice aa na ca] := by rw [hb]; exact Lin.new _ _ [.slice sx ns cs, .slice aa na ca]
  replace S := S.later (Later.new _ (.cells #[.slice sx ns cs, .slice aa na ca] 25))
  rw [Later.new_w] at S
  replace hm := hm.later (Later.new _ (.cells #[.slice sx ns cs, .slice aa na ca] 25))
  rw [Later.new_w] at hm
  have hsz : (W.alloc (.cells #[.slice sx ns cs, .slice aa na ca] 25)).heap.size = B1 + 1 := by rw [hb]; simp
  obtain ⟨Y2, hZ⟩ : ∃ Z : Later W, Z.w = W.alloc (.cells #[.slice sx ns cs, .slice aa na ca] 25) := ⟨Later.new _ _, rfl⟩
  rw [← hZ] at S hsz hm l1 ⊢
  clear hZ
  rw [← hb]
  clear hb
  clear hsz
  have hsz : (⟨l.toArray⟩ : ByteArray).size = n := by rw [str_size]; exact HL.out
  obtain ⟨ba, oa, ka, e, hka, hba, hga⟩ := hm.a.at (k := 0) (by rw [← HA.out]; exact hna)
  injection e with e1 e2 e3
  subst e1 e3
  have qa := hga 0 (by rw [← HA.out]; exact hna)
  clear hga e2
  rw [Nat.add_zero] at qa
  obtain ⟨s0, hs0⟩ : ∃ v, sat ad 0 = v := ⟨_, rfl⟩
  rw [hs0] at qa
  have HS0 := Lib.hid hs0
  have hs12 := HO.out.sat12 0
  rw [hs0] at hs12
  clear hs0
  have p_0 := l1.cell (k := 0) rfl
  have p_1 := l1.cell (k := 1) rfl
  have p_l := l1.lt
  go_wp2
  refine Mix.region_mixL (Mix.kinds [] [] []) (by kernel_rfl) (by kernel_rfl) ?_
  repeat ((with_reducible refine Mix.atCons ?_); first | refine Mix.skipU (by rfl) rfl (by rfl) ?_ | (refine Mix.val rfl rfl (by rfl) (fun K hK => ?_); go_big_quiet_op; refine hK _ ?_; clear hK K) | (refine Mix.skip (by rfl) ?_; go_frame))
  refine Mix.done (fun x1 => ?_)
  replace hm := (hm.later x1)
  replace l1 := (l1.later x1)
  replace S := (S.later x1)
  obtain ⟨Y3, hZ⟩ : ∃ Z : Later W, Z.w = x1.w := ⟨Y2.step (x1), rfl⟩
  rw [← hZ] at S hm l1 ⊢
  clear hZ
  go_wp2
  clear qa
  go_loopw [6, 7, 8] (fun ov nv i0 wr => ∃ (k : Nat) (u : Later Y3.w), wr = u.w ∧ k ≤ n ∧ i0 = .int .i64 k ∧ ov = .string ⟨(rd st l ad k ++ sat ad k).toArray⟩ ∧ nv = .int .i64 ((ns : Int) + (cn ad (k + 1) : Nat))) (fun _ _ i0 _ => n - (intOf i0).toNat)
  case atStart => exact ⟨0, Later.self _, rfl, Nat.zero_le _, rfl, by rw [HS0.out]; simp [rd], by simp [cn, HS0.out]⟩
  obtain ⟨k, u, rfl, hk, rfl, rfl, rfl⟩ := hrel
  replace hm := hm.later u
  replace l1 := l1.later u
  replace S := S.later u
  obtain ⟨ol, hol⟩ : ∃ v, rd st l ad k ++ sat ad k = v := ⟨_, rfl⟩
  have hol2 : ol.length ≤ 200 := by
    rw [← hol, List.length_append]
    have h1 := HO.out.rd_len k
    have h2 := HO.out.sat12 k
    omega
  obtain ⟨cv, hcv⟩ : ∃ v, cn ad (k + 1) = v := ⟨_, rfl⟩
  have hcv2 : cv ≤ 200 := by
    rw [← hcv]
    have h1 := HO.out.cn_len (k + 1)
    omega
  rw [hol, hcv]
  have HOL := Lib.hid hol
  have HCV := Lib.hid hcv
  clear hol hcv
  by_cases hlt : k < n
  · obtain ⟨bc, oc, kc, ec, -, hbc, hgc⟩ := hm.a.at (k := (k + 1)) (by rw [← HA.out, HAL.out]; omega)
    injection ec with e1 e2 e3
    injection e1 with e1
    injection e1 with e4 e5
    subst e4 e5 e3
    have qc := hgc (k + 1) (by rw [← HA.out, HAL.out]; omega)
    clear hgc e2
    obtain ⟨s1, hs1⟩ : ∃ v, sat ad (k + 1) = v := ⟨_, rfl⟩
    rw [hs1] at qc
    have hs13 := HO.out.sat12 (k + 1)
    rw [hs1] at hs13
    have hkl : k < l.length := by rw [HL.out]; exact hlt
    have hext := ext_bt hkl
    have hkna : k + 1 < na := by have := HAL.out; omega
    obtain ⟨P, hP⟩ : ∃ P, hasB st k = P := ⟨_, rfl⟩
    have HP := Lib.hid hP
    cases P
    · have HNX := Lib.hid (show ol ++ [bt l k] ++ s1 = rd st l ad (k + 1) ++ sat ad (k + 1) by rw [rd, kp_no hkl hP, hs1, HOL.out])
      have HNC := Lib.hid (show cv + s1.length = cn ad (k + 1 + 1) by rw [cn, HCV.out, hs1])
      clear hP hs1
      have p_0 := l1.cell (k := 0) rfl
      have p_1 := l1.cell (k := 1) rfl
      have p_l := l1.lt
      go_wp2_with fail
      refine (Has_calls _ st k _ hm.s).mono ?_
      rintro e w' ⟨rfl, rfl⟩
      rw [HP.out]
      go_wp2
      go_roundw
      case rel => exact ⟨k + 1, u, rfl, by omega, by go_num, by first | (rw [← HNX.out]; done) | (rw [← HNX.out]; simp), by rw [← HNC.out]; congr 1; push_cast; omega⟩
      case measure => simp [intOf]; omega
    · have HNX := Lib.hid (show ol ++ s1 = rd st l ad (k + 1) ++ sat ad (k + 1) by rw [rd, kp_yes hP, hs1, HOL.out]; simp)
      have HNC := Lib.hid (show cv + s1.length = cn ad (k + 1 + 1) by rw [cn, HCV.out, hs1])
      clear hP hs1
      have p_0 := l1.cell (k := 0) rfl
      have p_1 := l1.cell (k := 1) rfl
      have p_l := l1.lt
      go_wp2_with fail
      refine (Has_calls _ st k _ hm.s).mono ?_
      rintro e w' ⟨rfl, rfl⟩
      rw [HP.out]
      go_wp2
      go_roundw
      case rel => exact ⟨k + 1, u, rfl, by omega, by go_num, by first | (rw [← HNX.out]; done) | (rw [← HNX.out]; simp), by rw [← HNC.out]; congr 1; push_cast; omega⟩
      case measure => simp [intOf]; omega
  obtain rfl : n = k := by omega
  have HNX := Lib.hid (show ol = rd st l ad (n + 1) by rw [rd, kp_end (by rw [HL.out]; omega), List.append_nil, HOL.out])
  go_wp2
  refine bodyPost_ret (v := .tuple #[.string ⟨ol.toArray⟩, .int .i64 ((ns : Int) + (cv : Nat))]) (by simp [results, Try.results48, go_sem]) rfl ?_
  exact ⟨by rw [← HNX.out, HCV.out, HS.out], Y3.step (u), rfl⟩
end Go.Proofs.Ytpkgfkeekcgkcaa

/-  The definitions' Read, Both, ClashOf, Clash. -/
namespace Go.Proofs.Ytpkgfkeekcgkcaa
open Go.RowKit
def readL (l : List UInt8) (st : List Int) (ad : List (List UInt8)) : List UInt8 := if marksE l st ad = 0 then rd st l ad (l.length + 1) else []
def readN (l : List UInt8) (st : List Int) (ad : List (List UInt8)) : Int := if marksE l st ad = 0 then (st.length : Int) + (cn ad (l.length + 1) : Nat) else 0
def bothE (l : List UInt8) (st : List Int) (ad : List (List UInt8)) (st2 : List Int) (ad2 : List (List UInt8)) : Int := if marksE l st ad ≠ 0 then marksE l st ad else marksE l st2 ad2
def clashB (a b : List UInt8) : Bool := !a.isEmpty && (!b.isEmpty && !(a == b))
def clashF (ad ad2 : List (List UInt8)) : Nat → Nat → Int
  | _, 0 => -1
  | k, n + 1 => if clashB (sat ad k) (sat ad2 k) = true then (k : Int) else clashF ad ad2 (k + 1) n
/-- the first place at which marks contradict one another, -1 if there is none -/
def clashN (ad ad2 : List (List UInt8)) : Int := clashF ad ad2 0 ad.length
set_option maxRecDepth 100000 in
set_option maxHeartbeats 4000000 in
theorem rRead_calls (l : List UInt8) (sv av : Value) (st : List Int) (ad : List (List UInt8)) (W : World) (hm : Mks W sv av st ad) :
    Calls Try.prog 21 #[.string ⟨l.toArray⟩, .agg #[sv, av]] W (Gives (.tuple #[.string ⟨(readL l st ad).toArray⟩, .int .i64 (readN l st ad), .int .i64 (marksE l st ad)]) W) := by
  have S : Ins W [] := Ins.nil _
  obtain ⟨sx, ns, cs, rfl⟩ : ∃ a n c, sv = .slice a n c := by obtain ⟨a, c, e⟩ := hm.s.form; exact ⟨a, _, c, e⟩
  obtain ⟨aa, na, ca, rfl⟩ : ∃ a n c, av = .slice a n c := by obtain ⟨a, c, e⟩ := hm.a.form; exact ⟨a, _, c, e⟩
  have HS := Lib.hid (show ns = st.length by obtain ⟨a, c, e⟩ := hm.s.form; cases e; rfl)
  have HA := Lib.hid (show na = ad.length by obtain ⟨a, c, e⟩ := hm.a.form; cases e; rfl)
  have hsl : ns ≤ 9007199254740992 := by rw [HS.out]; exact hm.s.1
  have hal : na ≤ 9007199254740992 := by rw [HA.out]; exact hm.a.1
  obtain ⟨E, hE⟩ : ∃ E, marksE l st ad = E := ⟨_, rfl⟩
  have HE := Lib.hid hE
  by_cases h0 : E = 0
  rotate_left
  · have HR := Lib.hid (show readL l st ad = [] ∧ readN l st ad = 0 by rw [readL, readN, hE, if_neg h0, if_neg h0]; exact ⟨rfl, rfl⟩)
    have hne : (E != 0) = true := by simpa using h0
    clear hE
    go_enter Try.func21, Try.ntmps21
    go_wp2_with fail
    obtain ⟨B1, hb⟩ : ∃ b, b = W.heap.size := ⟨_, rfl⟩
    have l1 : Lin (W.alloc (.cells #[.slice sx ns cs, .slice aa na ca] 25)) B1 25 [.slice sx ns cs, .slice aa na ca] := by rw [hb]; exact Lin.new _ _ [.slice sx ns cs, .slice aa na ca]
    replace S := S.later (Later.new _ (.cells #[.slice sx ns cs, .slice aa na ca] 25))
    rw [Later.new_w] at S
    replace hm := hm.later (Later.new _ (.cells #[.slice sx ns cs, .slice aa na ca] 25))
    rw [Later.new_w] at hm
    have hsz : (W.alloc (.cells #[.slice sx ns cs, .slice aa na ca] 25)).heap.size = B1 + 1 := by rw [hb]; simp
    obtain ⟨Y2, hZ⟩ : ∃ Z : Later W, Z.w = W.alloc (.cells #[.slice sx ns cs, .slice aa na ca] 25) := ⟨Later.new _ _, rfl⟩
    rw [← hZ] at S hsz hm l1 ⊢
    clear hZ
    rw [← hb]
    clear hb
    clear hsz
    refine (rCheckMarks_calls l _ _ st ad _ hm).mono ?_
    rintro e w' ⟨rfl, y, rfl⟩
    rw [HE.out]
    replace hm := hm.later y
    replace l1 := l1.later y
    replace S := S.later y
    obtain ⟨Y3, hZ⟩ : ∃ Z : Later W, Z.w = y.w := ⟨Y2.step (y), rfl⟩
    rw [← hZ] at S hm l1 ⊢
    clear hZ
    clear y
    have q0_0 := l1.cell (k := 0) rfl
    have q0_1 := l1.cell (k := 1) rfl
    have q0_l := l1.lt
    go_wp2_with fail
    clear q0_0 q0_1 q0_l
    refine (rCheckMarks_calls l _ _ st ad _ hm).mono ?_
    rintro e w' ⟨rfl, y, rfl⟩
    rw [HE.out]
    replace hm := hm.later y
    replace l1 := l1.later y
    replace S := S.later y
    obtain ⟨Y4, hZ⟩ : ∃ Z : Later W, Z.w = y.w := ⟨Y3.step (y), rfl⟩
    rw [← hZ] at S hm l1 ⊢
    clear hZ
    clear y
    go_wp2
    refine bodyPost_ret (v := .tuple #[.string ⟨#[]⟩, .int .i64 0, .int .i64 E]) (by simp [results, Try.results21, go_sem]) rfl ?_
    exact ⟨by rw [HR.out.1, HR.out.2, HE.out], Y4, rfl⟩
  subst h0
  have ho := marks_ok hE
  have HR := Lib.hid (show readL l st ad = rd st l ad (l.length + 1) ∧ readN l st ad = (st.length : Int) + (cn ad (l.length + 1) : Nat) by rw [readL, readN, hE, if_pos rfl, if_pos rfl]; exact ⟨rfl, rfl⟩)
  have HO := Lib.hid ho
  obtain ⟨V, hV⟩ : ∃ V, rd st l ad (l.length + 1) = V := ⟨_, rfl⟩
  obtain ⟨K, hK⟩ : ∃ V, (st.length : Int) + (cn ad (l.length + 1) : Nat) = V := ⟨_, rfl⟩
  have HV := Lib.hid hV
  have HK := Lib.hid hK
  clear hE ho hV hK
  go_enter Try.func21, Try.ntmps21
  go_wp2_with fail
  obtain ⟨B1, hb⟩ : ∃ b, b = W.heap.size := ⟨_, rfl⟩
  have l1 : Lin (W.alloc (.cells #[.slice sx ns cs, .slice aa na ca] 25)) B1 25 [.slice sx ns cs, .slice aa na ca] := by rw [hb]; exact Lin.new _ _ [.slice sx ns cs, .slice aa na ca]
  replace S := S.later (Later.new _ (.cells #[.slice sx ns cs, .slice aa na ca] 25))
  rw [Later.new_w] at S
  replace hm := hm.later (Later.new _ (.cells #[.slice sx ns cs, .slice aa na ca] 25))
  rw [Later.new_w] at hm
  have hsz : (W.alloc (.cells #[.slice sx ns cs, .slice aa na ca] 25)).heap.size = B1 + 1 := by rw [hb]; simp
  obtain ⟨Y2, hZ⟩ : ∃ Z : Later W, Z.w = W.alloc (.cells #[.slice sx ns cs, .slice aa na ca] 25) := ⟨Later.new _ _, rfl⟩
  rw [← hZ] at S hsz hm l1 ⊢
  clear hZ
  rw [← hb]
  clear hb
  clear hsz
  refine (rCheckMarks_calls l _ _ st ad _ hm).mono ?_
  rintro e w' ⟨rfl, y, rfl⟩
  rw [HE.out]
  replace hm := hm.later y
  replace l1 := l1.later y
  replace S := S.later y
  obtain ⟨Y3, hZ⟩ : ∃ Z : Later W, Z.w = y.w := ⟨Y2.step (y), rfl⟩
  rw [← hZ] at S hm l1 ⊢
  clear hZ
  clear y
  have q0_0 := l1.cell (k := 0) rfl
  have q0_1 := l1.cell (k := 1) rfl
  have q0_l := l1.lt
  go_wp2_with fail
  clear q0_0 q0_1 q0_l
  refine (ReadOf_calls l _ _ st ad HO.out _ hm).mono ?_
  rintro e w' ⟨rfl, y, rfl⟩
  rw [HV.out, HK.out]
  replace hm := hm.later y
  replace l1 := l1.later y
  replace S := S.later y
  obtain ⟨Y4, hZ⟩ : ∃ Z : Later W, Z.w = y.w := ⟨Y3.step (y), rfl⟩
  rw [← hZ] at S hm l1 ⊢
  clear hZ
  clear y
  go_wp2
  refine bodyPost_ret (v := .tuple #[.string ⟨V.toArray⟩, .int .i64 K, .int .i64 0]) (by simp [results, Try.results21, go_sem]) rfl ?_
  exact ⟨by rw [HR.out.1, HR.out.2, HV.out, HK.out, HE.out], Y4, rfl⟩
set_option maxRecDepth 100000 in
set_option maxHeartbeats 4000000 in
theorem Both_calls (l : List UInt8) (sv av : Value) (st : List Int) (ad : List (List UInt8)) (sw aw : Value) (st2 : List Int) (ad2 : List (List UInt8)) (W : World) (hm : Mks W sv av st ad) (hm2 : Mks W sw aw st2 ad2) :
    Calls Try.prog 66 #[.string ⟨l.toArray⟩, .agg #[sv, av], .agg #[sw, aw]] W (Gives (.int .i64 (bothE l st ad st2 ad2)) W) := by
  have S : Ins W [] := Ins.nil _
  obtain ⟨sx, ns, cs, rfl⟩ : ∃ a n c, sv = .slice a n c := by obtain ⟨a, c, e⟩ := hm.s.form; exact ⟨a, _, c, e⟩
  obtain ⟨aa, na, ca, rfl⟩ : ∃ a n c, av = .slice a n c := by obtain ⟨a, c, e⟩ := hm.a.form; exact ⟨a, _, c, e⟩
  have HS := Lib.hid (show ns = st.length by obtain ⟨a, c, e⟩ := hm.s.form; cases e; rfl)
  have HA := Lib.hid (show na = ad.length by obtain ⟨a, c, e⟩ := hm.a.form; cases e; rfl)
  have hsl : ns ≤ 9007199254740992 := by rw [HS.out]; exact hm.s.1
  have hal : na ≤ 9007199254740992 := by rw [HA.out]; exact hm.a.1
  obtain ⟨sx2, ns2, cs2, rfl⟩ : ∃ a n c, sw = .slice a n c := by obtain ⟨a, c, e⟩ := hm2.s.form; exact ⟨a, _, c, e⟩
  obtain ⟨aa2, na2, ca2, rfl⟩ : ∃ a n c, aw = .slice a n c := by obtain ⟨a, c, e⟩ := hm2.a.form; exact ⟨a, _, c, e⟩
  have HS2 := Lib.hid (show ns2 = st2.length by obtain ⟨a, c, e⟩ := hm2.s.form; cases e; rfl)
  have HA2 := Lib.hid (show na2 = ad2.length by obtain ⟨a, c, e⟩ := hm2.a.form; cases e; rfl)
  have hsl2 : ns2 ≤ 9007199254740992 := by rw [HS2.out]; exact hm2.s.1
  have hal2 : na2 ≤ 9007199254740992 := by rw [HA2.out]; exact hm2.a.1
  obtain ⟨E, hE⟩ : ∃ E, marksE l st ad = E := ⟨_, rfl⟩
  have HE := Lib.hid hE
  by_cases h0 : E = 0
  rotate_left
  · have HR := Lib.hid (show bothE l st ad st2 ad2 = E by rw [bothE, hE, if_pos h0])
    have hne : (E != 0) = true := by simpa using h0
    clear hE
    go_enter Try.func66, Try.ntmps66
    go_wp2_with fail
    obtain ⟨B1, hb⟩ : ∃ b, b = W.heap.size := ⟨_, rfl⟩
    have l1 : Lin (W.alloc (.cells #[.slice sx ns cs, .slice aa na ca] 25)) B1 25 [.slice sx ns cs, .slice aa na ca] := by rw [hb]; exact Lin.new _ _ [.slice sx ns cs, .slice aa na ca]
    replace S := S.later (Later.new _ (.cells #[.slice sx ns cs, .slice aa na ca] 25))
    rw [Later.new_w] at S
    replace hm := hm.later (Later.new _ (.cells #[.slice sx ns cs, .slice aa na ca] 25))
    rw [Later.new_w] at hm
    replace hm2 := hm2.later (Later.new _ (.cells #[.slice sx ns cs, .slice aa na ca] 25))
    rw [Later.new_w] at hm2
    have hsz : (W.alloc (.cells #[.slice sx ns cs, .slice aa na ca] 25)).heap.size = B1 + 1 := by rw [hb]; simp
    obtain ⟨Y2, hZ⟩ : ∃ Z : Later W, Z.w = W.alloc (.cells #[.slice sx ns cs, .slice aa na ca] 25) := ⟨Later.new _ _, rfl⟩
    rw [← hZ] at S hsz hm hm2 l1 ⊢
    clear hZ
    rw [← hb]
    clear hb
    have hs2 := hsz
    rw [← hsz]
    clear hsz
    obtain ⟨B3, hb⟩ : ∃ b, b = Y2.w.heap.size := ⟨_, rfl⟩
    have l3 : Lin (Y2.w.alloc (.cells #[.slice sx2 ns2 cs2, .slice aa2 na2 ca2] 25)) B3 25 [.slice sx2 ns2 cs2, .slice aa2 na2 ca2] := by rw [hb]; exact Lin.new _ _ [.slice sx2 ns2 cs2, .slice aa2 na2 ca2]
    replace S := S.later (Later.new _ (.cells #[.slice sx2 ns2 cs2, .slice aa2 na2 ca2] 25))
    rw [Later.new_w] at S
    replace hm := hm.later (Later.new _ (.cells #[.slice sx2 ns2 cs2, .slice aa2 na2 ca2] 25))
    rw [Later.new_w] at hm
    replace hm2 := hm2.later (Later.new _ (.cells #[.slice sx2 ns2 cs2, .slice aa2 na2 ca2] 25))
    rw [Later.new_w] at hm2
    replace l1 := l1.later (Later.new _ (.cells #[.slice sx2 ns2 cs2, .slice aa2 na2 ca2] 25))
    rw [Later.new_w] at l1
    have hsz : (Y2.w.alloc (.cells #[.slice sx2 ns2 cs2, .slice aa2 na2 ca2] 25)).heap.size = B3 + 1 := by rw [hb]; simp
    obtain ⟨Y4, hZ⟩ : ∃ Z : Later W, Z.w = Y2.w.alloc (.cells #[.slice sx2 ns2 cs2, .slice aa2 na2 ca2] 25) := ⟨Y2.step (Later.new _ _), rfl⟩
    rw [← hZ] at S hsz hm hm2 l1 l3 ⊢
    clear hZ
    rw [← hb]
    clear hb
    clear hsz hs2
    refine (rCheckMarks_calls l _ _ st ad _ hm).mono ?_
    rintro e w' ⟨rfl, y, rfl⟩
    rw [HE.out]
    replace hm := hm.later y
    replace hm2 := hm2.later y
    replace l1 := l1.later y
    replace l3 := l3.later y
    replace S := S.later y
    obtain ⟨Y5, hZ⟩ : ∃ Z : Later W, Z.w = y.w := ⟨Y4.step (y), rfl⟩
    rw [← hZ] at S hm hm2 l1 l3 ⊢
    clear hZ
    clear y
    have q0_0 := l1.cell (k := 0) rfl
    have q0_1 := l1.cell (k := 1) rfl
    have q0_l := l1.lt
    go_wp2_with fail
    clear q0_0 q0_1 q0_l
    refine (rCheckMarks_calls l _ _ st ad _ hm).mono ?_
    rintro e w' ⟨rfl, y, rfl⟩
    rw [HE.out]
    replace hm := hm.later y
    replace hm2 := hm2.later y
    replace l1 := l1.later y
    replace l3 := l3.later y
    replace S := S.later y
    obtain ⟨Y6, hZ⟩ : ∃ Z : Later W, Z.w = y.w := ⟨Y5.step (y), rfl⟩
    rw [← hZ] at S hm hm2 l1 l3 ⊢
    clear hZ
    clear y
    go_wp2
    go_ret
    exact ⟨ret_int HR.out.symm, Y6, rfl⟩
  subst h0
  have HR := Lib.hid (show bothE l st ad st2 ad2 = marksE l st2 ad2 by rw [bothE, hE, if_neg (by simp)])
  clear hE
  go_enter Try.func66, Try.ntmps66
  go_wp2_with fail
  obtain ⟨B1, hb⟩ : ∃ b, b = W.heap.size := ⟨_, rfl⟩
  have l1 : Lin (W.alloc (.cells #[.slice sx ns cs, .slice aa na ca] 25)) B1 25 [.slice sx ns cs, .slice aa na ca] := by rw [hb]; exact Lin.new _ _ [.slice sx ns cs, .slice aa na ca]
  replace S := S.later (Later.new _ (.cells #[.slice sx ns cs, .slice aa na ca] 25))
  rw [Later.new_w] at S
  replace hm := hm.later (Later.new _ (.cells #[.slice sx ns cs, .slice aa na ca] 25))
  rw [Later.new_w] at hm
  replace hm2 := hm2.later (Later.new _ (.cells #[.slice sx ns cs, .slice aa na ca] 25))
  rw [Later.new_w] at hm2
  have hsz : (W.alloc (.cells #[.slice sx ns cs, .slice aa na ca] 25)).heap.size = B1 + 1 := by rw [hb]; simp
  obtain ⟨Y2, hZ⟩ : ∃ Z : Later W, Z.w = W.alloc (.cells #[.slice sx ns cs, .slice aa na ca] 25) := ⟨Later.new _ _, rfl⟩
  rw [← hZ] at S hsz hm hm2 l1 ⊢
  clear hZ
  rw [← hb]
  clear hb
  have hs2 := hsz
  rw [← hsz]
  clear hsz
  obtain ⟨B3, hb⟩ : ∃ b, b = Y2.w.heap.size := ⟨_, rfl⟩
  have l3 : Lin (Y2.w.alloc (.cells #[.slice sx2 ns2 cs2, .slice aa2 na2 ca2] 25)) B3 25 [.slice sx2 ns2 cs2, .slice aa2 na2 ca2] := by rw [hb]; exact Lin.new _ _ [.slice sx2 ns2 cs2, .slice aa2 na2 ca2]
  replace S := S.later (Later.new _ (.cells #[.slice sx2 ns2 cs2, .slice aa2 na2 ca2] 25))
  rw [Later.new_w] at S
  replace hm := hm.later (Later.new _ (.cells #[.slice sx2 ns2 cs2, .slice aa2 na2 ca2] 25))
  rw [Later.new_w] at hm
  replace hm2 := hm2.later (Later.new _ (.cells #[.slice sx2 ns2 cs2, .slice aa2 na2 ca2] 25))
  rw [Later.new_w] at hm2
  replace l1 := l1.later (Later.new _ (.cells #[.slice sx2 ns2 cs2, .slice aa2 na2 ca2] 25))
  rw [Later.new_w] at l1
  have hsz : (Y2.w.alloc (.cells #[.slice sx2 ns2 cs2, .slice aa2 na2 ca2] 25)).heap.size = B3 + 1 := by rw [hb]; simp
  obtain ⟨Y4, hZ⟩ : ∃ Z : Later W, Z.w = Y2.w.alloc (.cells #[.slice sx2 ns2 cs2, .slice aa2 na2 ca2] 25) := ⟨Y2.step (Later.new _ _), rfl⟩
  rw [← hZ] at S hsz hm hm2 l1 l3 ⊢
  clear hZ
  rw [← hb]
  clear hb
  clear hsz hs2
  refine (rCheckMarks_calls l _ _ st ad _ hm).mono ?_
  rintro e w' ⟨rfl, y, rfl⟩
  rw [HE.out]
  replace hm := hm.later y
  replace hm2 := hm2.later y
  replace l1 := l1.later y
  replace l3 := l3.later y
  replace S := S.later y
  obtain ⟨Y5, hZ⟩ : ∃ Z : Later W, Z.w = y.w := ⟨Y4.step (y), rfl⟩
  rw [← hZ] at S hm hm2 l1 l3 ⊢
  clear hZ
  clear y
  have q0_0 := l3.cell (k := 0) rfl
  have q0_1 := l3.cell (k := 1) rfl
  have q0_l := l3.lt
  go_wp2_with fail
  clear q0_0 q0_1 q0_l
  refine (rCheckMarks_calls l _ _ st2 ad2 _ hm2).mono ?_
  rintro e w' ⟨rfl, y, rfl⟩
  replace hm := hm.later y
  replace hm2 := hm2.later y
  replace l1 := l1.later y
  replace l3 := l3.later y
  replace S := S.later y
  obtain ⟨Y6, hZ⟩ : ∃ Z : Later W, Z.w = y.w := ⟨Y5.step (y), rfl⟩
  rw [← hZ] at S hm hm2 l1 l3 ⊢
  clear hZ
  clear y
  go_wp2
  go_ret
  exact ⟨ret_int HR.out.symm, Y6, rfl⟩
end Go.Proofs.Ytpkgfkeekcgkcaa

/-  The definitions' ClashOf, Clash. -/
namespace Go.Proofs.Ytpkgfkeekcgkcaa
open Go.RowKit
theorem clashF_at {ad ad2 : List (List UInt8)} : ∀ (n k : Nat), (∀ j, j < n → clashB (sat ad (k + j)) (sat ad2 (k + j)) = false) → ∀ m, clashF ad ad2 k (n + m) = clashF ad ad2 (k + n) m
  | 0, k, _, m => by rw [Nat.zero_add, Nat.add_zero]
  | n + 1, k, h, m => by
    rw [show n + 1 + m = (n + m) + 1 by omega, clashF, if_neg (by have := h 0 (by omega); rw [Nat.add_zero] at this; rw [this]; simp), clashF_at n (k + 1) (fun j hj => by have := h (j + 1) (by omega); rwa [show k + (j + 1) = k + 1 + j by omega] at this) m]
    congr 1; omega
theorem clashN_yes {ad ad2 : List (List UInt8)} {k : Nat} (hk : k < ad.length) (h : ∀ j, j < k → clashB (sat ad j) (sat ad2 j) = false) (hb : clashB (sat ad k) (sat ad2 k) = true) : clashN ad ad2 = k := by
  rw [clashN, show ad.length = k + ((ad.length - k - 1) + 1) by omega, clashF_at k 0 (fun j hj => by rw [Nat.zero_add]; exact h j hj), Nat.zero_add, clashF, if_pos hb]
theorem clashN_no {ad ad2 : List (List UInt8)} (h : ∀ j, j < ad.length → clashB (sat ad j) (sat ad2 j) = false) : clashN ad ad2 = -1 := by
  have := clashF_at ad.length 0 (fun j hj => by rw [Nat.zero_add]; exact h j hj) 0
  rw [Nat.add_zero] at this
  rw [clashN, this]; rfl
set_option maxRecDepth 100000 in
set_option maxHeartbeats 4000000 in
theorem ClashOf_calls (sv av : Value) (st : List Int) (ad : List (List UInt8)) (sw aw : Value) (st2 : List Int) (ad2 : List (List UInt8)) (W : World) (hm : Mks W sv av st ad) (hm2 : Mks W sw aw st2 ad2) (hl : ad2.length = ad.length) :
    Calls Try.prog 67 #[.agg #[sv, av], .agg #[sw, aw]] W (Gives (.int .i64 (clashN ad ad2)) W) := by
  have S : Ins W [] := Ins.nil _
  obtain ⟨sx, ns, cs, rfl⟩ : ∃ a n c, sv = .slice a n c := by obtain ⟨a, c, e⟩ := hm.s.form; exact ⟨a, _, c, e⟩
  obtain ⟨aa, na, ca, rfl⟩ : ∃ a n c, av = .slice a n c := by obtain ⟨a, c, e⟩ := hm.a.form; exact ⟨a, _, c, e⟩
  have HS := Lib.hid (show ns = st.length by obtain ⟨a, c, e⟩ := hm.s.form; cases e; rfl)
  have HA := Lib.hid (show na = ad.length by obtain ⟨a, c, e⟩ := hm.a.form; cases e; rfl)
  have hsl : ns ≤ 9007199254740992 := by rw [HS.out]; exact hm.s.1
  have hal : na ≤ 9007199254740992 := by rw [HA.out]; exact hm.a.1
  obtain ⟨sx2, ns2, cs2, rfl⟩ : ∃ a n c, sw = .slice a n c := by obtain ⟨a, c, e⟩ := hm2.s.form; exact ⟨a, _, c, e⟩
  obtain ⟨aa2, na2, ca2, rfl⟩ : ∃ a n c, aw = .slice a n c := by obtain ⟨a, c, e⟩ := hm2.a.form; exact ⟨a, _, c, e⟩
  have HS2 := Lib.hid (show ns2 = st2.length by obtain ⟨a, c, e⟩ := hm2.s.form; cases e; rfl)
  have HA2 := Lib.hid (show na2 = ad2.length by obtain ⟨a, c, e⟩ := hm2.a.form; cases e; rfl)
  have hsl2 : ns2 ≤ 9007199254740992 := by rw [HS2.out]; exact hm2.s.1
  have hal2 : na2 ≤ 9007199254740992 := by rw [HA2.out]; exact hm2.a.1
  obtain rfl : na = na2 := by rw [HA.out, HA2.out, hl]
  clear hl
  go_enter Try.func67, Try.ntmps67
  go_wp2_with fail
  obtain ⟨B1, hb⟩ : ∃ b, b = W.heap.size := ⟨_, rfl⟩
  have l1 : Lin (W.alloc (.cells #[.slice sx ns cs, .slice aa na ca] 25)) B1 25 [.slice sx ns cs, .slice aa na ca] := by rw [hb]; exact Lin.new _ _ [.slice sx ns cs, .slice aa na ca]
  replace S := S.later (Later.new _ (.cells #[.slice sx ns cs, .slice aa na ca] 25))
  rw [Later.new_w] at S
  replace hm := hm.later (Later.new _ (.cells #[.slice sx ns cs, .slice aa na ca] 25))
  rw [Later.new_w] at hm
  replace hm2 := hm2.later (Later.new _ (.cells #[.slice sx ns cs, .slice aa na ca] 25))
  rw [Later.new_w] at hm2
  have hsz : (W.alloc (.cells #[.slice sx ns cs, .slice aa na ca] 25)).heap.size = B1 + 1 := by rw [hb]; simp
  obtain ⟨Y2, hZ⟩ : ∃ Z : Later W, Z.w = W.alloc (.cells #[.slice sx ns cs, .slice aa na ca] 25) := ⟨Later.new _ _, rfl⟩
  rw [← hZ] at S hsz hm hm2 l1 ⊢
  clear hZ
  rw [← hb]
  clear hb
  have hs2 := hsz
  rw [← hsz]
  clear hsz
  obtain ⟨B3, hb⟩ : ∃ b, b = Y2.w.heap.size := ⟨_, rfl⟩
  have l3 : Lin (Y2.w.alloc (.cells #[.slice sx2 ns2 cs2, .slice aa2 na ca2] 25)) B3 25 [.slice sx2 ns2 cs2, .slice aa2 na ca2] := by rw [hb]; exact Lin.new _ _ [.slice sx2 ns2 cs2, .slice aa2 na ca2]
  replace S := S.later (Later.new _ (.cells #[.slice sx2 ns2 cs2, .slice aa2 na ca2] 25))
  rw [Later.new_w] at S
  replace hm := hm.later (Later.new _ (.cells #[.slice sx2 ns2 cs2, .slice aa2 na ca2] 25))
  rw [Later.new_w] at hm
  replace hm2 := hm2.later (Later.new _ (.cells #[.slice sx2 ns2 cs2, .slice aa2 na ca2] 25))
  rw [Later.new_w] at hm2
  replace l1 := l1.later (Later.new _ (.cells #[.slice sx2 ns2 cs2, .slice aa2 na ca2] 25))
  rw [Later.new_w] at l1
  have hsz : (Y2.w.alloc (.cells #[.slice sx2 ns2 cs2, .slice aa2 na ca2] 25)).heap.size = B3 + 1 := by rw [hb]; simp
  obtain ⟨Y4, hZ⟩ : ∃ Z : Later W, Z.w = Y2.w.alloc (.cells #[.slice sx2 ns2 cs2, .slice aa2 na ca2] 25) := ⟨Y2.step (Later.new _ _), rfl⟩
  rw [← hZ] at S hsz hm hm2 l1 l3 ⊢
  clear hZ
  rw [← hb]
  clear hb
  clear hsz hs2
  go_wp2
  go_loopw [5] (fun i0 wr => ∃ (k : Nat) (u : Later Y4.w), wr = u.w ∧ k ≤ na ∧ i0 = .int .i64 k ∧ Hid (∀ j, j < k → clashB (sat ad j) (sat ad2 j) = false)) (fun i0 _ => na - (intOf i0).toNat)
  case atStart => exact ⟨0, Later.self _, rfl, Nat.zero_le _, rfl, Lib.hid (fun j hj => absurd hj (Nat.not_lt_zero _))⟩
  obtain ⟨k, u, rfl, hk, rfl, hP⟩ := hrel
  replace hm := hm.later u
  replace hm2 := hm2.later u
  replace l1 := l1.later u
  replace l3 := l3.later u
  replace S := S.later u
  by_cases hlt : k < na
  · obtain ⟨ba, oa, ka, e, hka, hba, hga⟩ := hm.a.at (k := k) (by rw [← HA.out]; exact hlt)
    injection e with e1 e2 e3
    subst e1 e3
    have qa := hga k (by rw [← HA.out]; exact hlt)
    clear hga e2
    obtain ⟨bb, ob, kb, e, hkb, hbb, hgb⟩ := hm2.a.at (k := k) (by rw [← HA2.out]; exact hlt)
    injection e with e1 e2 e3
    subst e1 e3
    have qb := hgb k (by rw [← HA2.out]; exact hlt)
    clear hgb e2
    obtain ⟨x, hx⟩ : ∃ v, sat ad k = v := ⟨_, rfl⟩
    obtain ⟨y, hy⟩ : ∃ v, sat ad2 k = v := ⟨_, rfl⟩
    rw [hx] at qa
    rw [hy] at qb
    have HB := Lib.hid (show clashB (sat ad k) (sat ad2 k) = (!x.isEmpty && (!y.isEmpty && !(x == y))) by rw [hx, hy]; rfl)
    clear hx hy
    by_cases h1 : x = []
    rotate_left
    by_cases h2 : y = []
    rotate_left
    by_cases h3 : x = y
    rotate_left
    · have d1 : (x == []) = false := by simpa using h1
      have d2 : (y == []) = false := by simpa using h2
      have d3 : (x == y) = false := by simpa using h3
      have HC := Lib.hid (show clashB (sat ad k) (sat ad2 k) = true by rw [HB.out]; simp [h1, h2, h3])
      clear h1 h2 h3
      have p_0 := l1.cell (k := 0) rfl
      have p_1 := l1.cell (k := 1) rfl
      have p_l := l1.lt
      have r_0 := l3.cell (k := 0) rfl
      have r_1 := l3.cell (k := 1) rfl
      have r_l := l3.lt
      go_wp2
      refine Mix.region_mixL (Mix.kinds [] [] []) (by kernel_rfl) (by kernel_rfl) ?_
      repeat ((with_reducible refine Mix.atCons ?_); first | refine Mix.skipU (by rfl) rfl (by rfl) ?_ | (refine Mix.val rfl rfl (by rfl) (fun K hK => ?_); go_big_quiet_op; refine hK _ ?_; clear hK K) | (refine Mix.skip (by rfl) ?_; go_frame))
      refine Mix.done (fun x1 => ?_)
      replace hm := (hm.later x1)
      replace hm2 := (hm2.later x1)
      replace l1 := (l1.later x1)
      replace l3 := (l3.later x1)
      replace S := (S.later x1)
      obtain ⟨Y5, hZ⟩ : ∃ Z : Later Y4.w, Z.w = x1.w := ⟨u.step (x1), rfl⟩
      rw [← hZ] at S hm hm2 l1 l3 ⊢
      clear hZ
      have HF := Lib.hid (clashN_yes (k := k) (by rw [← HA.out]; exact hlt) hP.out HC.out)
      go_wp2
      go_ret
      exact ⟨ret_int HF.out.symm, Y4.step (Y5), rfl⟩
    · have d1 : (x == []) = true := by simpa using h1
      have HC := Lib.hid (show clashB (sat ad k) (sat ad2 k) = false by rw [HB.out]; simp [h1])
      clear h1
      have p_0 := l1.cell (k := 0) rfl
      have p_1 := l1.cell (k := 1) rfl
      have p_l := l1.lt
      have r_0 := l3.cell (k := 0) rfl
      have r_1 := l3.cell (k := 1) rfl
      have r_l := l3.lt
      go_wp2
      refine Mix.region_mixL (Mix.kinds [] [] []) (by kernel_rfl) (by kernel_rfl) ?_
      repeat ((with_reducible refine Mix.atCons ?_); first | refine Mix.skipU (by rfl) rfl (by rfl) ?_ | (refine Mix.val rfl rfl (by rfl) (fun K hK => ?_); go_big_quiet_op; refine hK _ ?_; clear hK K) | (refine Mix.skip (by rfl) ?_; go_frame))
      refine Mix.done (fun x1 => ?_)
      replace hm := (hm.later x1)
      replace hm2 := (hm2.later x1)
      replace l1 := (l1.later x1)
      replace l3 := (l3.later x1)
      replace S := (S.later x1)
      obtain ⟨Y5, hZ⟩ : ∃ Z : Later Y4.w, Z.w = x1.w := ⟨u.step (x1), rfl⟩
      rw [← hZ] at S hm hm2 l1 l3 ⊢
      clear hZ
      go_wp2
      go_roundw
      case rel => exact ⟨k + 1, Y5, rfl, by omega, by go_num, Lib.hid (fun j hj => by
        by_cases h : j = k
        · rw [h]; exact HC.out
        · exact hP.out j (by omega))⟩
      case measure => simp [intOf]; omega
    · have d1 : (x == []) = false := by simpa using h1
      have d2 : (y == []) = true := by simpa using h2
      have HC := Lib.hid (show clashB (sat ad k) (sat ad2 k) = false by rw [HB.out]; simp [h2])
      clear h1 h2
      have p_0 := l1.cell (k := 0) rfl
      have p_1 := l1.cell (k := 1) rfl
      have p_l := l1.lt
      have r_0 := l3.cell (k := 0) rfl
      have r_1 := l3.cell (k := 1) rfl
      have r_l := l3.lt
      go_wp2
      refine Mix.region_mixL (Mix.kinds [] [] []) (by kernel_rfl) (by kernel_rfl) ?_
      repeat ((with_reducible refine Mix.atCons ?_); first | refine Mix.skipU (by rfl) rfl (by rfl) ?_ | (refine Mix.val rfl rfl (by rfl) (fun K hK => ?_); go_big_quiet_op; refine hK _ ?_; clear hK K) | (refine Mix.skip (by rfl) ?_; go_frame))
      refine Mix.done (fun x1 => ?_)
      replace hm := (hm.later x1)
      replace hm2 := (hm2.later x1)
      replace l1 := (l1.later x1)
      replace l3 := (l3.later x1)
      replace S := (S.later x1)
      obtain ⟨Y5, hZ⟩ : ∃ Z : Later Y4.w, Z.w = x1.w := ⟨u.step (x1), rfl⟩
      rw [← hZ] at S hm hm2 l1 l3 ⊢
      clear hZ
      go_wp2
      go_roundw
      case rel => exact ⟨k + 1, Y5, rfl, by omega, by go_num, Lib.hid (fun j hj => by
        by_cases h : j = k
        · rw [h]; exact HC.out
        · exact hP.out j (by omega))⟩
      case measure => simp [intOf]; omega
    · have d1 : (x == []) = false := by simpa using h1
      have d2 : (y == []) = false := by simpa using h2
      have d3 : (x == y) = true := by simpa using h3
      have HC := Lib.hid (show clashB (sat ad k) (sat ad2 k) = false by rw [HB.out]; simp [h3])
      clear h1 h2 h3
      have p_0 := l1.cell (k := 0) rfl
      have p_1 := l1.cell (k := 1) rfl
      have p_l := l1.lt
      have r_0 := l3.cell (k := 0) rfl
      have r_1 := l3.cell (k := 1) rfl
      have r_l := l3.lt
      go_wp2
      refine Mix.region_mixL (Mix.kinds [] [] []) (by kernel_rfl) (by kernel_rfl) ?_
      repeat ((with_reducible refine Mix.atCons ?_); first | refine Mix.skipU (by rfl) rfl (by rfl) ?_ | (refine Mix.val rfl rfl (by rfl) (fun K hK => ?_); go_big_quiet_op; refine hK _ ?_; clear hK K) | (refine Mix.skip (by rfl) ?_; go_frame))
      refine Mix.done (fun x1 => ?_)
      replace hm := (hm.later x1)
      replace hm2 := (hm2.later x1)
      replace l1 := (l1.later x1)
      replace l3 := (l3.later x1)
      replace S := (S.later x1)
      obtain ⟨Y5, hZ⟩ : ∃ Z : Later Y4.w, Z.w = x1.w := ⟨u.step (x1), rfl⟩
      rw [← hZ] at S hm hm2 l1 l3 ⊢
      clear hZ
      go_wp2
      go_roundw
      case rel => exact ⟨k + 1, Y5, rfl, by omega, by go_num, Lib.hid (fun j hj => by
        by_cases h : j = k
        · rw [h]; exact HC.out
        · exact hP.out j (by omega))⟩
      case measure => simp [intOf]; omega
  obtain rfl : na = k := by omega
  have HF := Lib.hid (clashN_no (ad := ad) (ad2 := ad2) fun j hj => hP.out j (by rw [HA.out]; exact hj))
  have p_0 := l1.cell (k := 0) rfl
  have p_1 := l1.cell (k := 1) rfl
  have p_l := l1.lt
  go_wp2
  go_ret
  exact ⟨ret_int HF.out.symm, Y4.step (u), rfl⟩
end Go.Proofs.Ytpkgfkeekcgkcaa

/-  Lists of strings that a call makes by append; marks in a block of the call's own, both whose lists grow. -/
namespace Go.Proofs.Ytpkgfkeekcgkcaa
open Go.RowKit
def strC (l : List UInt8) : Value := .string ⟨l.toArray⟩
theorem info_str : ∃ i : TypeInfo, Try.prog.info? 9 = some i ∧ i.zero = some (.string ⟨#[]⟩) ∧ i.size = 1 ∧ i.bytes = 16 := by
  have h : (Try.prog.info? 9).map (fun i => (i.zero, i.size, i.bytes)) = some (some (.string ⟨#[]⟩), 1, 16) := by kernel_rfl
  obtain ⟨i, hi, hz⟩ := Option.map_eq_some_iff.1 h
  simp only [Prod.mk.injEq] at hz
  exact ⟨i, hi, hz.1, hz.2.1, hz.2.2⟩
/-- a slice of strings of one's own -/
def StrsM (lo : Nat) (w : World) (v : Value) (xs : List (List UInt8)) : Prop := w.ownsRow lo 9 1 v xs.length (xs.map strC)
theorem StrsM.nil (lo : Nat) (w : World) : StrsM lo w (.slice none 0 0) [] := World.ownsRow_nil _ _ _ _
theorem StrsM.form' {lo : Nat} {w : World} {v : Value} {xs : List (List UInt8)} (h : StrsM lo w v xs) : ∃ a n c, v = .slice a n c := by
  obtain ⟨_, ⟨rfl, h0⟩ | ⟨g, cap, cur, rfl, _⟩⟩ := h
  · exact ⟨_, _, _, rfl⟩
  · exact ⟨_, _, _, rfl⟩
theorem StrsM.strs {lo : Nat} {w : World} {v : Value} {xs : List (List UInt8)} (h : StrsM lo w v xs) (hl : xs.length ≤ 9007199254740992) : Strs w v xs := by
  obtain ⟨h1, ⟨rfl, h0⟩ | ⟨g, cap, cur, rfl, _, hg, hnc, hcm, hcs, htk⟩⟩ := h
  · have : xs = [] := List.eq_nil_of_length_eq_zero h0
    subst this
    exact Strs.nil none 0
  · refine ⟨hl, .inr ⟨g, 0, cap, rfl, hnc, (Array.getElem?_eq_some_iff.1 hg).1, fun k hk => ?_⟩⟩
    have hj : (xs.map strC)[k]? = some (strC (sat xs k)) := by rw [List.getElem?_map, List.getElem?_eq_getElem hk, sat_eq hk]; rfl
    rw [← htk, List.getElem?_take, if_pos (by omega)] at hj
    simp only [World.cell?, hg, Nat.zero_add]
    simpa [strC] using hj
theorem StrsM.kept {lo : Nat} {w w' : World} {v : Value} {xs : List (List UInt8)} (h : StrsM lo w v xs) {r : Option Nat} (hg : w.grownBy w' r) (hne : v.ownBlock = none ∨ v.ownBlock ≠ r) : StrsM lo w' v xs := World.ownsRow.kept h hg hne
theorem StrsM.later {lo : Nat} {w : World} {v : Value} {xs : List (List UInt8)} (h : StrsM lo w v xs) (x : Later w) : StrsM lo x.w v xs :=
  h.kept (r := none) x.grown (by cases hv : v.ownBlock <;> simp)
theorem StrsM.below {lo : Nat} {w w' : World} {v : Value} {xs : List (List UInt8)} (h : StrsM lo w v xs) (hg : w.grownBy w' v.ownBlock) (hlo : lo ≤ w.heap.size) : Below lo w w' :=
  (Below.refl lo w).grown hg hlo fun k hk => (World.ownsRow.lt h k hk).1
theorem app_str_at {U : World} {lo : Nat} {v : Value} {xs : List (List UInt8)} (hv : StrsM lo U v xs) (b c : Nat) (y : List UInt8) (h0 : U.cell? ⟨b, 0, none⟩ = some (.string ⟨y.toArray⟩)) (hlo : lo ≤ U.heap.size) (hbig : xs.length + 1 ≤ 1000000000000) (ty : TypeId) :
    ∃ v' w', (Builtin.append_ #[23, 23] ty #[v, .slice (some ⟨b, 0, none⟩) 1 c]).run Try.prog U = .ok v' w' ∧ StrsM lo w' v' (xs ++ [y]) ∧ U.grownBy w' v.ownBlock ∧ (v'.ownBlock = v.ownBlock ∨ v'.ownBlock = some U.heap.size) := by
  obtain ⟨i, hi, hz, hsz, hby⟩ := info_str
  obtain ⟨v', w', h1, h2, h3, _, h5⟩ := run_append_own_at (P := Try.prog) U lo 23 ty 9 i (.string ⟨#[]⟩) 1 16 Try.underlying23 hi hz hsz hby rfl (by decide) v xs.length _ hv
    ⟨b, 0, none⟩ 1 c [strC y] rfl (fun j u hj => by
      match j, hj with
      | 0, hj => simp at hj; subst hj; exact h0
      | j + 1, hj => simp at hj) (by intro u hu; simp at hu; subst hu; rfl) (by simp only [maxLen]; omega) (by omega) hlo
  refine ⟨v', w', h1, ?_, h3, h5⟩
  unfold StrsM
  rw [List.map_append, List.length_append]
  exact h2
theorem app_num_at {U : World} {lo : Nat} {v : Value} {xs : List Int} (hv : IntsM lo U v xs) (b c : Nat) (y : Int) (h0 : U.cell? ⟨b, 0, none⟩ = some (.int .i64 y)) (hlo : lo ≤ U.heap.size) (hbig : xs.length + 1 ≤ 1000000000000) (ty : TypeId) :
    ∃ v' w', (Builtin.append_ #[22, 22] ty #[v, .slice (some ⟨b, 0, none⟩) 1 c]).run Try.prog U = .ok v' w' ∧ IntsM lo w' v' (xs ++ [y]) ∧ U.grownBy w' v.ownBlock ∧ (v'.ownBlock = v.ownBlock ∨ v'.ownBlock = some U.heap.size) := by
  obtain ⟨i, hi, hz, hsz, hby⟩ := info_intM
  obtain ⟨v', w', h1, h2, h3, _, h5⟩ := run_append_own_at (P := Try.prog) U lo 22 ty 3 i (.int .i64 0) 1 8 Try.underlying22 hi hz hsz hby rfl (by decide) v xs.length _ hv
    ⟨b, 0, none⟩ 1 c [.int .i64 y] rfl (fun j u hj => by
      match j, hj with
      | 0, hj => simp at hj; subst hj; exact h0
      | j + 1, hj => simp at hj) (by intro u hu; simp at hu; subst hu; rfl) (by simp only [maxLen]; omega) (by omega) hlo
  refine ⟨v', w', h1, ?_, h3, h5⟩
  unfold IntsM
  rw [List.map_append, List.length_append]
  exact h2
theorem own_ne {w : World} {lo lo' : Nat} {e e' : TypeId} {s s' n n' : Nat} {v u : Value} {xs ys : List Value} (h : w.ownsRow lo e s v n xs) (h2 : w.ownsRow lo' e' s' u n' ys) (he : e ≠ e') : v.ownBlock = none ∨ v.ownBlock ≠ u.ownBlock := by
  obtain ⟨_, hr | ⟨g, cap, cur, rfl, _, hg, _⟩⟩ := h
  · rw [hr.1]; exact .inl rfl
  · right
    intro e1
    obtain ⟨_, hr | ⟨g', cap', cur', rfl, _, hg', _⟩⟩ := h2
    · rw [hr.1] at e1; cases e1
    · simp only [Value.ownBlock, Option.some.injEq] at e1
      subst e1
      rw [hg] at hg'
      cases hg'
      exact he rfl
theorem own_ne_lin {w : World} {lo : Nat} {e e' : TypeId} {s n T : Nat} {v : Value} {xs cs : List Value} (h : w.ownsRow lo e s v n xs) (hl : Lin w T e' cs) (he : e ≠ e') : v.ownBlock ≠ some T := fun e1 => by
  obtain ⟨_, hr | ⟨g, cap, cur, rfl, _, hg, _⟩⟩ := h
  · rw [hr.1] at e1; cases e1
  · simp only [Value.ownBlock, Option.some.injEq] at e1
    subst e1
    rw [show w.heap[g]? = _ from hl] at hg
    cases hg
    exact he rfl
/-- marks in a block T of the call's own: its cells, and the lists that are made for it -/
structure Bm (W U : World) (T : Nat) (s0 a0 sv av : Value) (st : List Int) (ad : List (List UInt8)) : Prop where
  le : Below W.heap.size W U
  lin : Lin U T 25 [s0, a0]
  s : IntsM W.heap.size U sv st
  a : StrsM W.heap.size U av ad
  lo : W.heap.size ≤ T
section
variable {W U U' : World} {T : Nat} {s0 a0 sv av : Value} {st : List Int} {ad : List (List UInt8)}
theorem Bm.neS (h : Bm W U T s0 a0 sv av st ad) : sv.ownBlock ≠ some T := own_ne_lin h.s h.lin (by decide)
theorem Bm.neA (h : Bm W U T s0 a0 sv av st ad) : av.ownBlock ≠ some T := own_ne_lin h.a h.lin (by decide)
theorem Bm.kept (h : Bm W U T s0 a0 sv av st ad) {r : Option Nat} (hg : U.grownBy U' r) (hle : Below W.heap.size W U') (h1 : some T ≠ r) (h2 : sv.ownBlock = none ∨ sv.ownBlock ≠ r) (h3 : av.ownBlock = none ∨ av.ownBlock ≠ r) : Bm W U' T s0 a0 sv av st ad :=
  ⟨hle, h.lin.kept hg h1, World.ownsRow.kept h.s hg h2, h.a.kept hg h3, h.lo⟩
theorem Bm.later (h : Bm W U T s0 a0 sv av st ad) (x : Later U) : Bm W x.w T s0 a0 sv av st ad :=
  h.kept x.grown (h.le.trans (x.le.mono h.le.size)) (by simp) (by cases sv.ownBlock <;> simp) (by cases av.ownBlock <;> simp)
theorem Bm.appS (h : Bm W U T s0 a0 sv av st ad) (b c : Nat) (y : Int) (h0 : U.cell? ⟨b, 0, none⟩ = some (.int .i64 y)) (hbig : st.length + 1 ≤ 1000000000000) (ty : TypeId) :
    ∃ v' w', (Builtin.append_ #[22, 22] ty #[sv, .slice (some ⟨b, 0, none⟩) 1 c]).run Try.prog U = .ok v' w' ∧ Bm W w' T s0 a0 v' av (st ++ [y]) ad := by
  obtain ⟨v', w', hr, hP, hg, _⟩ := app_num_at h.s b c y h0 h.le.size hbig ty
  exact ⟨v', w', hr, ⟨h.le.trans (h.s.below hg h.le.size), h.lin.kept hg (Ne.symm h.neS), hP, h.a.kept hg (own_ne h.a h.s (by decide)), h.lo⟩⟩
theorem Bm.appA (h : Bm W U T s0 a0 sv av st ad) (b c : Nat) (y : List UInt8) (h0 : U.cell? ⟨b, 0, none⟩ = some (.string ⟨y.toArray⟩)) (hbig : ad.length + 1 ≤ 1000000000000) (ty : TypeId) :
    ∃ v' w', (Builtin.append_ #[23, 23] ty #[av, .slice (some ⟨b, 0, none⟩) 1 c]).run Try.prog U = .ok v' w' ∧ Bm W w' T s0 a0 sv v' st (ad ++ [y]) := by
  obtain ⟨v', w', hr, hP, hg, _⟩ := app_str_at h.a b c y h0 h.le.size hbig ty
  exact ⟨v', w', hr, ⟨h.le.trans (h.a.below hg h.le.size), h.lin.kept hg (Ne.symm h.neA), World.ownsRow.kept h.s hg (own_ne h.s h.a (by decide)), hP, h.lo⟩⟩
theorem Bm.setS (h : Bm W U T s0 a0 sv av st ad) : Bm W (U.setCell ⟨T, 0, none⟩ sv) T sv a0 sv av st ad :=
  ⟨h.le.setCell (p := ⟨T, 0, none⟩) h.lo sv, h.lin.set 0 sv, World.ownsRow.kept h.s (grownBy_setCell_at U T 0 sv) (.inr h.neS), h.a.kept (grownBy_setCell_at U T 0 sv) (.inr h.neA), h.lo⟩
theorem Bm.setA (h : Bm W U T s0 a0 sv av st ad) : Bm W (U.setCell ⟨T, 1, none⟩ av) T s0 av sv av st ad :=
  ⟨h.le.setCell (p := ⟨T, 1, none⟩) h.lo av, h.lin.set 1 av, World.ownsRow.kept h.s (grownBy_setCell_at U T 1 av) (.inr h.neS), h.a.kept (grownBy_setCell_at U T 1 av) (.inr h.neA), h.lo⟩
theorem Bm.mks (h : Bm W U T sv av sv av st ad) (hp : st.length ≤ 1000) (hx : ad.length ≤ 1000) : Mks U sv av st ad := ⟨h.s.ints (by omega), h.a.strs (by omega)⟩
/-- empty marks in a new block -/
theorem Bm.new (hle : Below W.heap.size W U) (hL : Lin U T 25 [.slice none 0 0, .slice none 0 0]) (hlo : W.heap.size ≤ T) : Bm W U T (.slice none 0 0) (.slice none 0 0) (.slice none 0 0) (.slice none 0 0) [] [] :=
  ⟨hle, hL, World.ownsRow_nil _ _ _ _, StrsM.nil _ _, hlo⟩
/-- the marks, behind stores into an older block -/
theorem Bm.past {R : Nat} (h : Bm W U T sv av sv av st ad) (hR : R < W.heap.size) (u v : Value) (hp : st.length ≤ 1000) (hx : ad.length ≤ 1000) : Mks ((U.setCell ⟨R, 0, none⟩ u).setCell ⟨R, 1, none⟩ v) sv av st ad := by
  have ne1 : sv.ownBlock ≠ some R := fun e => by have := (World.ownsRow.lt h.s R e).1; omega
  have ne2 : av.ownBlock ≠ some R := fun e => by have := (World.ownsRow.lt h.a R e).1; omega
  have h1 : IntsM W.heap.size ((U.setCell ⟨R, 0, none⟩ u).setCell ⟨R, 1, none⟩ v) sv st := World.ownsRow.kept (World.ownsRow.kept h.s (grownBy_setCell_at U R 0 u) (.inr ne1)) (grownBy_setCell_at _ R 1 v) (.inr ne1)
  have h2 : StrsM W.heap.size ((U.setCell ⟨R, 0, none⟩ u).setCell ⟨R, 1, none⟩ v) av ad := (h.a.kept (grownBy_setCell_at U R 0 u) (.inr ne2)).kept (grownBy_setCell_at _ R 1 v) (.inr ne2)
  exact ⟨h1.ints (by omega), h2.strs (by omega)⟩
end
/-- marks, and an error -/
def MksG (st : List Int) (ad : List (List UInt8)) (E : Int) (W : World) (e : Ending) (w' : World) : Prop := ∃ sv av, ∃ x : Later W, e = .returned (.tuple #[.agg #[sv, av], .int .i64 E]) ∧ w' = x.w ∧ Mks x.w sv av st ad
end Go.Proofs.Ytpkgfkeekcgkcaa

/-  The definitions' Clash. -/
namespace Go.Proofs.Ytpkgfkeekcgkcaa
open Go.RowKit
theorem both_ok {l : List UInt8} {st st2 : List Int} {ad ad2 : List (List UInt8)} (h : bothE l st ad st2 ad2 = 0) : Okm l st ad ∧ Okm l st2 ad2 := by
  by_cases h1 : marksE l st ad = 0
  · rw [bothE, if_neg (by simpa using h1)] at h; exact ⟨marks_ok h1, marks_ok h⟩
  · rw [bothE, if_pos h1] at h; exact absurd h h1
def clashV (l : List UInt8) (st : List Int) (ad : List (List UInt8)) (st2 : List Int) (ad2 : List (List UInt8)) : Int := if bothE l st ad st2 ad2 = 0 ∧ 0 ≤ clashN ad ad2 then clashN ad ad2 else 0
def clashE (l : List UInt8) (st : List Int) (ad : List (List UInt8)) (st2 : List Int) (ad2 : List (List UInt8)) : Int := if bothE l st ad st2 ad2 ≠ 0 then bothE l st ad st2 ad2 else if clashN ad ad2 < 0 then 5 else 0
set_option maxRecDepth 100000 in
set_option maxHeartbeats 4000000 in
theorem rClash_calls (l : List UInt8) (sv av : Value) (st : List Int) (ad : List (List UInt8)) (sw aw : Value) (st2 : List Int) (ad2 : List (List UInt8)) (W : World) (hm : Mks W sv av st ad) (hm2 : Mks W sw aw st2 ad2) :
    Calls Try.prog 30 #[.string ⟨l.toArray⟩, .agg #[sv, av], .agg #[sw, aw]] W (Gives (.tuple #[.int .i64 (clashV l st ad st2 ad2), .int .i64 (clashE l st ad st2 ad2)]) W) := by
  have S : Ins W [] := Ins.nil _
  obtain ⟨sx, ns, cs, rfl⟩ : ∃ a n c, sv = .slice a n c := by obtain ⟨a, c, e⟩ := hm.s.form; exact ⟨a, _, c, e⟩
  obtain ⟨aa, na, ca, rfl⟩ : ∃ a n c, av = .slice a n c := by obtain ⟨a, c, e⟩ := hm.a.form; exact ⟨a, _, c, e⟩
  have HS := Lib.hid (show ns = st.length by obtain ⟨a, c, e⟩ := hm.s.form; cases e; rfl)
  have HA := Lib.hid (show na = ad.length by obtain ⟨a, c, e⟩ := hm.a.form; cases e; rfl)
  have hsl : ns ≤ 9007199254740992 := by rw [HS.out]; exact hm.s.1
  have hal : na ≤ 9007199254740992 := by rw [HA.out]; exact hm.a.1
  obtain ⟨sx2, ns2, cs2, rfl⟩ : ∃ a n c, sw = .slice a n c := by obtain ⟨a, c, e⟩ := hm2.s.form; exact ⟨a, _, c, e⟩
  obtain ⟨aa2, na2, ca2, rfl⟩ : ∃ a n c, aw = .slice a n c := by obtain ⟨a, c, e⟩ := hm2.a.form; exact ⟨a, _, c, e⟩
  have HS2 := Lib.hid (show ns2 = st2.length by obtain ⟨a, c, e⟩ := hm2.s.form; cases e; rfl)
  have HA2 := Lib.hid (show na2 = ad2.length by obtain ⟨a, c, e⟩ := hm2.a.form; cases e; rfl)
  have hsl2 : ns2 ≤ 9007199254740992 := by rw [HS2.out]; exact hm2.s.1
  have hal2 : na2 ≤ 9007199254740992 := by rw [HA2.out]; exact hm2.a.1
  obtain ⟨E, hE⟩ : ∃ E, bothE l st ad st2 ad2 = E := ⟨_, rfl⟩
  have HE := Lib.hid hE
  by_cases h0 : E = 0
  rotate_left
  · have HR := Lib.hid (show clashV l st ad st2 ad2 = 0 ∧ clashE l st ad st2 ad2 = E by rw [clashV, clashE, hE, if_neg (fun h => h0 h.1), if_pos h0]; exact ⟨rfl, rfl⟩)
    have hne : (E != 0) = true := by simpa using h0
    clear hE
    go_enter Try.func30, Try.ntmps30
    go_wp2_with fail
    obtain ⟨B1, hb⟩ : ∃ b, b = W.heap.size := ⟨_, rfl⟩
    have l1 : Lin (W.alloc (.cells #[.slice sx ns cs, .slice aa na ca] 25)) B1 25 [.slice sx ns cs, .slice aa na ca] := by rw [hb]; exact Lin.new _ _ [.slice sx ns cs, .slice aa na ca]
    replace S := S.later (Later.new _ (.cells #[.slice sx ns cs, .slice aa na ca] 25))
    rw [Later.new_w] at S
    replace hm := hm.later (Later.new _ (.cells #[.slice sx ns cs, .slice aa na ca] 25))
    rw [Later.new_w] at hm
    replace hm2 := hm2.later (Later.new _ (.cells #[.slice sx ns cs, .slice aa na ca] 25))
    rw [Later.new_w] at hm2
    have hsz : (W.alloc (.cells #[.slice sx ns cs, .slice aa na ca] 25)).heap.size = B1 + 1 := by rw [hb]; simp
    obtain ⟨Y2, hZ⟩ : ∃ Z : Later W, Z.w = W.alloc (.cells #[.slice sx ns cs, .slice aa na ca] 25) := ⟨Later.new _ _, rfl⟩
    rw [← hZ] at S hsz hm hm2 l1 ⊢
    clear hZ
    rw [← hb]
    clear hb
    have hs2 := hsz
    rw [← hsz]
    clear hsz
    obtain ⟨B3, hb⟩ : ∃ b, b = Y2.w.heap.size := ⟨_, rfl⟩
    have l3 : Lin (Y2.w.alloc (.cells #[.slice sx2 ns2 cs2, .slice aa2 na2 ca2] 25)) B3 25 [.slice sx2 ns2 cs2, .slice aa2 na2 ca2] := by rw [hb]; exact Lin.new _ _ [.slice sx2 ns2 cs2, .slice aa2 na2 ca2]
    replace S := S.later (Later.new _ (.cells #[.slice sx2 ns2 cs2, .slice aa2 na2 ca2] 25))
    rw [Later.new_w] at S
    replace hm := hm.later (Later.new _ (.cells #[.slice sx2 ns2 cs2, .slice aa2 na2 ca2] 25))
    rw [Later.new_w] at hm
    replace hm2 := hm2.later (Later.new _ (.cells #[.slice sx2 ns2 cs2, .slice aa2 na2 ca2] 25))
    rw [Later.new_w] at hm2
    replace l1 := l1.later (Later.new _ (.cells #[.slice sx2 ns2 cs2, .slice aa2 na2 ca2] 25))
    rw [Later.new_w] at l1
    have hsz : (Y2.w.alloc (.cells #[.slice sx2 ns2 cs2, .slice aa2 na2 ca2] 25)).heap.size = B3 + 1 := by rw [hb]; simp
    obtain ⟨Y4, hZ⟩ : ∃ Z : Later W, Z.w = Y2.w.alloc (.cells #[.slice sx2 ns2 cs2, .slice aa2 na2 ca2] 25) := ⟨Y2.step (Later.new _ _), rfl⟩
    rw [← hZ] at S hsz hm hm2 l1 l3 ⊢
    clear hZ
    rw [← hb]
    clear hb
    clear hsz hs2
    refine (Both_calls l _ _ st ad _ _ st2 ad2 _ hm hm2).mono ?_
    rintro e w' ⟨rfl, y, rfl⟩
    rw [HE.out]
    replace hm := hm.later y
    replace hm2 := hm2.later y
    replace l1 := l1.later y
    replace l3 := l3.later y
    replace S := S.later y
    obtain ⟨Y5, hZ⟩ : ∃ Z : Later W, Z.w = y.w := ⟨Y4.step (y), rfl⟩
    rw [← hZ] at S hm hm2 l1 l3 ⊢
    clear hZ
    clear y
    have q0_0 := l1.cell (k := 0) rfl
    have q0_1 := l1.cell (k := 1) rfl
    have q0_l := l1.lt
    have q1_0 := l3.cell (k := 0) rfl
    have q1_1 := l3.cell (k := 1) rfl
    have q1_l := l3.lt
    go_wp2_with fail
    clear q0_0 q0_1 q0_l
    clear q1_0 q1_1 q1_l
    refine (Both_calls l _ _ st ad _ _ st2 ad2 _ hm hm2).mono ?_
    rintro e w' ⟨rfl, y, rfl⟩
    rw [HE.out]
    replace hm := hm.later y
    replace hm2 := hm2.later y
    replace l1 := l1.later y
    replace l3 := l3.later y
    replace S := S.later y
    obtain ⟨Y6, hZ⟩ : ∃ Z : Later W, Z.w = y.w := ⟨Y5.step (y), rfl⟩
    rw [← hZ] at S hm hm2 l1 l3 ⊢
    clear hZ
    clear y
    go_wp2
    refine bodyPost_ret (v := .tuple #[.int .i64 0, .int .i64 E]) (by simp [results, Try.results30, go_sem]) rfl ?_
    exact ⟨by rw [HR.out.1, HR.out.2], Y6, rfl⟩
  subst h0
  have hok := both_ok hE
  have HLL := Lib.hid (show ad2.length = ad.length by rw [hok.1.al, hok.2.al])
  clear hok
  obtain ⟨C, hC⟩ : ∃ C, clashN ad ad2 = C := ⟨_, rfl⟩
  have HC := Lib.hid hC
  by_cases hc : C < 0
  · have HR := Lib.hid (show clashV l st ad st2 ad2 = 0 ∧ clashE l st ad st2 ad2 = 5 by rw [clashV, clashE, hE, hC, if_neg (fun h => by omega), if_neg (by simp), if_pos hc]; exact ⟨rfl, rfl⟩)
    have hcd : decide (C < 0) = true := by simp; omega
    clear hE hC
    go_enter Try.func30, Try.ntmps30
    go_wp2_with fail
    obtain ⟨B1, hb⟩ : ∃ b, b = W.heap.size := ⟨_, rfl⟩
    have l1 : Lin (W.alloc (.cells #[.slice sx ns cs, .slice aa na ca] 25)) B1 25 [.slice sx ns cs, .slice aa na ca] := by rw [hb]; exact Lin.new _ _ [.slice sx ns cs, .slice aa na ca]
    replace S := S.later (Later.new _ (.cells #[.slice sx ns cs, .slice aa na ca] 25))
    rw [Later.new_w] at S
    replace hm := hm.later (Later.new _ (.cells #[.slice sx ns cs, .slice aa na ca] 25))
    rw [Later.new_w] at hm
    replace hm2 := hm2.later (Later.new _ (.cells #[.slice sx ns cs, .slice aa na ca] 25))
    rw [Later.new_w] at hm2
    have hsz : (W.alloc (.cells #[.slice sx ns cs, .slice aa na ca] 25)).heap.size = B1 + 1 := by rw [hb]; simp
    obtain ⟨Y2, hZ⟩ : ∃ Z : Later W, Z.w = W.alloc (.cells #[.slice sx ns cs, .slice aa na ca] 25) := ⟨Later.new _ _, rfl⟩
    rw [← hZ] at S hsz hm hm2 l1 ⊢
    clear hZ
    rw [← hb]
    clear hb
    have hs2 := hsz
    rw [← hsz]
    clear hsz
    obtain ⟨B3, hb⟩ : ∃ b, b = Y2.w.heap.size := ⟨_, rfl⟩
    have l3 : Lin (Y2.w.alloc (.cells #[.slice sx2 ns2 cs2, .slice aa2 na2 ca2] 25)) B3 25 [.slice sx2 ns2 cs2, .slice aa2 na2 ca2] := by rw [hb]; exact Lin.new _ _ [.slice sx2 ns2 cs2, .slice aa2 na2 ca2]
    replace S := S.later (Later.new _ (.cells #[.slice sx2 ns2 cs2, .slice aa2 na2 ca2] 25))
    rw [Later.new_w] at S
    replace hm := hm.later (Later.new _ (.cells #[.slice sx2 ns2 cs2, .slice aa2 na2 ca2] 25))
    rw [Later.new_w] at hm
    replace hm2 := hm2.later (Later.new _ (.cells #[.slice sx2 ns2 cs2, .slice aa2 na2 ca2] 25))
    rw [Later.new_w] at hm2
    replace l1 := l1.later (Later.new _ (.cells #[.slice sx2 ns2 cs2, .slice aa2 na2 ca2] 25))
    rw [Later.new_w] at l1
    have hsz : (Y2.w.alloc (.cells #[.slice sx2 ns2 cs2, .slice aa2 na2 ca2] 25)).heap.size = B3 + 1 := by rw [hb]; simp
    obtain ⟨Y4, hZ⟩ : ∃ Z : Later W, Z.w = Y2.w.alloc (.cells #[.slice sx2 ns2 cs2, .slice aa2 na2 ca2] 25) := ⟨Y2.step (Later.new _ _), rfl⟩
    rw [← hZ] at S hsz hm hm2 l1 l3 ⊢
    clear hZ
    rw [← hb]
    clear hb
    clear hsz hs2
    refine (Both_calls l _ _ st ad _ _ st2 ad2 _ hm hm2).mono ?_
    rintro e w' ⟨rfl, y, rfl⟩
    rw [HE.out]
    replace hm := hm.later y
    replace hm2 := hm2.later y
    replace l1 := l1.later y
    replace l3 := l3.later y
    replace S := S.later y
    obtain ⟨Y5, hZ⟩ : ∃ Z : Later W, Z.w = y.w := ⟨Y4.step (y), rfl⟩
    rw [← hZ] at S hm hm2 l1 l3 ⊢
    clear hZ
    clear y
    have q0_0 := l1.cell (k := 0) rfl
    have q0_1 := l1.cell (k := 1) rfl
    have q0_l := l1.lt
    have q1_0 := l3.cell (k := 0) rfl
    have q1_1 := l3.cell (k := 1) rfl
    have q1_l := l3.lt
    go_wp2_with fail
    clear q0_0 q0_1 q0_l
    clear q1_0 q1_1 q1_l
    refine (ClashOf_calls _ _ st ad _ _ st2 ad2 _ hm hm2 HLL.out).mono ?_
    rintro e w' ⟨rfl, y, rfl⟩
    rw [HC.out]
    replace hm := hm.later y
    replace hm2 := hm2.later y
    replace l1 := l1.later y
    replace l3 := l3.later y
    replace S := S.later y
    obtain ⟨Y6, hZ⟩ : ∃ Z : Later W, Z.w = y.w := ⟨Y5.step (y), rfl⟩
    rw [← hZ] at S hm hm2 l1 l3 ⊢
    clear hZ
    clear y
    go_wp2
    refine bodyPost_ret (v := .tuple #[.int .i64 0, .int .i64 5]) (by simp [results, Try.results30, go_sem]) rfl ?_
    exact ⟨by rw [HR.out.1, HR.out.2], Y6, rfl⟩
  · have HR := Lib.hid (show clashV l st ad st2 ad2 = C ∧ clashE l st ad st2 ad2 = 0 by rw [clashV, clashE, hE, hC, if_pos ⟨rfl, by omega⟩, if_neg (by simp), if_neg hc]; exact ⟨rfl, rfl⟩)
    have hcd : decide (C < 0) = false := by simp; omega
    clear hE hC
    go_enter Try.func30, Try.ntmps30
    go_wp2_with fail
    obtain ⟨B1, hb⟩ : ∃ b, b = W.heap.size := ⟨_, rfl⟩
    have l1 : Lin (W.alloc (.cells #[.slice sx ns cs, .slice aa na ca] 25)) B1 25 [.slice sx ns cs, .slice aa na ca] := by rw [hb]; exact Lin.new _ _ [.slice sx ns cs, .slice aa na ca]
    replace S := S.later (Later.new _ (.cells #[.slice sx ns cs, .slice aa na ca] 25))
    rw [Later.new_w] at S
    replace hm := hm.later (Later.new _ (.cells #[.slice sx ns cs, .slice aa na ca] 25))
    rw [Later.new_w] at hm
    replace hm2 := hm2.later (Later.new _ (.cells #[.slice sx ns cs, .slice aa na ca] 25))
    rw [Later.new_w] at hm2
    have hsz : (W.alloc (.cells #[.slice sx ns cs, .slice aa na ca] 25)).heap.size = B1 + 1 := by rw [hb]; simp
    obtain ⟨Y2, hZ⟩ : ∃ Z : Later W, Z.w = W.alloc (.cells #[.slice sx ns cs, .slice aa na ca] 25) := ⟨Later.new _ _, rfl⟩
    rw [← hZ] at S hsz hm hm2 l1 ⊢
    clear hZ
    rw [← hb]
    clear hb
    have hs2 := hsz
    rw [← hsz]
    clear hsz
    obtain ⟨B3, hb⟩ : ∃ b, b = Y2.w.heap.size := ⟨_, rfl⟩
    have l3 : Lin (Y2.w.alloc (.cells #[.slice sx2 ns2 cs2, .slice aa2 na2 ca2] 25)) B3 25 [.slice sx2 ns2 cs2, .slice aa2 na2 ca2] := by rw [hb]; exact Lin.new _ _ [.slice sx2 ns2 cs2, .slice aa2 na2 ca2]
    replace S := S.later (Later.new _ (.cells #[.slice sx2 ns2 cs2, .slice aa2 na2 ca2] 25))
    rw [Later.new_w] at S
    replace hm := hm.later (Later.new _ (.cells #[.slice sx2 ns2 cs2, .slice aa2 na2 ca2] 25))
    rw [Later.new_w] at hm
    replace hm2 := hm2.later (Later.new _ (.cells #[.slice sx2 ns2 cs2, .slice aa2 na2 ca2] 25))
    rw [Later.new_w] at hm2
    replace l1 := l1.later (Later.new _ (.cells #[.slice sx2 ns2 cs2, .slice aa2 na2 ca2] 25))
    rw [Later.new_w] at l1
    have hsz : (Y2.w.alloc (.cells #[.slice sx2 ns2 cs2, .slice aa2 na2 ca2] 25)).heap.size = B3 + 1 := by rw [hb]; simp
    obtain ⟨Y4, hZ⟩ : ∃ Z : Later W, Z.w = Y2.w.alloc (.cells #[.slice sx2 ns2 cs2, .slice aa2 na2 ca2] 25) := ⟨Y2.step (Later.new _ _), rfl⟩
    rw [← hZ] at S hsz hm hm2 l1 l3 ⊢
    clear hZ
    rw [← hb]
    clear hb
    clear hsz hs2
    refine (Both_calls l _ _ st ad _ _ st2 ad2 _ hm hm2).mono ?_
    rintro e w' ⟨rfl, y, rfl⟩
    rw [HE.out]
    replace hm := hm.later y
    replace hm2 := hm2.later y
    replace l1 := l1.later y
    replace l3 := l3.later y
    replace S := S.later y
    obtain ⟨Y5, hZ⟩ : ∃ Z : Later W, Z.w = y.w := ⟨Y4.step (y), rfl⟩
    rw [← hZ] at S hm hm2 l1 l3 ⊢
    clear hZ
    clear y
    have q0_0 := l1.cell (k := 0) rfl
    have q0_1 := l1.cell (k := 1) rfl
    have q0_l := l1.lt
    have q1_0 := l3.cell (k := 0) rfl
    have q1_1 := l3.cell (k := 1) rfl
    have q1_l := l3.lt
    go_wp2_with fail
    clear q0_0 q0_1 q0_l
    clear q1_0 q1_1 q1_l
    refine (ClashOf_calls _ _ st ad _ _ st2 ad2 _ hm hm2 HLL.out).mono ?_
    rintro e w' ⟨rfl, y, rfl⟩
    rw [HC.out]
    replace hm := hm.later y
    replace hm2 := hm2.later y
    replace l1 := l1.later y
    replace l3 := l3.later y
    replace S := S.later y
    obtain ⟨Y6, hZ⟩ : ∃ Z : Later W, Z.w = y.w := ⟨Y5.step (y), rfl⟩
    rw [← hZ] at S hm hm2 l1 l3 ⊢
    clear hZ
    clear y
    have q0_0 := l1.cell (k := 0) rfl
    have q0_1 := l1.cell (k := 1) rfl
    have q0_l := l1.lt
    have q1_0 := l3.cell (k := 0) rfl
    have q1_1 := l3.cell (k := 1) rfl
    have q1_l := l3.lt
    go_wp2_with fail
    clear q0_0 q0_1 q0_l
    clear q1_0 q1_1 q1_l
    refine (ClashOf_calls _ _ st ad _ _ st2 ad2 _ hm hm2 HLL.out).mono ?_
    rintro e w' ⟨rfl, y, rfl⟩
    rw [HC.out]
    replace hm := hm.later y
    replace hm2 := hm2.later y
    replace l1 := l1.later y
    replace l3 := l3.later y
    replace S := S.later y
    obtain ⟨Y7, hZ⟩ : ∃ Z : Later W, Z.w = y.w := ⟨Y6.step (y), rfl⟩
    rw [← hZ] at S hm hm2 l1 l3 ⊢
    clear hZ
    clear y
    go_wp2
    refine bodyPost_ret (v := .tuple #[.int .i64 C, .int .i64 0]) (by simp [results, Try.results30, go_sem]) rfl ?_
    exact ⟨by rw [HR.out.1, HR.out.2], Y7, rfl⟩
end Go.Proofs.Ytpkgfkeekcgkcaa

/-  The definitions' Merge. -/
namespace Go.Proofs.Ytpkgfkeekcgkcaa
open Go.RowKit
def mgS (st st2 : List Int) (k : Nat) : List Int := ((List.range k).filter fun (i : Nat) => hasB st (i : Int) || hasB st2 (i : Int)).map fun (i : Nat) => (i : Int)
def mgA (ad ad2 : List (List UInt8)) (k : Nat) : List (List UInt8) := (List.range k).map fun i => if sat ad i = [] then sat ad2 i else sat ad i
theorem mgS_succ (st st2 : List Int) (k : Nat) : mgS st st2 (k + 1) = mgS st st2 k ++ if (hasB st k || hasB st2 k) = true then [(k : Int)] else [] := by
  rw [mgS, List.range_succ, List.filter_append, List.map_append, ← mgS]
  congr 1
  by_cases h : (hasB st k || hasB st2 k) = true
  · rw [if_pos h, List.filter_cons_of_pos (by simpa using h)]; rfl
  · rw [if_neg h, List.filter_cons_of_neg (by simpa using h)]; rfl
theorem mgA_succ (ad ad2 : List (List UInt8)) (k : Nat) : mgA ad ad2 (k + 1) = mgA ad ad2 k ++ [if sat ad k = [] then sat ad2 k else sat ad k] := by
  rw [mgA, List.range_succ, List.map_append]; rfl
theorem mgS_len (st st2 : List Int) (k : Nat) : (mgS st st2 k).length ≤ k := by rw [mgS, List.length_map]; exact Nat.le_trans (List.length_filter_le _ _) (by simp)
theorem mgA_len (ad ad2 : List (List UInt8)) (k : Nat) : (mgA ad ad2 k).length = k := by simp [mgA]
def mergeE (l : List UInt8) (st : List Int) (ad : List (List UInt8)) (st2 : List Int) (ad2 : List (List UInt8)) : Int := if bothE l st ad st2 ad2 ≠ 0 then bothE l st ad st2 ad2 else if 0 ≤ clashN ad ad2 then 21 else 0
def mergeS (l : List UInt8) (st : List Int) (ad : List (List UInt8)) (st2 : List Int) (ad2 : List (List UInt8)) : List Int := if mergeE l st ad st2 ad2 = 0 then mgS st st2 l.length else []
def mergeA (l : List UInt8) (st : List Int) (ad : List (List UInt8)) (st2 : List Int) (ad2 : List (List UInt8)) : List (List UInt8) := if mergeE l st ad st2 ad2 = 0 then mgA ad ad2 (l.length + 1) else []
set_option maxRecDepth 100000 in
set_option maxHeartbeats 4000000 in
theorem rMerge_calls (l : List UInt8) (sv av : Value) (st : List Int) (ad : List (List UInt8)) (sw aw : Value) (st2 : List Int) (ad2 : List (List UInt8)) (W : World) (hm : Mks W sv av st ad) (hm2 : Mks W sw aw st2 ad2) :
    Calls Try.prog 28 #[.string ⟨l.toArray⟩, .agg #[sv, av], .agg #[sw, aw]] W (MksG (mergeS l st ad st2 ad2) (mergeA l st ad st2 ad2) (mergeE l st ad st2 ad2) W) := by
  have S : Ins W [] := Ins.nil _
  obtain ⟨sx, ns, cs, rfl⟩ : ∃ a n c, sv = .slice a n c := by obtain ⟨a, c, e⟩ := hm.s.form; exact ⟨a, _, c, e⟩
  obtain ⟨aa, na, ca, rfl⟩ : ∃ a n c, av = .slice a n c := by obtain ⟨a, c, e⟩ := hm.a.form; exact ⟨a, _, c, e⟩
  have HS := Lib.hid (show ns = st.length by obtain ⟨a, c, e⟩ := hm.s.form; cases e; rfl)
  have HA := Lib.hid (show na = ad.length by obtain ⟨a, c, e⟩ := hm.a.form; cases e; rfl)
  have hsl : ns ≤ 9007199254740992 := by rw [HS.out]; exact hm.s.1
  have hal : na ≤ 9007199254740992 := by rw [HA.out]; exact hm.a.1
  obtain ⟨sx2, ns2, cs2, rfl⟩ : ∃ a n c, sw = .slice a n c := by obtain ⟨a, c, e⟩ := hm2.s.form; exact ⟨a, _, c, e⟩
  obtain ⟨aa2, na2, ca2, rfl⟩ : ∃ a n c, aw = .slice a n c := by obtain ⟨a, c, e⟩ := hm2.a.form; exact ⟨a, _, c, e⟩
  have HS2 := Lib.hid (show ns2 = st2.length by obtain ⟨a, c, e⟩ := hm2.s.form; cases e; rfl)
  have HA2 := Lib.hid (show na2 = ad2.length by obtain ⟨a, c, e⟩ := hm2.a.form; cases e; rfl)
  have hsl2 : ns2 ≤ 9007199254740992 := by rw [HS2.out]; exact hm2.s.1
  have hal2 : na2 ≤ 9007199254740992 := by rw [HA2.out]; exact hm2.a.1
  obtain ⟨E, hE⟩ : ∃ E, bothE l st ad st2 ad2 = E := ⟨_, rfl⟩
  have HE := Lib.hid hE
  by_cases h0 : E = 0
  rotate_left
  · have HR := Lib.hid (show mergeE l st ad st2 ad2 = E ∧ mergeS l st ad st2 ad2 = [] ∧ mergeA l st ad st2 ad2 = [] by
      have h : mergeE l st ad st2 ad2 = E := by rw [mergeE, hE, if_pos h0]
      rw [mergeS, mergeA, h]; exact ⟨rfl, if_neg h0, if_neg h0⟩)
    have hne : (E != 0) = true := by simpa using h0
    clear hE
    go_enter Try.func28, Try.ntmps28
    go_wp2_with fail
    obtain ⟨B1, hb⟩ : ∃ b, b = W.heap.size := ⟨_, rfl⟩
    have l1 : Lin (W.alloc (.cells #[.slice sx ns cs, .slice aa na ca] 25)) B1 25 [.slice sx ns cs, .slice aa na ca] := by rw [hb]; exact Lin.new _ _ [.slice sx ns cs, .slice aa na ca]
    replace S := S.later (Later.new _ (.cells #[.slice sx ns cs, .slice aa na ca] 25))
    rw [Later.new_w] at S
    replace hm := hm.later (Later.new _ (.cells #[.slice sx ns cs, .slice aa na ca] 25))
    rw [Later.new_w] at hm
    replace hm2 := hm2.later (Later.new _ (.cells #[.slice sx ns cs, .slice aa na ca] 25))
    rw [Later.new_w] at hm2
    have hsz : (W.alloc (.cells #[.slice sx ns cs, .slice aa na ca] 25)).heap.size = B1 + 1 := by rw [hb]; simp
    obtain ⟨Y2, hZ⟩ : ∃ Z : Later W, Z.w = W.alloc (.cells #[.slice sx ns cs, .slice aa na ca] 25) := ⟨Later.new _ _, rfl⟩
    rw [← hZ] at S hsz hm hm2 l1 ⊢
    clear hZ
    rw [← hb]
    clear hb
    have hs2 := hsz
    rw [← hsz]
    clear hsz hs2
    obtain ⟨B3, hb⟩ : ∃ b, b = Y2.w.heap.size := ⟨_, rfl⟩
    have l3 : Lin (Y2.w.alloc (.cells #[.slice sx2 ns2 cs2, .slice aa2 na2 ca2] 25)) B3 25 [.slice sx2 ns2 cs2, .slice aa2 na2 ca2] := by rw [hb]; exact Lin.new _ _ [.slice sx2 ns2 cs2, .slice aa2 na2 ca2]
    replace S := S.later (Later.new _ (.cells #[.slice sx2 ns2 cs2, .slice aa2 na2 ca2] 25))
    rw [Later.new_w] at S
    replace hm := hm.later (Later.new _ (.cells #[.slice sx2 ns2 cs2, .slice aa2 na2 ca2] 25))
    rw [Later.new_w] at hm
    replace hm2 := hm2.later (Later.new _ (.cells #[.slice sx2 ns2 cs2, .slice aa2 na2 ca2] 25))
    rw [Later.new_w] at hm2
    replace l1 := l1.later (Later.new _ (.cells #[.slice sx2 ns2 cs2, .slice aa2 na2 ca2] 25))
    rw [Later.new_w] at l1
    have hsz : (Y2.w.alloc (.cells #[.slice sx2 ns2 cs2, .slice aa2 na2 ca2] 25)).heap.size = B3 + 1 := by rw [hb]; simp
    obtain ⟨Y4, hZ⟩ : ∃ Z : Later W, Z.w = Y2.w.alloc (.cells #[.slice sx2 ns2 cs2, .slice aa2 na2 ca2] 25) := ⟨Y2.step (Later.new _ _), rfl⟩
    rw [← hZ] at S hsz hm hm2 l1 l3 ⊢
    clear hZ
    rw [← hb]
    clear hb
    have hs2 := hsz
    rw [← hsz]
    clear hsz hs2
    obtain ⟨B5, hb⟩ : ∃ b, b = Y4.w.heap.size := ⟨_, rfl⟩
    have hloB5 : W.heap.size ≤ B5 := by rw [hb]; exact Y4.size
    have l5 : Lin (Y4.w.alloc (.cells #[.slice none 0 0, .slice none 0 0] 25)) B5 25 [.slice none 0 0, .slice none 0 0] := by rw [hb]; exact Lin.new _ _ [.slice none 0 0, .slice none 0 0]
    replace S := S.later (Later.new _ (.cells #[.slice none 0 0, .slice none 0 0] 25))
    rw [Later.new_w] at S
    replace hm := hm.later (Later.new _ (.cells #[.slice none 0 0, .slice none 0 0] 25))
    rw [Later.new_w] at hm
    replace hm2 := hm2.later (Later.new _ (.cells #[.slice none 0 0, .slice none 0 0] 25))
    rw [Later.new_w] at hm2
    replace l1 := l1.later (Later.new _ (.cells #[.slice none 0 0, .slice none 0 0] 25))
    rw [Later.new_w] at l1
    replace l3 := l3.later (Later.new _ (.cells #[.slice none 0 0, .slice none 0 0] 25))
    rw [Later.new_w] at l3
    have hsz : (Y4.w.alloc (.cells #[.slice none 0 0, .slice none 0 0] 25)).heap.size = B5 + 1 := by rw [hb]; simp
    obtain ⟨Y6, hZ⟩ : ∃ Z : Later W, Z.w = Y4.w.alloc (.cells #[.slice none 0 0, .slice none 0 0] 25) := ⟨Y4.step (Later.new _ _), rfl⟩
    rw [← hZ] at S hsz hm hm2 l1 l3 l5 ⊢
    clear hZ
    rw [← hb]
    clear hb
    clear hsz
    refine (Both_calls l _ _ st ad _ _ st2 ad2 _ hm hm2).mono ?_
    rintro e w' ⟨rfl, y, rfl⟩
    rw [HE.out]
    replace hm := hm.later y
    replace hm2 := hm2.later y
    replace l1 := l1.later y
    replace l3 := l3.later y
    replace l5 := l5.later y
    replace S := S.later y
    obtain ⟨Y7, hZ⟩ : ∃ Z : Later W, Z.w = y.w := ⟨Y6.step (y), rfl⟩
    rw [← hZ] at S hm hm2 l1 l3 l5 ⊢
    clear hZ
    clear y
    have q0_0 := l1.cell (k := 0) rfl
    have q0_1 := l1.cell (k := 1) rfl
    have q0_l := l1.lt
    have q1_0 := l3.cell (k := 0) rfl
    have q1_1 := l3.cell (k := 1) rfl
    have q1_l := l3.lt
    go_wp2_with fail
    clear q0_0 q0_1 q0_l
    clear q1_0 q1_1 q1_l
    refine (Both_calls l _ _ st ad _ _ st2 ad2 _ hm hm2).mono ?_
    rintro e w' ⟨rfl, y, rfl⟩
    rw [HE.out]
    replace hm := hm.later y
    replace hm2 := hm2.later y
    replace l1 := l1.later y
    replace l3 := l3.later y
    replace l5 := l5.later y
    replace S := S.later y
    obtain ⟨Y8, hZ⟩ : ∃ Z : Later W, Z.w = y.w := ⟨Y7.step (y), rfl⟩
    rw [← hZ] at S hm hm2 l1 l3 l5 ⊢
    clear hZ
    clear y
    have t0 := l5.cell (k := 0) rfl
    have t1' := l5.cell (k := 1) rfl
    have f0 := l5.frozen 0
    have f1 := l5.frozen 1
    have tl := l5.lt
    go_wp2
    refine bodyPost_ret (v := .tuple #[.agg #[.slice none 0 0, .slice none 0 0], .int .i64 E]) (by simp [results, Try.results28, go_sem, t0, t1']) rfl ?_
    refine ⟨_, _, ⟨_, ((Y8.le.setCell (p := ⟨B5, 0, none⟩) hloB5 (.slice none 0 0)).setCell (p := ⟨B5, 1, none⟩) hloB5 (.slice none 0 0))⟩, by rw [HR.out.1], rfl, by rw [HR.out.2.1, HR.out.2.2]; exact ⟨Ints.nil _ _, Strs.nil _ _⟩⟩
  subst h0
  have hok := both_ok hE
  have HLL := Lib.hid (show ad2.length = ad.length by rw [hok.1.al, hok.2.al])
  have HOK := Lib.hid hok
  clear hok
  obtain ⟨C, hC⟩ : ∃ C, clashN ad ad2 = C := ⟨_, rfl⟩
  have HC := Lib.hid hC
  by_cases hc : 0 ≤ C
  · have HR := Lib.hid (show mergeE l st ad st2 ad2 = 21 ∧ mergeS l st ad st2 ad2 = [] ∧ mergeA l st ad st2 ad2 = [] by
      have h : mergeE l st ad st2 ad2 = 21 := by rw [mergeE, hE, hC, if_neg (by simp), if_pos hc]
      rw [mergeS, mergeA, h]; exact ⟨rfl, if_neg (by decide), if_neg (by decide)⟩)
    have hcd : decide (0 ≤ C) = true := by simpa using hc
    clear hE hC
    go_enter Try.func28, Try.ntmps28
    go_wp2_with fail
    obtain ⟨B1, hb⟩ : ∃ b, b = W.heap.size := ⟨_, rfl⟩
    have l1 : Lin (W.alloc (.cells #[.slice sx ns cs, .slice aa na ca] 25)) B1 25 [.slice sx ns cs, .slice aa na ca] := by rw [hb]; exact Lin.new _ _ [.slice sx ns cs, .slice aa na ca]
    replace S := S.later (Later.new _ (.cells #[.slice sx ns cs, .slice aa na ca] 25))
    rw [Later.new_w] at S
    replace hm := hm.later (Later.new _ (.cells #[.slice sx ns cs, .slice aa na ca] 25))
    rw [Later.new_w] at hm
    replace hm2 := hm2.later (Later.new _ (.cells #[.slice sx ns cs, .slice aa na ca] 25))
    rw [Later.new_w] at hm2
    have hsz : (W.alloc (.cells #[.slice sx ns cs, .slice aa na ca] 25)).heap.size = B1 + 1 := by rw [hb]; simp
    obtain ⟨Y2, hZ⟩ : ∃ Z : Later W, Z.w = W.alloc (.cells #[.slice sx ns cs, .slice aa na ca] 25) := ⟨Later.new _ _, rfl⟩
    rw [← hZ] at S hsz hm hm2 l1 ⊢
    clear hZ
    rw [← hb]
    clear hb
    have hs2 := hsz
    rw [← hsz]
    clear hsz hs2
    obtain ⟨B3, hb⟩ : ∃ b, b = Y2.w.heap.size := ⟨_, rfl⟩
    have l3 : Lin (Y2.w.alloc (.cells #[.slice sx2 ns2 cs2, .slice aa2 na2 ca2] 25)) B3 25 [.slice sx2 ns2 cs2, .slice aa2 na2 ca2] := by rw [hb]; exact Lin.new _ _ [.slice sx2 ns2 cs2, .slice aa2 na2 ca2]
    replace S := S.later (Later.new _ (.cells #[.slice sx2 ns2 cs2, .slice aa2 na2 ca2] 25))
    rw [Later.new_w] at S
    replace hm := hm.later (Later.new _ (.cells #[.slice sx2 ns2 cs2, .slice aa2 na2 ca2] 25))
    rw [Later.new_w] at hm
    replace hm2 := hm2.later (Later.new _ (.cells #[.slice sx2 ns2 cs2, .slice aa2 na2 ca2] 25))
    rw [Later.new_w] at hm2
    replace l1 := l1.later (Later.new _ (.cells #[.slice sx2 ns2 cs2, .slice aa2 na2 ca2] 25))
    rw [Later.new_w] at l1
    have hsz : (Y2.w.alloc (.cells #[.slice sx2 ns2 cs2, .slice aa2 na2 ca2] 25)).heap.size = B3 + 1 := by rw [hb]; simp
    obtain ⟨Y4, hZ⟩ : ∃ Z : Later W, Z.w = Y2.w.alloc (.cells #[.slice sx2 ns2 cs2, .slice aa2 na2 ca2] 25) := ⟨Y2.step (Later.new _ _), rfl⟩
    rw [← hZ] at S hsz hm hm2 l1 l3 ⊢
    clear hZ
    rw [← hb]
    clear hb
    have hs2 := hsz
    rw [← hsz]
    clear hsz hs2
    obtain ⟨B5, hb⟩ : ∃ b, b = Y4.w.heap.size := ⟨_, rfl⟩
    have hloB5 : W.heap.size ≤ B5 := by rw [hb]; exact Y4.size
    have l5 : Lin (Y4.w.alloc (.cells #[.slice none 0 0, .slice none 0 0] 25)) B5 25 [.slice none 0 0, .slice none 0 0] := by rw [hb]; exact Lin.new _ _ [.slice none 0 0, .slice none 0 0]
    replace S := S.later (Later.new _ (.cells #[.slice none 0 0, .slice none 0 0] 25))
    rw [Later.new_w] at S
    replace hm := hm.later (Later.new _ (.cells #[.slice none 0 0, .slice none 0 0] 25))
    rw [Later.new_w] at hm
    replace hm2 := hm2.later (Later.new _ (.cells #[.slice none 0 0, .slice none 0 0] 25))
    rw [Later.new_w] at hm2
    replace l1 := l1.later (Later.new _ (.cells #[.slice none 0 0, .slice none 0 0] 25))
    rw [Later.new_w] at l1
    replace l3 := l3.later (Later.new _ (.cells #[.slice none 0 0, .slice none 0 0] 25))
    rw [Later.new_w] at l3
    have hsz : (Y4.w.alloc (.cells #[.slice none 0 0, .slice none 0 0] 25)).heap.size = B5 + 1 := by rw [hb]; simp
    obtain ⟨Y6, hZ⟩ : ∃ Z : Later W, Z.w = Y4.w.alloc (.cells #[.slice none 0 0, .slice none 0 0] 25) := ⟨Y4.step (Later.new _ _), rfl⟩
    rw [← hZ] at S hsz hm hm2 l1 l3 l5 ⊢
    clear hZ
    rw [← hb]
    clear hb
    clear hsz
    refine (Both_calls l _ _ st ad _ _ st2 ad2 _ hm hm2).mono ?_
    rintro e w' ⟨rfl, y, rfl⟩
    rw [HE.out]
    replace hm := hm.later y
    replace hm2 := hm2.later y
    replace l1 := l1.later y
    replace l3 := l3.later y
    replace l5 := l5.later y
    replace S := S.later y
    obtain ⟨Y7, hZ⟩ : ∃ Z : Later W, Z.w = y.w := ⟨Y6.step (y), rfl⟩
    rw [← hZ] at S hm hm2 l1 l3 l5 ⊢
    clear hZ
    clear y
    have q0_0 := l1.cell (k := 0) rfl
    have q0_1 := l1.cell (k := 1) rfl
    have q0_l := l1.lt
    have q1_0 := l3.cell (k := 0) rfl
    have q1_1 := l3.cell (k := 1) rfl
    have q1_l := l3.lt
    go_wp2_with fail
    clear q0_0 q0_1 q0_l
    clear q1_0 q1_1 q1_l
    refine (ClashOf_calls _ _ st ad _ _ st2 ad2 _ hm hm2 HLL.out).mono ?_
    rintro e w' ⟨rfl, y, rfl⟩
    rw [HC.out]
    replace hm := hm.later y
    replace hm2 := hm2.later y
    replace l1 := l1.later y
    replace l3 := l3.later y
    replace l5 := l5.later y
    replace S := S.later y
    obtain ⟨Y8, hZ⟩ : ∃ Z : Later W, Z.w = y.w := ⟨Y7.step (y), rfl⟩
    rw [← hZ] at S hm hm2 l1 l3 l5 ⊢
    clear hZ
    clear y
    have t0 := l5.cell (k := 0) rfl
    have t1' := l5.cell (k := 1) rfl
    have f0 := l5.frozen 0
    have f1 := l5.frozen 1
    have tl := l5.lt
    go_wp2
    refine bodyPost_ret (v := .tuple #[.agg #[.slice none 0 0, .slice none 0 0], .int .i64 21]) (by simp [results, Try.results28, go_sem, t0, t1']) rfl ?_
    refine ⟨_, _, ⟨_, ((Y8.le.setCell (p := ⟨B5, 0, none⟩) hloB5 (.slice none 0 0)).setCell (p := ⟨B5, 1, none⟩) hloB5 (.slice none 0 0))⟩, by rw [HR.out.1], rfl, by rw [HR.out.2.1, HR.out.2.2]; exact ⟨Ints.nil _ _, Strs.nil _ _⟩⟩
  have HR := Lib.hid (show mergeE l st ad st2 ad2 = 0 ∧ mergeS l st ad st2 ad2 = mgS st st2 l.length ∧ mergeA l st ad st2 ad2 = mgA ad ad2 (l.length + 1) by
    have h : mergeE l st ad st2 ad2 = 0 := by rw [mergeE, hE, hC, if_neg (by simp), if_neg hc]
    rw [mergeS, mergeA, h]; exact ⟨rfl, if_pos rfl, if_pos rfl⟩)
  have hcd : decide (0 ≤ C) = false := by simpa using hc
  clear hE hC
  obtain ⟨n, hn⟩ : ∃ n, l.length = n := ⟨_, rfl⟩
  have h12 : n ≤ 12 := by rw [← hn]; exact HOK.out.1.l12
  have HL := Lib.hid hn
  have HAL := Lib.hid (show na = n + 1 by rw [HA.out, HOK.out.1.al, hn])
  have HAL2 := Lib.hid (show na2 = n + 1 by rw [HA2.out, HOK.out.2.al, hn])
  rw [hn] at HR
  clear hn
  go_enter Try.func28, Try.ntmps28
  go_wp2_with fail
  obtain ⟨B1, hb⟩ : ∃ b, b = W.heap.size := ⟨_, rfl⟩
  have l1 : Lin (W.alloc (.cells #[.slice sx ns cs, .slice aa na ca] 25)) B1 25 [.slice sx ns cs, .slice aa na ca] := by rw [hb]; exact Lin.new _ _ [.slice sx ns cs, .slice aa na ca]
  replace S := S.later (Later.new _ (.cells #[.slice sx ns cs, .slice aa na ca] 25))
  rw [Later.new_w] at S
  replace hm := hm.later (Later.new _ (.cells #[.slice sx ns cs, .slice aa na ca] 25))
  rw [Later.new_w] at hm
  replace hm2 := hm2.later (Later.new _ (.cells #[.slice sx ns cs, .slice aa na ca] 25))
  rw [Later.new_w] at hm2
  have hsz : (W.alloc (.cells #[.slice sx ns cs, .slice aa na ca] 25)).heap.size = B1 + 1 := by rw [hb]; simp
  obtain ⟨Y2, hZ⟩ : ∃ Z : Later W, Z.w = W.alloc (.cells #[.slice sx ns cs, .slice aa na ca] 25) := ⟨Later.new _ _, rfl⟩
  rw [← hZ] at S hsz hm hm2 l1 ⊢
  clear hZ
  rw [← hb]
  clear hb
  have hs2 := hsz
  rw [← hsz]
  clear hsz hs2
  obtain ⟨B3, hb⟩ : ∃ b, b = Y2.w.heap.size := ⟨_, rfl⟩
  have l3 : Lin (Y2.w.alloc (.cells #[.slice sx2 ns2 cs2, .slice aa2 na2 ca2] 25)) B3 25 [.slice sx2 ns2 cs2, .slice aa2 na2 ca2] := by rw [hb]; exact Lin.new _ _ [.slice sx2 ns2 cs2, .slice aa2 na2 ca2]
  replace S := S.later (Later.new _ (.cells #[.slice sx2 ns2 cs2, .slice aa2 na2 ca2] 25))
  rw [Later.new_w] at S
  replace hm := hm.later (Later.new _ (.cells #[.slice sx2 ns2 cs2, .slice aa2 na2 ca2] 25))
  rw [Later.new_w] at hm
  replace hm2 := hm2.later (Later.new _ (.cells #[.slice sx2 ns2 cs2, .slice aa2 na2 ca2] 25))
  rw [Later.new_w] at hm2
  replace l1 := l1.later (Later.new _ (.cells #[.slice sx2 ns2 cs2, .slice aa2 na2 ca2] 25))
  rw [Later.new_w] at l1
  have hsz : (Y2.w.alloc (.cells #[.slice sx2 ns2 cs2, .slice aa2 na2 ca2] 25)).heap.size = B3 + 1 := by rw [hb]; simp
  obtain ⟨Y4, hZ⟩ : ∃ Z : Later W, Z.w = Y2.w.alloc (.cells #[.slice sx2 ns2 cs2, .slice aa2 na2 ca2] 25) := ⟨Y2.step (Later.new _ _), rfl⟩
  rw [← hZ] at S hsz hm hm2 l1 l3 ⊢
  clear hZ
  rw [← hb]
  clear hb
  have hs2 := hsz
  rw [← hsz]
  clear hsz hs2
  obtain ⟨B5, hb⟩ : ∃ b, b = Y4.w.heap.size := ⟨_, rfl⟩
  have hloB5 : W.heap.size ≤ B5 := by rw [hb]; exact Y4.size
  have l5 : Lin (Y4.w.alloc (.cells #[.slice none 0 0, .slice none 0 0] 25)) B5 25 [.slice none 0 0, .slice none 0 0] := by rw [hb]; exact Lin.new _ _ [.slice none 0 0, .slice none 0 0]
  replace S := S.later (Later.new _ (.cells #[.slice none 0 0, .slice none 0 0] 25))
  rw [Later.new_w] at S
  replace hm := hm.later (Later.new _ (.cells #[.slice none 0 0, .slice none 0 0] 25))
  rw [Later.new_w] at hm
  replace hm2 := hm2.later (Later.new _ (.cells #[.slice none 0 0, .slice none 0 0] 25))
  rw [Later.new_w] at hm2
  replace l1 := l1.later (Later.new _ (.cells #[.slice none 0 0, .slice none 0 0] 25))
  rw [Later.new_w] at l1
  replace l3 := l3.later (Later.new _ (.cells #[.slice none 0 0, .slice none 0 0] 25))
  rw [Later.new_w] at l3
  have hsz : (Y4.w.alloc (.cells #[.slice none 0 0, .slice none 0 0] 25)).heap.size = B5 + 1 := by rw [hb]; simp
  obtain ⟨Y6, hZ⟩ : ∃ Z : Later W, Z.w = Y4.w.alloc (.cells #[.slice none 0 0, .slice none 0 0] 25) := ⟨Y4.step (Later.new _ _), rfl⟩
  rw [← hZ] at S hsz hm hm2 l1 l3 l5 ⊢
  clear hZ
  rw [← hb]
  clear hb
  clear hsz
  refine (Both_calls l _ _ st ad _ _ st2 ad2 _ hm hm2).mono ?_
  rintro e w' ⟨rfl, y, rfl⟩
  rw [HE.out]
  replace hm := hm.later y
  replace hm2 := hm2.later y
  replace l1 := l1.later y
  replace l3 := l3.later y
  replace l5 := l5.later y
  replace S := S.later y
  obtain ⟨Y7, hZ⟩ : ∃ Z : Later W, Z.w = y.w := ⟨Y6.step (y), rfl⟩
  rw [← hZ] at S hm hm2 l1 l3 l5 ⊢
  clear hZ
  clear y
  have hsz : (⟨l.toArray⟩ : ByteArray).size = n := by rw [str_size]; exact HL.out
  have q0_0 := l1.cell (k := 0) rfl
  have q0_1 := l1.cell (k := 1) rfl
  have q0_l := l1.lt
  have q1_0 := l3.cell (k := 0) rfl
  have q1_1 := l3.cell (k := 1) rfl
  have q1_l := l3.lt
  go_wp2_with fail
  clear q0_0 q0_1 q0_l
  clear q1_0 q1_1 q1_l
  refine (ClashOf_calls _ _ st ad _ _ st2 ad2 _ hm hm2 HLL.out).mono ?_
  rintro e w' ⟨rfl, y, rfl⟩
  rw [HC.out]
  replace hm := hm.later y
  replace hm2 := hm2.later y
  replace l1 := l1.later y
  replace l3 := l3.later y
  replace l5 := l5.later y
  replace S := S.later y
  obtain ⟨Y8, hZ⟩ : ∃ Z : Later W, Z.w = y.w := ⟨Y7.step (y), rfl⟩
  rw [← hZ] at S hm hm2 l1 l3 l5 ⊢
  clear hZ
  clear y
  go_wp2
  have hRY : B5 < Y8.w.heap.size := l5.lt
  have hm_Y := hm
  have hm2_Y := hm2
  have l1_Y := l1
  have l3_Y := l3
  have l5_Y := l5
  have S_Y := S
  obtain ⟨B9, hb⟩ : ∃ b, b = Y8.w.heap.size := ⟨_, rfl⟩
  have hloB9 : Y8.w.heap.size ≤ B9 := by rw [hb]; exact Nat.le_refl _
  have l9 : Lin (Y8.w.alloc (.cells #[.slice none 0 0, .slice none 0 0] 25)) B9 25 [.slice none 0 0, .slice none 0 0] := by rw [hb]; exact Lin.new _ _ [.slice none 0 0, .slice none 0 0]
  replace S := S.later (Later.new _ (.cells #[.slice none 0 0, .slice none 0 0] 25))
  rw [Later.new_w] at S
  replace hm := hm.later (Later.new _ (.cells #[.slice none 0 0, .slice none 0 0] 25))
  rw [Later.new_w] at hm
  replace hm2 := hm2.later (Later.new _ (.cells #[.slice none 0 0, .slice none 0 0] 25))
  rw [Later.new_w] at hm2
  replace l1 := l1.later (Later.new _ (.cells #[.slice none 0 0, .slice none 0 0] 25))
  rw [Later.new_w] at l1
  replace l3 := l3.later (Later.new _ (.cells #[.slice none 0 0, .slice none 0 0] 25))
  rw [Later.new_w] at l3
  replace l5 := l5.later (Later.new _ (.cells #[.slice none 0 0, .slice none 0 0] 25))
  rw [Later.new_w] at l5
  have hsz : (Y8.w.alloc (.cells #[.slice none 0 0, .slice none 0 0] 25)).heap.size = B9 + 1 := by rw [hb]; simp
  obtain ⟨Y10, hZ⟩ : ∃ Z : Later Y8.w, Z.w = Y8.w.alloc (.cells #[.slice none 0 0, .slice none 0 0] 25) := ⟨Later.new _ _, rfl⟩
  rw [← hZ] at S hsz hm hm2 l1 l3 l5 l9 ⊢
  clear hZ
  rw [← hb]
  clear hb
  have hbm := Bm.new Y10.le l9 hloB9
  clear hsz l9 hm hm2 l1 l3 l5 S
  have hm := hm_Y
  clear hm_Y
  have hm2 := hm2_Y
  clear hm2_Y
  have l1 := l1_Y
  clear l1_Y
  have l3 := l3_Y
  clear l3_Y
  have l5 := l5_Y
  clear l5_Y
  have S := S_Y
  clear S_Y
  have hsz : (⟨l.toArray⟩ : ByteArray).size = n := by rw [str_size]; exact HL.out
  go_loopw [9] (fun i0 wr => ∃ (k : Nat) (V : Later Y8.w) (sx' : Value), wr = V.w ∧ k ≤ n ∧ i0 = .int .i64 k ∧ Bm Y8.w V.w B9 sx' (.slice none 0 0) sx' (.slice none 0 0) (mgS st st2 k) []) (fun i0 _ => n - (intOf i0).toNat)
  case atStart => exact ⟨0, Y10, _, rfl, Nat.zero_le _, rfl, hbm⟩
  clear hbm
  obtain ⟨k, V, sx', rfl, hk, rfl, hbm⟩ := hrel
  obtain ⟨a0, n0, c0, rfl⟩ := hbm.s.form'
  by_cases hlt : k < n
  · replace hm := hm.later V
    replace hm2 := hm2.later V
    replace l1 := l1.later V
    replace l3 := l3.later V
    replace l5 := l5.later V
    replace S := S.later V
    have hmg := mgS_len st st2 k
    have hsx := mgS_succ st st2 k
    obtain ⟨P, hP⟩ : ∃ P, hasB st k = P := ⟨_, rfl⟩
    obtain ⟨Q, hQ⟩ : ∃ P, hasB st2 k = P := ⟨_, rfl⟩
    rw [hP, hQ] at hsx
    have HP := Lib.hid hP
    have HQ := Lib.hid hQ
    clear hP hQ
    cases P
    all_goals cases Q
    · have HSX := Lib.hid (show mgS st st2 (k + 1) = mgS st st2 k by rw [hsx]; simp)
      clear hsx
      have p_0 := l1.cell (k := 0) rfl
      have p_1 := l1.cell (k := 1) rfl
      have p_l := l1.lt
      have r_0 := l3.cell (k := 0) rfl
      have r_1 := l3.cell (k := 1) rfl
      have r_l := l3.lt
      go_wp2_with fail
      refine (Has_calls _ st k _ hm.s).mono ?_
      rintro e w' ⟨rfl, rfl⟩
      rw [HP.out]
      go_wp2_with fail
      refine (Has_calls _ st2 k _ hm2.s).mono ?_
      rintro e w' ⟨rfl, rfl⟩
      rw [HQ.out]
      go_wp2
      go_roundw
      case rel => exact ⟨k + 1, V, _, rfl, by omega, by go_num, by rw [HSX.out]; exact hbm⟩
      case measure => simp [intOf]; omega
    · have HSX := Lib.hid (show mgS st st2 (k + 1) = mgS st st2 k ++ [(k : Int)] by rw [hsx]; simp)
      clear hsx
      have p_0 := l1.cell (k := 0) rfl
      have p_1 := l1.cell (k := 1) rfl
      have p_l := l1.lt
      have r_0 := l3.cell (k := 0) rfl
      have r_1 := l3.cell (k := 1) rfl
      have r_l := l3.lt
      go_wp2_with fail
      refine (Has_calls _ st k _ hm.s).mono ?_
      rintro e w' ⟨rfl, rfl⟩
      rw [HP.out]
      go_wp2_with fail
      refine (Has_calls _ st2 k _ hm2.s).mono ?_
      rintro e w' ⟨rfl, rfl⟩
      rw [HQ.out]
      have hA := hbm.later (Later.new V.w (.cells #[.int .i64 k] 3))
      rw [Later.new_w] at hA
      obtain ⟨v6, w6, hr6, hb6⟩ := hA.appS V.w.heap.size 1 _ (by simp [go_sem]; rfl) (by omega) 22
      obtain ⟨a7, n7, c7, rfl⟩ := hb6.s.form'
      have HR6 := Lib.hid hr6
      clear hr6 hA
      have lT := hbm.lin
      have u0 := lT.cell (k := 0) rfl
      have uT := lT.lt
      have lX8 := hb6.lin
      have v1' := lX8.cell (k := 0) rfl
      have v1f := lX8.frozen 0
      have v1l := lX8.lt
      have HB9 := Lib.hid hb6.setS
      clear lT lX8 hb6 hbm
      go_wp2_with ((with_reducible show wpList _ _ _ (⟨some 47, _, _, _, _, _⟩ :: _) _ _); refine Lib.wpList_append_run_sl _ rfl _ _ 22 rfl _ _ rfl rfl HR6.out ?_)
      go_roundw
      case rel => exact ⟨k + 1, ⟨_, HB9.out.le⟩, _, rfl, by omega, by go_num, by rw [HSX.out]; exact HB9.out⟩
      case measure => simp [intOf]; omega
    · have HSX := Lib.hid (show mgS st st2 (k + 1) = mgS st st2 k ++ [(k : Int)] by rw [hsx]; simp)
      clear hsx
      have p_0 := l1.cell (k := 0) rfl
      have p_1 := l1.cell (k := 1) rfl
      have p_l := l1.lt
      have r_0 := l3.cell (k := 0) rfl
      have r_1 := l3.cell (k := 1) rfl
      have r_l := l3.lt
      go_wp2_with fail
      refine (Has_calls _ st k _ hm.s).mono ?_
      rintro e w' ⟨rfl, rfl⟩
      rw [HP.out]
      have hA := hbm.later (Later.new V.w (.cells #[.int .i64 k] 3))
      rw [Later.new_w] at hA
      obtain ⟨v6, w6, hr6, hb6⟩ := hA.appS V.w.heap.size 1 _ (by simp [go_sem]; rfl) (by omega) 22
      obtain ⟨a7, n7, c7, rfl⟩ := hb6.s.form'
      have HR6 := Lib.hid hr6
      clear hr6 hA
      have lT := hbm.lin
      have u0 := lT.cell (k := 0) rfl
      have uT := lT.lt
      have lX8 := hb6.lin
      have v1' := lX8.cell (k := 0) rfl
      have v1f := lX8.frozen 0
      have v1l := lX8.lt
      have HB9 := Lib.hid hb6.setS
      clear lT lX8 hb6 hbm
      go_wp2_with ((with_reducible show wpList _ _ _ (⟨some 47, _, _, _, _, _⟩ :: _) _ _); refine Lib.wpList_append_run_sl _ rfl _ _ 22 rfl _ _ rfl rfl HR6.out ?_)
      go_roundw
      case rel => exact ⟨k + 1, ⟨_, HB9.out.le⟩, _, rfl, by omega, by go_num, by rw [HSX.out]; exact HB9.out⟩
      case measure => simp [intOf]; omega
    · have HSX := Lib.hid (show mgS st st2 (k + 1) = mgS st st2 k ++ [(k : Int)] by rw [hsx]; simp)
      clear hsx
      have p_0 := l1.cell (k := 0) rfl
      have p_1 := l1.cell (k := 1) rfl
      have p_l := l1.lt
      have r_0 := l3.cell (k := 0) rfl
      have r_1 := l3.cell (k := 1) rfl
      have r_l := l3.lt
      go_wp2_with fail
      refine (Has_calls _ st k _ hm.s).mono ?_
      rintro e w' ⟨rfl, rfl⟩
      rw [HP.out]
      have hA := hbm.later (Later.new V.w (.cells #[.int .i64 k] 3))
      rw [Later.new_w] at hA
      obtain ⟨v6, w6, hr6, hb6⟩ := hA.appS V.w.heap.size 1 _ (by simp [go_sem]; rfl) (by omega) 22
      obtain ⟨a7, n7, c7, rfl⟩ := hb6.s.form'
      have HR6 := Lib.hid hr6
      clear hr6 hA
      have lT := hbm.lin
      have u0 := lT.cell (k := 0) rfl
      have uT := lT.lt
      have lX8 := hb6.lin
      have v1' := lX8.cell (k := 0) rfl
      have v1f := lX8.frozen 0
      have v1l := lX8.lt
      have HB9 := Lib.hid hb6.setS
      clear lT lX8 hb6 hbm
      go_wp2_with ((with_reducible show wpList _ _ _ (⟨some 47, _, _, _, _, _⟩ :: _) _ _); refine Lib.wpList_append_run_sl _ rfl _ _ 22 rfl _ _ rfl rfl HR6.out ?_)
      go_roundw
      case rel => exact ⟨k + 1, ⟨_, HB9.out.le⟩, _, rfl, by omega, by go_num, by rw [HSX.out]; exact HB9.out⟩
      case measure => simp [intOf]; omega
  obtain rfl : n = k := by omega
  clear hk
  go_wp2
  go_loopw [10, 11] (fun i0 _ wr => ∃ (k : Nat) (V : Later Y8.w) (ax' : Value), wr = V.w ∧ k ≤ n + 1 ∧ i0 = .int .i64 k ∧ Bm Y8.w V.w B9 (.slice a0 n0 c0) ax' (.slice a0 n0 c0) ax' (mgS st st2 n) (mgA ad ad2 k)) (fun i0 _ _ => n + 1 - (intOf i0).toNat)
  case atStart => exact ⟨0, V, _, rfl, Nat.zero_le _, rfl, hbm⟩
  clear hbm hlt
  obtain ⟨k, V2, ax', rfl, hk, rfl, hbm⟩ := hrel
  obtain ⟨b0, m0, d0, rfl⟩ := hbm.a.form'
  by_cases hlt : k ≤ n
  · replace hm := hm.later V2
    replace hm2 := hm2.later V2
    replace l1 := l1.later V2
    replace l3 := l3.later V2
    replace l5 := l5.later V2
    replace S := S.later V2
    have hkna : k < na := by have := HAL.out; omega
    have hkna2 : k < na2 := by have := HAL2.out; omega
    have hmg := mgA_len ad ad2 k
    have hsx := mgA_succ ad ad2 k
    obtain ⟨ba, oa, ka, e, hka, hba, hga⟩ := hm.a.at (k := k) (by rw [← HA.out]; exact hkna)
    injection e with e1 e2 e3
    subst e1 e3
    have qa := hga k (by rw [← HA.out]; exact hkna)
    clear hga e2
    obtain ⟨bb, ob, kb, e, hkb, hbb, hgb⟩ := hm2.a.at (k := k) (by rw [← HA2.out]; exact hkna2)
    injection e with e1 e2 e3
    subst e1 e3
    have qb := hgb k (by rw [← HA2.out]; exact hkna2)
    clear hgb e2
    obtain ⟨x, hx⟩ : ∃ v, sat ad k = v := ⟨_, rfl⟩
    obtain ⟨y, hy⟩ : ∃ v, sat ad2 k = v := ⟨_, rfl⟩
    rw [hx] at qa hsx
    rw [hy] at qb hsx
    clear hx hy
    by_cases h1 : x = []
    · rw [if_pos h1] at hsx
      have HSX := Lib.hid hsx
      have d1 : (x == []) = true := by simpa using h1
      clear hsx h1
      have p_0 := l1.cell (k := 0) rfl
      have p_1 := l1.cell (k := 1) rfl
      have p_l := l1.lt
      have r_0 := l3.cell (k := 0) rfl
      have r_1 := l3.cell (k := 1) rfl
      have r_l := l3.lt
      have hA := hbm.later (Later.new V2.w (.cells #[.string ⟨y.toArray⟩] 9))
      rw [Later.new_w] at hA
      obtain ⟨v6, w6, hr6, hb6⟩ := hA.appA V2.w.heap.size 1 _ (by simp [go_sem]; rfl) (by omega) 23
      obtain ⟨a7, n7, c7, rfl⟩ := hb6.a.form'
      have HR6 := Lib.hid hr6
      clear hr6 hA
      have lT := hbm.lin
      have u0 := lT.cell (k := 1) rfl
      have uT := lT.lt
      have lX8 := hb6.lin
      have v1' := lX8.cell (k := 1) rfl
      have v1f := lX8.frozen 1
      have v1l := lX8.lt
      have HB9 := Lib.hid hb6.setA
      clear lT lX8 hb6 hbm
      go_wp2_with ((with_reducible show wpList _ _ _ (⟨some 71, _, _, _, _, _⟩ :: _) _ _); refine Lib.wpList_append_run_sl _ rfl _ _ 23 rfl _ _ rfl rfl HR6.out ?_)
      go_roundw
      case rel => first | exact ⟨k + 1, ⟨_, HB9.out.le⟩, _, rfl, by omega, by go_num, by rw [HSX.out]; exact HB9.out⟩ | ((repeat apply Exists.intro); exact ⟨⟨k + 1, ⟨_, HB9.out.le⟩, _, rfl, by omega, by go_num, by rw [HSX.out]; exact HB9.out⟩, rfl⟩)
      case measure => simp [intOf]; omega
    · rw [if_neg h1] at hsx
      have HSX := Lib.hid hsx
      have d1 : (x == []) = false := by simpa using h1
      clear hsx h1
      have p_0 := l1.cell (k := 0) rfl
      have p_1 := l1.cell (k := 1) rfl
      have p_l := l1.lt
      have r_0 := l3.cell (k := 0) rfl
      have r_1 := l3.cell (k := 1) rfl
      have r_l := l3.lt
      have hA := hbm.later (Later.new V2.w (.cells #[.string ⟨x.toArray⟩] 9))
      rw [Later.new_w] at hA
      obtain ⟨v6, w6, hr6, hb6⟩ := hA.appA V2.w.heap.size 1 _ (by simp [go_sem]; rfl) (by omega) 23
      obtain ⟨a7, n7, c7, rfl⟩ := hb6.a.form'
      have HR6 := Lib.hid hr6
      clear hr6 hA
      have lT := hbm.lin
      have u0 := lT.cell (k := 1) rfl
      have uT := lT.lt
      have lX8 := hb6.lin
      have v1' := lX8.cell (k := 1) rfl
      have v1f := lX8.frozen 1
      have v1l := lX8.lt
      have HB9 := Lib.hid hb6.setA
      clear lT lX8 hb6 hbm
      go_wp2_with ((with_reducible show wpList _ _ _ (⟨some 71, _, _, _, _, _⟩ :: _) _ _); refine Lib.wpList_append_run_sl _ rfl _ _ 23 rfl _ _ rfl rfl HR6.out ?_)
      go_roundw
      case rel => first | exact ⟨k + 1, ⟨_, HB9.out.le⟩, _, rfl, by omega, by go_num, by rw [HSX.out]; exact HB9.out⟩ | ((repeat apply Exists.intro); exact ⟨⟨k + 1, ⟨_, HB9.out.le⟩, _, rfl, by omega, by go_num, by rw [HSX.out]; exact HB9.out⟩, rfl⟩)
      case measure => simp [intOf]; omega
  obtain rfl : k = n + 1 := by omega
  have hlS := mgS_len st st2 n
  have hlA := mgA_len ad ad2 (n + 1)
  replace hm := hm.later V2
  replace hm2 := hm2.later V2
  replace l1 := l1.later V2
  replace l3 := l3.later V2
  replace l5 := l5.later V2
  replace S := S.later V2
  have t0 := l5.cell (k := 0) rfl
  have t1' := l5.cell (k := 1) rfl
  have f0 := l5.frozen 0
  have f1 := l5.frozen 1
  have tl := l5.lt
  have lT := hbm.lin
  have z0 := lT.cell (k := 0) rfl
  have z1 := lT.cell (k := 1) rfl
  have zl := lT.lt
  clear lT
  go_wp2
  refine bodyPost_ret (v := .tuple #[.agg #[.slice a0 n0 c0, .slice b0 m0 d0], .int .i64 0]) (by simp [results, Try.results28, go_sem, t0, t1']) rfl ?_
  refine ⟨_, _, ⟨_, (((Y8.step V2).le.setCell (p := ⟨B5, 0, none⟩) hloB5 (.slice a0 n0 c0)).setCell (p := ⟨B5, 1, none⟩) hloB5 (.slice b0 m0 d0))⟩, by rw [HR.out.1], rfl, by rw [HR.out.2.1, HR.out.2.2]; exact hbm.past hRY _ _ (by omega) (by omega)⟩
end Go.Proofs.Ytpkgfkeekcgkcaa
