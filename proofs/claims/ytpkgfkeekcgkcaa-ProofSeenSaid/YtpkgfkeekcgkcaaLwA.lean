import Derived.Test.YtpkgfkeekcgkcaaWkP
/-  The statements over whatever marks: sheets, merges. -/
namespace Go.Proofs.Ytpkgfkeekcgkcaa
open Go.RowKit
theorem sameM_self (st : List Int) (ad : List (List UInt8)) : sameM st ad st ad = true := by simp [sameM]
set_option maxRecDepth 100000 in
set_option maxHeartbeats 8000000 in
theorem ProofSheets_calls (l : List UInt8) (sv av : Value) (st : List Int) (ad : List (List UInt8)) (W : World) (hm : Mks W sv av st ad) :
    Calls Try.prog 3 #[.string ⟨l.toArray⟩, .agg #[sv, av]] W (Gives (.bool true) W) := by
  have S : Ins W [] := Ins.nil _
  obtain ⟨sx, ns, cs, rfl⟩ : ∃ a n c, sv = .slice a n c := by obtain ⟨a, c, e⟩ := hm.s.form; exact ⟨a, _, c, e⟩
  obtain ⟨aa, na, ca, rfl⟩ : ∃ a n c, av = .slice a n c := by obtain ⟨a, c, e⟩ := hm.a.form; exact ⟨a, _, c, e⟩
  have HS := Lib.hid (show ns = st.length by obtain ⟨a, c, e⟩ := hm.s.form; cases e; rfl)
  have HA := Lib.hid (show na = ad.length by obtain ⟨a, c, e⟩ := hm.a.form; cases e; rfl)
  have hsl : ns ≤ 9007199254740992 := by rw [HS.out]; exact hm.s.1
  have hal : na ≤ 9007199254740992 := by rw [HA.out]; exact hm.a.1
  obtain ⟨X, hX⟩ : ∃ X, decide (20 < l.length) = X := ⟨_, rfl⟩
  have HX := Lib.hid hX
  clear hX
  obtain ⟨G, hG⟩ : ∃ X, greatM st ad = X := ⟨_, rfl⟩
  have HG := Lib.hid hG
  clear hG
  cases X
  rotate_left
  · go_enter Try.func3, Try.ntmps3
    go_wp2_with fail
    obtain ⟨B1, hb⟩ : ∃ b, b = W.heap.size := ⟨_, rfl⟩
    have l1 : Lin (W.alloc (.cells #[.slice sx ns cs, .slice aa na ca] 25)) B1 25 [.slice sx ns cs, .slice aa na ca] := by rw [hb]; exact Lin.new _ _ [.slice sx ns cs, .slice aa na ca]
    replace S := S.later (Later.new _ (.cells #[.slice sx ns cs, .slice aa na ca] 25))
    rw [Later.new_w] at S
    replace hm := hm.later (Later.new _ (.cells #[.slice sx ns cs, .slice aa na ca] 25))
    rw [Later.new_w] at hm
    have hsz : (W.alloc (.cells #[.slice sx ns cs, .slice aa na ca] 25)).heap.size = B1 + 1 := by rw [hb]; simp
    obtain ⟨Y2, hZ⟩ : ∃ Z : Later W, Z.w = W.alloc (.cells #[.slice sx ns cs, .slice aa na ca] 25) := ⟨Later.new _ _, rfl⟩
    rw [← hZ] at S hsz hm l1 ⊢
    clear hZ
    rw [← hb]
    clear hb
    try rw [← hsz]
    clear hsz
    have q0_0 := l1.cell (k := 0) rfl
    have q0_1 := l1.cell (k := 1) rfl
    have q0_l := l1.lt
    go_wp2_with fail
    clear q0_0 q0_1 q0_l
    refine (llong_calls l _).mono ?_
    rintro e w' ⟨rfl, hw⟩
    rw [hw, HX.out]
    clear hw w'
    have q0_0 := l1.cell (k := 0) rfl
    have q0_1 := l1.cell (k := 1) rfl
    have q0_l := l1.lt
    go_wp2_with fail
    clear q0_0 q0_1 q0_l
    refine (Works_calls _).mono ?_
    rintro e w' ⟨rfl, y, rfl⟩
    go_wp2
    go_ret
    exact ⟨rfl, Y2.step (y), rfl⟩
  cases G
  rotate_left
  · go_enter Try.func3, Try.ntmps3
    go_wp2_with fail
    obtain ⟨B1, hb⟩ : ∃ b, b = W.heap.size := ⟨_, rfl⟩
    have l1 : Lin (W.alloc (.cells #[.slice sx ns cs, .slice aa na ca] 25)) B1 25 [.slice sx ns cs, .slice aa na ca] := by rw [hb]; exact Lin.new _ _ [.slice sx ns cs, .slice aa na ca]
    replace S := S.later (Later.new _ (.cells #[.slice sx ns cs, .slice aa na ca] 25))
    rw [Later.new_w] at S
    replace hm := hm.later (Later.new _ (.cells #[.slice sx ns cs, .slice aa na ca] 25))
    rw [Later.new_w] at hm
    have hsz : (W.alloc (.cells #[.slice sx ns cs, .slice aa na ca] 25)).heap.size = B1 + 1 := by rw [hb]; simp
    obtain ⟨Y2, hZ⟩ : ∃ Z : Later W, Z.w = W.alloc (.cells #[.slice sx ns cs, .slice aa na ca] 25) := ⟨Later.new _ _, rfl⟩
    rw [← hZ] at S hsz hm l1 ⊢
    clear hZ
    rw [← hb]
    clear hb
    try rw [← hsz]
    clear hsz
    have q0_0 := l1.cell (k := 0) rfl
    have q0_1 := l1.cell (k := 1) rfl
    have q0_l := l1.lt
    go_wp2_with fail
    clear q0_0 q0_1 q0_l
    refine (llong_calls l _).mono ?_
    rintro e w' ⟨rfl, hw⟩
    rw [hw, HX.out]
    clear hw w'
    have q0_0 := l1.cell (k := 0) rfl
    have q0_1 := l1.cell (k := 1) rfl
    have q0_l := l1.lt
    go_wp2_with fail
    clear q0_0 q0_1 q0_l
    refine (great_calls _ _ st ad _ hm).mono ?_
    rintro e w' ⟨rfl, y, rfl⟩
    rw [HG.out]
    replace hm := hm.later y
    replace l1 := l1.later y
    replace S := S.later y
    obtain ⟨Y3, hZ⟩ : ∃ Z : Later W, Z.w = y.w := ⟨Y2.step (y), rfl⟩
    rw [← hZ] at S hm l1 ⊢
    clear hZ
    clear y
    have q0_0 := l1.cell (k := 0) rfl
    have q0_1 := l1.cell (k := 1) rfl
    have q0_l := l1.lt
    go_wp2_with fail
    clear q0_0 q0_1 q0_l
    refine (Works_calls _).mono ?_
    rintro e w' ⟨rfl, y, rfl⟩
    go_wp2
    go_ret
    exact ⟨rfl, Y3.step (y), rfl⟩
  go_enter Try.func3, Try.ntmps3
  go_wp2_with fail
  obtain ⟨B1, hb⟩ : ∃ b, b = W.heap.size := ⟨_, rfl⟩
  have l1 : Lin (W.alloc (.cells #[.slice sx ns cs, .slice aa na ca] 25)) B1 25 [.slice sx ns cs, .slice aa na ca] := by rw [hb]; exact Lin.new _ _ [.slice sx ns cs, .slice aa na ca]
  replace S := S.later (Later.new _ (.cells #[.slice sx ns cs, .slice aa na ca] 25))
  rw [Later.new_w] at S
  replace hm := hm.later (Later.new _ (.cells #[.slice sx ns cs, .slice aa na ca] 25))
  rw [Later.new_w] at hm
  have hsz : (W.alloc (.cells #[.slice sx ns cs, .slice aa na ca] 25)).heap.size = B1 + 1 := by rw [hb]; simp
  obtain ⟨Y2, hZ⟩ : ∃ Z : Later W, Z.w = W.alloc (.cells #[.slice sx ns cs, .slice aa na ca] 25) := ⟨Later.new _ _, rfl⟩
  rw [← hZ] at S hsz hm l1 ⊢
  clear hZ
  rw [← hb]
  clear hb
  try rw [← hsz]
  clear hsz
  have q0_0 := l1.cell (k := 0) rfl
  have q0_1 := l1.cell (k := 1) rfl
  have q0_l := l1.lt
  go_wp2_with fail
  clear q0_0 q0_1 q0_l
  refine (llong_calls l _).mono ?_
  rintro e w' ⟨rfl, hw⟩
  rw [hw, HX.out]
  clear hw w'
  have q0_0 := l1.cell (k := 0) rfl
  have q0_1 := l1.cell (k := 1) rfl
  have q0_l := l1.lt
  go_wp2_with fail
  clear q0_0 q0_1 q0_l
  refine (great_calls _ _ st ad _ hm).mono ?_
  rintro e w' ⟨rfl, y, rfl⟩
  rw [HG.out]
  replace hm := hm.later y
  replace l1 := l1.later y
  replace S := S.later y
  obtain ⟨Y3, hZ⟩ : ∃ Z : Later W, Z.w = y.w := ⟨Y2.step (y), rfl⟩
  rw [← hZ] at S hm l1 ⊢
  clear hZ
  clear y
  obtain ⟨V, hV⟩ : ∃ V, readL l st ad = V := ⟨_, rfl⟩
  obtain ⟨N, hN⟩ : ∃ V, readN l st ad = V := ⟨_, rfl⟩
  obtain ⟨E, hE⟩ : ∃ V, marksE l st ad = V := ⟨_, rfl⟩
  obtain ⟨D, hD⟩ : ∃ V, backE l st ad = V := ⟨_, rfl⟩
  have HV := Lib.hid hV
  have HN := Lib.hid hN
  have HE := Lib.hid hE
  have HD := Lib.hid hD
  clear hV hN hE hD
  have q0_0 := l1.cell (k := 0) rfl
  have q0_1 := l1.cell (k := 1) rfl
  have q0_l := l1.lt
  go_wp2_with fail
  clear q0_0 q0_1 q0_l
  refine (Read_calls l _ _ st ad _ hm).mono ?_
  rintro e w' ⟨rfl, y, rfl⟩
  rw [HV.out, HN.out, HE.out]
  replace hm := hm.later y
  replace l1 := l1.later y
  replace S := S.later y
  obtain ⟨Y4, hZ⟩ : ∃ Z : Later W, Z.w = y.w := ⟨Y3.step (y), rfl⟩
  rw [← hZ] at S hm l1 ⊢
  clear hZ
  clear y
  have q0_0 := l1.cell (k := 0) rfl
  have q0_1 := l1.cell (k := 1) rfl
  have q0_l := l1.lt
  go_wp2_with fail
  clear q0_0 q0_1 q0_l
  refine (rRead_calls l _ _ st ad _ hm).mono ?_
  rintro e w' ⟨rfl, y, rfl⟩
  rw [HV.out, HN.out, HE.out]
  replace hm := hm.later y
  replace l1 := l1.later y
  replace S := S.later y
  obtain ⟨Y5, hZ⟩ : ∃ Z : Later W, Z.w = y.w := ⟨Y4.step (y), rfl⟩
  rw [← hZ] at S hm l1 ⊢
  clear hZ
  clear y
  have q0_0 := l1.cell (k := 0) rfl
  have q0_1 := l1.cell (k := 1) rfl
  have q0_l := l1.lt
  go_wp2_with fail
  clear q0_0 q0_1 q0_l
  refine (Back_calls l _ _ st ad _ hm).mono ?_
  rintro e w' ⟨sv, av, y, rfl, rfl, hmn⟩
  rw [HD.out]
  have hmx := hmn
  clear hmn
  obtain ⟨sxx, nsx, csx, rfl⟩ : ∃ a n c, sv = Value.slice a n c := by obtain ⟨a, c, e⟩ := hmx.s.form; exact ⟨a, _, c, e⟩
  obtain ⟨aax, nax, cax, rfl⟩ : ∃ a n c, av = Value.slice a n c := by obtain ⟨a, c, e⟩ := hmx.a.form; exact ⟨a, _, c, e⟩
  replace hm := hm.later y
  replace l1 := l1.later y
  replace S := S.later y
  obtain ⟨Y6, hZ⟩ : ∃ Z : Later W, Z.w = y.w := ⟨Y5.step (y), rfl⟩
  rw [← hZ] at S hm l1 hmx ⊢
  clear hZ
  clear y
  have q0_0 := l1.cell (k := 0) rfl
  have q0_1 := l1.cell (k := 1) rfl
  have q0_l := l1.lt
  go_wp2_with fail
  clear q0_0 q0_1 q0_l
  obtain ⟨B7, hb⟩ : ∃ b, b = Y6.w.heap.size := ⟨_, rfl⟩
  have l7 : Lin (Y6.w.alloc (.cells #[.slice sxx nsx csx, .slice aax nax cax] 25)) B7 25 [.slice sxx nsx csx, .slice aax nax cax] := by rw [hb]; exact Lin.new _ _ [.slice sxx nsx csx, .slice aax nax cax]
  replace S := S.later (Later.new _ (.cells #[.slice sxx nsx csx, .slice aax nax cax] 25))
  rw [Later.new_w] at S
  replace hm := hm.later (Later.new _ (.cells #[.slice sxx nsx csx, .slice aax nax cax] 25))
  rw [Later.new_w] at hm
  replace l1 := l1.later (Later.new _ (.cells #[.slice sxx nsx csx, .slice aax nax cax] 25))
  rw [Later.new_w] at l1
  replace hmx := hmx.later (Later.new _ (.cells #[.slice sxx nsx csx, .slice aax nax cax] 25))
  rw [Later.new_w] at hmx
  have hsz : (Y6.w.alloc (.cells #[.slice sxx nsx csx, .slice aax nax cax] 25)).heap.size = B7 + 1 := by rw [hb]; simp
  obtain ⟨Y8, hZ⟩ : ∃ Z : Later W, Z.w = Y6.w.alloc (.cells #[.slice sxx nsx csx, .slice aax nax cax] 25) := ⟨Y6.step (Later.new _ _), rfl⟩
  rw [← hZ] at S hsz hm l1 hmx l7 ⊢
  clear hZ
  rw [← hb]
  clear hb
  try rw [← hsz]
  clear hsz
  refine (rBack_calls l _ _ st ad _ hm).mono ?_
  rintro e w' ⟨sv, av, y, rfl, rfl, hmn⟩
  rw [HD.out]
  have hmy := hmn
  clear hmn
  obtain ⟨sxy, nsy, csy, rfl⟩ : ∃ a n c, sv = Value.slice a n c := by obtain ⟨a, c, e⟩ := hmy.s.form; exact ⟨a, _, c, e⟩
  obtain ⟨aay, nay, cay, rfl⟩ : ∃ a n c, av = Value.slice a n c := by obtain ⟨a, c, e⟩ := hmy.a.form; exact ⟨a, _, c, e⟩
  replace hm := hm.later y
  replace l1 := l1.later y
  replace hmx := hmx.later y
  replace l7 := l7.later y
  replace S := S.later y
  obtain ⟨Y9, hZ⟩ : ∃ Z : Later W, Z.w = y.w := ⟨Y8.step (y), rfl⟩
  rw [← hZ] at S hm l1 hmx l7 hmy ⊢
  clear hZ
  clear y
  go_wp2
  obtain ⟨B10, hb⟩ : ∃ b, b = Y9.w.heap.size := ⟨_, rfl⟩
  have l10 : Lin (Y9.w.alloc (.cells #[.slice sxy nsy csy, .slice aay nay cay] 25)) B10 25 [.slice sxy nsy csy, .slice aay nay cay] := by rw [hb]; exact Lin.new _ _ [.slice sxy nsy csy, .slice aay nay cay]
  replace S := S.later (Later.new _ (.cells #[.slice sxy nsy csy, .slice aay nay cay] 25))
  rw [Later.new_w] at S
  replace hm := hm.later (Later.new _ (.cells #[.slice sxy nsy csy, .slice aay nay cay] 25))
  rw [Later.new_w] at hm
  replace l1 := l1.later (Later.new _ (.cells #[.slice sxy nsy csy, .slice aay nay cay] 25))
  rw [Later.new_w] at l1
  replace hmx := hmx.later (Later.new _ (.cells #[.slice sxy nsy csy, .slice aay nay cay] 25))
  rw [Later.new_w] at hmx
  replace l7 := l7.later (Later.new _ (.cells #[.slice sxy nsy csy, .slice aay nay cay] 25))
  rw [Later.new_w] at l7
  replace hmy := hmy.later (Later.new _ (.cells #[.slice sxy nsy csy, .slice aay nay cay] 25))
  rw [Later.new_w] at hmy
  have hsz : (Y9.w.alloc (.cells #[.slice sxy nsy csy, .slice aay nay cay] 25)).heap.size = B10 + 1 := by rw [hb]; simp
  obtain ⟨Y11, hZ⟩ : ∃ Z : Later W, Z.w = Y9.w.alloc (.cells #[.slice sxy nsy csy, .slice aay nay cay] 25) := ⟨Y9.step (Later.new _ _), rfl⟩
  rw [← hZ] at S hsz hm l1 hmx l7 hmy l10 ⊢
  clear hZ
  rw [← hb]
  clear hb
  try rw [← hsz]
  clear hsz
  have qd0_0 := l1.cell (k := 0) rfl
  have qd0_1 := l1.cell (k := 1) rfl
  have qd0_l := l1.lt
  have qd1_0 := l7.cell (k := 0) rfl
  have qd1_1 := l7.cell (k := 1) rfl
  have qd1_l := l7.lt
  have qd2_0 := l10.cell (k := 0) rfl
  have qd2_1 := l10.cell (k := 1) rfl
  have qd2_l := l10.lt
  refine Mix.region_mixL (Mix.kinds [] [2, 5, 25, 33] []) (by kernel_rfl) (by kernel_rfl) ?_
  try go_frame
  repeat ((with_reducible refine Mix.atCons ?_); first | refine Mix.skipU (by rfl) rfl (by rfl) ?_ | (refine Mix.val rfl rfl (by rfl) (fun K hK => ?_); go_big_quiet_op; refine hK _ ?_; clear hK K) | (refine Mix.skip (by rfl) ?_; go_frame))
  refine Mix.loud rfl (by rfl) (fun x1 K hK => ?_)
  go_wp2_with fail
  refine (CheckMarks_calls l _ _ st ad _ (hm.later x1)).mono ?_
  rintro e w' ⟨rfl, y1, rfl⟩
  rw [HE.out]
  refine hK _ y1 ?_
  clear hK K
  try go_frame
  repeat ((with_reducible refine Mix.atCons ?_); first | refine Mix.skipU (by rfl) rfl (by rfl) ?_ | (refine Mix.val rfl rfl (by rfl) (fun K hK => ?_); go_big_quiet_op; refine hK _ ?_; clear hK K) | (refine Mix.skip (by rfl) ?_; go_frame))
  refine Mix.loud rfl (by rfl) (fun x2 K hK => ?_)
  go_wp2_with fail
  refine (rCheckMarks_calls l _ _ st ad _ (((hm.later x1).later y1).later x2)).mono ?_
  rintro e w' ⟨rfl, y2, rfl⟩
  rw [HE.out]
  refine hK _ y2 ?_
  clear hK K
  try go_frame
  repeat ((with_reducible refine Mix.atCons ?_); first | refine Mix.skipU (by rfl) rfl (by rfl) ?_ | (refine Mix.val rfl rfl (by rfl) (fun K hK => ?_); go_big_quiet_op; refine hK _ ?_; clear hK K) | (refine Mix.skip (by rfl) ?_; go_frame))
  refine Mix.loud rfl (by rfl) (fun x3 K hK => ?_)
  go_wp2_with fail
  refine (Same_calls _ _ _ _ _ _ _ _ _ (((((hmx.later x1).later y1).later x2).later y2).later x3) (((((hmy.later x1).later y1).later x2).later y2).later x3)).mono ?_
  rintro e w' ⟨rfl, y3, rfl⟩
  rw [sameM_self]
  refine hK _ y3 ?_
  clear hK K
  try go_frame
  repeat ((with_reducible refine Mix.atCons ?_); first | refine Mix.skipU (by rfl) rfl (by rfl) ?_ | (refine Mix.val rfl rfl (by rfl) (fun K hK => ?_); go_big_quiet_op; refine hK _ ?_; clear hK K) | (refine Mix.skip (by rfl) ?_; go_frame))
  refine Mix.loud rfl (by rfl) (fun x4 K hK => ?_)
  go_wp2_with fail
  refine (Works_calls _).mono ?_
  rintro e w' ⟨rfl, y4, rfl⟩
  refine hK _ y4 ?_
  clear hK K
  try go_frame
  repeat ((with_reducible refine Mix.atCons ?_); first | refine Mix.skipU (by rfl) rfl (by rfl) ?_ | (refine Mix.val rfl rfl (by rfl) (fun K hK => ?_); go_big_quiet_op; refine hK _ ?_; clear hK K) | (refine Mix.skip (by rfl) ?_; go_frame))
  refine Mix.done (fun x5 => ?_)
  replace hm := (((((((((hm.later x1).later y1).later x2).later y2).later x3).later y3).later x4).later y4).later x5)
  replace l1 := (((((((((l1.later x1).later y1).later x2).later y2).later x3).later y3).later x4).later y4).later x5)
  replace hmx := (((((((((hmx.later x1).later y1).later x2).later y2).later x3).later y3).later x4).later y4).later x5)
  replace l7 := (((((((((l7.later x1).later y1).later x2).later y2).later x3).later y3).later x4).later y4).later x5)
  replace hmy := (((((((((hmy.later x1).later y1).later x2).later y2).later x3).later y3).later x4).later y4).later x5)
  replace l10 := (((((((((l10.later x1).later y1).later x2).later y2).later x3).later y3).later x4).later y4).later x5)
  replace S := (((((((((S.later x1).later y1).later x2).later y2).later x3).later y3).later x4).later y4).later x5)
  obtain ⟨Y12, hZ⟩ : ∃ Z : Later W, Z.w = x5.w := ⟨Y11.step (x1.step (y1.step (x2.step (y2.step (x3.step (y3.step (x4.step (y4.step (x5))))))))), rfl⟩
  rw [← hZ] at S hm l1 hmx l7 hmy l10 ⊢
  clear hZ
  go_wp2
  go_ret
  exact ⟨rfl, Y12, rfl⟩
set_option maxRecDepth 100000 in
set_option maxHeartbeats 8000000 in
theorem ProofMerges_calls (l : List UInt8) (sv av : Value) (st : List Int) (ad : List (List UInt8)) (sw aw : Value) (st2 : List Int) (ad2 : List (List UInt8)) (W : World) (hm : Mks W sv av st ad) (hm2 : Mks W sw aw st2 ad2) :
    Calls Try.prog 4 #[.string ⟨l.toArray⟩, .agg #[sv, av], .agg #[sw, aw]] W (Gives (.bool true) W) := by
  have S : Ins W [] := Ins.nil _
  obtain ⟨sx, ns, cs, rfl⟩ : ∃ a n c, sv = .slice a n c := by obtain ⟨a, c, e⟩ := hm.s.form; exact ⟨a, _, c, e⟩
  obtain ⟨aa, na, ca, rfl⟩ : ∃ a n c, av = .slice a n c := by obtain ⟨a, c, e⟩ := hm.a.form; exact ⟨a, _, c, e⟩
  have HS := Lib.hid (show ns = st.length by obtain ⟨a, c, e⟩ := hm.s.form; cases e; rfl)
  have HA := Lib.hid (show na = ad.length by obtain ⟨a, c, e⟩ := hm.a.form; cases e; rfl)
  have hsl : ns ≤ 9007199254740992 := by rw [HS.out]; exact hm.s.1
  have hal : na ≤ 9007199254740992 := by rw [HA.out]; exact hm.a.1
  obtain ⟨sx2, ns2, cs2, rfl⟩ : ∃ a n c, sw = .slice a n c := by obtain ⟨a, c, e⟩ := hm2.s.form; exact ⟨a, _, c, e⟩
  obtain ⟨aa2, na2, ca2, rfl⟩ : ∃ a n c, aw = .slice a n c := by obtain ⟨a, c, e⟩ := hm2.a.form; exact ⟨a, _, c, e⟩
  have HS2 := Lib.hid (show ns2 = st2.length by obtain ⟨a, c, e⟩ := hm2.s.form; cases e; rfl)
  have HA2 := Lib.hid (show na2 = ad2.length by obtain ⟨a, c, e⟩ := hm2.a.form; cases e; rfl)
  have hsl2 : ns2 ≤ 9007199254740992 := by rw [HS2.out]; exact hm2.s.1
  have hal2 : na2 ≤ 9007199254740992 := by rw [HA2.out]; exact hm2.a.1
  obtain ⟨X, hX⟩ : ∃ X, decide (20 < l.length) = X := ⟨_, rfl⟩
  have HX := Lib.hid hX
  clear hX
  obtain ⟨G, hG⟩ : ∃ X, greatM st ad = X := ⟨_, rfl⟩
  have HG := Lib.hid hG
  clear hG
  obtain ⟨G2, hG2⟩ : ∃ X, greatM st2 ad2 = X := ⟨_, rfl⟩
  have HG2 := Lib.hid hG2
  clear hG2
  cases X
  rotate_left
  · go_enter Try.func4, Try.ntmps4
    go_wp2_with fail
    obtain ⟨B1, hb⟩ : ∃ b, b = W.heap.size := ⟨_, rfl⟩
    have l1 : Lin (W.alloc (.cells #[.slice sx ns cs, .slice aa na ca] 25)) B1 25 [.slice sx ns cs, .slice aa na ca] := by rw [hb]; exact Lin.new _ _ [.slice sx ns cs, .slice aa na ca]
    replace S := S.later (Later.new _ (.cells #[.slice sx ns cs, .slice aa na ca] 25))
    rw [Later.new_w] at S
    replace hm := hm.later (Later.new _ (.cells #[.slice sx ns cs, .slice aa na ca] 25))
    rw [Later.new_w] at hm
    replace hm2 := hm2.later (Later.new _ (.cells #[.slice sx ns cs, .slice aa na ca] 25))
    rw [Later.new_w] at hm2
    have hsz : (W.alloc (.cells #[.slice sx ns cs, .slice aa na ca] 25)).heap.size = B1 + 1 := by rw [hb]; simp
    obtain ⟨Y2, hZ⟩ : ∃ Z : Later W, Z.w = W.alloc (.cells #[.slice sx ns cs, .slice aa na ca] 25) := ⟨Later.new _ _, rfl⟩
    rw [← hZ] at S hsz hm hm2 l1 ⊢
    clear hZ
    rw [← hb]
    clear hb
    try rw [← hsz]
    clear hsz
    obtain ⟨B3, hb⟩ : ∃ b, b = Y2.w.heap.size := ⟨_, rfl⟩
    have l3 : Lin (Y2.w.alloc (.cells #[.slice sx2 ns2 cs2, .slice aa2 na2 ca2] 25)) B3 25 [.slice sx2 ns2 cs2, .slice aa2 na2 ca2] := by rw [hb]; exact Lin.new _ _ [.slice sx2 ns2 cs2, .slice aa2 na2 ca2]
    replace S := S.later (Later.new _ (.cells #[.slice sx2 ns2 cs2, .slice aa2 na2 ca2] 25))
    rw [Later.new_w] at S
    replace hm := hm.later (Later.new _ (.cells #[.slice sx2 ns2 cs2, .slice aa2 na2 ca2] 25))
    rw [Later.new_w] at hm
    replace hm2 := hm2.later (Later.new _ (.cells #[.slice sx2 ns2 cs2, .slice aa2 na2 ca2] 25))
    rw [Later.new_w] at hm2
    replace l1 := l1.later (Later.new _ (.cells #[.slice sx2 ns2 cs2, .slice aa2 na2 ca2] 25))
    rw [Later.new_w] at l1
    have hsz : (Y2.w.alloc (.cells #[.slice sx2 ns2 cs2, .slice aa2 na2 ca2] 25)).heap.size = B3 + 1 := by rw [hb]; simp
    obtain ⟨Y4, hZ⟩ : ∃ Z : Later W, Z.w = Y2.w.alloc (.cells #[.slice sx2 ns2 cs2, .slice aa2 na2 ca2] 25) := ⟨Y2.step (Later.new _ _), rfl⟩
    rw [← hZ] at S hsz hm hm2 l1 l3 ⊢
    clear hZ
    rw [← hb]
    clear hb
    try rw [← hsz]
    clear hsz
    have q0_0 := l1.cell (k := 0) rfl
    have q0_1 := l1.cell (k := 1) rfl
    have q0_l := l1.lt
    have q1_0 := l3.cell (k := 0) rfl
    have q1_1 := l3.cell (k := 1) rfl
    have q1_l := l3.lt
    go_wp2_with fail
    clear q0_0 q0_1 q0_l
    clear q1_0 q1_1 q1_l
    refine (llong_calls l _).mono ?_
    rintro e w' ⟨rfl, hw⟩
    rw [hw, HX.out]
    clear hw w'
    have q0_0 := l1.cell (k := 0) rfl
    have q0_1 := l1.cell (k := 1) rfl
    have q0_l := l1.lt
    have q1_0 := l3.cell (k := 0) rfl
    have q1_1 := l3.cell (k := 1) rfl
    have q1_l := l3.lt
    go_wp2_with fail
    clear q0_0 q0_1 q0_l
    clear q1_0 q1_1 q1_l
    refine (Works_calls _).mono ?_
    rintro e w' ⟨rfl, y, rfl⟩
    go_wp2
    go_ret
    exact ⟨rfl, Y4.step (y), rfl⟩
  cases G
  rotate_left
  · go_enter Try.func4, Try.ntmps4
    go_wp2_with fail
    obtain ⟨B1, hb⟩ : ∃ b, b = W.heap.size := ⟨_, rfl⟩
    have l1 : Lin (W.alloc (.cells #[.slice sx ns cs, .slice aa na ca] 25)) B1 25 [.slice sx ns cs, .slice aa na ca] := by rw [hb]; exact Lin.new _ _ [.slice sx ns cs, .slice aa na ca]
    replace S := S.later (Later.new _ (.cells #[.slice sx ns cs, .slice aa na ca] 25))
    rw [Later.new_w] at S
    replace hm := hm.later (Later.new _ (.cells #[.slice sx ns cs, .slice aa na ca] 25))
    rw [Later.new_w] at hm
    replace hm2 := hm2.later (Later.new _ (.cells #[.slice sx ns cs, .slice aa na ca] 25))
    rw [Later.new_w] at hm2
    have hsz : (W.alloc (.cells #[.slice sx ns cs, .slice aa na ca] 25)).heap.size = B1 + 1 := by rw [hb]; simp
    obtain ⟨Y2, hZ⟩ : ∃ Z : Later W, Z.w = W.alloc (.cells #[.slice sx ns cs, .slice aa na ca] 25) := ⟨Later.new _ _, rfl⟩
    rw [← hZ] at S hsz hm hm2 l1 ⊢
    clear hZ
    rw [← hb]
    clear hb
    try rw [← hsz]
    clear hsz
    obtain ⟨B3, hb⟩ : ∃ b, b = Y2.w.heap.size := ⟨_, rfl⟩
    have l3 : Lin (Y2.w.alloc (.cells #[.slice sx2 ns2 cs2, .slice aa2 na2 ca2] 25)) B3 25 [.slice sx2 ns2 cs2, .slice aa2 na2 ca2] := by rw [hb]; exact Lin.new _ _ [.slice sx2 ns2 cs2, .slice aa2 na2 ca2]
    replace S := S.later (Later.new _ (.cells #[.slice sx2 ns2 cs2, .slice aa2 na2 ca2] 25))
    rw [Later.new_w] at S
    replace hm := hm.later (Later.new _ (.cells #[.slice sx2 ns2 cs2, .slice aa2 na2 ca2] 25))
    rw [Later.new_w] at hm
    replace hm2 := hm2.later (Later.new _ (.cells #[.slice sx2 ns2 cs2, .slice aa2 na2 ca2] 25))
    rw [Later.new_w] at hm2
    replace l1 := l1.later (Later.new _ (.cells #[.slice sx2 ns2 cs2, .slice aa2 na2 ca2] 25))
    rw [Later.new_w] at l1
    have hsz : (Y2.w.alloc (.cells #[.slice sx2 ns2 cs2, .slice aa2 na2 ca2] 25)).heap.size = B3 + 1 := by rw [hb]; simp
    obtain ⟨Y4, hZ⟩ : ∃ Z : Later W, Z.w = Y2.w.alloc (.cells #[.slice sx2 ns2 cs2, .slice aa2 na2 ca2] 25) := ⟨Y2.step (Later.new _ _), rfl⟩
    rw [← hZ] at S hsz hm hm2 l1 l3 ⊢
    clear hZ
    rw [← hb]
    clear hb
    try rw [← hsz]
    clear hsz
    have q0_0 := l1.cell (k := 0) rfl
    have q0_1 := l1.cell (k := 1) rfl
    have q0_l := l1.lt
    have q1_0 := l3.cell (k := 0) rfl
    have q1_1 := l3.cell (k := 1) rfl
    have q1_l := l3.lt
    go_wp2_with fail
    clear q0_0 q0_1 q0_l
    clear q1_0 q1_1 q1_l
    refine (llong_calls l _).mono ?_
    rintro e w' ⟨rfl, hw⟩
    rw [hw, HX.out]
    clear hw w'
    have q0_0 := l1.cell (k := 0) rfl
    have q0_1 := l1.cell (k := 1) rfl
    have q0_l := l1.lt
    have q1_0 := l3.cell (k := 0) rfl
    have q1_1 := l3.cell (k := 1) rfl
    have q1_l := l3.lt
    go_wp2_with fail
    clear q0_0 q0_1 q0_l
    clear q1_0 q1_1 q1_l
    refine (great_calls _ _ st ad _ hm).mono ?_
    rintro e w' ⟨rfl, y, rfl⟩
    rw [HG.out]
    replace hm := hm.later y
    replace hm2 := hm2.later y
    replace l1 := l1.later y
    replace l3 := l3.later y
    replace S := S.later y
    obtain ⟨Y5, hZ⟩ : ∃ Z : Later W, Z.w = y.w := ⟨Y4.step (y), rfl⟩
    rw [← hZ] at S hm hm2 l1 l3 ⊢
    clear hZ
    clear y
    have q0_0 := l1.cell (k := 0) rfl
    have q0_1 := l1.cell (k := 1) rfl
    have q0_l := l1.lt
    have q1_0 := l3.cell (k := 0) rfl
    have q1_1 := l3.cell (k := 1) rfl
    have q1_l := l3.lt
    go_wp2_with fail
    clear q0_0 q0_1 q0_l
    clear q1_0 q1_1 q1_l
    refine (Works_calls _).mono ?_
    rintro e w' ⟨rfl, y, rfl⟩
    go_wp2
    go_ret
    exact ⟨rfl, Y5.step (y), rfl⟩
  cases G2
  rotate_left
  · go_enter Try.func4, Try.ntmps4
    go_wp2_with fail
    obtain ⟨B1, hb⟩ : ∃ b, b = W.heap.size := ⟨_, rfl⟩
    have l1 : Lin (W.alloc (.cells #[.slice sx ns cs, .slice aa na ca] 25)) B1 25 [.slice sx ns cs, .slice aa na ca] := by rw [hb]; exact Lin.new _ _ [.slice sx ns cs, .slice aa na ca]
    replace S := S.later (Later.new _ (.cells #[.slice sx ns cs, .slice aa na ca] 25))
    rw [Later.new_w] at S
    replace hm := hm.later (Later.new _ (.cells #[.slice sx ns cs, .slice aa na ca] 25))
    rw [Later.new_w] at hm
    replace hm2 := hm2.later (Later.new _ (.cells #[.slice sx ns cs, .slice aa na ca] 25))
    rw [Later.new_w] at hm2
    have hsz : (W.alloc (.cells #[.slice sx ns cs, .slice aa na ca] 25)).heap.size = B1 + 1 := by rw [hb]; simp
    obtain ⟨Y2, hZ⟩ : ∃ Z : Later W, Z.w = W.alloc (.cells #[.slice sx ns cs, .slice aa na ca] 25) := ⟨Later.new _ _, rfl⟩
    rw [← hZ] at S hsz hm hm2 l1 ⊢
    clear hZ
    rw [← hb]
    clear hb
    try rw [← hsz]
    clear hsz
    obtain ⟨B3, hb⟩ : ∃ b, b = Y2.w.heap.size := ⟨_, rfl⟩
    have l3 : Lin (Y2.w.alloc (.cells #[.slice sx2 ns2 cs2, .slice aa2 na2 ca2] 25)) B3 25 [.slice sx2 ns2 cs2, .slice aa2 na2 ca2] := by rw [hb]; exact Lin.new _ _ [.slice sx2 ns2 cs2, .slice aa2 na2 ca2]
    replace S := S.later (Later.new _ (.cells #[.slice sx2 ns2 cs2, .slice aa2 na2 ca2] 25))
    rw [Later.new_w] at S
    replace hm := hm.later (Later.new _ (.cells #[.slice sx2 ns2 cs2, .slice aa2 na2 ca2] 25))
    rw [Later.new_w] at hm
    replace hm2 := hm2.later (Later.new _ (.cells #[.slice sx2 ns2 cs2, .slice aa2 na2 ca2] 25))
    rw [Later.new_w] at hm2
    replace l1 := l1.later (Later.new _ (.cells #[.slice sx2 ns2 cs2, .slice aa2 na2 ca2] 25))
    rw [Later.new_w] at l1
    have hsz : (Y2.w.alloc (.cells #[.slice sx2 ns2 cs2, .slice aa2 na2 ca2] 25)).heap.size = B3 + 1 := by rw [hb]; simp
    obtain ⟨Y4, hZ⟩ : ∃ Z : Later W, Z.w = Y2.w.alloc (.cells #[.slice sx2 ns2 cs2, .slice aa2 na2 ca2] 25) := ⟨Y2.step (Later.new _ _), rfl⟩
    rw [← hZ] at S hsz hm hm2 l1 l3 ⊢
    clear hZ
    rw [← hb]
    clear hb
    try rw [← hsz]
    clear hsz
    have q0_0 := l1.cell (k := 0) rfl
    have q0_1 := l1.cell (k := 1) rfl
    have q0_l := l1.lt
    have q1_0 := l3.cell (k := 0) rfl
    have q1_1 := l3.cell (k := 1) rfl
    have q1_l := l3.lt
    go_wp2_with fail
    clear q0_0 q0_1 q0_l
    clear q1_0 q1_1 q1_l
    refine (llong_calls l _).mono ?_
    rintro e w' ⟨rfl, hw⟩
    rw [hw, HX.out]
    clear hw w'
    have q0_0 := l1.cell (k := 0) rfl
    have q0_1 := l1.cell (k := 1) rfl
    have q0_l := l1.lt
    have q1_0 := l3.cell (k := 0) rfl
    have q1_1 := l3.cell (k := 1) rfl
    have q1_l := l3.lt
    go_wp2_with fail
    clear q0_0 q0_1 q0_l
    clear q1_0 q1_1 q1_l
    refine (great_calls _ _ st ad _ hm).mono ?_
    rintro e w' ⟨rfl, y, rfl⟩
    rw [HG.out]
    replace hm := hm.later y
    replace hm2 := hm2.later y
    replace l1 := l1.later y
    replace l3 := l3.later y
    replace S := S.later y
    obtain ⟨Y5, hZ⟩ : ∃ Z : Later W, Z.w = y.w := ⟨Y4.step (y), rfl⟩
    rw [← hZ] at S hm hm2 l1 l3 ⊢
    clear hZ
    clear y
    have q0_0 := l1.cell (k := 0) rfl
    have q0_1 := l1.cell (k := 1) rfl
    have q0_l := l1.lt
    have q1_0 := l3.cell (k := 0) rfl
    have q1_1 := l3.cell (k := 1) rfl
    have q1_l := l3.lt
    go_wp2_with fail
    clear q0_0 q0_1 q0_l
    clear q1_0 q1_1 q1_l
    refine (great_calls _ _ st2 ad2 _ hm2).mono ?_
    rintro e w' ⟨rfl, y, rfl⟩
    rw [HG2.out]
    replace hm := hm.later y
    replace hm2 := hm2.later y
    replace l1 := l1.later y
    replace l3 := l3.later y
    replace S := S.later y
    obtain ⟨Y6, hZ⟩ : ∃ Z : Later W, Z.w = y.w := ⟨Y5.step (y), rfl⟩
    rw [← hZ] at S hm hm2 l1 l3 ⊢
    clear hZ
    clear y
    have q0_0 := l1.cell (k := 0) rfl
    have q0_1 := l1.cell (k := 1) rfl
    have q0_l := l1.lt
    have q1_0 := l3.cell (k := 0) rfl
    have q1_1 := l3.cell (k := 1) rfl
    have q1_l := l3.lt
    go_wp2_with fail
    clear q0_0 q0_1 q0_l
    clear q1_0 q1_1 q1_l
    refine (Works_calls _).mono ?_
    rintro e w' ⟨rfl, y, rfl⟩
    go_wp2
    go_ret
    exact ⟨rfl, Y6.step (y), rfl⟩
  go_enter Try.func4, Try.ntmps4
  go_wp2_with fail
  obtain ⟨B1, hb⟩ : ∃ b, b = W.heap.size := ⟨_, rfl⟩
  have l1 : Lin (W.alloc (.cells #[.slice sx ns cs, .slice aa na ca] 25)) B1 25 [.slice sx ns cs, .slice aa na ca] := by rw [hb]; exact Lin.new _ _ [.slice sx ns cs, .slice aa na ca]
  replace S := S.later (Later.new _ (.cells #[.slice sx ns cs, .slice aa na ca] 25))
  rw [Later.new_w] at S
  replace hm := hm.later (Later.new _ (.cells #[.slice sx ns cs, .slice aa na ca] 25))
  rw [Later.new_w] at hm
  replace hm2 := hm2.later (Later.new _ (.cells #[.slice sx ns cs, .slice aa na ca] 25))
  rw [Later.new_w] at hm2
  have hsz : (W.alloc (.cells #[.slice sx ns cs, .slice aa na ca] 25)).heap.size = B1 + 1 := by rw [hb]; simp
  obtain ⟨Y2, hZ⟩ : ∃ Z : Later W, Z.w = W.alloc (.cells #[.slice sx ns cs, .slice aa na ca] 25) := ⟨Later.new _ _, rfl⟩
  rw [← hZ] at S hsz hm hm2 l1 ⊢
  clear hZ
  rw [← hb]
  clear hb
  try rw [← hsz]
  clear hsz
  obtain ⟨B3, hb⟩ : ∃ b, b = Y2.w.heap.size := ⟨_, rfl⟩
  have l3 : Lin (Y2.w.alloc (.cells #[.slice sx2 ns2 cs2, .slice aa2 na2 ca2] 25)) B3 25 [.slice sx2 ns2 cs2, .slice aa2 na2 ca2] := by rw [hb]; exact Lin.new _ _ [.slice sx2 ns2 cs2, .slice aa2 na2 ca2]
  replace S := S.later (Later.new _ (.cells #[.slice sx2 ns2 cs2, .slice aa2 na2 ca2] 25))
  rw [Later.new_w] at S
  replace hm := hm.later (Later.new _ (.cells #[.slice sx2 ns2 cs2, .slice aa2 na2 ca2] 25))
  rw [Later.new_w] at hm
  replace hm2 := hm2.later (Later.new _ (.cells #[.slice sx2 ns2 cs2, .slice aa2 na2 ca2] 25))
  rw [Later.new_w] at hm2
  replace l1 := l1.later (Later.new _ (.cells #[.slice sx2 ns2 cs2, .slice aa2 na2 ca2] 25))
  rw [Later.new_w] at l1
  have hsz : (Y2.w.alloc (.cells #[.slice sx2 ns2 cs2, .slice aa2 na2 ca2] 25)).heap.size = B3 + 1 := by rw [hb]; simp
  obtain ⟨Y4, hZ⟩ : ∃ Z : Later W, Z.w = Y2.w.alloc (.cells #[.slice sx2 ns2 cs2, .slice aa2 na2 ca2] 25) := ⟨Y2.step (Later.new _ _), rfl⟩
  rw [← hZ] at S hsz hm hm2 l1 l3 ⊢
  clear hZ
  rw [← hb]
  clear hb
  try rw [← hsz]
  clear hsz
  have q0_0 := l1.cell (k := 0) rfl
  have q0_1 := l1.cell (k := 1) rfl
  have q0_l := l1.lt
  have q1_0 := l3.cell (k := 0) rfl
  have q1_1 := l3.cell (k := 1) rfl
  have q1_l := l3.lt
  go_wp2_with fail
  clear q0_0 q0_1 q0_l
  clear q1_0 q1_1 q1_l
  refine (llong_calls l _).mono ?_
  rintro e w' ⟨rfl, hw⟩
  rw [hw, HX.out]
  clear hw w'
  have q0_0 := l1.cell (k := 0) rfl
  have q0_1 := l1.cell (k := 1) rfl
  have q0_l := l1.lt
  have q1_0 := l3.cell (k := 0) rfl
  have q1_1 := l3.cell (k := 1) rfl
  have q1_l := l3.lt
  go_wp2_with fail
  clear q0_0 q0_1 q0_l
  clear q1_0 q1_1 q1_l
  refine (great_calls _ _ st ad _ hm).mono ?_
  rintro e w' ⟨rfl, y, rfl⟩
  rw [HG.out]
  replace hm := hm.later y
  replace hm2 := hm2.later y
  replace l1 := l1.later y
  replace l3 := l3.later y
  replace S := S.later y
  obtain ⟨Y5, hZ⟩ : ∃ Z : Later W, Z.w = y.w := ⟨Y4.step (y), rfl⟩
  rw [← hZ] at S hm hm2 l1 l3 ⊢
  clear hZ
  clear y
  have q0_0 := l1.cell (k := 0) rfl
  have q0_1 := l1.cell (k := 1) rfl
  have q0_l := l1.lt
  have q1_0 := l3.cell (k := 0) rfl
  have q1_1 := l3.cell (k := 1) rfl
  have q1_l := l3.lt
  go_wp2_with fail
  clear q0_0 q0_1 q0_l
  clear q1_0 q1_1 q1_l
  refine (great_calls _ _ st2 ad2 _ hm2).mono ?_
  rintro e w' ⟨rfl, y, rfl⟩
  rw [HG2.out]
  replace hm := hm.later y
  replace hm2 := hm2.later y
  replace l1 := l1.later y
  replace l3 := l3.later y
  replace S := S.later y
  obtain ⟨Y6, hZ⟩ : ∃ Z : Later W, Z.w = y.w := ⟨Y5.step (y), rfl⟩
  rw [← hZ] at S hm hm2 l1 l3 ⊢
  clear hZ
  clear y
  obtain ⟨V, hV⟩ : ∃ V, clashV l st ad st2 ad2 = V := ⟨_, rfl⟩
  obtain ⟨N, hN⟩ : ∃ V, clashE l st ad st2 ad2 = V := ⟨_, rfl⟩
  obtain ⟨E, hE⟩ : ∃ V, mergeE l st ad st2 ad2 = V := ⟨_, rfl⟩
  have HV := Lib.hid hV
  have HN := Lib.hid hN
  have HE := Lib.hid hE
  clear hV hN hE
  have q0_0 := l1.cell (k := 0) rfl
  have q0_1 := l1.cell (k := 1) rfl
  have q0_l := l1.lt
  have q1_0 := l3.cell (k := 0) rfl
  have q1_1 := l3.cell (k := 1) rfl
  have q1_l := l3.lt
  go_wp2_with fail
  clear q0_0 q0_1 q0_l
  clear q1_0 q1_1 q1_l
  refine (Merge_calls l _ _ st ad _ _ st2 ad2 _ hm hm2).mono ?_
  rintro e w' ⟨sv, av, y, rfl, rfl, hmn⟩
  rw [HE.out]
  have hmx := hmn
  clear hmn
  obtain ⟨sxx, nsx, csx, rfl⟩ : ∃ a n c, sv = Value.slice a n c := by obtain ⟨a, c, e⟩ := hmx.s.form; exact ⟨a, _, c, e⟩
  obtain ⟨aax, nax, cax, rfl⟩ : ∃ a n c, av = Value.slice a n c := by obtain ⟨a, c, e⟩ := hmx.a.form; exact ⟨a, _, c, e⟩
  replace hm := hm.later y
  replace hm2 := hm2.later y
  replace l1 := l1.later y
  replace l3 := l3.later y
  replace S := S.later y
  obtain ⟨Y7, hZ⟩ : ∃ Z : Later W, Z.w = y.w := ⟨Y6.step (y), rfl⟩
  rw [← hZ] at S hm hm2 l1 l3 hmx ⊢
  clear hZ
  clear y
  have q0_0 := l1.cell (k := 0) rfl
  have q0_1 := l1.cell (k := 1) rfl
  have q0_l := l1.lt
  have q1_0 := l3.cell (k := 0) rfl
  have q1_1 := l3.cell (k := 1) rfl
  have q1_l := l3.lt
  go_wp2_with fail
  clear q0_0 q0_1 q0_l
  clear q1_0 q1_1 q1_l
  obtain ⟨B8, hb⟩ : ∃ b, b = Y7.w.heap.size := ⟨_, rfl⟩
  have l8 : Lin (Y7.w.alloc (.cells #[.slice sxx nsx csx, .slice aax nax cax] 25)) B8 25 [.slice sxx nsx csx, .slice aax nax cax] := by rw [hb]; exact Lin.new _ _ [.slice sxx nsx csx, .slice aax nax cax]
  replace S := S.later (Later.new _ (.cells #[.slice sxx nsx csx, .slice aax nax cax] 25))
  rw [Later.new_w] at S
  replace hm := hm.later (Later.new _ (.cells #[.slice sxx nsx csx, .slice aax nax cax] 25))
  rw [Later.new_w] at hm
  replace hm2 := hm2.later (Later.new _ (.cells #[.slice sxx nsx csx, .slice aax nax cax] 25))
  rw [Later.new_w] at hm2
  replace l1 := l1.later (Later.new _ (.cells #[.slice sxx nsx csx, .slice aax nax cax] 25))
  rw [Later.new_w] at l1
  replace l3 := l3.later (Later.new _ (.cells #[.slice sxx nsx csx, .slice aax nax cax] 25))
  rw [Later.new_w] at l3
  replace hmx := hmx.later (Later.new _ (.cells #[.slice sxx nsx csx, .slice aax nax cax] 25))
  rw [Later.new_w] at hmx
  have hsz : (Y7.w.alloc (.cells #[.slice sxx nsx csx, .slice aax nax cax] 25)).heap.size = B8 + 1 := by rw [hb]; simp
  obtain ⟨Y9, hZ⟩ : ∃ Z : Later W, Z.w = Y7.w.alloc (.cells #[.slice sxx nsx csx, .slice aax nax cax] 25) := ⟨Y7.step (Later.new _ _), rfl⟩
  rw [← hZ] at S hsz hm hm2 l1 l3 hmx l8 ⊢
  clear hZ
  rw [← hb]
  clear hb
  try rw [← hsz]
  clear hsz
  refine (rMerge_calls l _ _ st ad _ _ st2 ad2 _ hm hm2).mono ?_
  rintro e w' ⟨sv, av, y, rfl, rfl, hmn⟩
  rw [HE.out]
  have hmy := hmn
  clear hmn
  obtain ⟨sxy, nsy, csy, rfl⟩ : ∃ a n c, sv = Value.slice a n c := by obtain ⟨a, c, e⟩ := hmy.s.form; exact ⟨a, _, c, e⟩
  obtain ⟨aay, nay, cay, rfl⟩ : ∃ a n c, av = Value.slice a n c := by obtain ⟨a, c, e⟩ := hmy.a.form; exact ⟨a, _, c, e⟩
  replace hm := hm.later y
  replace hm2 := hm2.later y
  replace l1 := l1.later y
  replace l3 := l3.later y
  replace hmx := hmx.later y
  replace l8 := l8.later y
  replace S := S.later y
  obtain ⟨Y10, hZ⟩ : ∃ Z : Later W, Z.w = y.w := ⟨Y9.step (y), rfl⟩
  rw [← hZ] at S hm hm2 l1 l3 hmx l8 hmy ⊢
  clear hZ
  clear y
  have q0_0 := l1.cell (k := 0) rfl
  have q0_1 := l1.cell (k := 1) rfl
  have q0_l := l1.lt
  have q1_0 := l3.cell (k := 0) rfl
  have q1_1 := l3.cell (k := 1) rfl
  have q1_l := l3.lt
  go_wp2_with fail
  clear q0_0 q0_1 q0_l
  clear q1_0 q1_1 q1_l
  obtain ⟨B11, hb⟩ : ∃ b, b = Y10.w.heap.size := ⟨_, rfl⟩
  have l11 : Lin (Y10.w.alloc (.cells #[.slice sxy nsy csy, .slice aay nay cay] 25)) B11 25 [.slice sxy nsy csy, .slice aay nay cay] := by rw [hb]; exact Lin.new _ _ [.slice sxy nsy csy, .slice aay nay cay]
  replace S := S.later (Later.new _ (.cells #[.slice sxy nsy csy, .slice aay nay cay] 25))
  rw [Later.new_w] at S
  replace hm := hm.later (Later.new _ (.cells #[.slice sxy nsy csy, .slice aay nay cay] 25))
  rw [Later.new_w] at hm
  replace hm2 := hm2.later (Later.new _ (.cells #[.slice sxy nsy csy, .slice aay nay cay] 25))
  rw [Later.new_w] at hm2
  replace l1 := l1.later (Later.new _ (.cells #[.slice sxy nsy csy, .slice aay nay cay] 25))
  rw [Later.new_w] at l1
  replace l3 := l3.later (Later.new _ (.cells #[.slice sxy nsy csy, .slice aay nay cay] 25))
  rw [Later.new_w] at l3
  replace hmx := hmx.later (Later.new _ (.cells #[.slice sxy nsy csy, .slice aay nay cay] 25))
  rw [Later.new_w] at hmx
  replace l8 := l8.later (Later.new _ (.cells #[.slice sxy nsy csy, .slice aay nay cay] 25))
  rw [Later.new_w] at l8
  replace hmy := hmy.later (Later.new _ (.cells #[.slice sxy nsy csy, .slice aay nay cay] 25))
  rw [Later.new_w] at hmy
  have hsz : (Y10.w.alloc (.cells #[.slice sxy nsy csy, .slice aay nay cay] 25)).heap.size = B11 + 1 := by rw [hb]; simp
  obtain ⟨Y12, hZ⟩ : ∃ Z : Later W, Z.w = Y10.w.alloc (.cells #[.slice sxy nsy csy, .slice aay nay cay] 25) := ⟨Y10.step (Later.new _ _), rfl⟩
  rw [← hZ] at S hsz hm hm2 l1 l3 hmx l8 hmy l11 ⊢
  clear hZ
  rw [← hb]
  clear hb
  try rw [← hsz]
  clear hsz
  refine (Clash_calls l _ _ st ad _ _ st2 ad2 _ hm hm2).mono ?_
  rintro e w' ⟨rfl, y, rfl⟩
  rw [HV.out, HN.out]
  replace hm := hm.later y
  replace hm2 := hm2.later y
  replace l1 := l1.later y
  replace l3 := l3.later y
  replace hmx := hmx.later y
  replace l8 := l8.later y
  replace hmy := hmy.later y
  replace l11 := l11.later y
  replace S := S.later y
  obtain ⟨Y13, hZ⟩ : ∃ Z : Later W, Z.w = y.w := ⟨Y12.step (y), rfl⟩
  rw [← hZ] at S hm hm2 l1 l3 hmx l8 hmy l11 ⊢
  clear hZ
  clear y
  have q0_0 := l1.cell (k := 0) rfl
  have q0_1 := l1.cell (k := 1) rfl
  have q0_l := l1.lt
  have q1_0 := l3.cell (k := 0) rfl
  have q1_1 := l3.cell (k := 1) rfl
  have q1_l := l3.lt
  go_wp2_with fail
  clear q0_0 q0_1 q0_l
  clear q1_0 q1_1 q1_l
  refine (rClash_calls l _ _ st ad _ _ st2 ad2 _ hm hm2).mono ?_
  rintro e w' ⟨rfl, y, rfl⟩
  rw [HV.out, HN.out]
  replace hm := hm.later y
  replace hm2 := hm2.later y
  replace l1 := l1.later y
  replace l3 := l3.later y
  replace hmx := hmx.later y
  replace l8 := l8.later y
  replace hmy := hmy.later y
  replace l11 := l11.later y
  replace S := S.later y
  obtain ⟨Y14, hZ⟩ : ∃ Z : Later W, Z.w = y.w := ⟨Y13.step (y), rfl⟩
  rw [← hZ] at S hm hm2 l1 l3 hmx l8 hmy l11 ⊢
  clear hZ
  clear y
  have q0_0 := l8.cell (k := 0) rfl
  have q0_1 := l8.cell (k := 1) rfl
  have q0_l := l8.lt
  have q1_0 := l11.cell (k := 0) rfl
  have q1_1 := l11.cell (k := 1) rfl
  have q1_l := l11.lt
  go_wp2_with fail
  clear q0_0 q0_1 q0_l
  clear q1_0 q1_1 q1_l
  refine (Same_calls _ _ _ _ _ _ _ _ _ hmx hmy).mono ?_
  rintro e w' ⟨rfl, y, rfl⟩
  rw [sameM_self]
  replace hm := hm.later y
  replace hm2 := hm2.later y
  replace l1 := l1.later y
  replace l3 := l3.later y
  replace hmx := hmx.later y
  replace l8 := l8.later y
  replace hmy := hmy.later y
  replace l11 := l11.later y
  replace S := S.later y
  obtain ⟨Y15, hZ⟩ : ∃ Z : Later W, Z.w = y.w := ⟨Y14.step (y), rfl⟩
  rw [← hZ] at S hm hm2 l1 l3 hmx l8 hmy l11 ⊢
  clear hZ
  clear y
  go_wp2_with fail
  refine (Works_calls _).mono ?_
  rintro e w' ⟨rfl, y, rfl⟩
  go_wp2
  go_ret
  exact ⟨rfl, Y15.step (y), rfl⟩
set_option maxRecDepth 100000 in
set_option maxHeartbeats 8000000 in
theorem ProofUnseens_calls (one two both num den : Int) (W : World) :
    Calls Try.prog 7 #[.int .i64 one, .int .i64 two, .int .i64 both, .agg #[.int .i64 num, .int .i64 den]] W (Gives (.bool true) W) := by
  have S : Ins W [] := Ins.nil _
  obtain ⟨H, hH⟩ : ∃ V, unsH one two both num den = V := ⟨_, rfl⟩
  obtain ⟨E, hE⟩ : ∃ V, unsE one two both num den = V := ⟨_, rfl⟩
  have HH := Lib.hid hH
  have HE := Lib.hid hE
  clear hH hE
  go_enter Try.func7, Try.ntmps7
  go_wp2_with fail
  obtain ⟨B1, hb⟩ : ∃ b, b = W.heap.size := ⟨_, rfl⟩
  have l1 : Lin (W.alloc (.cells #[.int .i64 num, .int .i64 den] 55)) B1 55 [.int .i64 num, .int .i64 den] := by rw [hb]; exact Lin.new _ _ [.int .i64 num, .int .i64 den]
  replace S := S.later (Later.new _ (.cells #[.int .i64 num, .int .i64 den] 55))
  rw [Later.new_w] at S
  have hsz : (W.alloc (.cells #[.int .i64 num, .int .i64 den] 55)).heap.size = B1 + 1 := by rw [hb]; simp
  obtain ⟨Y2, hZ⟩ : ∃ Z : Later W, Z.w = W.alloc (.cells #[.int .i64 num, .int .i64 den] 55) := ⟨Later.new _ _, rfl⟩
  rw [← hZ] at S hsz l1 ⊢
  clear hZ
  rw [← hb]
  clear hb
  try rw [← hsz]
  clear hsz
  have q0_0 := l1.cell (k := 0) rfl
  have q0_1 := l1.cell (k := 1) rfl
  have q0_l := l1.lt
  go_wp2_with fail
  clear q0_0 q0_1 q0_l
  refine (Unseen_calls one two both num den _).mono ?_
  rintro e w' ⟨y, rfl, rfl⟩
  rw [HH.out, HE.out]
  replace l1 := l1.later y
  replace S := S.later y
  obtain ⟨Y3, hZ⟩ : ∃ Z : Later W, Z.w = y.w := ⟨Y2.step (y), rfl⟩
  rw [← hZ] at S l1 ⊢
  clear hZ
  clear y
  have q0_0 := l1.cell (k := 0) rfl
  have q0_1 := l1.cell (k := 1) rfl
  have q0_l := l1.lt
  go_wp2_with fail
  clear q0_0 q0_1 q0_l
  obtain ⟨B4, hb⟩ : ∃ b, b = Y3.w.heap.size := ⟨_, rfl⟩
  have l4 : Lin (Y3.w.alloc (.cells #[.int .i64 0, .int .i64 H] 57)) B4 57 [.int .i64 0, .int .i64 H] := by rw [hb]; exact Lin.new _ _ [.int .i64 0, .int .i64 H]
  replace S := S.later (Later.new _ (.cells #[.int .i64 0, .int .i64 H] 57))
  rw [Later.new_w] at S
  replace l1 := l1.later (Later.new _ (.cells #[.int .i64 0, .int .i64 H] 57))
  rw [Later.new_w] at l1
  have hsz : (Y3.w.alloc (.cells #[.int .i64 0, .int .i64 H] 57)).heap.size = B4 + 1 := by rw [hb]; simp
  obtain ⟨Y5, hZ⟩ : ∃ Z : Later W, Z.w = Y3.w.alloc (.cells #[.int .i64 0, .int .i64 H] 57) := ⟨Y3.step (Later.new _ _), rfl⟩
  rw [← hZ] at S hsz l1 l4 ⊢
  clear hZ
  rw [← hb]
  clear hb
  try rw [← hsz]
  clear hsz
  refine (rUnseen_calls one two both num den _).mono ?_
  rintro e w' ⟨y, rfl, rfl⟩
  rw [HH.out, HE.out]
  replace l1 := l1.later y
  replace l4 := l4.later y
  replace S := S.later y
  obtain ⟨Y6, hZ⟩ : ∃ Z : Later W, Z.w = y.w := ⟨Y5.step (y), rfl⟩
  rw [← hZ] at S l1 l4 ⊢
  clear hZ
  clear y
  have qa_0 := l4.cell (k := 0) rfl
  have qa_1 := l4.cell (k := 1) rfl
  have qa_l := l4.lt
  go_wp2_with fail
  obtain ⟨B7, hb⟩ : ∃ b, b = Y6.w.heap.size := ⟨_, rfl⟩
  have l7 : Lin (Y6.w.alloc (.cells #[.int .i64 0, .int .i64 H] 57)) B7 57 [.int .i64 0, .int .i64 H] := by rw [hb]; exact Lin.new _ _ [.int .i64 0, .int .i64 H]
  replace S := S.later (Later.new _ (.cells #[.int .i64 0, .int .i64 H] 57))
  rw [Later.new_w] at S
  replace l1 := l1.later (Later.new _ (.cells #[.int .i64 0, .int .i64 H] 57))
  rw [Later.new_w] at l1
  replace l4 := l4.later (Later.new _ (.cells #[.int .i64 0, .int .i64 H] 57))
  rw [Later.new_w] at l4
  have hsz : (Y6.w.alloc (.cells #[.int .i64 0, .int .i64 H] 57)).heap.size = B7 + 1 := by rw [hb]; simp
  obtain ⟨Y8, hZ⟩ : ∃ Z : Later W, Z.w = Y6.w.alloc (.cells #[.int .i64 0, .int .i64 H] 57) := ⟨Y6.step (Later.new _ _), rfl⟩
  rw [← hZ] at S hsz l1 l4 l7 ⊢
  clear hZ
  rw [← hb]
  clear hb
  try rw [← hsz]
  clear hsz
  refine (Works_calls _).mono ?_
  rintro e w' ⟨rfl, y, rfl⟩
  go_wp2
  go_ret
  exact ⟨rfl, Y8.step (y), rfl⟩
end Go.Proofs.Ytpkgfkeekcgkcaa
