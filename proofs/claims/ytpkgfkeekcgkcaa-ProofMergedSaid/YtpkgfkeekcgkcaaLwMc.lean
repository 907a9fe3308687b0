import Derived.Test.YtpkgfkeekcgkcaaLwMa
import Derived.Test.YtpkgfkeekcgkcaaLwMb
/-  Merging: the statement's walk. -/
namespace Go.Proofs.Ytpkgfkeekcgkcaa
open Go.RowKit
set_option maxRecDepth 100000 in
set_option maxHeartbeats 16000000 in
theorem ProofMerged_calls (l : List UInt8) (sv av : Value) (st : List Int) (ad : List (List UInt8)) (sw aw : Value) (st2 : List Int) (ad2 : List (List UInt8)) (su au : Value) (st3 : List Int) (ad3 : List (List UInt8)) (W : World) (hm : Mks W sv av st ad) (hm2 : Mks W sw aw st2 ad2) (hm3 : Mks W su au st3 ad3) :
    Calls Try.prog 12 #[.string ⟨l.toArray⟩, .agg #[sv, av], .agg #[sw, aw], .agg #[su, au]] W (Gives (.bool true) W) := by
  have S : Ins W [] := Ins.nil _
  by_cases f1 : fineM l st ad = true
  rotate_left
  · obtain ⟨sx, ns, cs, rfl⟩ : ∃ a n c, sv = .slice a n c := by obtain ⟨a, c, e⟩ := hm.s.form; exact ⟨a, _, c, e⟩
    obtain ⟨aa, na, ca, rfl⟩ : ∃ a n c, av = .slice a n c := by obtain ⟨a, c, e⟩ := hm.a.form; exact ⟨a, _, c, e⟩
    have HS := Lib.hid (show ns = st.length by obtain ⟨a, c, e⟩ := hm.s.form; cases e; rfl)
    have HA := Lib.hid (show na = ad.length by obtain ⟨a, c, e⟩ := hm.a.form; cases e; rfl)
    have hsl : ns ≤ 9007199254740992 := by rw [HS.out]; exact hm.s.1
    have hal : na ≤ 9007199254740992 := by rw [HA.out]; exact hm.a.1
    obtain ⟨sx2, ns2, cs2, rfl⟩ : ∃ a n c, sw = .slice a n c := by obtain ⟨a, c, e⟩ := hm2.s.form; exact ⟨a, _, c, e⟩
    obtain ⟨aa2, na2, ca2, rfl⟩ : ∃ a n c, aw = .slice a n c := by obtain ⟨a, c, e⟩ := hm2.a.form; exact ⟨a, _, c, e⟩
    have HS2 := Lib.hid (show ns2 = st2.length by obtain ⟨a, c, e⟩ := hm2.s.form; cases e; rfl)
    have HA2 := Lib.hid (show na2 = ad2.length by obtain ⟨a, c, e⟩ := hm2.a.form; cases e; rfl)
    have hsl2 : ns2 ≤ 9007199254740992 := by rw [HS2.out]; exact hm2.s.1
    have hal2 : na2 ≤ 9007199254740992 := by rw [HA2.out]; exact hm2.a.1
    obtain ⟨sx3, ns3, cs3, rfl⟩ : ∃ a n c, su = .slice a n c := by obtain ⟨a, c, e⟩ := hm3.s.form; exact ⟨a, _, c, e⟩
    obtain ⟨aa3, na3, ca3, rfl⟩ : ∃ a n c, au = .slice a n c := by obtain ⟨a, c, e⟩ := hm3.a.form; exact ⟨a, _, c, e⟩
    have HS3 := Lib.hid (show ns3 = st3.length by obtain ⟨a, c, e⟩ := hm3.s.form; cases e; rfl)
    have HA3 := Lib.hid (show na3 = ad3.length by obtain ⟨a, c, e⟩ := hm3.a.form; cases e; rfl)
    have hsl3 : ns3 ≤ 9007199254740992 := by rw [HS3.out]; exact hm3.s.1
    have hal3 : na3 ≤ 9007199254740992 := by rw [HA3.out]; exact hm3.a.1
    have HX := Lib.hid (Bool.eq_false_iff.2 f1)
    clear f1
    go_enter Try.func12, Try.ntmps12
    go_wp2_with fail
    obtain ⟨B1, hb⟩ : ∃ b, b = W.heap.size := ⟨_, rfl⟩
    have l1 : Lin (W.alloc (.cells #[.slice sx ns cs, .slice aa na ca] 25)) B1 25 [.slice sx ns cs, .slice aa na ca] := by rw [hb]; exact Lin.new _ _ [.slice sx ns cs, .slice aa na ca]
    replace S := S.later (Later.new _ (.cells #[.slice sx ns cs, .slice aa na ca] 25))
    rw [Later.new_w] at S
    replace hm := hm.later (Later.new _ (.cells #[.slice sx ns cs, .slice aa na ca] 25))
    rw [Later.new_w] at hm
    replace hm2 := hm2.later (Later.new _ (.cells #[.slice sx ns cs, .slice aa na ca] 25))
    rw [Later.new_w] at hm2
    replace hm3 := hm3.later (Later.new _ (.cells #[.slice sx ns cs, .slice aa na ca] 25))
    rw [Later.new_w] at hm3
    have hsz : (W.alloc (.cells #[.slice sx ns cs, .slice aa na ca] 25)).heap.size = B1 + 1 := by rw [hb]; simp
    obtain ⟨Y2, hZ⟩ : ∃ Z : Later W, Z.w = W.alloc (.cells #[.slice sx ns cs, .slice aa na ca] 25) := ⟨Later.new _ _, rfl⟩
    rw [← hZ] at S hsz hm hm2 hm3 l1 ⊢
    clear hZ
    rw [← hb]
    clear hb
    try rw [← hsz]
    clear hsz
    obtain ⟨B3, hb⟩ : ∃ b, b = Y2.w.heap.size := ⟨_, rfl⟩
    have l3 : Lin (Y2.w.alloc (.cells #[.slice sx2 ns2 cs2, .slice aa2 na2 ca2] 25)) B3 25 [.slice sx2 ns2 cs2, .slice aa2 na2 ca2] := by rw [hb]; exact Lin.new _ _ [.slice sx2 ns2 cs2, .slice aa2 na2 ca2]
    replace S := S.later (Later.new _ (.cells #[.slice sx2 ns2 cs2, .slice aa2 na2 ca2] 25))
    rw [Later.new_w] at S
    replace hm := hm.later (Later.new _ (.cells #[.slice sx2 ns2 cs2, .slice aa2 na2 ca2] 25))
    rw [Later.new_w] at hm
    replace hm2 := hm2.later (Later.new _ (.cells #[.slice sx2 ns2 cs2, .slice aa2 na2 ca2] 25))
    rw [Later.new_w] at hm2
    replace hm3 := hm3.later (Later.new _ (.cells #[.slice sx2 ns2 cs2, .slice aa2 na2 ca2] 25))
    rw [Later.new_w] at hm3
    replace l1 := l1.later (Later.new _ (.cells #[.slice sx2 ns2 cs2, .slice aa2 na2 ca2] 25))
    rw [Later.new_w] at l1
    have hsz : (Y2.w.alloc (.cells #[.slice sx2 ns2 cs2, .slice aa2 na2 ca2] 25)).heap.size = B3 + 1 := by rw [hb]; simp
    obtain ⟨Y4, hZ⟩ : ∃ Z : Later W, Z.w = Y2.w.alloc (.cells #[.slice sx2 ns2 cs2, .slice aa2 na2 ca2] 25) := ⟨Y2.step (Later.new _ _), rfl⟩
    rw [← hZ] at S hsz hm hm2 hm3 l1 l3 ⊢
    clear hZ
    rw [← hb]
    clear hb
    try rw [← hsz]
    clear hsz
    obtain ⟨B5, hb⟩ : ∃ b, b = Y4.w.heap.size := ⟨_, rfl⟩
    have l5 : Lin (Y4.w.alloc (.cells #[.slice sx3 ns3 cs3, .slice aa3 na3 ca3] 25)) B5 25 [.slice sx3 ns3 cs3, .slice aa3 na3 ca3] := by rw [hb]; exact Lin.new _ _ [.slice sx3 ns3 cs3, .slice aa3 na3 ca3]
    replace S := S.later (Later.new _ (.cells #[.slice sx3 ns3 cs3, .slice aa3 na3 ca3] 25))
    rw [Later.new_w] at S
    replace hm := hm.later (Later.new _ (.cells #[.slice sx3 ns3 cs3, .slice aa3 na3 ca3] 25))
    rw [Later.new_w] at hm
    replace hm2 := hm2.later (Later.new _ (.cells #[.slice sx3 ns3 cs3, .slice aa3 na3 ca3] 25))
    rw [Later.new_w] at hm2
    replace hm3 := hm3.later (Later.new _ (.cells #[.slice sx3 ns3 cs3, .slice aa3 na3 ca3] 25))
    rw [Later.new_w] at hm3
    replace l1 := l1.later (Later.new _ (.cells #[.slice sx3 ns3 cs3, .slice aa3 na3 ca3] 25))
    rw [Later.new_w] at l1
    replace l3 := l3.later (Later.new _ (.cells #[.slice sx3 ns3 cs3, .slice aa3 na3 ca3] 25))
    rw [Later.new_w] at l3
    have hsz : (Y4.w.alloc (.cells #[.slice sx3 ns3 cs3, .slice aa3 na3 ca3] 25)).heap.size = B5 + 1 := by rw [hb]; simp
    obtain ⟨Y6, hZ⟩ : ∃ Z : Later W, Z.w = Y4.w.alloc (.cells #[.slice sx3 ns3 cs3, .slice aa3 na3 ca3] 25) := ⟨Y4.step (Later.new _ _), rfl⟩
    rw [← hZ] at S hsz hm hm2 hm3 l1 l3 l5 ⊢
    clear hZ
    rw [← hb]
    clear hb
    try rw [← hsz]
    clear hsz
    have q0_0 := l1.cell (k := 0) rfl
    have q0_1 := l1.cell (k := 1) rfl
    have q0_l := l1.lt
    have q1_0 := l3.cell (k := 0) rfl
    have q1_1 := l3.cell (k := 1) rfl
    have q1_l := l3.lt
    have q2_0 := l5.cell (k := 0) rfl
    have q2_1 := l5.cell (k := 1) rfl
    have q2_l := l5.lt
    go_wp2_with fail
    clear q0_0 q0_1 q0_l
    clear q1_0 q1_1 q1_l
    clear q2_0 q2_1 q2_l
    refine (fine_calls l _ _ st ad _ hm).mono ?_
    rintro e w' ⟨rfl, y, rfl⟩
    rw [HX.out]
    replace hm := hm.later y
    replace hm2 := hm2.later y
    replace hm3 := hm3.later y
    replace l1 := l1.later y
    replace l3 := l3.later y
    replace l5 := l5.later y
    replace S := S.later y
    obtain ⟨Y7, hZ⟩ : ∃ Z : Later W, Z.w = y.w := ⟨Y6.step (y), rfl⟩
    rw [← hZ] at S hm hm2 hm3 l1 l3 l5 ⊢
    clear hZ
    clear y
    go_wp2_with fail
    refine (Works_calls _).mono ?_
    rintro e w' ⟨rfl, y, rfl⟩
    go_wp2
    go_ret
    exact ⟨rfl, Y7.step (y), rfl⟩
  by_cases f2 : fineM l st2 ad2 = true
  rotate_left
  · obtain ⟨sx, ns, cs, rfl⟩ : ∃ a n c, sv = .slice a n c := by obtain ⟨a, c, e⟩ := hm.s.form; exact ⟨a, _, c, e⟩
    obtain ⟨aa, na, ca, rfl⟩ : ∃ a n c, av = .slice a n c := by obtain ⟨a, c, e⟩ := hm.a.form; exact ⟨a, _, c, e⟩
    have HS := Lib.hid (show ns = st.length by obtain ⟨a, c, e⟩ := hm.s.form; cases e; rfl)
    have HA := Lib.hid (show na = ad.length by obtain ⟨a, c, e⟩ := hm.a.form; cases e; rfl)
    have hsl : ns ≤ 9007199254740992 := by rw [HS.out]; exact hm.s.1
    have hal : na ≤ 9007199254740992 := by rw [HA.out]; exact hm.a.1
    obtain ⟨sx2, ns2, cs2, rfl⟩ : ∃ a n c, sw = .slice a n c := by obtain ⟨a, c, e⟩ := hm2.s.form; exact ⟨a, _, c, e⟩
    obtain ⟨aa2, na2, ca2, rfl⟩ : ∃ a n c, aw = .slice a n c := by obtain ⟨a, c, e⟩ := hm2.a.form; exact ⟨a, _, c, e⟩
    have HS2 := Lib.hid (show ns2 = st2.length by obtain ⟨a, c, e⟩ := hm2.s.form; cases e; rfl)
    have HA2 := Lib.hid (show na2 = ad2.length by obtain ⟨a, c, e⟩ := hm2.a.form; cases e; rfl)
    have hsl2 : ns2 ≤ 9007199254740992 := by rw [HS2.out]; exact hm2.s.1
    have hal2 : na2 ≤ 9007199254740992 := by rw [HA2.out]; exact hm2.a.1
    obtain ⟨sx3, ns3, cs3, rfl⟩ : ∃ a n c, su = .slice a n c := by obtain ⟨a, c, e⟩ := hm3.s.form; exact ⟨a, _, c, e⟩
    obtain ⟨aa3, na3, ca3, rfl⟩ : ∃ a n c, au = .slice a n c := by obtain ⟨a, c, e⟩ := hm3.a.form; exact ⟨a, _, c, e⟩
    have HS3 := Lib.hid (show ns3 = st3.length by obtain ⟨a, c, e⟩ := hm3.s.form; cases e; rfl)
    have HA3 := Lib.hid (show na3 = ad3.length by obtain ⟨a, c, e⟩ := hm3.a.form; cases e; rfl)
    have hsl3 : ns3 ≤ 9007199254740992 := by rw [HS3.out]; exact hm3.s.1
    have hal3 : na3 ≤ 9007199254740992 := by rw [HA3.out]; exact hm3.a.1
    have HX2 := Lib.hid (Bool.eq_false_iff.2 f2)
    have HX := Lib.hid f1
    clear f1 f2
    go_enter Try.func12, Try.ntmps12
    go_wp2_with fail
    obtain ⟨B1, hb⟩ : ∃ b, b = W.heap.size := ⟨_, rfl⟩
    have l1 : Lin (W.alloc (.cells #[.slice sx ns cs, .slice aa na ca] 25)) B1 25 [.slice sx ns cs, .slice aa na ca] := by rw [hb]; exact Lin.new _ _ [.slice sx ns cs, .slice aa na ca]
    replace S := S.later (Later.new _ (.cells #[.slice sx ns cs, .slice aa na ca] 25))
    rw [Later.new_w] at S
    replace hm := hm.later (Later.new _ (.cells #[.slice sx ns cs, .slice aa na ca] 25))
    rw [Later.new_w] at hm
    replace hm2 := hm2.later (Later.new _ (.cells #[.slice sx ns cs, .slice aa na ca] 25))
    rw [Later.new_w] at hm2
    replace hm3 := hm3.later (Later.new _ (.cells #[.slice sx ns cs, .slice aa na ca] 25))
    rw [Later.new_w] at hm3
    have hsz : (W.alloc (.cells #[.slice sx ns cs, .slice aa na ca] 25)).heap.size = B1 + 1 := by rw [hb]; simp
    obtain ⟨Y2, hZ⟩ : ∃ Z : Later W, Z.w = W.alloc (.cells #[.slice sx ns cs, .slice aa na ca] 25) := ⟨Later.new _ _, rfl⟩
    rw [← hZ] at S hsz hm hm2 hm3 l1 ⊢
    clear hZ
    rw [← hb]
    clear hb
    try rw [← hsz]
    clear hsz
    obtain ⟨B3, hb⟩ : ∃ b, b = Y2.w.heap.size := ⟨_, rfl⟩
    have l3 : Lin (Y2.w.alloc (.cells #[.slice sx2 ns2 cs2, .slice aa2 na2 ca2] 25)) B3 25 [.slice sx2 ns2 cs2, .slice aa2 na2 ca2] := by rw [hb]; exact Lin.new _ _ [.slice sx2 ns2 cs2, .slice aa2 na2 ca2]
    replace S := S.later (Later.new _ (.cells #[.slice sx2 ns2 cs2, .slice aa2 na2 ca2] 25))
    rw [Later.new_w] at S
    replace hm := hm.later (Later.new _ (.cells #[.slice sx2 ns2 cs2, .slice aa2 na2 ca2] 25))
    rw [Later.new_w] at hm
    replace hm2 := hm2.later (Later.new _ (.cells #[.slice sx2 ns2 cs2, .slice aa2 na2 ca2] 25))
    rw [Later.new_w] at hm2
    replace hm3 := hm3.later (Later.new _ (.cells #[.slice sx2 ns2 cs2, .slice aa2 na2 ca2] 25))
    rw [Later.new_w] at hm3
    replace l1 := l1.later (Later.new _ (.cells #[.slice sx2 ns2 cs2, .slice aa2 na2 ca2] 25))
    rw [Later.new_w] at l1
    have hsz : (Y2.w.alloc (.cells #[.slice sx2 ns2 cs2, .slice aa2 na2 ca2] 25)).heap.size = B3 + 1 := by rw [hb]; simp
    obtain ⟨Y4, hZ⟩ : ∃ Z : Later W, Z.w = Y2.w.alloc (.cells #[.slice sx2 ns2 cs2, .slice aa2 na2 ca2] 25) := ⟨Y2.step (Later.new _ _), rfl⟩
    rw [← hZ] at S hsz hm hm2 hm3 l1 l3 ⊢
    clear hZ
    rw [← hb]
    clear hb
    try rw [← hsz]
    clear hsz
    obtain ⟨B5, hb⟩ : ∃ b, b = Y4.w.heap.size := ⟨_, rfl⟩
    have l5 : Lin (Y4.w.alloc (.cells #[.slice sx3 ns3 cs3, .slice aa3 na3 ca3] 25)) B5 25 [.slice sx3 ns3 cs3, .slice aa3 na3 ca3] := by rw [hb]; exact Lin.new _ _ [.slice sx3 ns3 cs3, .slice aa3 na3 ca3]
    replace S := S.later (Later.new _ (.cells #[.slice sx3 ns3 cs3, .slice aa3 na3 ca3] 25))
    rw [Later.new_w] at S
    replace hm := hm.later (Later.new _ (.cells #[.slice sx3 ns3 cs3, .slice aa3 na3 ca3] 25))
    rw [Later.new_w] at hm
    replace hm2 := hm2.later (Later.new _ (.cells #[.slice sx3 ns3 cs3, .slice aa3 na3 ca3] 25))
    rw [Later.new_w] at hm2
    replace hm3 := hm3.later (Later.new _ (.cells #[.slice sx3 ns3 cs3, .slice aa3 na3 ca3] 25))
    rw [Later.new_w] at hm3
    replace l1 := l1.later (Later.new _ (.cells #[.slice sx3 ns3 cs3, .slice aa3 na3 ca3] 25))
    rw [Later.new_w] at l1
    replace l3 := l3.later (Later.new _ (.cells #[.slice sx3 ns3 cs3, .slice aa3 na3 ca3] 25))
    rw [Later.new_w] at l3
    have hsz : (Y4.w.alloc (.cells #[.slice sx3 ns3 cs3, .slice aa3 na3 ca3] 25)).heap.size = B5 + 1 := by rw [hb]; simp
    obtain ⟨Y6, hZ⟩ : ∃ Z : Later W, Z.w = Y4.w.alloc (.cells #[.slice sx3 ns3 cs3, .slice aa3 na3 ca3] 25) := ⟨Y4.step (Later.new _ _), rfl⟩
    rw [← hZ] at S hsz hm hm2 hm3 l1 l3 l5 ⊢
    clear hZ
    rw [← hb]
    clear hb
    try rw [← hsz]
    clear hsz
    have q0_0 := l1.cell (k := 0) rfl
    have q0_1 := l1.cell (k := 1) rfl
    have q0_l := l1.lt
    have q1_0 := l3.cell (k := 0) rfl
    have q1_1 := l3.cell (k := 1) rfl
    have q1_l := l3.lt
    have q2_0 := l5.cell (k := 0) rfl
    have q2_1 := l5.cell (k := 1) rfl
    have q2_l := l5.lt
    go_wp2_with fail
    clear q0_0 q0_1 q0_l
    clear q1_0 q1_1 q1_l
    clear q2_0 q2_1 q2_l
    refine (fine_calls l _ _ st ad _ hm).mono ?_
    rintro e w' ⟨rfl, y, rfl⟩
    rw [HX.out]
    replace hm := hm.later y
    replace hm2 := hm2.later y
    replace hm3 := hm3.later y
    replace l1 := l1.later y
    replace l3 := l3.later y
    replace l5 := l5.later y
    replace S := S.later y
    obtain ⟨Y7, hZ⟩ : ∃ Z : Later W, Z.w = y.w := ⟨Y6.step (y), rfl⟩
    rw [← hZ] at S hm hm2 hm3 l1 l3 l5 ⊢
    clear hZ
    clear y
    have q0_0 := l1.cell (k := 0) rfl
    have q0_1 := l1.cell (k := 1) rfl
    have q0_l := l1.lt
    have q1_0 := l3.cell (k := 0) rfl
    have q1_1 := l3.cell (k := 1) rfl
    have q1_l := l3.lt
    have q2_0 := l5.cell (k := 0) rfl
    have q2_1 := l5.cell (k := 1) rfl
    have q2_l := l5.lt
    go_wp2_with fail
    clear q0_0 q0_1 q0_l
    clear q1_0 q1_1 q1_l
    clear q2_0 q2_1 q2_l
    refine (fine_calls l _ _ st2 ad2 _ hm2).mono ?_
    rintro e w' ⟨rfl, y, rfl⟩
    rw [HX2.out]
    replace hm := hm.later y
    replace hm2 := hm2.later y
    replace hm3 := hm3.later y
    replace l1 := l1.later y
    replace l3 := l3.later y
    replace l5 := l5.later y
    replace S := S.later y
    obtain ⟨Y8, hZ⟩ : ∃ Z : Later W, Z.w = y.w := ⟨Y7.step (y), rfl⟩
    rw [← hZ] at S hm hm2 hm3 l1 l3 l5 ⊢
    clear hZ
    clear y
    go_wp2_with fail
    refine (Works_calls _).mono ?_
    rintro e w' ⟨rfl, y, rfl⟩
    go_wp2
    go_ret
    exact ⟨rfl, Y8.step (y), rfl⟩
  by_cases f3 : fineM l st3 ad3 = true
  rotate_left
  · obtain ⟨sx, ns, cs, rfl⟩ : ∃ a n c, sv = .slice a n c := by obtain ⟨a, c, e⟩ := hm.s.form; exact ⟨a, _, c, e⟩
    obtain ⟨aa, na, ca, rfl⟩ : ∃ a n c, av = .slice a n c := by obtain ⟨a, c, e⟩ := hm.a.form; exact ⟨a, _, c, e⟩
    have HS := Lib.hid (show ns = st.length by obtain ⟨a, c, e⟩ := hm.s.form; cases e; rfl)
    have HA := Lib.hid (show na = ad.length by obtain ⟨a, c, e⟩ := hm.a.form; cases e; rfl)
    have hsl : ns ≤ 9007199254740992 := by rw [HS.out]; exact hm.s.1
    have hal : na ≤ 9007199254740992 := by rw [HA.out]; exact hm.a.1
    obtain ⟨sx2, ns2, cs2, rfl⟩ : ∃ a n c, sw = .slice a n c := by obtain ⟨a, c, e⟩ := hm2.s.form; exact ⟨a, _, c, e⟩
    obtain ⟨aa2, na2, ca2, rfl⟩ : ∃ a n c, aw = .slice a n c := by obtain ⟨a, c, e⟩ := hm2.a.form; exact ⟨a, _, c, e⟩
    have HS2 := Lib.hid (show ns2 = st2.length by obtain ⟨a, c, e⟩ := hm2.s.form; cases e; rfl)
    have HA2 := Lib.hid (show na2 = ad2.length by obtain ⟨a, c, e⟩ := hm2.a.form; cases e; rfl)
    have hsl2 : ns2 ≤ 9007199254740992 := by rw [HS2.out]; exact hm2.s.1
    have hal2 : na2 ≤ 9007199254740992 := by rw [HA2.out]; exact hm2.a.1
    obtain ⟨sx3, ns3, cs3, rfl⟩ : ∃ a n c, su = .slice a n c := by obtain ⟨a, c, e⟩ := hm3.s.form; exact ⟨a, _, c, e⟩
    obtain ⟨aa3, na3, ca3, rfl⟩ : ∃ a n c, au = .slice a n c := by obtain ⟨a, c, e⟩ := hm3.a.form; exact ⟨a, _, c, e⟩
    have HS3 := Lib.hid (show ns3 = st3.length by obtain ⟨a, c, e⟩ := hm3.s.form; cases e; rfl)
    have HA3 := Lib.hid (show na3 = ad3.length by obtain ⟨a, c, e⟩ := hm3.a.form; cases e; rfl)
    have hsl3 : ns3 ≤ 9007199254740992 := by rw [HS3.out]; exact hm3.s.1
    have hal3 : na3 ≤ 9007199254740992 := by rw [HA3.out]; exact hm3.a.1
    have HX3 := Lib.hid (Bool.eq_false_iff.2 f3)
    have HX := Lib.hid f1
    have HX2 := Lib.hid f2
    clear f1 f2 f3
    go_enter Try.func12, Try.ntmps12
    go_wp2_with fail
    obtain ⟨B1, hb⟩ : ∃ b, b = W.heap.size := ⟨_, rfl⟩
    have l1 : Lin (W.alloc (.cells #[.slice sx ns cs, .slice aa na ca] 25)) B1 25 [.slice sx ns cs, .slice aa na ca] := by rw [hb]; exact Lin.new _ _ [.slice sx ns cs, .slice aa na ca]
    replace S := S.later (Later.new _ (.cells #[.slice sx ns cs, .slice aa na ca] 25))
    rw [Later.new_w] at S
    replace hm := hm.later (Later.new _ (.cells #[.slice sx ns cs, .slice aa na ca] 25))
    rw [Later.new_w] at hm
    replace hm2 := hm2.later (Later.new _ (.cells #[.slice sx ns cs, .slice aa na ca] 25))
    rw [Later.new_w] at hm2
    replace hm3 := hm3.later (Later.new _ (.cells #[.slice sx ns cs, .slice aa na ca] 25))
    rw [Later.new_w] at hm3
    have hsz : (W.alloc (.cells #[.slice sx ns cs, .slice aa na ca] 25)).heap.size = B1 + 1 := by rw [hb]; simp
    obtain ⟨Y2, hZ⟩ : ∃ Z : Later W, Z.w = W.alloc (.cells #[.slice sx ns cs, .slice aa na ca] 25) := ⟨Later.new _ _, rfl⟩
    rw [← hZ] at S hsz hm hm2 hm3 l1 ⊢
    clear hZ
    rw [← hb]
    clear hb
    try rw [← hsz]
    clear hsz
    obtain ⟨B3, hb⟩ : ∃ b, b = Y2.w.heap.size := ⟨_, rfl⟩
    have l3 : Lin (Y2.w.alloc (.cells #[.slice sx2 ns2 cs2, .slice aa2 na2 ca2] 25)) B3 25 [.slice sx2 ns2 cs2, .slice aa2 na2 ca2] := by rw [hb]; exact Lin.new _ _ [.slice sx2 ns2 cs2, .slice aa2 na2 ca2]
    replace S := S.later (Later.new _ (.cells #[.slice sx2 ns2 cs2, .slice aa2 na2 ca2] 25))
    rw [Later.new_w] at S
    replace hm := hm.later (Later.new _ (.cells #[.slice sx2 ns2 cs2, .slice aa2 na2 ca2] 25))
    rw [Later.new_w] at hm
    replace hm2 := hm2.later (Later.new _ (.cells #[.slice sx2 ns2 cs2, .slice aa2 na2 ca2] 25))
    rw [Later.new_w] at hm2
    replace hm3 := hm3.later (Later.new _ (.cells #[.slice sx2 ns2 cs2, .slice aa2 na2 ca2] 25))
    rw [Later.new_w] at hm3
    replace l1 := l1.later (Later.new _ (.cells #[.slice sx2 ns2 cs2, .slice aa2 na2 ca2] 25))
    rw [Later.new_w] at l1
    have hsz : (Y2.w.alloc (.cells #[.slice sx2 ns2 cs2, .slice aa2 na2 ca2] 25)).heap.size = B3 + 1 := by rw [hb]; simp
    obtain ⟨Y4, hZ⟩ : ∃ Z : Later W, Z.w = Y2.w.alloc (.cells #[.slice sx2 ns2 cs2, .slice aa2 na2 ca2] 25) := ⟨Y2.step (Later.new _ _), rfl⟩
    rw [← hZ] at S hsz hm hm2 hm3 l1 l3 ⊢
    clear hZ
    rw [← hb]
    clear hb
    try rw [← hsz]
    clear hsz
    obtain ⟨B5, hb⟩ : ∃ b, b = Y4.w.heap.size := ⟨_, rfl⟩
    have l5 : Lin (Y4.w.alloc (.cells #[.slice sx3 ns3 cs3, .slice aa3 na3 ca3] 25)) B5 25 [.slice sx3 ns3 cs3, .slice aa3 na3 ca3] := by rw [hb]; exact Lin.new _ _ [.slice sx3 ns3 cs3, .slice aa3 na3 ca3]
    replace S := S.later (Later.new _ (.cells #[.slice sx3 ns3 cs3, .slice aa3 na3 ca3] 25))
    rw [Later.new_w] at S
    replace hm := hm.later (Later.new _ (.cells #[.slice sx3 ns3 cs3, .slice aa3 na3 ca3] 25))
    rw [Later.new_w] at hm
    replace hm2 := hm2.later (Later.new _ (.cells #[.slice sx3 ns3 cs3, .slice aa3 na3 ca3] 25))
    rw [Later.new_w] at hm2
    replace hm3 := hm3.later (Later.new _ (.cells #[.slice sx3 ns3 cs3, .slice aa3 na3 ca3] 25))
    rw [Later.new_w] at hm3
    replace l1 := l1.later (Later.new _ (.cells #[.slice sx3 ns3 cs3, .slice aa3 na3 ca3] 25))
    rw [Later.new_w] at l1
    replace l3 := l3.later (Later.new _ (.cells #[.slice sx3 ns3 cs3, .slice aa3 na3 ca3] 25))
    rw [Later.new_w] at l3
    have hsz : (Y4.w.alloc (.cells #[.slice sx3 ns3 cs3, .slice aa3 na3 ca3] 25)).heap.size = B5 + 1 := by rw [hb]; simp
    obtain ⟨Y6, hZ⟩ : ∃ Z : Later W, Z.w = Y4.w.alloc (.cells #[.slice sx3 ns3 cs3, .slice aa3 na3 ca3] 25) := ⟨Y4.step (Later.new _ _), rfl⟩
    rw [← hZ] at S hsz hm hm2 hm3 l1 l3 l5 ⊢
    clear hZ
    rw [← hb]
    clear hb
    try rw [← hsz]
    clear hsz
    have q0_0 := l1.cell (k := 0) rfl
    have q0_1 := l1.cell (k := 1) rfl
    have q0_l := l1.lt
    have q1_0 := l3.cell (k := 0) rfl
    have q1_1 := l3.cell (k := 1) rfl
    have q1_l := l3.lt
    have q2_0 := l5.cell (k := 0) rfl
    have q2_1 := l5.cell (k := 1) rfl
    have q2_l := l5.lt
    go_wp2_with fail
    clear q0_0 q0_1 q0_l
    clear q1_0 q1_1 q1_l
    clear q2_0 q2_1 q2_l
    refine (fine_calls l _ _ st ad _ hm).mono ?_
    rintro e w' ⟨rfl, y, rfl⟩
    rw [HX.out]
    replace hm := hm.later y
    replace hm2 := hm2.later y
    replace hm3 := hm3.later y
    replace l1 := l1.later y
    replace l3 := l3.later y
    replace l5 := l5.later y
    replace S := S.later y
    obtain ⟨Y7, hZ⟩ : ∃ Z : Later W, Z.w = y.w := ⟨Y6.step (y), rfl⟩
    rw [← hZ] at S hm hm2 hm3 l1 l3 l5 ⊢
    clear hZ
    clear y
    have q0_0 := l1.cell (k := 0) rfl
    have q0_1 := l1.cell (k := 1) rfl
    have q0_l := l1.lt
    have q1_0 := l3.cell (k := 0) rfl
    have q1_1 := l3.cell (k := 1) rfl
    have q1_l := l3.lt
    have q2_0 := l5.cell (k := 0) rfl
    have q2_1 := l5.cell (k := 1) rfl
    have q2_l := l5.lt
    go_wp2_with fail
    clear q0_0 q0_1 q0_l
    clear q1_0 q1_1 q1_l
    clear q2_0 q2_1 q2_l
    refine (fine_calls l _ _ st2 ad2 _ hm2).mono ?_
    rintro e w' ⟨rfl, y, rfl⟩
    rw [HX2.out]
    replace hm := hm.later y
    replace hm2 := hm2.later y
    replace hm3 := hm3.later y
    replace l1 := l1.later y
    replace l3 := l3.later y
    replace l5 := l5.later y
    replace S := S.later y
    obtain ⟨Y8, hZ⟩ : ∃ Z : Later W, Z.w = y.w := ⟨Y7.step (y), rfl⟩
    rw [← hZ] at S hm hm2 hm3 l1 l3 l5 ⊢
    clear hZ
    clear y
    have q0_0 := l1.cell (k := 0) rfl
    have q0_1 := l1.cell (k := 1) rfl
    have q0_l := l1.lt
    have q1_0 := l3.cell (k := 0) rfl
    have q1_1 := l3.cell (k := 1) rfl
    have q1_l := l3.lt
    have q2_0 := l5.cell (k := 0) rfl
    have q2_1 := l5.cell (k := 1) rfl
    have q2_l := l5.lt
    go_wp2_with fail
    clear q0_0 q0_1 q0_l
    clear q1_0 q1_1 q1_l
    clear q2_0 q2_1 q2_l
    refine (fine_calls l _ _ st3 ad3 _ hm3).mono ?_
    rintro e w' ⟨rfl, y, rfl⟩
    rw [HX3.out]
    replace hm := hm.later y
    replace hm2 := hm2.later y
    replace hm3 := hm3.later y
    replace l1 := l1.later y
    replace l3 := l3.later y
    replace l5 := l5.later y
    replace S := S.later y
    obtain ⟨Y9, hZ⟩ : ∃ Z : Later W, Z.w = y.w := ⟨Y8.step (y), rfl⟩
    rw [← hZ] at S hm hm2 hm3 l1 l3 l5 ⊢
    clear hZ
    clear y
    go_wp2_with fail
    refine (Works_calls _).mono ?_
    rintro e w' ⟨rfl, y, rfl⟩
    go_wp2
    go_ret
    exact ⟨rfl, Y9.step (y), rfl⟩
  by_cases hc : 0 ≤ clashN ad ad2
  · exact ProofMerged_on l sv av st ad sw aw st2 ad2 su au st3 ad3 W hm hm2 hm3 f1 f2 f3 hc
  · exact ProofMerged_off l sv av st ad sw aw st2 ad2 su au st3 ad3 W hm hm2 hm3 f1 f2 f3 hc
end Go.Proofs.Ytpkgfkeekcgkcaa
