import Derived.Test.YtieaibebnkdmhaaAll
namespace Go.Proofs.Ytieaibebnkdmhaa
open Go.RowKit

/-- What All says. -/
def AllR (ns ss : List (List Int)) : List (List Int) := if vbook ns ss = 0 then allF (tabOf ns ss) ns.length ss.length ns.length [] else []
theorem AllR_len (ns ss : List (List Int)) : (AllR ns ss).length ≤ 117649 := by
  unfold AllR
  split
  · rename_i h
    obtain ⟨_, h2, _, h4⟩ := vbook_len h
    exact Nat.le_trans (allF_len _ _ _ h4 _ _) (Nat.le_trans (Nat.pow_le_pow_right (by omega) h2) (by decide))
  · simp
/-- several lists, and an error -/
def GivesLL (xss : List (List Int)) (v : Int) (w : World) (e : Ending) (w' : World) : Prop := ∃ l, ∃ x : Later w, e = .returned (.tuple #[l, .int .i64 v]) ∧ w' = x.w ∧ Rows2 x.w l xss

set_option maxRecDepth 100000 in
set_option maxHeartbeats 2000000 in
theorem All_calls (nv sv : Value) (ns ss : List (List Int)) (w : World) (hn : Rows2 w nv ns) (hs : Rows2 w sv ss) :
    Calls Try.prog 30 #[.agg #[nv, sv]] w (GivesLL (AllR ns ss) (vbook ns ss) w) := by
  obtain ⟨an, cn, rfl⟩ := hn.form
  obtain ⟨aS, cS, rfl⟩ := hs.form
  have hn0 : Rows2 (w.alloc (.cells #[.slice an ns.length cn, .slice aS ss.length cS] 24)) _ _ := hn.later (Later.new _ _)
  have hs0 : Rows2 (w.alloc (.cells #[.slice an ns.length cn, .slice aS ss.length cS] 24)) _ _ := hs.later (Later.new _ _)
  have hal := AllR_len ns ss
  go_enter Try.func30, Try.ntmps30
  go_wp2_with fail
  refine (open_calls _ _ ns ss _ hn0 hs0).mono ?_
  rintro e w' ⟨c, x, rfl, rfl, hC⟩
  by_cases h0 : vbook ns ss = 0
  rotate_left
  · have hb : (vbook ns ss == 0) = false := by simpa using h0
    have hv := Lib.hid (show AllR ns ss = [] by rw [AllR, if_neg h0])
    have hbb : (vbook ns ss != 0) = true := by simpa using h0
    go_wp2
    go_ret2
    exact ⟨_, (Later.new _ _).step x, ret_two rfl, rfl, by rw [hv.out]; exact ⟨by simp, .inl ⟨rfl, none, 0, rfl⟩⟩⟩
  · have hv := Lib.hid (show AllR ns ss = allF (tabOf ns ss) ns.length ss.length ns.length [] by rw [AllR, if_pos h0])
    have hlen := vbook_len h0
    have hC1 := (hC h0).court (hn0.later x) (hs0.later x)
    have hcl := all_calls ns ss (tabOf ns ss) hlen.1 hlen.2.1 hlen.2.2.2 ns.length _ _ [] x.w hC1 (Ints.nil none 0) (by simp)
    have h0' := Lib.hid h0
    rw [h0]
    clear h0 hC hlen
    go_wp2_with (go_at_call 70; refine hcl.mono ?_; rintro e w' ⟨l, y, rfl, rfl, hl⟩)
    obtain ⟨al, cl, rfl⟩ := hl.form
    go_ret2
    exact ⟨_, ((Later.new _ _).step x).step y, ret_two h0'.out.symm, rfl, by rw [hv.out]; exact hl.rows (by rw [← hv.out]; omega)⟩

/-- how many of the matchings have a nation with a star -/
def cntK (n : Nat) (s : Int) : List (List Int) → Nat
  | [] => 0
  | m :: l => (if nth m n = s then 1 else 0) + cntK n s l
theorem cntK_at (n : Nat) (s : Int) (l : List (List Int)) (k : Nat) (h : k < l.length) : cntK n s (l.drop k) = (if nth (row l k) n = s then 1 else 0) + cntK n s (l.drop (k + 1)) := by
  rw [List.drop_eq_getElem_cons h, cntK, row_eq h]
theorem cntK_end (n : Nat) (s : Int) (l : List (List Int)) (k : Nat) (h : l.length ≤ k) : cntK n s (l.drop k) = 0 := by
  rw [List.drop_eq_nil_of_le h, cntK]
theorem allF_rows (M : PM) (N S : Nat) : ∀ (d : Nat) (m : List Int), ∀ r ∈ allF M N S d m, r.length = m.length + d
  | 0, m, r, h => by
    rw [allF] at h
    split at h
    · cases h
    · simp at h; subst h; simp
  | d + 1, m, r, h => by
    rw [allF, List.mem_flatMap] at h
    obtain ⟨k, _, hk⟩ := h
    split at hk
    · rw [allF_rows M N S d _ r hk]; simp; omega
    · cases hk
/-- What Kind says: the kind, and the error. -/
def KindR (ns ss : List (List Int)) (n s : Int) : Int × Int :=
  if vbook ns ss ≠ 0 then (0, vbook ns ss)
  else if n < 0 ∨ ns.length ≤ n ∨ s < 0 ∨ ss.length ≤ s then (0, 2)
  else if cntK n.toNat s (AllR ns ss) = (AllR ns ss).length then (2, 0)
  else if cntK n.toNat s (AllR ns ss) = 0 then (0, 0) else (1, 0)

set_option maxRecDepth 100000 in
set_option maxHeartbeats 2000000 in
theorem Kind_calls (nv sv : Value) (ns ss : List (List Int)) (n s : Int) (w : World) (hn : Rows2 w nv ns) (hs : Rows2 w sv ss) :
    Calls Try.prog 32 #[.agg #[nv, sv], .int .i64 n, .int .i64 s] w (Gives (.tuple #[.int .i64 (KindR ns ss n s).1, .int .i64 (KindR ns ss n s).2]) w) := by
  obtain ⟨an, cn, rfl⟩ := hn.form
  obtain ⟨aS, cS, rfl⟩ := hs.form
  have hn0 : Rows2 (w.alloc (.cells #[.slice an ns.length cn, .slice aS ss.length cS] 24)) _ _ := hn.later (Later.new _ _)
  have hs0 : Rows2 (w.alloc (.cells #[.slice an ns.length cn, .slice aS ss.length cS] 24)) _ _ := hs.later (Later.new _ _)
  have hal := AllR_len ns ss
  have hln := hn.1
  have hls := hs.1
  go_enter Try.func32, Try.ntmps32
  go_wp2_with fail
  refine (open_calls _ _ ns ss _ hn0 hs0).mono ?_
  rintro e w' ⟨c, x, rfl, rfl, hC⟩
  by_cases h0 : vbook ns ss = 0
  rotate_left
  · have hb : (vbook ns ss == 0) = false := by simpa using h0
    have hv := Lib.hid (show KindR ns ss n s = (0, vbook ns ss) by rw [KindR, if_pos h0])
    have hbb : (vbook ns ss != 0) = true := by simpa using h0
    go_wp2
    go_ret2
    exact ⟨ret_two2 (by rw [hv.out]) (by rw [hv.out]), (Later.new _ _).step x, rfl⟩
  · have hv0 := Lib.hid (show KindR ns ss n s = if n < 0 ∨ ns.length ≤ n ∨ s < 0 ∨ ss.length ≤ s then (0, 2)
      else if cntK n.toNat s (AllR ns ss) = (AllR ns ss).length then (2, 0)
      else if cntK n.toNat s (AllR ns ss) = 0 then (0, 0) else (1, 0) by rw [KindR, if_neg (by simpa using h0)])
    have hvA := Lib.hid (show AllR ns ss = allF (tabOf ns ss) ns.length ss.length ns.length [] by rw [AllR, if_pos h0])
    have hlen := vbook_len h0
    have hC1 := (hC h0).court (hn0.later x) (hs0.later x)
    have hcl : ∀ z : Later x.w, Calls Try.prog 70 _ z.w _ := fun z => all_calls ns ss (tabOf ns ss) hlen.1 hlen.2.1 hlen.2.2.2 ns.length _ _ [] z.w (hC1.later z) (Ints.nil none 0) (by simp)
    have h0' := Lib.hid h0
    rw [h0]
    clear h0 hC
    have c0 : ∀ z : Later x.w, z.w.cell? ⟨w.heap.size, 0, none⟩ = some (.slice an ns.length cn) := fun z => by
      rw [z.cell (Nat.lt_of_lt_of_le (by simp [go_sem]) x.size)]
      exact (x.cell (o := 0) (by simp [go_sem])).trans (by simp [go_sem])
    have c1 : ∀ z : Later x.w, z.w.cell? ⟨w.heap.size, 1, none⟩ = some (.slice aS ss.length cS) := fun z => by
      rw [z.cell (Nat.lt_of_lt_of_le (by simp [go_sem]) x.size)]
      exact (x.cell (o := 1) (by simp [go_sem])).trans (by simp [go_sem])
    have g1 : w.heap.size < x.w.heap.size := Nat.lt_of_lt_of_le (by simp [go_sem]) x.size
    have d0 := c0 (Later.self _)
    have d1 := c1 (Later.self _)
    rw [Later.self_w] at d0 d1
    have g2 : w.heap.size < x.w.heap.size + 1 := by omega
    clear c0 c1
    have hl1 : (1 : Int) ≤ ns.length := by omega
    have hl2 : (1 : Int) ≤ ss.length := by omega
    cases hw1 : [n].any (outB 0 ((ns.length : Int) - 1))
    rotate_left
    · have hv := Lib.hid (show KindR ns ss n s = (0, 2) by
        simp [outB] at hw1
        rw [hv0.out, if_pos (by omega)])
      go_wp2_with (go_at_call 60; (with_reducible refine (within_calls _ [n] 0 ((ns.length : Int) - 1) _ ?_).mono ?_); exact Ints.lit _ [n] _ (by simp) rfl rfl (by simp); rintro e w' ⟨rfl, y, rfl⟩)
      go_ret2
      exact ⟨ret_two2 (by rw [hv.out]) (by rw [hv.out]), (((Later.new _ _).step x).step (Later.new _ _)).step y, rfl⟩
    · go_wp2_with (go_at_call 60; (with_reducible refine (within_calls _ [n] 0 ((ns.length : Int) - 1) _ ?_).mono ?_); exact Ints.lit _ [n] _ (by simp) rfl rfl (by simp); rintro e w' ⟨rfl, y, rfl⟩)
      have gy : w.heap.size < y.w.heap.size := Nat.lt_of_lt_of_le (by simp; omega) y.size
      have gz : w.heap.size < y.w.heap.size + 1 := by omega
      cases hw2 : [s].any (outB 0 ((ss.length : Int) - 1))
      rotate_left
      · have hv := Lib.hid (show KindR ns ss n s = (0, 2) by
          simp [outB] at hw2
          rw [hv0.out, if_pos (by omega)])
        refine (within_calls _ [s] 0 ((ss.length : Int) - 1) _ ?_).mono ?_
        · exact Ints.lit _ [s] _ (by simp) rfl rfl (by simp)
        rintro e w' ⟨rfl, u, rfl⟩
        rw [hw2]
        go_wp2
        go_ret2
        exact ⟨ret_two2 (by rw [hv.out]) (by rw [hv.out]), (((((Later.new _ _).step x).step (Later.new _ _)).step y).step (Later.new _ _)).step u, rfl⟩
      · refine (within_calls _ [s] 0 ((ss.length : Int) - 1) _ ?_).mono ?_
        · exact Ints.lit _ [s] _ (by simp) rfl rfl (by simp)
        rintro e w' ⟨rfl, u, rfl⟩
        rw [hw2]
        have hr1 : 0 ≤ n ∧ n < ns.length ∧ 0 ≤ s ∧ s < ss.length := by simp [outB] at hw1 hw2; omega
        have hv1 := Lib.hid (show KindR ns ss n s = if cntK n.toNat s (AllR ns ss) = (AllR ns ss).length then (2, 0) else if cntK n.toNat s (AllR ns ss) = 0 then (0, 0) else (1, 0) by rw [hv0.out, if_neg (by omega)])
        have hcl := hcl (((Later.new _ _).step y).step ((Later.new _ _).step u))
        obtain ⟨nn, hnn⟩ := Int.eq_ofNat_of_zero_le hr1.1
        rw [hnn, Int.toNat_natCast] at hv1
        have hn2 : nn < ns.length := by omega
        subst hnn
        clear hw1 hw2 hv0 d0 d1 g1 g2 gy gz hr1
        rw [← hvA.out] at hcl
        have hm : ∀ r ∈ AllR ns ss, r.length = ns.length := by
          rw [hvA.out]; intro r hr; simpa using allF_rows _ _ _ _ _ _ hr
        have hrows : ∀ k, k < (AllR ns ss).length → (row (AllR ns ss) k).length = ns.length := fun k hk => by
          rw [row_eq hk]; exact hm _ (List.getElem_mem hk)
        go_wp2_with (go_at_call 70; refine hcl.mono ?_; rintro e w' ⟨l, z, rfl, rfl, hl⟩; have hl2 := hl.rows (by omega); obtain ⟨al, cl, rfl⟩ := hl.form)
        go_loop [46, 11] (fun i c => ∃ k d : Nat, k ≤ (AllR ns ss).length ∧ d ≤ k ∧ i = .int .i64 k ∧ c = .int .i64 d ∧ Hid (cntK nn s (AllR ns ss) = d + cntK nn s ((AllR ns ss).drop k))) (fun i _ => (AllR ns ss).length - (intOf i).toNat)
        case atStart => exact ⟨0, 0, Nat.zero_le _, Nat.le_refl _, rfl, rfl, by unfold Hid; simp⟩
        case round =>
          obtain ⟨k, q, hk, hq, rfl, rfl, hp⟩ := hrel
          by_cases hlt : k < (AllR ns ss).length
          · obtain ⟨bl, ol, cll, fl, e, hcp, hbl, hcl⟩ := hl2.at hlt
            cases e
            obtain ⟨hc1, hrow⟩ := hcl k hlt
            have hrk := hrows k hlt
            obtain ⟨br, orr, cr, e, hcr, hbr, hcc⟩ := hrow.at (k := nn) (by omega)
            rw [e] at hc1
            have hcell := hcc nn (by omega)
            have hs := Lib.hid (cntK_at nn s (AllR ns ss) k hlt)
            clear hcl hcc
            rw [hrk] at hc1
            by_cases heq : nth (row (AllR ns ss) k) nn = s
            · go_wp2
              go_round
              case rel => exact ⟨k + 1, q + 1, by omega, by omega, by go_num, by go_num, by unfold Hid; rw [hp.out, hs.out, if_pos heq]; omega⟩
              case measure => simp [intOf]; omega
            · go_wp2
              go_round
              case rel => exact ⟨k + 1, q, by omega, by omega, by go_num, by go_num, by unfold Hid; rw [hp.out, hs.out, if_neg heq]; omega⟩
              case measure => simp [intOf]; omega
          · have he := Lib.hid (cntK_end nn s (AllR ns ss) k (by omega))
            have hcnt := Lib.hid (show cntK nn s (AllR ns ss) = q by rw [hp.out, he.out]; rfl)
            rw [hcnt.out] at hv1
            by_cases e1 : q = (AllR ns ss).length
            · have hv := Lib.hid (show KindR ns ss nn s = (2, 0) by rw [hv1.out, if_pos e1])
              go_wp2
              go_ret2
              exact ⟨ret_two2 (by rw [hv.out]) (by rw [hv.out]), ((((((Later.new _ _).step x).step (Later.new _ _)).step y).step (Later.new _ _)).step u).step z, rfl⟩
            · by_cases e2 : q = 0
              · have hv := Lib.hid (show KindR ns ss nn s = (0, 0) by rw [hv1.out, if_neg e1, if_pos e2])
                go_wp2
                go_ret2
                exact ⟨ret_two2 (by rw [hv.out]) (by rw [hv.out]), ((((((Later.new _ _).step x).step (Later.new _ _)).step y).step (Later.new _ _)).step u).step z, rfl⟩
              · have hv := Lib.hid (show KindR ns ss nn s = (1, 0) by rw [hv1.out, if_neg e1, if_neg e2])
                go_wp2
                go_ret2
                exact ⟨ret_two2 (by rw [hv.out]) (by rw [hv.out]), ((((((Later.new _ _).step x).step (Later.new _ _)).step y).step (Later.new _ _)).step u).step z, rfl⟩
end Go.Proofs.Ytieaibebnkdmhaa
