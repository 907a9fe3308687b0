import Derived.Test.YtieaibebnkdmhaaRefI
namespace Go.Proofs.Ytieaibebnkdmhaa
open Go.RowKit

/-- a star, or none, that may follow on a list -/
def extB (ns ss : List (List Int)) (n : Nat) (l : List Int) (s : Int) : Bool := decide (s < 0) || (pairB ns ss n s && decide (plc l s < 0))
/-- a list with one of the first k stars behind it -/
def exts (ns ss : List (List Int)) (n : Nat) (l : List Int) (k : Nat) : List (List Int) := ((List.range k).filter (fun (j : Nat) => extB ns ss n l ((j : Int) - 1))).map (fun (j : Nat) => l ++ [(j : Int) - 1])
def lvl (ns ss : List (List Int)) : Nat → List (List Int)
  | 0 => [[]]
  | i + 1 => (lvl ns ss i).flatMap fun l => exts ns ss i l (ss.length + 1)
def nxt (ns ss : List (List Int)) (i k : Nat) : List (List Int) := ((lvl ns ss i).take k).flatMap fun l => exts ns ss i l (ss.length + 1)
theorem exts_succ (ns ss : List (List Int)) (n : Nat) (l : List Int) (k : Nat) : exts ns ss n l (k + 1) = exts ns ss n l k ++ if extB ns ss n l ((k : Int) - 1) then [l ++ [(k : Int) - 1]] else [] := by
  simp only [exts, List.range_succ, List.filter_append, List.map_append]
  by_cases h : extB ns ss n l ((k : Int) - 1) = true <;> simp [h]
theorem exts_len (ns ss : List (List Int)) (n : Nat) (l : List Int) (k : Nat) : (exts ns ss n l k).length ≤ k := by
  rw [exts, List.length_map]; exact Nat.le_trans (List.length_filter_le _ _) (by simp)
theorem nxt_succ (ns ss : List (List Int)) (i k : Nat) (h : k < (lvl ns ss i).length) : nxt ns ss i (k + 1) = nxt ns ss i k ++ exts ns ss i (row (lvl ns ss i) k) (ss.length + 1) := by
  rw [nxt, List.take_succ_eq_append_getElem h, List.flatMap_append, nxt, row_eq h]; simp
theorem nxt_end (ns ss : List (List Int)) (i k : Nat) (h : (lvl ns ss i).length ≤ k) : nxt ns ss i k = lvl ns ss (i + 1) := by
  rw [nxt, List.take_of_length_le h, lvl]
theorem nxt_len (ns ss : List (List Int)) (i k : Nat) : (nxt ns ss i k).length ≤ (lvl ns ss i).length * (ss.length + 1) := by
  refine Nat.le_trans (flatMap_len _ (ss.length + 1) _ fun l _ => exts_len _ _ _ _ _) (Nat.mul_le_mul_right _ ?_)
  rw [List.length_take]; omega
theorem lvl_len (ns ss : List (List Int)) (h : ss.length ≤ 6) : ∀ i, (lvl ns ss i).length ≤ 7 ^ i
  | 0 => by simp [lvl]
  | i + 1 => by
    rw [← nxt_end ns ss i _ (Nat.le_refl _)]
    refine Nat.le_trans (nxt_len ns ss i _) ?_
    rw [Nat.pow_succ]
    exact Nat.mul_le_mul (lvl_len ns ss h i) (by omega)
theorem lvl_6 (ns ss : List (List Int)) (h : ss.length ≤ 6) {i : Nat} (hi : i ≤ 6) : (lvl ns ss i).length ≤ 117649 :=
  Nat.le_trans (lvl_len ns ss h i) (Nat.le_trans (Nat.pow_le_pow_right (by omega) hi) (by decide))
theorem mem_exts {ns ss : List (List Int)} {n : Nat} {l m : List Int} {k : Nat} : m ∈ exts ns ss n l k ↔ ∃ j : Nat, j < k ∧ extB ns ss n l ((j : Int) - 1) = true ∧ m = l ++ [(j : Int) - 1] := by
  simp only [exts, List.mem_map, List.mem_filter, List.mem_range]
  constructor
  · rintro ⟨j, ⟨h1, h2⟩, rfl⟩; exact ⟨j, h1, h2, rfl⟩
  · rintro ⟨j, h1, h2, rfl⟩; exact ⟨j, ⟨h1, h2⟩, rfl⟩
theorem lvl_mem_len {ns ss : List (List Int)} : ∀ {i : Nat} {m : List Int}, m ∈ lvl ns ss i → m.length = i
  | 0, m, h => by simp [lvl] at h; subst h; rfl
  | i + 1, m, h => by
    rw [lvl, List.mem_flatMap] at h
    obtain ⟨l, h1, h2⟩ := h
    obtain ⟨j, _, _, rfl⟩ := mem_exts.1 h2
    simp [lvl_mem_len h1]
/-- all settled matchings, by the definitions -/
def allOf (ns ss : List (List Int)) : List (List Int) := (lvl ns ss ns.length).filter fun m => (fstU ns ss m).isNone
def allTo (ns ss : List (List Int)) (k : Nat) : List (List Int) := ((lvl ns ss ns.length).take k).filter fun m => (fstU ns ss m).isNone
theorem allTo_succ (ns ss : List (List Int)) (k : Nat) (h : k < (lvl ns ss ns.length).length) : allTo ns ss (k + 1) = allTo ns ss k ++ if (fstU ns ss (row (lvl ns ss ns.length) k)).isNone then [row (lvl ns ss ns.length) k] else [] := by
  rw [allTo, List.take_succ_eq_append_getElem h, List.filter_append, allTo, row_eq h]
  simp only [List.filter_cons, List.filter_nil]
theorem allTo_end (ns ss : List (List Int)) (k : Nat) (h : (lvl ns ss ns.length).length ≤ k) : allTo ns ss k = allOf ns ss := by
  rw [allTo, List.take_of_length_le h, allOf]
theorem allTo_len (ns ss : List (List Int)) (k : Nat) : (allTo ns ss k).length ≤ (lvl ns ss ns.length).length := by
  rw [allTo]; exact Nat.le_trans (List.length_filter_le _ _) (by rw [List.length_take]; omega)
/-- several lists -/
def GivesRR (xss : List (List Int)) (w : World) (e : Ending) (w' : World) : Prop := ∃ v, ∃ x : Later w, e = .returned v ∧ w' = x.w ∧ Rows2 x.w v xss
theorem Pair_callsI (nv sv : Value) (ns ss : List (List Int)) (n : Nat) (s : Int) (w : World) (hn : Rows2 w nv ns) (hs : Rows2 w sv ss) (h1 : n < ns.length) (h0 : 0 ≤ s) (h2 : s < ss.length) :
    Calls Try.prog 55 #[.agg #[nv, sv], .int .i64 n, .int .i64 s] w (Gives (.bool (pairB ns ss n s)) w) := by
  obtain ⟨t, rfl⟩ := Int.eq_ofNat_of_zero_le h0
  exact Pair_calls nv sv ns ss n t w hn hs h1 (by omega)
theorem isNone_not {α : Type} (o : Option α) : o.isNone = !o.isSome := by cases o <;> rfl
theorem row_mem {xss : List (List Int)} {k : Nat} (h : k < xss.length) : row xss k ∈ xss := by rw [row_eq h]; exact List.getElem_mem h

set_option maxRecDepth 100000 in
set_option maxHeartbeats 2000000 in
theorem AllOf_calls (nv sv : Value) (ns ss : List (List Int)) (w : World) (hn : Rows2 w nv ns) (hs : Rows2 w sv ss) (h6 : ns.length ≤ 6) (s6 : ss.length ≤ 6) :
    Calls Try.prog 71 #[.agg #[nv, sv]] w (GivesRR (allOf ns ss) w) := by
  obtain ⟨an, cn, rfl⟩ := hn.form
  obtain ⟨aS, cS, rfl⟩ := hs.form
  go_enter Try.func71, Try.ntmps71
  go_wp2_with fail
  obtain ⟨B, hB⟩ : ∃ B, B = w.heap.size := ⟨_, rfl⟩
  obtain ⟨z, hz⟩ : ∃ z : Later w, z.w = w.alloc (.cells #[.slice an ns.length cn, .slice aS ss.length cS] 24) := ⟨Later.new _ _, rfl⟩
  have c0 : z.w.cell? ⟨B, 0, none⟩ = some (.slice an ns.length cn) := by rw [hz, hB]; simp [go_sem]
  have c1 : z.w.cell? ⟨B, 1, none⟩ = some (.slice aS ss.length cS) := by rw [hz, hB]; simp [go_sem]
  have hBz : B < z.w.heap.size := by rw [hz, hB]; simp [go_sem]
  have HZ : Hid (z.w.heap.size = B + 1) := Lib.hid (by rw [hz, hB]; simp)
  rw [← hz, ← hB]
  replace hn := hn.later z
  replace hs := hs.later z
  clear hz hB
  have hl0 : Rows2 (z.w.alloc (.cells #[.slice none 0 0] 25)) (.slice (some ⟨B + 1, 0, none⟩) 1 1) (lvl ns ss 0) := by rw [← HZ.out]; exact rows_of1 (by simp [go_sem]) (Ints.nil none 0)
  obtain ⟨x0, hx0⟩ : ∃ x : Later z.w, x.w = z.w.alloc (.cells #[.slice none 0 0] 25) := ⟨Later.new _ _, rfl⟩
  rw [← hx0] at hl0 ⊢
  go_loopw [3, 4] (fun l i wr => ∃ k : Nat, ∃ x : Later z.w, wr = x.w ∧ k ≤ ns.length ∧ i = .int .i64 k ∧ Rows2 x.w l (lvl ns ss k)) (fun _ i _ => ns.length - (intOf i).toNat)
  case atStart => exact ⟨0, x0, rfl, Nat.zero_le _, rfl, hl0⟩
  case round =>
    clear hl0 hx0 x0
    obtain ⟨i, x, rfl, hi, rfl, hL⟩ := hrel
    rename_i lv
    obtain ⟨al, cl, rfl⟩ := hL.form
    have hll := lvl_6 ns ss s6 (i := i) (by omega)
    by_cases hlt : i < ns.length
    · go_wp2
      go_loopw [5, 6] (fun nx k wr => ∃ q : Nat, ∃ y : Later x.w, wr = y.w ∧ q ≤ (lvl ns ss i).length ∧ k = .int .i64 q ∧ Rows2M x.w.heap.size y.w nx (nxt ns ss i q)) (fun _ k _ => (lvl ns ss i).length - (intOf k).toNat)
      case atStart => exact ⟨0, Later.self _, rfl, Nat.zero_le _, rfl, Rows2M.nil _ _⟩
      case round =>
        obtain ⟨q, y, rfl, hq, rfl, hN⟩ := hrel
        rename_i nv
        by_cases hlt2 : q < (lvl ns ss i).length
        · obtain ⟨bl, ol, cl', fl, e, hcpl, hbl, hcl⟩ := hL.at hlt2
          cases e
          obtain ⟨gl0, hrow⟩ := hcl q hlt2
          obtain ⟨ar, cr, efr⟩ := hrow.form
          rw [efr] at gl0 hrow
          have hns := Lib.hid (nxt_succ ns ss i q hlt2)
          clear hcl efr
          go_wp2
          go_loopw [5, 7] (fun nx s wr => ∃ k : Nat, ∃ acc : List (List Int), ∃ y : Later x.w, wr = y.w ∧ k ≤ ss.length + 1 ∧ s = .int .i64 ((k : Int) - 1) ∧ Rows2M x.w.heap.size y.w nx acc ∧ Hid (acc = nxt ns ss i q ++ exts ns ss i (row (lvl ns ss i) q) k)) (fun _ s _ => ss.length + 1 - (intOf s + 1).toNat)
          case atStart => exact ⟨0, _, y, rfl, Nat.zero_le _, rfl, hN, by simp [exts, Hid]⟩
          case round =>
            clear hN y
            obtain ⟨k, acc, y, rfl, hk, rfl, hN, hac⟩ := hrel
            rename_i nv
            have gl := (y.cell hbl).trans gl0
            have sl : bl < y.w.heap.size := Nat.lt_of_lt_of_le hbl y.size
            by_cases hlt3 : k < ss.length + 1
            · have hes := Lib.hid (exts_succ ns ss i (row (lvl ns ss i) q) k)
              have hbig : acc.length + 1 ≤ 1000000000000 := by
                have := nxt_len ns ss i q; have := Nat.mul_le_mul hll (show ss.length + 1 ≤ 7 by omega); have := exts_len ns ss i (row (lvl ns ss i) q) k
                rw [hac.out, List.length_append]; omega
              have hrl : (row (lvl ns ss i) q).length ≤ 6 := by rw [lvl_mem_len (row_mem hlt2)]; omega
              obtain ⟨a5, c5, rfl⟩ := hN.form
              have hry := hrow.later y
              by_cases hs0 : (k : Int) - 1 < 0
              · have hex := Lib.hid (show extB ns ss i (row (lvl ns ss i) q) ((k : Int) - 1) = true by simp [extB, hs0])
                have hry2 : Ints (y.w.alloc (.cells #[] 3)) _ _ := ((hrow.later (y)).later (Later.new _ _))
                obtain ⟨v1, q1, hrun1, hN1, _⟩ := app_ints_step (W := y.w) ((Below.refl _ _).alloc (Nat.le_refl _) _) (IntsN.empty y.w rfl (Nat.le_refl _)) hry2 (by simp; omega) 25
                obtain ⟨v2, q2, hrun2, hN2, _⟩ := app_int_step q1.le hN1 ((k : Int) - 1) (by simp; omega) 25
                obtain ⟨a2, n2, c2, rfl⟩ := hN2.form'
                obtain ⟨v3, q3, hrun3, hN3, _⟩ := app_row_step ((y).step q2).le ((hN.later (x := Later.self _)).later q2) (hN2.ints (by simp; omega)) (Sep.of_own hN2) hbig 22
                rw [List.nil_append] at hN3
                try simp only [Later.step_w] at hrun3
                have hN4 := hN3
                have hac4 := Lib.hid (show acc ++ [row (lvl ns ss i) q ++ [(k : Int) - 1]] = nxt ns ss i q ++ exts ns ss i (row (lvl ns ss i) q) (k + 1) by rw [hes.out, hex.out, if_pos rfl, hac.out, List.append_assoc])
                have HR1 := Lib.hid hrun1
                have HR2 := Lib.hid hrun2
                have HR3 := Lib.hid hrun3
                clear hN1 hN2 hN3 hry2 hrun1 hrun2 hrun3
                go_wp2_with (first | ((with_reducible show wpList _ _ _ (⟨some 57, _, _, _, _, _⟩ :: _) _ _); refine Lib.wpList_append_run_sl _ rfl _ _ 25 rfl _ _ rfl rfl HR1.out ?_) | ((with_reducible show wpList _ _ _ (⟨some 60, _, _, _, _, _⟩ :: _) _ _); refine Lib.wpList_append_run_sl _ rfl _ _ 25 rfl _ _ rfl rfl HR2.out ?_) | ((with_reducible show wpList _ _ _ (⟨some 62, _, _, _, _, _⟩ :: _) _ _); refine Lib.wpList_append_run_sl _ rfl _ _ 22 rfl _ _ rfl rfl HR3.out ?_))
                go_roundw
                case rel => exact ⟨k + 1, _, q3, rfl, by omega, by go_num, hN4, hac4⟩
                case measure => simp [intOf]; omega
              · have hP := Pair_callsI _ _ ns ss i ((k : Int) - 1) y.w ((hn.later x).later y) ((hs.later x).later y) hlt (by omega) (by omega)
                cases hp : pairB ns ss i ((k : Int) - 1)
                · rw [hp] at hP
                  have HP := Lib.hid hP
                  have hac4 := Lib.hid (show acc = nxt ns ss i q ++ exts ns ss i (row (lvl ns ss i) q) (k + 1) by rw [hes.out, if_neg (by simp [extB, hs0, hp]), List.append_nil, hac.out])
                  clear hP hp
                  go_wp2_with (go_at_call 55; refine HP.out.mono ?_; rintro e w' ⟨rfl, u, rfl⟩)
                  go_roundw
                  case rel => exact ⟨k + 1, acc, y.step u, rfl, by omega, by go_num, hN.later u, hac4⟩
                  case measure => simp [intOf]; omega
                · rw [hp] at hP
                  have HP := Lib.hid hP
                  clear hP
                  cases hq2 : decide (plc (row (lvl ns ss i) q) ((k : Int) - 1) < 0)
                  · have hac4 := Lib.hid (show acc = nxt ns ss i q ++ exts ns ss i (row (lvl ns ss i) q) (k + 1) by rw [hes.out, if_neg (by simp only [extB, hq2, Bool.and_false, Bool.or_false]; simpa using hs0), List.append_nil, hac.out])
                    clear hp
                    go_wp2_with (first
                      | (go_at_call 55; refine HP.out.mono ?_; rintro e w' ⟨rfl, u, rfl⟩)
                      | (go_at_call 45; refine (Place_calls _ (row (lvl ns ss i) q) _ _ (hry.later u)).mono ?_; rintro e w' ⟨rfl, rfl⟩))
                    go_roundw
                    case rel => exact ⟨k + 1, acc, y.step u, rfl, by omega, by go_num, hN.later u, hac4⟩
                    case measure => simp [intOf]; omega
                  · have hex := Lib.hid (show extB ns ss i (row (lvl ns ss i) q) ((k : Int) - 1) = true by simp only [extB, hq2, hp, Bool.and_self, Bool.or_true])
                    clear hp
                    go_wp2_with (go_at_call 55; refine HP.out.mono ?_; rintro e w' ⟨rfl, u, rfl⟩)
                    have hry2 : Ints (u.w.alloc (.cells #[] 3)) _ _ := ((hrow.later (y.step u)).later (Later.new _ _))
                    obtain ⟨v1, q1, hrun1, hN1, _⟩ := app_ints_step (W := u.w) ((Below.refl _ _).alloc (Nat.le_refl _) _) (IntsN.empty u.w rfl (Nat.le_refl _)) hry2 (by simp; omega) 25
                    obtain ⟨v2, q2, hrun2, hN2, _⟩ := app_int_step q1.le hN1 ((k : Int) - 1) (by simp; omega) 25
                    obtain ⟨a2, n2, c2, rfl⟩ := hN2.form'
                    obtain ⟨v3, q3, hrun3, hN3, _⟩ := app_row_step ((y.step u).step q2).le ((hN.later (x := u)).later q2) (hN2.ints (by simp; omega)) (Sep.of_own hN2) hbig 22
                    rw [List.nil_append] at hN3
                    try simp only [Later.step_w] at hrun3
                    have hN4 := hN3
                    have hac4 := Lib.hid (show acc ++ [row (lvl ns ss i) q ++ [(k : Int) - 1]] = nxt ns ss i q ++ exts ns ss i (row (lvl ns ss i) q) (k + 1) by rw [hes.out, hex.out, if_pos rfl, hac.out, List.append_assoc])
                    have HR1 := Lib.hid hrun1
                    have HR2 := Lib.hid hrun2
                    have HR3 := Lib.hid hrun3
                    clear hN1 hN2 hN3 hry2 hrun1 hrun2 hrun3
                    go_wp2_with (first
                      | (go_at_call 45; refine (Place_calls _ (row (lvl ns ss i) q) _ _ (hry.later u)).mono ?_; rintro e w' ⟨rfl, rfl⟩)
                      | (first | ((with_reducible show wpList _ _ _ (⟨some 57, _, _, _, _, _⟩ :: _) _ _); refine Lib.wpList_append_run_sl _ rfl _ _ 25 rfl _ _ rfl rfl HR1.out ?_) | ((with_reducible show wpList _ _ _ (⟨some 60, _, _, _, _, _⟩ :: _) _ _); refine Lib.wpList_append_run_sl _ rfl _ _ 25 rfl _ _ rfl rfl HR2.out ?_) | ((with_reducible show wpList _ _ _ (⟨some 62, _, _, _, _, _⟩ :: _) _ _); refine Lib.wpList_append_run_sl _ rfl _ _ 22 rfl _ _ rfl rfl HR3.out ?_)))
                    go_roundw
                    case rel => exact ⟨k + 1, _, q3, rfl, by omega, by go_num, hN4, hac4⟩
                    case measure => simp [intOf]; omega
            · obtain rfl : k = ss.length + 1 := by omega
              obtain ⟨a5, c5, rfl⟩ := hN.form
              have hN2 : Rows2M x.w.heap.size y.w (.slice a5 acc.length c5) (nxt ns ss i (q + 1)) := by rw [hns.out, ← hac.out]; exact hN
              go_wp2
              go_roundw
              case rel => exact ⟨q + 1, y, rfl, by omega, by go_num, hN2⟩
              case measure => simp [intOf]; omega
        · have e := Lib.hid (nxt_end ns ss i q (by omega))
          obtain ⟨a5, c5, rfl⟩ := hN.form
          have hfin : Rows2 (x.step y).w (.slice a5 (nxt ns ss i q).length c5) (lvl ns ss (i + 1)) := by
            have := hN.rows (by have := nxt_len ns ss i q; have := Nat.mul_le_mul hll (show ss.length + 1 ≤ 7 by omega); omega)
            rw [← e.out]; exact this
          go_wp2
          go_roundw
          case rel => exact ⟨i + 1, x.step y, rfl, by omega, by go_num, hfin⟩
          case measure => simp [intOf]; omega
    · obtain rfl : i = ns.length := by omega
      clear hlt hi
      go_wp2
      go_loopw [8, 9] (fun o k wr => ∃ q : Nat, ∃ y : Later x.w, wr = y.w ∧ q ≤ (lvl ns ss ns.length).length ∧ k = .int .i64 q ∧ Rows2M x.w.heap.size y.w o (allTo ns ss q)) (fun _ k _ => (lvl ns ss ns.length).length - (intOf k).toNat)
      case atStart => exact ⟨0, Later.self _, rfl, Nat.zero_le _, rfl, by simpa [allTo] using Rows2M.nil _ _⟩
      case round =>
        obtain ⟨q, y, rfl, hq, rfl, hN⟩ := hrel
        rename_i ov
        by_cases hlt2 : q < (lvl ns ss ns.length).length
        · obtain ⟨bl, ol, cl', fl, e, hcpl, hbl, hcl⟩ := hL.at hlt2
          cases e
          obtain ⟨gl0, hrow⟩ := hcl q hlt2
          obtain ⟨ar, nr, cr, efr⟩ : ∃ a n c, fl q = .slice a n c := by obtain ⟨a, c, e⟩ := hrow.form; exact ⟨a, _, c, e⟩
          rw [efr] at gl0 hrow
          have gB0 : y.w.cell? ⟨B, 0, none⟩ = some (.slice an ns.length cn) := ((x.step y).cell hBz).trans c0
          have gB1 : y.w.cell? ⟨B, 1, none⟩ = some (.slice aS ss.length cS) := ((x.step y).cell hBz).trans c1
          have sB : B < y.w.heap.size := Nat.lt_of_lt_of_le hBz (x.step y).size
          have hsu := Lib.hid (allTo_succ ns ss q hlt2)
          have gl := (y.cell hbl).trans gl0
          have sl : bl < y.w.heap.size := Nat.lt_of_lt_of_le hbl y.size
          have hbig : (allTo ns ss q).length + 1 ≤ 1000000000000 := by have := allTo_len ns ss q; omega
          have hP := fun (u : Later y.w) => PairOf_calls _ _ _ ns ss (row (lvl ns ss ns.length) q) u.w (((hn.later x).later y).later u) (((hs.later x).later y).later u) ((hrow.later y).later u) (lvl_mem_len (row_mem hlt2))
          obtain ⟨a1, b1, e1⟩ := uV_cases (fstU ns ss (row (lvl ns ss ns.length) q))
          rw [e1] at hP
          have HP := Lib.hid hP
          clear hcl efr hP e1
          obtain ⟨a5, n5, c5, rfl⟩ := hN.form'
          cases hu : (fstU ns ss (row (lvl ns ss ns.length) q)).isSome
          · go_wp2
            refine region_later_lit (by kernel_rfl) (by kernel_rfl) ?_
            repeat (first | simp only [hu] | go_big_quiet_step (first
                 | (go_at_call 41; exact Later.quiet _ (HP.out _))))
            refine wpQuiet_nil ?_
            intro u
            obtain ⟨v3, q3, hrun3, hN3, _⟩ := app_row_step (y.step u).le (hN.later u) ((hrow.later y).later u) (Sep.of_ints hrow) hbig 22
            try simp only [Later.step_w] at hrun3
            have HR3 := Lib.hid hrun3
            have hN4 : Rows2M x.w.heap.size q3.w v3 (allTo ns ss (q + 1)) := by rw [hsu.out, if_pos (by rw [isNone_not, hu]; rfl)]; exact hN3
            clear hrun3 hN3
            go_wp2_with ((with_reducible show wpList _ _ _ (⟨some 88, _, _, _, _, _⟩ :: _) _ _); refine Lib.wpList_append_run_sl _ rfl _ _ 22 rfl _ _ rfl rfl HR3.out ?_)
            go_roundw
            case rel => exact ⟨q + 1, q3, rfl, by omega, by go_num, hN4⟩
            case measure => simp [intOf]; omega
          · have hN4 : Rows2M x.w.heap.size y.w (.slice a5 n5 c5) (allTo ns ss (q + 1)) := by rw [hsu.out, if_neg (by rw [isNone_not, hu]; simp), List.append_nil]; exact hN
            go_wp2
            refine region_later_lit (by kernel_rfl) (by kernel_rfl) ?_
            repeat (first | simp only [hu] | go_big_quiet_step (first
                 | (go_at_call 41; exact Later.quiet _ (HP.out _))))
            refine wpQuiet_nil ?_
            intro u
            go_wp2
            go_roundw
            case rel => exact ⟨q + 1, y.step u, rfl, by omega, by go_num, hN4.later u⟩
            case measure => simp [intOf]; omega
        · have e := Lib.hid (allTo_end ns ss q (by omega))
          obtain ⟨a5, n5, c5, rfl⟩ := hN.form'
          have hfin : Rows2 (x.step y).w (.slice a5 n5 c5) (allOf ns ss) := by
            rw [← e.out]; exact hN.rows (by have := allTo_len ns ss q; omega)
          go_wp2
          go_ret
          exact ⟨_, (z.step x).step y, rfl, rfl, hfin⟩
end Go.Proofs.Ytieaibebnkdmhaa
