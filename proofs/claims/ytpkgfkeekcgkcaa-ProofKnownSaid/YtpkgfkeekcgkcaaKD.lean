import Derived.Test.YtpkgfkeekcgkcaaKC
import Derived.Test.YtpkgfkeekcgkcaaKB
/-  The definitions' FewestOf, Fewest. -/
namespace Go.Proofs.Ytpkgfkeekcgkcaa
open Go.RowKit
open Lcs (ed ch few)
theorem bt_ch (l : List UInt8) (k : Nat) : bt l k = ch l k := rfl
set_option maxRecDepth 100000 in
set_option maxHeartbeats 4000000 in
theorem FewestOf_calls (a b : List UInt8) (ha : a.length ≤ 100) (hb : b.length ≤ 100) (W : World) :
    Calls Try.prog 42 #[.string ⟨a.toArray⟩, .string ⟨b.toArray⟩] W (Gives (.int .i64 (few a b : Nat)) W) := by
  have S : Ins W [] := Ins.nil _
  obtain ⟨n, hn⟩ : ∃ n, a.length = n := ⟨_, rfl⟩
  obtain ⟨m, hm⟩ : ∃ n, b.length = n := ⟨_, rfl⟩
  rw [hn] at ha
  rw [hm] at hb
  have HF := Lib.hid (show few a b = ed a b n m by rw [← Lcs.ed_few, hn, hm])
  have HN := Lib.hid hn
  have HM := Lib.hid hm
  have hsa : (⟨a.toArray⟩ : ByteArray).size = n := by rw [str_size]; exact hn
  have hsb : (⟨b.toArray⟩ : ByteArray).size = m := by rw [str_size]; exact hm
  clear hn hm
  obtain ⟨M, hM⟩ : ∃ M, m + 1 = M := ⟨_, rfl⟩
  have hMi : (m : Int) + 1 = (M : Int) := by omega
  have hmk := run_make_ints M (by omega)
  go_enter Try.func42, Try.ntmps42
  go_wp2
  clear hmk
  have hI0 := IntsM.zeros W (lo := W.heap.size) (n := M) rfl (Nat.le_refl _) (by omega)
  obtain ⟨u0, hu0⟩ : ∃ q : Later W, W.alloc (.cells (madeCells #[.int .i64 0] M) 3) = q.w := ⟨Later.new _ _, rfl⟩
  rw [hu0] at hI0 ⊢
  obtain ⟨L, hL⟩ : ∃ L, W.heap.size = L := ⟨_, rfl⟩
  rw [hL] at hI0 ⊢
  have HL := Lib.hid hL
  clear hu0 hL
  obtain ⟨f, hf⟩ : ∃ f : Nat → Int, f = fun (j : Nat) => (j : Int) := ⟨_, rfl⟩
  have HFF := Lib.hid hf
  clear hf
  rw [← midL_zero M f] at hI0
  go_loopw [6] (fun i0 wr => ∃ (k : Nat) (y : Later W), wr = y.w ∧ k ≤ M ∧ i0 = .int .i64 k ∧ IntsM L y.w (.slice (some ⟨L, 0, none⟩) M M) (midL M f k)) (fun i0 _ => M - (intOf i0).toNat)
  case atStart => exact ⟨0, u0, rfl, Nat.zero_le _, rfl, hI0⟩
  clear hI0
  obtain ⟨k, u, rfl, hk, rfl, hI⟩ := hrel
  by_cases hlt : k ≤ m
  · have hkM : k < M := by omega
    have HV := Lib.hid (show f k = (k : Int) by rw [HFF.out])
    obtain ⟨g, e1, -, -, hgl, -, hfz, hcl, hI2, hgr⟩ := hI.set (k := k) (by rw [midL_len]; exact hkM) (f k)
    obtain rfl : g = L := (Addr.some_block e1).symm
    clear e1
    obtain ⟨ov, hov⟩ := midL_nth M f (k := k)
    rw [hov] at hcl
    rw [HV.out] at hI2 hgr
    have HGR := Lib.hid hgr
    have HI2 := Lib.hid hI2
    clear hov hgr hI2
    go_wp2
    go_roundw
    case rel =>
      obtain ⟨q, hq⟩ := IntsM.stepB u HL.out hI HGR.out
      have hI3 := HI2.out
      rw [← HV.out, midL_set M f hkM] at hI3
      rw [HV.out] at hI3
      rw [hq] at hI3
      exact ⟨k + 1, q, hq, by omega, by go_num, hI3⟩
    case measure => simp [intOf]; omega
  obtain rfl : M = k := by omega
  have hl0 := hI.ints (by rw [midL_len]; omega)
  rw [show midL M f M = edL a b 0 M by rw [midL_all, edL_zero, HFF.out]] at hl0
  clear hI hk
  go_wp2
  go_loopw [5, 7, 8, 9, 10] (fun lv i0 _ _ _ wr => ∃ (k : Nat) (V : Later W), wr = V.w ∧ k ≤ n ∧ i0 = .int .i64 ((k : Int) + 1) ∧ Ints V.w lv (edL a b k M)) (fun _ i0 _ _ _ _ => n + 1 - (intOf i0).toNat)
  case atStart => exact ⟨0, u, rfl, Nat.zero_le _, by simp, hl0⟩
  clear hl0 hlt
  obtain ⟨k, V, rfl, hk, rfl, hl⟩ := hrel
  obtain ⟨al, nl, cl, rfl⟩ : ∃ a n c, _ = Value.slice a n c := by obtain ⟨a, c, e⟩ := hl.form; exact ⟨a, _, c, e⟩
  obtain rfl : M = nl := by obtain ⟨a, c, e⟩ := hl.form; cases e; exact (edL_len _ _ _ _).symm
  by_cases hlt : k < n
  · have hone := IntsM.one V.w (lo := V.w.heap.size) ((k : Int) + 1) rfl (Nat.le_refl _)
    obtain ⟨u1, hu1⟩ : ∃ q : Later V.w, V.w.alloc (.cells #[.int .i64 ((k : Int) + 1)] 3) = q.w := ⟨Later.new _ _, rfl⟩
    have HU1 := Lib.hid hu1
    rw [hu1] at hone
    clear hu1
    rw [show [((k : Int) + 1)] = edL a b (k + 1) 1 by rw [edL_one]; rfl] at hone
    have hd1 : decide ((k : Int) + 1 ≤ (n : Int)) = true := decide_eq_true (by omega)
    go_wp2
    rw [HU1.out]
    try simp only [hd1]
    clear hd1
    go_loopw [8, 9, 10] (fun nv j0 _ wr => ∃ (q : Nat) (y : Later V.w), wr = y.w ∧ q ≤ m ∧ j0 = .int .i64 ((q : Int) + 1) ∧ IntsM V.w.heap.size y.w nv (edL a b (k + 1) (q + 1))) (fun _ j0 _ _ => m + 1 - (intOf j0).toNat)
    case atStart => exact ⟨0, u1, rfl, Nat.zero_le _, by simp, hone⟩
    clear hone HU1 u1
    obtain ⟨q, y, rfl, hq, rfl, hO⟩ := hrel
    obtain ⟨ao, no, co, rfl⟩ := hO.form'
    obtain rfl : q + 1 = no := by obtain ⟨a, c, e⟩ := hO.form; cases e; exact (edL_len _ _ _ _).symm
    by_cases hqm : q < m
    · have hOi := hO.ints (by rw [edL_len]; omega)
      have hli := hl.later y
      obtain ⟨bo, oo, ko, e, -, hbo, hgo⟩ := hOi.at (k := q) (by rw [edL_len]; omega)
      injection e with e1 e2 e3
      subst e1 e3
      clear e2
      have qn := hgo q (by rw [edL_len]; omega)
      obtain ⟨bl, ol, kl, e, -, hbl, hgl⟩ := hli.at (k := q) (by rw [edL_len]; omega)
      injection e with e1 e2 e3
      subst e1 e3
      clear e2
      have ql := hgl q (by rw [edL_len]; omega)
      have qu := hgl (q + 1) (by rw [edL_len]; omega)
      clear hgo hgl
      rw [edL_nth _ _ _ (by omega)] at qn ql qu
      obtain ⟨x, hx⟩ : ∃ v, ed a b (k + 1) q = v := ⟨_, rfl⟩
      obtain ⟨u', hu⟩ : ∃ v, ed a b k (q + 1) = v := ⟨_, rfl⟩
      obtain ⟨z, hz⟩ : ∃ v, ed a b k q = v := ⟨_, rfl⟩
      have hxl := Lcs.ed_le a b (k + 1) q
      have hul := Lcs.ed_le a b k (q + 1)
      have hzl := Lcs.ed_le a b k q
      rw [hx] at qn hxl
      rw [hu] at qu hul
      rw [hz] at ql hzl
      have hka : k < a.length := by rw [HN.out]; exact hlt
      have hqb : q < b.length := by rw [HM.out]; exact hqm
      have hbk : (a[k]'hka) = ch a k := (bt_eq hka).symm
      have hbq : (b[q]'hqb) = ch b q := (bt_eq hqb).symm
      obtain ⟨mn, hmn⟩ : ∃ v, min x u' = v := ⟨_, rfl⟩
      have hmni : min (x : Int) (u' : Int) = (mn : Int) := by omega
      by_cases hc : ch a k = ch b q
      · obtain ⟨r, hr⟩ : ∃ v, min (mn + 1) z = v := ⟨_, rfl⟩
        have hri : min ((mn : Int) + 1) (z : Int) = (r : Int) := by omega
        have HE := Lib.hid (show ed a b (k + 1) (q + 1) = r by rw [Lcs.ed_eq hc, hx, hu, hz, hmn, hr])
        have hrl : r ≤ 1000 := by omega
        have hia := fun w => run_byte a hka w
        have hib := fun w => run_byte b hqb w
        have hcb : (((bt a k).toNat : Int) == ((bt b q).toNat : Int)) = true := by rw [bt_ch, bt_ch, hc]; simp
        clear hx hu hz hmn hr hc hbk hbq
        go_wp2
        refine Mix.region_mixL (Mix.kinds [] [] []) (by kernel_rfl) (by kernel_rfl) ?_
        repeat ((with_reducible refine Mix.atCons ?_); first | refine Mix.skipU (by rfl) rfl (by rfl) ?_ | (refine Mix.val rfl rfl (by rfl) (fun K hK => ?_); go_big_quiet_op; refine hK _ ?_; clear hK K) | (refine Mix.skip (by rfl) ?_; go_frame))
        refine Mix.valY rfl (by rfl) (.int .i64 (mn : Int)) (fun w' => by simp [go_sem, hmni]) ?_
        try go_frame
        repeat ((with_reducible refine Mix.atCons ?_); first | refine Mix.skipU (by rfl) rfl (by rfl) ?_ | (refine Mix.val rfl rfl (by rfl) (fun K hK => ?_); go_big_quiet_op; refine hK _ ?_; clear hK K) | (refine Mix.skip (by rfl) ?_; go_frame))
        refine Mix.done (fun x0 => ?_)
        go_wp2
        refine Mix.region_mixL (Mix.kinds [] [] []) (by kernel_rfl) (by kernel_rfl) ?_
        repeat ((with_reducible refine Mix.atCons ?_); first | refine Mix.skipU (by rfl) rfl (by rfl) ?_ | (refine Mix.val rfl rfl (by rfl) (fun K hK => ?_); go_big_quiet_op; refine hK _ ?_; clear hK K) | (refine Mix.skip (by rfl) ?_; go_frame))
        refine Mix.done (fun x1 => ?_)
        have ql1 := ((x0.step x1).cell hbl).trans ql
        have hbl1 := Nat.lt_of_lt_of_le hbl (x0.step x1).size
        obtain ⟨v2, q2, hr2, hA2, -⟩ := app_int_stepM (W := V.w) (wr := x1.w) ((y.step x0).step x1).le ((hO.later x0).later x1) (r : Int) (by rw [edL_len]; omega) 22
        have HR2 := Lib.hid hr2
        clear hr2
        rw [← HE.out, ← edL_succ] at hA2
        go_wp2_with ((with_reducible show wpList _ _ _ (⟨some 69, _, _, _, _, _⟩ :: _) _ _); refine Lib.wpList_append_run_sl _ rfl _ _ 22 rfl _ _ rfl rfl HR2.out ?_)
        go_roundw
        case rel => first | exact ⟨q + 1, q2, rfl, by omega, by first | rfl | (congr 1; push_cast; rfl) | (congr 1; push_cast; omega), hA2⟩ | ((repeat apply Exists.intro); exact ⟨⟨q + 1, q2, rfl, by omega, by first | rfl | (congr 1; push_cast; rfl) | (congr 1; push_cast; omega), hA2⟩, rfl⟩)
        case measure => simp [intOf]; omega
      · obtain ⟨r, hr⟩ : ∃ v, mn + 1 = v := ⟨_, rfl⟩
        have hri : (mn : Int) + 1 = (r : Int) := by omega
        have HE := Lib.hid (show ed a b (k + 1) (q + 1) = r by rw [Lcs.ed_ne hc, hx, hu, hmn, hr])
        have hrl : r ≤ 1000 := by omega
        have hia := fun w => run_byte a hka w
        have hib := fun w => run_byte b hqb w
        have hcb : (((bt a k).toNat : Int) == ((bt b q).toNat : Int)) = false := by rw [bt_ch, bt_ch]; simp; exact fun e => hc (UInt8.toNat_inj.1 (by exact_mod_cast e))
        clear hx hu hz hmn hr hc hbk hbq
        go_wp2
        refine Mix.region_mixL (Mix.kinds [] [] []) (by kernel_rfl) (by kernel_rfl) ?_
        repeat ((with_reducible refine Mix.atCons ?_); first | refine Mix.skipU (by rfl) rfl (by rfl) ?_ | (refine Mix.val rfl rfl (by rfl) (fun K hK => ?_); go_big_quiet_op; refine hK _ ?_; clear hK K) | (refine Mix.skip (by rfl) ?_; go_frame))
        refine Mix.valY rfl (by rfl) (.int .i64 (mn : Int)) (fun w' => by simp [go_sem, hmni]) ?_
        try go_frame
        repeat ((with_reducible refine Mix.atCons ?_); first | refine Mix.skipU (by rfl) rfl (by rfl) ?_ | (refine Mix.val rfl rfl (by rfl) (fun K hK => ?_); go_big_quiet_op; refine hK _ ?_; clear hK K) | (refine Mix.skip (by rfl) ?_; go_frame))
        refine Mix.done (fun x0 => ?_)
        go_wp2
        refine Mix.region_mixL (Mix.kinds [] [] []) (by kernel_rfl) (by kernel_rfl) ?_
        repeat ((with_reducible refine Mix.atCons ?_); first | refine Mix.skipU (by rfl) rfl (by rfl) ?_ | (refine Mix.val rfl rfl (by rfl) (fun K hK => ?_); go_big_quiet_op; refine hK _ ?_; clear hK K) | (refine Mix.skip (by rfl) ?_; go_frame))
        refine Mix.done (fun x1 => ?_)
        have ql1 := ((x0.step x1).cell hbl).trans ql
        have hbl1 := Nat.lt_of_lt_of_le hbl (x0.step x1).size
        obtain ⟨v2, q2, hr2, hA2, -⟩ := app_int_stepM (W := V.w) (wr := x1.w) ((y.step x0).step x1).le ((hO.later x0).later x1) (r : Int) (by rw [edL_len]; omega) 22
        have HR2 := Lib.hid hr2
        clear hr2
        rw [← HE.out, ← edL_succ] at hA2
        go_wp2_with ((with_reducible show wpList _ _ _ (⟨some 69, _, _, _, _, _⟩ :: _) _ _); refine Lib.wpList_append_run_sl _ rfl _ _ 22 rfl _ _ rfl rfl HR2.out ?_)
        go_roundw
        case rel => first | exact ⟨q + 1, q2, rfl, by omega, by first | rfl | (congr 1; push_cast; rfl) | (congr 1; push_cast; omega), hA2⟩ | ((repeat apply Exists.intro); exact ⟨⟨q + 1, q2, rfl, by omega, by first | rfl | (congr 1; push_cast; rfl) | (congr 1; push_cast; omega), hA2⟩, rfl⟩)
        case measure => simp [intOf]; omega
    obtain rfl : q = m := by omega
    have hOi := hO.ints (by rw [edL_len]; omega)
    go_wp2
    go_roundw
    case rel => first | exact ⟨k + 1, V.step y, rfl, by omega, by first | rfl | (congr 1; push_cast; rfl) | (congr 1; push_cast; omega), by rw [← hM]; exact hOi⟩ | ((repeat apply Exists.intro); exact ⟨⟨k + 1, V.step y, rfl, by omega, by first | rfl | (congr 1; push_cast; rfl) | (congr 1; push_cast; omega), by rw [← hM]; exact hOi⟩, rfl⟩)
    case measure => simp [intOf]; omega
  obtain rfl : n = k := by omega
  obtain ⟨bl, ol, kl, e, -, hbl, hgl⟩ := hl.at (k := m) (by rw [edL_len]; omega)
  injection e with e1 e2 e3
  subst e1 e3
  clear e2
  have ql := hgl m (by rw [edL_len]; omega)
  rw [edL_nth _ _ _ (by omega), ← HF.out] at ql
  clear hgl
  go_wp2
  go_ret
  exact ⟨rfl, V, rfl⟩
end Go.Proofs.Ytpkgfkeekcgkcaa

/-  The definitions' Fewest, Matches. -/
namespace Go.Proofs.Ytpkgfkeekcgkcaa
open Go.RowKit
open Lcs (ch few)
def fewE (a b : List UInt8) : Int := if txtsE a b = 0 then (few a b : Nat) else 0
theorem txts_ok {a b : List UInt8} (h : txtsE a b = 0) : a.length ≤ 12 ∧ b.length ≤ 12 := by
  have key : ∀ l : List UInt8, txtE l = 0 → l.length ≤ 12 := fun l h => by
    by_cases h1 : 12 < l.length
    · rw [txtE, if_pos h1] at h; cases h
    · omega
  by_cases h1 : txtE a = 0
  · rw [txtsE, if_neg (by simpa using h1)] at h; exact ⟨key a h1, key b h⟩
  · rw [txtsE, if_pos h1] at h; exact absurd h h1
/-- the matches of the first i letters of a, and of the first j letters of b with the next one -/
def mtR (a b : List UInt8) (i j : Nat) : List (Int × Int) := ((List.range j).filter fun (j : Nat) => decide (ch a i = ch b j)).map fun (j : Nat) => ((i : Int), (j : Int))
def mtL (a b : List UInt8) (i : Nat) : List (Int × Int) := (List.range i).flatMap fun i => mtR a b i b.length
def matchL (a b : List UInt8) : List (Int × Int) := mtL a b a.length
theorem mtR_succ (a b : List UInt8) (i j : Nat) : mtR a b i (j + 1) = mtR a b i j ++ if ch a i = ch b j then [((i : Int), (j : Int))] else [] := by
  rw [mtR, List.range_succ, List.filter_append, List.map_append, ← mtR]
  congr 1
  by_cases h : ch a i = ch b j
  · rw [if_pos h, List.filter_cons_of_pos (by simpa using h)]; rfl
  · rw [if_neg h, List.filter_cons_of_neg (by simpa using h)]; rfl
theorem mtL_succ (a b : List UInt8) (i : Nat) : mtL a b (i + 1) = mtL a b i ++ mtR a b i b.length := by
  rw [mtL, List.range_succ, List.flatMap_append, ← mtL]; simp
theorem mtR_len (a b : List UInt8) (i j : Nat) : (mtR a b i j).length ≤ j := by rw [mtR, List.length_map]; exact Nat.le_trans (List.length_filter_le _ _) (by simp)
theorem mtL_len (a b : List UInt8) : ∀ i, (mtL a b i).length ≤ i * b.length
  | 0 => by simp [mtL]
  | i + 1 => by
    have h1 := mtL_len a b i
    have h2 := mtR_len a b i b.length
    rw [mtL_succ, List.length_append, Nat.succ_mul]; omega
def PrsL (l : List (Int × Int)) (W : World) (e : Ending) (w' : World) : Prop := ∃ v, ∃ x : Later W, e = .returned v ∧ w' = x.w ∧ Prs x.w v l
set_option maxRecDepth 100000 in
set_option maxHeartbeats 4000000 in
theorem rFewest_calls (a b : List UInt8) (W : World) : Calls Try.prog 32 #[.string ⟨a.toArray⟩, .string ⟨b.toArray⟩] W (Gives (.tuple #[.int .i64 (fewE a b), .int .i64 (txtsE a b)]) W) := by
  have S : Ins W [] := Ins.nil _
  obtain ⟨E, hE⟩ : ∃ E, txtsE a b = E := ⟨_, rfl⟩
  have HE := Lib.hid hE
  by_cases h0 : E = 0
  rotate_left
  · have HR := Lib.hid (show fewE a b = 0 by rw [fewE, hE, if_neg h0])
    have hne : (E != 0) = true := by simpa using h0
    clear hE
    go_enter Try.func32, Try.ntmps32
    go_wp2_with fail
    refine (Texts_calls a b _).mono ?_
    rintro e w' ⟨rfl, hw⟩
    rw [hw, HE.out]
    clear hw w'
    go_wp2_with fail
    refine (Texts_calls a b _).mono ?_
    rintro e w' ⟨rfl, hw⟩
    rw [hw, HE.out]
    clear hw w'
    go_wp2
    refine bodyPost_ret (v := .tuple #[.int .i64 0, .int .i64 E]) (by simp [results, Try.results32, go_sem]) rfl ?_
    exact ⟨by rw [HR.out, HE.out], Later.self _, rfl⟩
  subst h0
  have hok := txts_ok hE
  have HR := Lib.hid (show fewE a b = (few a b : Nat) by rw [fewE, hE, if_pos rfl])
  obtain ⟨V, hV⟩ : ∃ V, few a b = V := ⟨_, rfl⟩
  have HV := Lib.hid hV
  have ha : a.length ≤ 100 := by omega
  have hb : b.length ≤ 100 := by omega
  clear hE hok hV
  go_enter Try.func32, Try.ntmps32
  go_wp2_with fail
  refine (Texts_calls a b _).mono ?_
  rintro e w' ⟨rfl, hw⟩
  rw [hw, HE.out]
  clear hw w'
  go_wp2_with fail
  refine (FewestOf_calls a b ha hb _).mono ?_
  rintro e w' ⟨rfl, y, rfl⟩
  rw [HV.out]
  replace S := S.later y
  obtain ⟨Y1, hZ⟩ : ∃ Z : Later W, Z.w = y.w := ⟨y, rfl⟩
  rw [← hZ] at S ⊢
  clear hZ
  clear y
  go_wp2
  refine bodyPost_ret (v := .tuple #[.int .i64 (V : Nat), .int .i64 0]) (by simp [results, Try.results32, go_sem]) rfl ?_
  exact ⟨by rw [HR.out, HV.out, HE.out], Y1, rfl⟩
set_option maxRecDepth 100000 in
set_option maxHeartbeats 4000000 in
theorem Matches_calls (a b : List UInt8) (ha : a.length ≤ 100) (hb : b.length ≤ 100) (W : World) : Calls Try.prog 78 #[.string ⟨a.toArray⟩, .string ⟨b.toArray⟩] W (PrsL (matchL a b) W) := by
  have S : Ins W [] := Ins.nil _
  obtain ⟨n, hn⟩ : ∃ n, a.length = n := ⟨_, rfl⟩
  obtain ⟨m, hm⟩ : ∃ n, b.length = n := ⟨_, rfl⟩
  rw [hn] at ha
  rw [hm] at hb
  have HN := Lib.hid hn
  have HM := Lib.hid hm
  have hsa : (⟨a.toArray⟩ : ByteArray).size = n := by rw [str_size]; exact hn
  have hsb : (⟨b.toArray⟩ : ByteArray).size = m := by rw [str_size]; exact hm
  clear hn hm
  go_enter Try.func78, Try.ntmps78
  go_wp2
  go_loopw [5, 6, 7] (fun ov i0 _ wr => ∃ (k : Nat) (u : Later W), wr = u.w ∧ k ≤ n ∧ i0 = .int .i64 k ∧ PrsM W.heap.size u.w ov (mtL a b k)) (fun _ i0 _ _ => n - (intOf i0).toNat)
  case atStart => exact ⟨0, Later.self _, rfl, Nat.zero_le _, rfl, PrsM.nil _ _⟩
  obtain ⟨k, u, rfl, hk, rfl, hO⟩ := hrel
  by_cases hlt : k < n
  · have hd1 : decide ((k : Int) < (n : Int)) = true := decide_eq_true (by omega)
    go_wp2
    try simp only [hd1]
    clear hd1
    go_loopw [5, 7] (fun ov j0 wr => ∃ (q : Nat) (y : Later W), wr = y.w ∧ q ≤ m ∧ j0 = .int .i64 q ∧ PrsM W.heap.size y.w ov (mtL a b k ++ mtR a b k q)) (fun _ j0 _ => m - (intOf j0).toNat)
    case atStart => exact ⟨0, u, rfl, Nat.zero_le _, rfl, by rw [show mtR a b k 0 = [] from rfl, List.append_nil]; exact hO⟩
    clear hO
    obtain ⟨q, y, rfl, hq, rfl, hO⟩ := hrel
    obtain ⟨ao, no, co, rfl⟩ := hO.form'
    by_cases hqm : q < m
    · have hka : k < a.length := by rw [HN.out]; exact hlt
      have hqb : q < b.length := by rw [HM.out]; exact hqm
      have hia := fun w => run_byte a hka w
      have hib := fun w => run_byte b hqb w
      have hln : (mtL a b k ++ mtR a b k q).length ≤ 100000 := by
        have h1 := mtL_len a b k
        have h2 := mtR_len a b k q
        have h3 := Nat.mul_le_mul (show k ≤ 100 by omega) (show b.length ≤ 100 by rw [HM.out]; omega)
        rw [List.length_append]; omega
      have hsx := mtR_succ a b k q
      by_cases hc : ch a k = ch b q
      · rw [if_pos hc] at hsx
        have HSX := Lib.hid hsx
        have hcb : (((bt a k).toNat : Int) == ((bt b q).toNat : Int)) = true := by rw [bt_ch, bt_ch, hc]; simp
        clear hsx hc
        go_wp2
        refine Mix.region_mixL (Mix.kinds [] [] []) (by kernel_rfl) (by kernel_rfl) ?_
        repeat ((with_reducible refine Mix.atCons ?_); first | refine Mix.skipU (by rfl) rfl (by rfl) ?_ | (refine Mix.val rfl rfl (by rfl) (fun K hK => ?_); go_big_quiet_op; refine hK _ ?_; clear hK K) | (refine Mix.skip (by rfl) ?_; go_frame))
        refine Mix.done (fun x0 => ?_)
        obtain ⟨v2, q2, hr2, hA2, -⟩ := app_pair_step (W := W) (wr := x0.w) (y.step x0).le (hO.later x0) (k : Int) (q : Int) (by omega) 44
        have HR2 := Lib.hid hr2
        rw [List.append_assoc, ← HSX.out] at hA2
        clear hr2
        go_wp2_with ((with_reducible show wpList _ _ _ (⟨some 32, _, _, _, _, _⟩ :: _) _ _); refine Lib.wpList_append_run_sl _ rfl _ _ 44 rfl _ _ rfl rfl HR2.out ?_)
        go_roundw
        case rel => exact ⟨q + 1, q2, rfl, by omega, by go_num, hA2⟩
        case measure => simp [intOf]; omega
      · rw [if_neg hc] at hsx
        have HSX := Lib.hid hsx
        have hcb : (((bt a k).toNat : Int) == ((bt b q).toNat : Int)) = false := by rw [bt_ch, bt_ch]; simp; exact fun e => hc (UInt8.toNat_inj.1 (by exact_mod_cast e))
        clear hsx hc
        go_wp2
        refine Mix.region_mixL (Mix.kinds [] [] []) (by kernel_rfl) (by kernel_rfl) ?_
        repeat ((with_reducible refine Mix.atCons ?_); first | refine Mix.skipU (by rfl) rfl (by rfl) ?_ | (refine Mix.val rfl rfl (by rfl) (fun K hK => ?_); go_big_quiet_op; refine hK _ ?_; clear hK K) | (refine Mix.skip (by rfl) ?_; go_frame))
        refine Mix.done (fun x0 => ?_)
        go_wp2
        go_roundw
        case rel => exact ⟨q + 1, y.step x0, rfl, by omega, by go_num, by rw [HSX.out, List.append_nil]; exact hO.later x0⟩
        case measure => simp [intOf]; omega
    obtain rfl : q = m := by omega
    go_wp2
    go_roundw
    case rel => exact ⟨k + 1, y, rfl, by omega, by go_num, by rw [mtL_succ, HM.out]; exact hO⟩
    case measure => simp [intOf]; omega
  obtain rfl : n = k := by omega
  go_wp2
  go_ret
  exact ⟨_, u, rfl, rfl, by rw [matchL, HN.out]; exact hO.prs (by have h1 := mtL_len a b n; have h3 := Nat.mul_le_mul (show n ≤ 100 by omega) (show b.length ≤ 100 by rw [HM.out]; omega); omega)⟩
end Go.Proofs.Ytpkgfkeekcgkcaa

/-  The definitions' LabelsOf, Labels. -/
namespace Go.Proofs.Ytpkgfkeekcgkcaa
open Go.RowKit
open Lcs (ch few)
def befP (p q : Int × Int) : Bool := decide (p.1 < q.1) && decide (p.2 < q.2)
def labN (ps : List (Int × Int)) (ls : List Int) (i : Nat) : Nat → Int
  | 0 => 1
  | j + 1 => if befP (pr ps j) (pr ps i) = true then max (labN ps ls i j) (nth ls j + 1) else labN ps ls i j
/-- the labels of the first matches: how many pairs a common part has at most whose last pair a match is -/
def labL (ps : List (Int × Int)) : Nat → List Int
  | 0 => []
  | i + 1 => labL ps i ++ [labN ps (labL ps i) i i]
theorem labL_len (ps : List (Int × Int)) : ∀ i, (labL ps i).length = i
  | 0 => rfl
  | i + 1 => by rw [labL, List.length_append, labL_len ps i]; rfl
theorem labN_le {ps : List (Int × Int)} {ls : List Int} {B : Int} (h0 : 0 ≤ B) (hB : ∀ j, nth ls j ≤ B) (i : Nat) : ∀ j, 1 ≤ labN ps ls i j ∧ labN ps ls i j ≤ B + 1
  | 0 => by rw [labN]; omega
  | j + 1 => by
    have h1 := labN_le (ps := ps) h0 hB i j
    have h2 := hB j
    rw [labN]; split <;> omega
theorem nth_snoc (xs : List Int) (x : Int) (j : Nat) : nth (xs ++ [x]) j = if j < xs.length then nth xs j else if j = xs.length then x else 0 := by
  rw [nth, nth, List.getD_eq_getElem?_getD, List.getD_eq_getElem?_getD]
  by_cases h : j < xs.length
  · rw [if_pos h, List.getElem?_append_left h]
  · rw [if_neg h]
    by_cases h2 : j = xs.length
    · rw [if_pos h2, h2]; simp
    · rw [if_neg h2, List.getElem?_eq_none (by simp; omega)]; rfl
theorem labL_le (ps : List (Int × Int)) : ∀ i j, 0 ≤ nth (labL ps i) j ∧ nth (labL ps i) j ≤ i
  | 0, j => by rw [labL]; simp [nth]
  | i + 1, j => by
    have h1 := labL_le ps i
    have h2 := labN_le (ps := ps) (ls := labL ps i) (B := i) (by omega) (fun j => (h1 j).2) i i
    rw [labL, nth_snoc]
    split
    · have := h1 j; omega
    · split <;> omega
theorem matchL_len {a b : List UInt8} (ha : a.length ≤ 100) (hb : b.length ≤ 100) : (matchL a b).length ≤ 10000 := by
  have h1 := mtL_len a b a.length
  have h3 := Nat.mul_le_mul ha hb
  rw [matchL]; omega
def GivesL (l : List Int) (W : World) (e : Ending) (w' : World) : Prop := ∃ v, ∃ x : Later W, e = .returned v ∧ w' = x.w ∧ Ints x.w v l
def GivesLE (l : List Int) (E : Int) (W : World) (e : Ending) (w' : World) : Prop := ∃ v, ∃ x : Later W, e = .returned (.tuple #[v, .int .i64 E]) ∧ w' = x.w ∧ Ints x.w v l
def labsL (a b : List UInt8) : List Int := labL (matchL a b) (matchL a b).length
def labelsL (a b : List UInt8) : List Int := if txtsE a b = 0 then labsL a b else []
set_option maxRecDepth 100000 in
set_option maxHeartbeats 4000000 in
theorem LabelsOf_calls (a b : List UInt8) (ha : a.length ≤ 100) (hb : b.length ≤ 100) (W : World) : Calls Try.prog 79 #[.string ⟨a.toArray⟩, .string ⟨b.toArray⟩] W (GivesL (labsL a b) W) := by
  have S : Ins W [] := Ins.nil _
  have hml := matchL_len ha hb
  obtain ⟨ps, hps⟩ : ∃ ps, matchL a b = ps := ⟨_, rfl⟩
  rw [hps] at hml
  have HPS := Lib.hid hps
  rw [labsL, hps]
  clear hps
  obtain ⟨N, hN⟩ : ∃ N, ps.length = N := ⟨_, rfl⟩
  rw [hN] at hml ⊢
  have HN := Lib.hid hN
  clear hN
  go_enter Try.func79, Try.ntmps79
  go_wp2_with fail
  refine (Matches_calls a b ha hb _).mono ?_
  rintro e w' ⟨v, z, rfl, rfl, hP⟩
  rw [HPS.out] at hP
  obtain ⟨am, nm, cm, rfl⟩ : ∃ a n c, v = .slice a n c := by obtain ⟨a, c, e⟩ := hP.form; exact ⟨a, _, c, e⟩
  obtain rfl : N = nm := by obtain ⟨a, c, e⟩ := hP.form; cases e; exact HN.out.symm
  go_wp2
  go_loopw [6, 7, 8, 9] (fun ov i0 _ _ wr => ∃ (k : Nat) (u : Later z.w), wr = u.w ∧ k ≤ N ∧ i0 = .int .i64 k ∧ IntsM z.w.heap.size u.w ov (labL ps k)) (fun _ i0 _ _ _ => N - (intOf i0).toNat)
  case atStart => exact ⟨0, Later.self _, rfl, Nat.zero_le _, rfl, World.ownsRow_nil _ _ _ _⟩
  obtain ⟨k, u, rfl, hk, rfl, hO⟩ := hrel
  obtain ⟨ao, no, co, rfl⟩ := hO.form'
  have HNO := Lib.hid (show no = k by obtain ⟨a, c, e⟩ := hO.form; cases e; exact labL_len _ _)
  by_cases hlt : k < N
  · have hd1 : decide ((k : Int) < (N : Int)) = true := decide_eq_true (by omega)
    go_wp2
    try simp only [hd1]
    clear hd1
    go_loopw [8, 9] (fun nv j0 wr => ∃ (q : Nat) (y : Later z.w), wr = y.w ∧ q ≤ k ∧ j0 = .int .i64 q ∧ nv = .int .i64 (labN ps (labL ps k) k q) ∧ IntsM z.w.heap.size y.w (.slice ao no co) (labL ps k)) (fun _ j0 _ => k - (intOf j0).toNat)
    case atStart => exact ⟨0, u, rfl, Nat.zero_le _, rfl, rfl, hO⟩
    clear hO
    obtain ⟨q, y, rfl, hq, rfl, rfl, hO⟩ := hrel
    obtain ⟨nn, hnn⟩ : ∃ n, labN ps (labL ps k) k q = n := ⟨_, rfl⟩
    have hnb := labN_le (ps := ps) (ls := labL ps k) (B := k) (by omega) (fun j => (labL_le ps k j).2) k q
    rw [hnn] at hnb ⊢
    by_cases hqk : q < k
    · have hqno : q < no := by rw [HNO.out]; exact hqk
      obtain ⟨bm, om, km, e, hkm, hbm, hgm⟩ := (hP.later y).at (k := k) (by rw [HN.out]; exact hlt)
      injection e with e1 e2 e3
      subst e1 e3
      clear e2
      obtain ⟨r1, r2⟩ := hgm k (by rw [HN.out]; exact hlt)
      obtain ⟨p1, p2⟩ := hgm q (by rw [HN.out]; omega)
      clear hgm hkm
      obtain ⟨px, hpx⟩ : ∃ v, (pr ps q).1 = v := ⟨_, rfl⟩
      obtain ⟨py, hpy⟩ : ∃ v, (pr ps q).2 = v := ⟨_, rfl⟩
      obtain ⟨rx, hrx⟩ : ∃ v, (pr ps k).1 = v := ⟨_, rfl⟩
      obtain ⟨ry, hry⟩ : ∃ v, (pr ps k).2 = v := ⟨_, rfl⟩
      rw [hpx] at p1
      rw [hpy] at p2
      rw [hrx] at r1
      rw [hry] at r2
      have hOi := hO.ints (by rw [labL_len]; omega)
      obtain ⟨bo, oo, ko, e, -, hbo, hgo⟩ := hOi.at (k := q) (by rw [labL_len]; exact hqk)
      injection e with e1 e2 e3
      subst e1 e3
      clear e2
      have qn := hgo q (by rw [labL_len]; exact hqk)
      clear hgo hOi
      obtain ⟨lv, hlv⟩ : ∃ v, nth (labL ps k) q = v := ⟨_, rfl⟩
      have hlb := labL_le ps k q
      rw [hlv] at qn hlb
      have hsx : labN ps (labL ps k) k (q + 1) = if (decide (px < rx) && decide (py < ry)) = true then max nn (lv + 1) else nn := by rw [labN, befP, hpx, hpy, hrx, hry, hnn, hlv]
      clear hpx hpy hrx hry hlv
      by_cases h1 : px < rx
      all_goals by_cases h2 : py < ry
      · have d1 : decide (px < rx) = true := by simp; omega
        have d2 : decide (py < ry) = true := by simp; omega
        rw [d1, d2] at hsx
        obtain ⟨mx, hmx⟩ : ∃ v, max nn (lv + 1) = v := ⟨_, rfl⟩
        have HSX := Lib.hid (show labN ps (labL ps k) k (q + 1) = mx by rw [hsx, ← hmx]; rfl)
        have hmx2 : max nn (lv + 1) = mx := hmx
        clear hsx h1 h2
        go_wp2
        refine Mix.region_mixL (Mix.kinds [] [] []) (by kernel_rfl) (by kernel_rfl) ?_
        repeat ((with_reducible refine Mix.atCons ?_); first | refine Mix.skipU (by rfl) rfl (by rfl) ?_ | (refine Mix.val rfl rfl (by rfl) (fun K hK => ?_); go_big_quiet_op; refine hK _ ?_; clear hK K) | (refine Mix.skip (by rfl) ?_; go_frame))
        refine Mix.done (fun x0 => ?_)
        have qn1 := (x0.cell hbo).trans qn
        have hbo1 := Nat.lt_of_lt_of_le hbo x0.size
        go_wp2
        go_roundw
        case rel => exact ⟨q + 1, y.step x0, rfl, by omega, by go_num, by rw [HSX.out], hO.later x0⟩
        case measure => simp [intOf]; omega
      · have d1 : decide (px < rx) = true := by simp; omega
        have d2 : decide (py < ry) = false := by simp; omega
        rw [d1, d2] at hsx
        have HSX := Lib.hid (show labN ps (labL ps k) k (q + 1) = nn by rw [hsx]; rfl)
        clear hsx h1 h2
        go_wp2
        refine Mix.region_mixL (Mix.kinds [] [] []) (by kernel_rfl) (by kernel_rfl) ?_
        repeat ((with_reducible refine Mix.atCons ?_); first | refine Mix.skipU (by rfl) rfl (by rfl) ?_ | (refine Mix.val rfl rfl (by rfl) (fun K hK => ?_); go_big_quiet_op; refine hK _ ?_; clear hK K) | (refine Mix.skip (by rfl) ?_; go_frame))
        refine Mix.done (fun x0 => ?_)
        go_wp2
        go_roundw
        case rel => exact ⟨q + 1, y.step x0, rfl, by omega, by go_num, by rw [HSX.out], hO.later x0⟩
        case measure => simp [intOf]; omega
      · have d1 : decide (px < rx) = false := by simp; omega
        have d2 : decide (py < ry) = true := by simp; omega
        rw [d1, d2] at hsx
        have HSX := Lib.hid (show labN ps (labL ps k) k (q + 1) = nn by rw [hsx]; rfl)
        clear hsx h1 h2
        go_wp2
        refine Mix.region_mixL (Mix.kinds [] [] []) (by kernel_rfl) (by kernel_rfl) ?_
        repeat ((with_reducible refine Mix.atCons ?_); first | refine Mix.skipU (by rfl) rfl (by rfl) ?_ | (refine Mix.val rfl rfl (by rfl) (fun K hK => ?_); go_big_quiet_op; refine hK _ ?_; clear hK K) | (refine Mix.skip (by rfl) ?_; go_frame))
        refine Mix.done (fun x0 => ?_)
        go_wp2
        go_roundw
        case rel => exact ⟨q + 1, y.step x0, rfl, by omega, by go_num, by rw [HSX.out], hO.later x0⟩
        case measure => simp [intOf]; omega
      · have d1 : decide (px < rx) = false := by simp; omega
        have d2 : decide (py < ry) = false := by simp; omega
        rw [d1, d2] at hsx
        have HSX := Lib.hid (show labN ps (labL ps k) k (q + 1) = nn by rw [hsx]; rfl)
        clear hsx h1 h2
        go_wp2
        refine Mix.region_mixL (Mix.kinds [] [] []) (by kernel_rfl) (by kernel_rfl) ?_
        repeat ((with_reducible refine Mix.atCons ?_); first | refine Mix.skipU (by rfl) rfl (by rfl) ?_ | (refine Mix.val rfl rfl (by rfl) (fun K hK => ?_); go_big_quiet_op; refine hK _ ?_; clear hK K) | (refine Mix.skip (by rfl) ?_; go_frame))
        refine Mix.done (fun x0 => ?_)
        go_wp2
        go_roundw
        case rel => exact ⟨q + 1, y.step x0, rfl, by omega, by go_num, by rw [HSX.out], hO.later x0⟩
        case measure => simp [intOf]; omega
    obtain rfl : q = k := by omega
    obtain ⟨v2, q2, hr2, hA2, -⟩ := app_int_stepM (W := z.w) (wr := y.w) y.le hO nn (by rw [labL_len]; omega) 22
    have HR2 := Lib.hid hr2
    clear hr2
    rw [show labL ps q ++ [nn] = labL ps (q + 1) by rw [labL, hnn]] at hA2
    go_wp2_with ((with_reducible show wpList _ _ _ (⟨some 58, _, _, _, _, _⟩ :: _) _ _); refine Lib.wpList_append_run_sl _ rfl _ _ 22 rfl _ _ rfl rfl HR2.out ?_)
    go_roundw
    case rel => exact ⟨q + 1, q2, rfl, by omega, by go_num, hA2⟩
    case measure => simp [intOf]; omega
  obtain rfl : N = k := by omega
  go_wp2
  go_ret
  exact ⟨_, z.step u, rfl, rfl, hO.ints (by rw [labL_len]; omega)⟩
set_option maxRecDepth 100000 in
set_option maxHeartbeats 4000000 in
theorem rLabels_calls (a b : List UInt8) (W : World) : Calls Try.prog 40 #[.string ⟨a.toArray⟩, .string ⟨b.toArray⟩] W (GivesLE (labelsL a b) (txtsE a b) W) := by
  have S : Ins W [] := Ins.nil _
  obtain ⟨E, hE⟩ : ∃ E, txtsE a b = E := ⟨_, rfl⟩
  have HE := Lib.hid hE
  by_cases h0 : E = 0
  rotate_left
  · have HR := Lib.hid (show labelsL a b = [] by rw [labelsL, hE, if_neg h0])
    have hne : (E != 0) = true := by simpa using h0
    clear hE
    go_enter Try.func40, Try.ntmps40
    go_wp2_with fail
    refine (Texts_calls a b _).mono ?_
    rintro e w' ⟨rfl, hw⟩
    rw [hw, HE.out]
    clear hw w'
    go_wp2_with fail
    refine (Texts_calls a b _).mono ?_
    rintro e w' ⟨rfl, hw⟩
    rw [hw, HE.out]
    clear hw w'
    go_wp2
    refine bodyPost_ret (v := .tuple #[.slice none 0 0, .int .i64 E]) (by simp [results, Try.results40, go_sem]) rfl ?_
    exact ⟨_, Later.self _, by rw [HE.out], rfl, by rw [HR.out]; exact Ints.nil _ _⟩
  subst h0
  have hok := txts_ok hE
  have HR := Lib.hid (show labelsL a b = labsL a b by rw [labelsL, hE, if_pos rfl])
  have ha : a.length ≤ 100 := by omega
  have hb : b.length ≤ 100 := by omega
  clear hE hok
  go_enter Try.func40, Try.ntmps40
  go_wp2_with fail
  refine (Texts_calls a b _).mono ?_
  rintro e w' ⟨rfl, hw⟩
  rw [hw, HE.out]
  clear hw w'
  go_wp2_with fail
  refine (LabelsOf_calls a b ha hb _).mono ?_
  rintro e w' ⟨v, x, rfl, rfl, hI⟩
  go_wp2
  refine bodyPost_ret (v := .tuple #[v, .int .i64 0]) (by simp [results, Try.results40, go_sem]) rfl ?_
  exact ⟨_, x, by rw [HE.out], rfl, by rw [HR.out]; exact hI⟩
end Go.Proofs.Ytpkgfkeekcgkcaa

/-  The definitions' CheckLabels. -/
namespace Go.Proofs.Ytpkgfkeekcgkcaa
open Go.RowKit
def outL (x : Int) : Bool := decide (x < 1) || decide (12 < x)
def badP (ps : List (Int × Int)) (ls : List Int) (i k : Nat) : Bool := befP (pr ps k) (pr ps i) && decide (nth ls i ≤ nth ls k)
def anyB (ps : List (Int × Int)) (ls : List Int) : Bool := (List.range ps.length).any fun i => (List.range i).any (badP ps ls i)
def mxF (ls : List Int) : Nat → Int
  | 0 => 0
  | k + 1 => max (mxF ls k) (nth ls k)
def lbE (a b : List UInt8) (ls : List Int) : Int := if txtsE a b ≠ 0 then txtsE a b else if ls.length ≠ (matchL a b).length then 6 else if ls.any outL = true then 3 else if anyB (matchL a b) ls = true then 14 else 0
def lbN (a b : List UInt8) (ls : List Int) : Int := if lbE a b ls = 0 then mxF ls ls.length else 0
theorem lb_len {a b : List UInt8} {ls : List Int} (h : txtsE a b = 0) (h2 : ls.length ≠ (matchL a b).length) : lbE a b ls = 6 ∧ lbN a b ls = 0 := by
  have e : lbE a b ls = 6 := by rw [lbE, if_neg (by simpa using h), if_pos h2]
  exact ⟨e, by rw [lbN, e]; rfl⟩
theorem lb_out {a b : List UInt8} {ls : List Int} (h : txtsE a b = 0) (h2 : ls.length = (matchL a b).length) (h3 : ls.any outL = true) : lbE a b ls = 3 ∧ lbN a b ls = 0 := by
  have e : lbE a b ls = 3 := by rw [lbE, if_neg (by simpa using h), if_neg (by simpa using h2), if_pos h3]
  exact ⟨e, by rw [lbN, e]; rfl⟩
theorem lb_bad {a b : List UInt8} {ls : List Int} (h : txtsE a b = 0) (h2 : ls.length = (matchL a b).length) (h3 : ls.any outL = false) (h4 : anyB (matchL a b) ls = true) : lbE a b ls = 14 ∧ lbN a b ls = 0 := by
  have e : lbE a b ls = 14 := by rw [lbE, if_neg (by simpa using h), if_neg (by simpa using h2), if_neg (by rw [h3]; simp), if_pos h4]
  exact ⟨e, by rw [lbN, e]; rfl⟩
theorem lb_ok {a b : List UInt8} {ls : List Int} (h : txtsE a b = 0) (h2 : ls.length = (matchL a b).length) (h3 : ls.any outL = false) (h4 : anyB (matchL a b) ls = false) : lbE a b ls = 0 ∧ lbN a b ls = mxF ls ls.length := by
  have e : lbE a b ls = 0 := by rw [lbE, if_neg (by simpa using h), if_neg (by simpa using h2), if_neg (by rw [h3]; simp), if_neg (by rw [h4]; simp)]
  exact ⟨e, by rw [lbN, e]; rfl⟩
set_option maxRecDepth 100000 in
set_option maxHeartbeats 4000000 in
theorem rCheckLabels_calls (a b : List UInt8) (lv : Value) (ls : List Int) (W : World) (hx : Ints W lv ls) : Calls Try.prog 37 #[.string ⟨a.toArray⟩, .string ⟨b.toArray⟩, lv] W (Gives (.tuple #[.int .i64 (lbN a b ls), .int .i64 (lbE a b ls)]) W) := by
  have S : Ins W [] := Ins.nil _
  obtain ⟨al, nl, cl, rfl⟩ : ∃ a n c, lv = .slice a n c := by obtain ⟨a, c, e⟩ := hx.form; exact ⟨a, _, c, e⟩
  have HNL := Lib.hid (show nl = ls.length by obtain ⟨a, c, e⟩ := hx.form; cases e; rfl)
  have hll : nl ≤ 9007199254740992 := by rw [HNL.out]; exact hx.1
  obtain ⟨E, hE⟩ : ∃ E, txtsE a b = E := ⟨_, rfl⟩
  have HE := Lib.hid hE
  by_cases h0 : E = 0
  rotate_left
  · have HR := Lib.hid (show lbN a b ls = 0 ∧ lbE a b ls = E by
      have e : lbE a b ls = E := by rw [lbE, hE, if_pos h0]
      exact ⟨by rw [lbN, e, if_neg h0], e⟩)
    have hne : (E != 0) = true := by simpa using h0
    clear hE
    go_enter Try.func37, Try.ntmps37
    go_wp2_with fail
    refine (Texts_calls a b _).mono ?_
    rintro e w' ⟨rfl, hw⟩
    rw [hw, HE.out]
    clear hw w'
    go_wp2_with fail
    refine (Texts_calls a b _).mono ?_
    rintro e w' ⟨rfl, hw⟩
    rw [hw, HE.out]
    clear hw w'
    go_wp2
    refine bodyPost_ret (v := .tuple #[.int .i64 0, .int .i64 E]) (by simp [results, Try.results37, go_sem]) rfl ?_
    exact ⟨by rw [HR.out.1, HR.out.2], Later.self _, rfl⟩
  subst h0
  have hok := txts_ok hE
  have HE0 := Lib.hid hE
  have ha : a.length ≤ 100 := by omega
  have hb : b.length ≤ 100 := by omega
  clear hE hok
  have hml := matchL_len ha hb
  obtain ⟨ps, hps⟩ : ∃ ps, matchL a b = ps := ⟨_, rfl⟩
  rw [hps] at hml
  have HPS := Lib.hid hps
  clear hps
  obtain ⟨N, hN⟩ : ∃ N, ps.length = N := ⟨_, rfl⟩
  rw [hN] at hml
  have HN := Lib.hid hN
  clear hN
  go_enter Try.func37, Try.ntmps37
  go_wp2_with fail
  refine (Texts_calls a b _).mono ?_
  rintro e w' ⟨rfl, hw⟩
  rw [hw, HE.out]
  clear hw w'
  go_wp2_with fail
  refine (Matches_calls a b ha hb _).mono ?_
  rintro e w' ⟨v, z, rfl, rfl, hP⟩
  rw [HPS.out] at hP
  obtain ⟨am, nm, cm, rfl⟩ : ∃ a n c, v = .slice a n c := by obtain ⟨a, c, e⟩ := hP.form; exact ⟨a, _, c, e⟩
  obtain rfl : N = nm := by obtain ⟨a, c, e⟩ := hP.form; cases e; exact HN.out.symm
  replace hx := hx.later z
  by_cases hlen : nl = N
  rotate_left
  · have HR := Lib.hid (lb_len (ls := ls) HE0.out (by rw [HPS.out, HN.out, ← HNL.out]; exact hlen))
    have hne : ((nl : Int) != (N : Int)) = true := by simp; omega
    go_wp2
    refine bodyPost_ret (v := .tuple #[.int .i64 0, .int .i64 6]) (by simp [results, Try.results37, go_sem]) rfl ?_
    exact ⟨by rw [HR.out.1, HR.out.2], z, rfl⟩
  subst hlen
  have HLL := Lib.hid (show ls.length = (matchL a b).length by rw [HPS.out, HN.out, ← HNL.out])
  go_wp2
  go_loopw [9, 10] (fun mv i0 wr => ∃ (k : Nat) (u : Later z.w), wr = u.w ∧ k ≤ nl ∧ i0 = .int .i64 k ∧ mv = .int .i64 (mxF ls k) ∧ Hid (∀ j, j < k → outL (nth ls j) = false)) (fun _ i0 _ => nl - (intOf i0).toNat)
  case atStart => exact ⟨0, Later.self _, rfl, Nat.zero_le _, rfl, rfl, Lib.hid (fun j hj => absurd hj (Nat.not_lt_zero _))⟩
  obtain ⟨k, u, rfl, hk, rfl, rfl, hJ⟩ := hrel
  obtain ⟨mx, hmx⟩ : ∃ v, mxF ls k = v := ⟨_, rfl⟩
  rw [hmx]
  have HMX := Lib.hid hmx
  clear hmx
  by_cases hlt : k < nl
  · obtain ⟨bl, ol, kl, e, -, hbl, hgl⟩ := (hx.later u).at (k := k) (by rw [← HNL.out]; exact hlt)
    injection e with e1 e2 e3
    subst e1 e3
    clear e2
    have ql := hgl k (by rw [← HNL.out]; exact hlt)
    clear hgl
    obtain ⟨x, hxv⟩ : ∃ v, nth ls k = v := ⟨_, rfl⟩
    rw [hxv] at ql
    have HX := Lib.hid hxv
    clear hxv
    by_cases h1 : x < 1 ∨ 12 < x
    · have HR := Lib.hid (lb_out (ls := ls) HE0.out HLL.out (any_at (l := ls) (d := 0) (f := outL) (k := k) (by rw [← HNL.out]; exact hlt) (by show outL (nth ls k) = true; rw [HX.out, outL]; simp; omega)))
      by_cases h2 : x < 1
      · have d1 : decide (x < 1) = true := by simp; omega
        go_wp2
        refine bodyPost_ret (v := .tuple #[.int .i64 0, .int .i64 3]) (by simp [results, Try.results37, go_sem]) rfl ?_
        exact ⟨by rw [HR.out.1, HR.out.2], z.step u, rfl⟩
      · have d1 : decide (x < 1) = false := by simp; omega
        have d2 : decide (12 < x) = true := by simp; omega
        go_wp2
        refine bodyPost_ret (v := .tuple #[.int .i64 0, .int .i64 3]) (by simp [results, Try.results37, go_sem]) rfl ?_
        exact ⟨by rw [HR.out.1, HR.out.2], z.step u, rfl⟩
    · have d1 : decide (x < 1) = false := by simp; omega
      have d2 : decide (12 < x) = false := by simp; omega
      obtain ⟨m2, hm2⟩ : ∃ v, max mx x = v := ⟨_, rfl⟩
      have HM2 := Lib.hid (show mxF ls (k + 1) = m2 by rw [mxF, HMX.out, HX.out, hm2])
      go_wp2
      go_roundw
      case rel => exact ⟨k + 1, u, rfl, by omega, by go_num, by rw [HM2.out], Lib.hid (fun j hj => by
        by_cases h : j = k
        · rw [h, HX.out, outL, d1, d2]; rfl
        · exact hJ.out j (by omega))⟩
      case measure => simp [intOf]; omega
  obtain rfl : nl = k := by omega
  have HOUT := Lib.hid (any_off (l := ls) (d := 0) (f := outL) fun j hj => hJ.out j (by rw [HNL.out]; exact hj))
  clear hJ hk hlt
  go_wp2
  go_loopw [11, 12] (fun i0 _ wr => ∃ (k : Nat) (V : Later z.w), wr = V.w ∧ k ≤ nl ∧ i0 = .int .i64 k ∧ Hid (∀ i, i < k → ∀ j, j < i → badP ps ls i j = false)) (fun i0 _ _ => nl - (intOf i0).toNat)
  case atStart => exact ⟨0, u, rfl, Nat.zero_le _, rfl, Lib.hid (fun j hj => absurd hj (Nat.not_lt_zero _))⟩
  obtain ⟨k, V, rfl, hk, rfl, hJ⟩ := hrel
  by_cases hlt : k < nl
  · have hd1 : decide ((k : Int) < (nl : Int)) = true := decide_eq_true (by omega)
    go_wp2
    try simp only [hd1]
    clear hd1
    go_loopw [12] (fun j0 wr => ∃ (q : Nat) (y : Later z.w), wr = y.w ∧ q ≤ k ∧ j0 = .int .i64 q ∧ Hid (∀ j, j < q → badP ps ls k j = false)) (fun j0 _ => k - (intOf j0).toNat)
    case atStart => exact ⟨0, V, rfl, Nat.zero_le _, rfl, Lib.hid (fun j hj => absurd hj (Nat.not_lt_zero _))⟩
    obtain ⟨q, y, rfl, hq, rfl, hK⟩ := hrel
    by_cases hqk : q < k
    · obtain ⟨bm, om, km, e, hkm, hbm, hgm⟩ := (hP.later y).at (k := k) (by rw [HN.out]; exact hlt)
      injection e with e1 e2 e3
      subst e1 e3
      clear e2
      obtain ⟨r1, r2⟩ := hgm k (by rw [HN.out]; exact hlt)
      obtain ⟨p1, p2⟩ := hgm q (by rw [HN.out]; omega)
      clear hgm hkm
      obtain ⟨bl, ol, kl, e, -, hbl, hgl⟩ := (hx.later y).at (k := k) (by rw [← HNL.out]; exact hlt)
      injection e with e1 e2 e3
      subst e1 e3
      clear e2
      have qk := hgl k (by rw [← HNL.out]; exact hlt)
      have qq := hgl q (by rw [← HNL.out]; omega)
      clear hgl
      obtain ⟨px, hpx⟩ : ∃ v, (pr ps q).1 = v := ⟨_, rfl⟩
      obtain ⟨py, hpy⟩ : ∃ v, (pr ps q).2 = v := ⟨_, rfl⟩
      obtain ⟨rx, hrx⟩ : ∃ v, (pr ps k).1 = v := ⟨_, rfl⟩
      obtain ⟨ry, hry⟩ : ∃ v, (pr ps k).2 = v := ⟨_, rfl⟩
      obtain ⟨lk, hlk⟩ : ∃ v, nth ls k = v := ⟨_, rfl⟩
      obtain ⟨lq, hlq⟩ : ∃ v, nth ls q = v := ⟨_, rfl⟩
      rw [hpx] at p1
      rw [hpy] at p2
      rw [hrx] at r1
      rw [hry] at r2
      rw [hlk] at qk
      rw [hlq] at qq
      have hsx : badP ps ls k q = (decide (px < rx) && decide (py < ry) && decide (lk ≤ lq)) := by rw [badP, befP, hpx, hpy, hrx, hry, hlk, hlq]
      clear hpx hpy hrx hry hlk hlq
      by_cases h1 : px < rx
      all_goals by_cases h2 : py < ry
      all_goals by_cases h3 : lk ≤ lq
      · have d1 : decide (px < rx) = true := by simp; omega
        have d2 : decide (py < ry) = true := by simp; omega
        have d3 : decide (lk ≤ lq) = true := by simp; omega
        rw [d1, d2, d3] at hsx
        have HSX := Lib.hid (show badP ps ls k q = true from hsx)
        clear hsx h1 h2 h3
        go_wp2
        refine Mix.region_mixL (Mix.kinds [] [] []) (by kernel_rfl) (by kernel_rfl) ?_
        repeat ((with_reducible refine Mix.atCons ?_); first | refine Mix.skipU (by rfl) rfl (by rfl) ?_ | (refine Mix.val rfl rfl (by rfl) (fun K hK => ?_); go_big_quiet_op; refine hK _ ?_; clear hK K) | (refine Mix.skip (by rfl) ?_; go_frame))
        refine Mix.done (fun x0 => ?_)
        have HR := Lib.hid (lb_bad (ls := ls) HE0.out HLL.out HOUT.out (List.any_eq_true.2 ⟨k, List.mem_range.2 (by rw [HPS.out, HN.out]; exact hlt), List.any_eq_true.2 ⟨q, List.mem_range.2 hqk, by rw [HPS.out]; exact HSX.out⟩⟩))
        go_wp2
        refine bodyPost_ret (v := .tuple #[.int .i64 0, .int .i64 14]) (by simp [results, Try.results37, go_sem]) rfl ?_
        exact ⟨by rw [HR.out.1, HR.out.2], z.step (y.step x0), rfl⟩
      · have d1 : decide (px < rx) = true := by simp; omega
        have d2 : decide (py < ry) = true := by simp; omega
        have d3 : decide (lk ≤ lq) = false := by simp; omega
        rw [d1, d2, d3] at hsx
        have HSX := Lib.hid (show badP ps ls k q = false from hsx)
        clear hsx h1 h2 h3
        go_wp2
        refine Mix.region_mixL (Mix.kinds [] [] []) (by kernel_rfl) (by kernel_rfl) ?_
        repeat ((with_reducible refine Mix.atCons ?_); first | refine Mix.skipU (by rfl) rfl (by rfl) ?_ | (refine Mix.val rfl rfl (by rfl) (fun K hK => ?_); go_big_quiet_op; refine hK _ ?_; clear hK K) | (refine Mix.skip (by rfl) ?_; go_frame))
        refine Mix.done (fun x0 => ?_)
        go_wp2
        go_roundw
        case rel => exact ⟨q + 1, y.step x0, rfl, by omega, by go_num, Lib.hid (fun j hj => by
          by_cases h : j = q
          · rw [h]; exact HSX.out
          · exact hK.out j (by omega))⟩
        case measure => simp [intOf]; omega
      · have d1 : decide (px < rx) = true := by simp; omega
        have d2 : decide (py < ry) = false := by simp; omega
        have d3 : decide (lk ≤ lq) = true := by simp; omega
        rw [d1, d2, d3] at hsx
        have HSX := Lib.hid (show badP ps ls k q = false from hsx)
        clear hsx h1 h2 h3
        go_wp2
        refine Mix.region_mixL (Mix.kinds [] [] []) (by kernel_rfl) (by kernel_rfl) ?_
        repeat ((with_reducible refine Mix.atCons ?_); first | refine Mix.skipU (by rfl) rfl (by rfl) ?_ | (refine Mix.val rfl rfl (by rfl) (fun K hK => ?_); go_big_quiet_op; refine hK _ ?_; clear hK K) | (refine Mix.skip (by rfl) ?_; go_frame))
        refine Mix.done (fun x0 => ?_)
        go_wp2
        go_roundw
        case rel => exact ⟨q + 1, y.step x0, rfl, by omega, by go_num, Lib.hid (fun j hj => by
          by_cases h : j = q
          · rw [h]; exact HSX.out
          · exact hK.out j (by omega))⟩
        case measure => simp [intOf]; omega
      · have d1 : decide (px < rx) = true := by simp; omega
        have d2 : decide (py < ry) = false := by simp; omega
        have d3 : decide (lk ≤ lq) = false := by simp; omega
        rw [d1, d2, d3] at hsx
        have HSX := Lib.hid (show badP ps ls k q = false from hsx)
        clear hsx h1 h2 h3
        go_wp2
        refine Mix.region_mixL (Mix.kinds [] [] []) (by kernel_rfl) (by kernel_rfl) ?_
        repeat ((with_reducible refine Mix.atCons ?_); first | refine Mix.skipU (by rfl) rfl (by rfl) ?_ | (refine Mix.val rfl rfl (by rfl) (fun K hK => ?_); go_big_quiet_op; refine hK _ ?_; clear hK K) | (refine Mix.skip (by rfl) ?_; go_frame))
        refine Mix.done (fun x0 => ?_)
        go_wp2
        go_roundw
        case rel => exact ⟨q + 1, y.step x0, rfl, by omega, by go_num, Lib.hid (fun j hj => by
          by_cases h : j = q
          · rw [h]; exact HSX.out
          · exact hK.out j (by omega))⟩
        case measure => simp [intOf]; omega
      · have d1 : decide (px < rx) = false := by simp; omega
        have d2 : decide (py < ry) = true := by simp; omega
        have d3 : decide (lk ≤ lq) = true := by simp; omega
        rw [d1, d2, d3] at hsx
        have HSX := Lib.hid (show badP ps ls k q = false from hsx)
        clear hsx h1 h2 h3
        go_wp2
        refine Mix.region_mixL (Mix.kinds [] [] []) (by kernel_rfl) (by kernel_rfl) ?_
        repeat ((with_reducible refine Mix.atCons ?_); first | refine Mix.skipU (by rfl) rfl (by rfl) ?_ | (refine Mix.val rfl rfl (by rfl) (fun K hK => ?_); go_big_quiet_op; refine hK _ ?_; clear hK K) | (refine Mix.skip (by rfl) ?_; go_frame))
        refine Mix.done (fun x0 => ?_)
        go_wp2
        go_roundw
        case rel => exact ⟨q + 1, y.step x0, rfl, by omega, by go_num, Lib.hid (fun j hj => by
          by_cases h : j = q
          · rw [h]; exact HSX.out
          · exact hK.out j (by omega))⟩
        case measure => simp [intOf]; omega
      · have d1 : decide (px < rx) = false := by simp; omega
        have d2 : decide (py < ry) = true := by simp; omega
        have d3 : decide (lk ≤ lq) = false := by simp; omega
        rw [d1, d2, d3] at hsx
        have HSX := Lib.hid (show badP ps ls k q = false from hsx)
        clear hsx h1 h2 h3
        go_wp2
        refine Mix.region_mixL (Mix.kinds [] [] []) (by kernel_rfl) (by kernel_rfl) ?_
        repeat ((with_reducible refine Mix.atCons ?_); first | refine Mix.skipU (by rfl) rfl (by rfl) ?_ | (refine Mix.val rfl rfl (by rfl) (fun K hK => ?_); go_big_quiet_op; refine hK _ ?_; clear hK K) | (refine Mix.skip (by rfl) ?_; go_frame))
        refine Mix.done (fun x0 => ?_)
        go_wp2
        go_roundw
        case rel => exact ⟨q + 1, y.step x0, rfl, by omega, by go_num, Lib.hid (fun j hj => by
          by_cases h : j = q
          · rw [h]; exact HSX.out
          · exact hK.out j (by omega))⟩
        case measure => simp [intOf]; omega
      · have d1 : decide (px < rx) = false := by simp; omega
        have d2 : decide (py < ry) = false := by simp; omega
        have d3 : decide (lk ≤ lq) = true := by simp; omega
        rw [d1, d2, d3] at hsx
        have HSX := Lib.hid (show badP ps ls k q = false from hsx)
        clear hsx h1 h2 h3
        go_wp2
        refine Mix.region_mixL (Mix.kinds [] [] []) (by kernel_rfl) (by kernel_rfl) ?_
        repeat ((with_reducible refine Mix.atCons ?_); first | refine Mix.skipU (by rfl) rfl (by rfl) ?_ | (refine Mix.val rfl rfl (by rfl) (fun K hK => ?_); go_big_quiet_op; refine hK _ ?_; clear hK K) | (refine Mix.skip (by rfl) ?_; go_frame))
        refine Mix.done (fun x0 => ?_)
        go_wp2
        go_roundw
        case rel => exact ⟨q + 1, y.step x0, rfl, by omega, by go_num, Lib.hid (fun j hj => by
          by_cases h : j = q
          · rw [h]; exact HSX.out
          · exact hK.out j (by omega))⟩
        case measure => simp [intOf]; omega
      · have d1 : decide (px < rx) = false := by simp; omega
        have d2 : decide (py < ry) = false := by simp; omega
        have d3 : decide (lk ≤ lq) = false := by simp; omega
        rw [d1, d2, d3] at hsx
        have HSX := Lib.hid (show badP ps ls k q = false from hsx)
        clear hsx h1 h2 h3
        go_wp2
        refine Mix.region_mixL (Mix.kinds [] [] []) (by kernel_rfl) (by kernel_rfl) ?_
        repeat ((with_reducible refine Mix.atCons ?_); first | refine Mix.skipU (by rfl) rfl (by rfl) ?_ | (refine Mix.val rfl rfl (by rfl) (fun K hK => ?_); go_big_quiet_op; refine hK _ ?_; clear hK K) | (refine Mix.skip (by rfl) ?_; go_frame))
        refine Mix.done (fun x0 => ?_)
        go_wp2
        go_roundw
        case rel => exact ⟨q + 1, y.step x0, rfl, by omega, by go_num, Lib.hid (fun j hj => by
          by_cases h : j = q
          · rw [h]; exact HSX.out
          · exact hK.out j (by omega))⟩
        case measure => simp [intOf]; omega
    obtain rfl : q = k := by omega
    go_wp2
    go_roundw
    case rel => exact ⟨q + 1, y, rfl, by omega, by go_num, Lib.hid (fun i hi => by
      by_cases h : i = q
      · rw [h]; exact hK.out
      · exact hJ.out i (by omega))⟩
    case measure => simp [intOf]; omega
  obtain rfl : nl = k := by omega
  have HAN := Lib.hid (show anyB (matchL a b) ls = false by
    cases h : anyB (matchL a b) ls
    · rfl
    · rw [anyB] at h
      obtain ⟨i, hi, h⟩ := List.any_eq_true.1 h
      obtain ⟨j, hj, h⟩ := List.any_eq_true.1 h
      rw [HPS.out, HN.out] at hi
      rw [HPS.out, hJ.out i (List.mem_range.1 hi) j (List.mem_range.1 hj)] at h
      cases h)
  have HR := Lib.hid (lb_ok (ls := ls) HE0.out HLL.out HOUT.out HAN.out)
  go_wp2
  refine bodyPost_ret (v := .tuple #[.int .i64 mx, .int .i64 0]) (by simp [results, Try.results37, go_sem]) rfl ?_
  exact ⟨by rw [HR.out.1, HR.out.2, ← HNL.out, HMX.out], z.step V, rfl⟩
end Go.Proofs.Ytpkgfkeekcgkcaa

/-  The definitions' CheckCommon. -/
namespace Go.Proofs.Ytpkgfkeekcgkcaa
open Go.RowKit
def strayC (n m : Nat) (p : Int × Int) : Bool := decide (p.1 < 0) || decide ((n : Int) ≤ p.1) || decide (p.2 < 0) || decide ((m : Int) ≤ p.2)
def diffC (a b : List UInt8) (p : Int × Int) : Bool := !(bt a p.1.toNat == bt b p.2.toNat)
def stepC (ps : List (Int × Int)) (i : Nat) : Bool := decide (0 < i) && !befP (pr ps (i - 1)) (pr ps i)
def ccE (a b : List UInt8) (ps : List (Int × Int)) : Int := if txtsE a b ≠ 0 then txtsE a b else if ps.any (strayC a.length b.length) = true then 3 else if ps.any (diffC a b) = true then 15 else if (List.range ps.length).any (stepC ps) = true then 14 else 0
def ccN (a b : List UInt8) (ps : List (Int × Int)) : Int := if ccE a b ps = 0 then (ps.length : Int) else 0
theorem cc_stray {a b : List UInt8} {ps : List (Int × Int)} (h : txtsE a b = 0) (h2 : ps.any (strayC a.length b.length) = true) : ccE a b ps = 3 ∧ ccN a b ps = 0 := by
  have e : ccE a b ps = 3 := by rw [ccE, if_neg (by simpa using h), if_pos h2]
  exact ⟨e, by rw [ccN, e]; rfl⟩
theorem cc_diff {a b : List UInt8} {ps : List (Int × Int)} (h : txtsE a b = 0) (h2 : ps.any (strayC a.length b.length) = false) (h3 : ps.any (diffC a b) = true) : ccE a b ps = 15 ∧ ccN a b ps = 0 := by
  have e : ccE a b ps = 15 := by rw [ccE, if_neg (by simpa using h), if_neg (by rw [h2]; simp), if_pos h3]
  exact ⟨e, by rw [ccN, e]; rfl⟩
theorem cc_step {a b : List UInt8} {ps : List (Int × Int)} (h : txtsE a b = 0) (h2 : ps.any (strayC a.length b.length) = false) (h3 : ps.any (diffC a b) = false) (h4 : (List.range ps.length).any (stepC ps) = true) : ccE a b ps = 14 ∧ ccN a b ps = 0 := by
  have e : ccE a b ps = 14 := by rw [ccE, if_neg (by simpa using h), if_neg (by rw [h2]; simp), if_neg (by rw [h3]; simp), if_pos h4]
  exact ⟨e, by rw [ccN, e]; rfl⟩
theorem cc_ok {a b : List UInt8} {ps : List (Int × Int)} (h : txtsE a b = 0) (h2 : ps.any (strayC a.length b.length) = false) (h3 : ps.any (diffC a b) = false) (h4 : (List.range ps.length).any (stepC ps) = false) : ccE a b ps = 0 ∧ ccN a b ps = ps.length := by
  have e : ccE a b ps = 0 := by rw [ccE, if_neg (by simpa using h), if_neg (by rw [h2]; simp), if_neg (by rw [h3]; simp), if_neg (by rw [h4]; simp)]
  exact ⟨e, by rw [ccN, e]; rfl⟩
set_option maxRecDepth 100000 in
set_option maxHeartbeats 8000000 in
theorem rCheckCommon_calls (a b : List UInt8) (pv : Value) (ps : List (Int × Int)) (W : World) (hx : Prs W pv ps) : Calls Try.prog 35 #[.string ⟨a.toArray⟩, .string ⟨b.toArray⟩, pv] W (Gives (.tuple #[.int .i64 (ccN a b ps), .int .i64 (ccE a b ps)]) W) := by
  have S : Ins W [] := Ins.nil _
  obtain ⟨al, nl, cl, rfl⟩ : ∃ a n c, pv = .slice a n c := by obtain ⟨a, c, e⟩ := hx.form; exact ⟨a, _, c, e⟩
  have HNL := Lib.hid (show nl = ps.length by obtain ⟨a, c, e⟩ := hx.form; cases e; rfl)
  have hll : nl ≤ 9007199254740992 := by rw [HNL.out]; exact hx.1
  obtain ⟨E, hE⟩ : ∃ E, txtsE a b = E := ⟨_, rfl⟩
  have HE := Lib.hid hE
  by_cases h0 : E = 0
  rotate_left
  · have HR := Lib.hid (show ccN a b ps = 0 ∧ ccE a b ps = E by
      have e : ccE a b ps = E := by rw [ccE, hE, if_pos h0]
      exact ⟨by rw [ccN, e, if_neg h0], e⟩)
    have hne : (E != 0) = true := by simpa using h0
    clear hE
    go_enter Try.func35, Try.ntmps35
    go_wp2_with fail
    refine (Texts_calls a b _).mono ?_
    rintro e w' ⟨rfl, hw⟩
    rw [hw, HE.out]
    clear hw w'
    go_wp2_with fail
    refine (Texts_calls a b _).mono ?_
    rintro e w' ⟨rfl, hw⟩
    rw [hw, HE.out]
    clear hw w'
    go_wp2
    refine bodyPost_ret (v := .tuple #[.int .i64 0, .int .i64 E]) (by simp [results, Try.results35, go_sem]) rfl ?_
    exact ⟨by rw [HR.out.1, HR.out.2], Later.self _, rfl⟩
  subst h0
  have hok := txts_ok hE
  have HE0 := Lib.hid hE
  obtain ⟨n, hn⟩ : ∃ n, a.length = n := ⟨_, rfl⟩
  obtain ⟨m, hm⟩ : ∃ n, b.length = n := ⟨_, rfl⟩
  rw [hn, hm] at hok
  obtain ⟨ha, hb⟩ := hok
  have HN := Lib.hid hn
  have HM := Lib.hid hm
  have hsa : (⟨a.toArray⟩ : ByteArray).size = n := by rw [str_size]; exact hn
  have hsb : (⟨b.toArray⟩ : ByteArray).size = m := by rw [str_size]; exact hm
  clear hE hn hm
  go_enter Try.func35, Try.ntmps35
  go_wp2_with fail
  refine (Texts_calls a b _).mono ?_
  rintro e w' ⟨rfl, hw⟩
  rw [hw, HE.out]
  clear hw w'
  go_wp2
  go_loopw [8] (fun i0 wr => ∃ (k : Nat), wr = W ∧ k ≤ nl ∧ i0 = .int .i64 k ∧ Hid (∀ j, j < k → strayC n m (pr ps j) = false)) (fun i0 _ => nl - (intOf i0).toNat)
  case atStart => exact ⟨0, rfl, Nat.zero_le _, rfl, Lib.hid (fun j hj => absurd hj (Nat.not_lt_zero _))⟩
  obtain ⟨k, hwr, hk, rfl, hJ⟩ := hrel
  rw [hwr]
  clear hwr
  by_cases hlt : k < nl
  · obtain ⟨bm, om, km, e, hkm, hbm, hgm⟩ := hx.at (k := k) (by rw [← HNL.out]; exact hlt)
    injection e with e1 e2 e3
    subst e1 e3
    clear e2
    obtain ⟨p1, p2⟩ := hgm k (by rw [← HNL.out]; omega)
    obtain ⟨px, hpx⟩ : ∃ v, (pr ps (k)).1 = v := ⟨_, rfl⟩
    obtain ⟨py, hpy⟩ : ∃ v, (pr ps (k)).2 = v := ⟨_, rfl⟩
    rw [hpx] at p1
    rw [hpy] at p2
    clear hgm hkm
    have hsx : strayC n m (pr ps k) = (decide (px < 0) || decide ((n : Int) ≤ px) || decide (py < 0) || decide ((m : Int) ≤ py)) := by rw [strayC, hpx, hpy]
    clear hpx hpy
    by_cases h1 : px < 0
    rotate_left
    by_cases h2 : (n : Int) ≤ px
    rotate_left
    by_cases h3 : py < 0
    rotate_left
    by_cases h4 : (m : Int) ≤ py
    rotate_left
    · have d0 : decide (px < 0) = false := by simp; omega
      have d1 : decide ((n : Int) ≤ px) = false := by simp; omega
      have d2 : decide (py < 0) = false := by simp; omega
      have d3 : decide ((m : Int) ≤ py) = false := by simp; omega
      rw [d0, d1, d2, d3] at hsx
      have HSX := Lib.hid (show strayC n m (pr ps k) = false by rw [hsx]; simp)
      clear hsx
      go_wp2
      go_roundw
      case rel => exact ⟨k + 1, by trivial, by omega, by go_num, Lib.hid (fun j hj => by
        by_cases h : j = k
        · rw [h]; exact HSX.out
        · exact hJ.out j (by omega))⟩
      case measure => simp [intOf]; omega
    · have d0 : decide (px < 0) = true := by simp; omega
      rw [d0] at hsx
      have HSX := Lib.hid (show strayC n m (pr ps k) = true by rw [hsx]; simp)
      clear hsx
      have HR := Lib.hid (cc_stray (ps := ps) HE0.out (any_at (l := ps) (d := (0, 0)) (f := strayC a.length b.length) (k := k) (by rw [← HNL.out]; exact hlt) (by rw [HN.out, HM.out]; exact HSX.out)))
      go_wp2
      refine bodyPost_ret (v := .tuple #[.int .i64 0, .int .i64 3]) (by simp [results, Try.results35, go_sem]) rfl ?_
      exact ⟨by rw [HR.out.1, HR.out.2], Later.self _, rfl⟩
    · have d0 : decide (px < 0) = false := by simp; omega
      have d1 : decide ((n : Int) ≤ px) = true := by simp; omega
      rw [d0, d1] at hsx
      have HSX := Lib.hid (show strayC n m (pr ps k) = true by rw [hsx]; simp)
      clear hsx
      have HR := Lib.hid (cc_stray (ps := ps) HE0.out (any_at (l := ps) (d := (0, 0)) (f := strayC a.length b.length) (k := k) (by rw [← HNL.out]; exact hlt) (by rw [HN.out, HM.out]; exact HSX.out)))
      go_wp2
      refine bodyPost_ret (v := .tuple #[.int .i64 0, .int .i64 3]) (by simp [results, Try.results35, go_sem]) rfl ?_
      exact ⟨by rw [HR.out.1, HR.out.2], Later.self _, rfl⟩
    · have d0 : decide (px < 0) = false := by simp; omega
      have d1 : decide ((n : Int) ≤ px) = false := by simp; omega
      have d2 : decide (py < 0) = true := by simp; omega
      rw [d0, d1, d2] at hsx
      have HSX := Lib.hid (show strayC n m (pr ps k) = true by rw [hsx]; simp)
      clear hsx
      have HR := Lib.hid (cc_stray (ps := ps) HE0.out (any_at (l := ps) (d := (0, 0)) (f := strayC a.length b.length) (k := k) (by rw [← HNL.out]; exact hlt) (by rw [HN.out, HM.out]; exact HSX.out)))
      go_wp2
      refine bodyPost_ret (v := .tuple #[.int .i64 0, .int .i64 3]) (by simp [results, Try.results35, go_sem]) rfl ?_
      exact ⟨by rw [HR.out.1, HR.out.2], Later.self _, rfl⟩
    · have d0 : decide (px < 0) = false := by simp; omega
      have d1 : decide ((n : Int) ≤ px) = false := by simp; omega
      have d2 : decide (py < 0) = false := by simp; omega
      have d3 : decide ((m : Int) ≤ py) = true := by simp; omega
      rw [d0, d1, d2, d3] at hsx
      have HSX := Lib.hid (show strayC n m (pr ps k) = true by rw [hsx]; simp)
      clear hsx
      have HR := Lib.hid (cc_stray (ps := ps) HE0.out (any_at (l := ps) (d := (0, 0)) (f := strayC a.length b.length) (k := k) (by rw [← HNL.out]; exact hlt) (by rw [HN.out, HM.out]; exact HSX.out)))
      go_wp2
      refine bodyPost_ret (v := .tuple #[.int .i64 0, .int .i64 3]) (by simp [results, Try.results35, go_sem]) rfl ?_
      exact ⟨by rw [HR.out.1, HR.out.2], Later.self _, rfl⟩
  obtain rfl : nl = k := by omega
  have HST := Lib.hid (show ps.any (strayC a.length b.length) = false by rw [HN.out, HM.out]; exact any_off (l := ps) (d := (0, 0)) (f := strayC n m) fun j hj => hJ.out j (by rw [HNL.out]; exact hj))
  have HIN := Lib.hid hJ.out
  clear hJ hk hlt
  go_wp2
  go_loopw [9] (fun i0 wr => ∃ (k : Nat) (u : Later W), wr = u.w ∧ k ≤ nl ∧ i0 = .int .i64 k ∧ Hid (∀ j, j < k → diffC a b (pr ps j) = false)) (fun i0 _ => nl - (intOf i0).toNat)
  case atStart => exact ⟨0, Later.self _, rfl, Nat.zero_le _, rfl, Lib.hid (fun j hj => absurd hj (Nat.not_lt_zero _))⟩
  obtain ⟨k, u, rfl, hk, rfl, hJ⟩ := hrel
  by_cases hlt : k < nl
  · obtain ⟨bm, om, km, e, hkm, hbm, hgm⟩ := (hx.later u).at (k := k) (by rw [← HNL.out]; exact hlt)
    injection e with e1 e2 e3
    subst e1 e3
    clear e2
    obtain ⟨p1, p2⟩ := hgm k (by rw [← HNL.out]; omega)
    obtain ⟨px, hpx⟩ : ∃ v, (pr ps (k)).1 = v := ⟨_, rfl⟩
    obtain ⟨py, hpy⟩ : ∃ v, (pr ps (k)).2 = v := ⟨_, rfl⟩
    rw [hpx] at p1
    rw [hpy] at p2
    clear hgm hkm
    have hin := HIN.out k hlt
    rw [strayC, hpx, hpy] at hin
    simp only [Bool.or_eq_false_iff, decide_eq_false_iff_not] at hin
    obtain ⟨x, rfl⟩ := Int.eq_ofNat_of_zero_le (show 0 ≤ px by omega)
    obtain ⟨y, rfl⟩ := Int.eq_ofNat_of_zero_le (show 0 ≤ py by omega)
    have hxa : x < a.length := by rw [HN.out]; omega
    have hyb : y < b.length := by rw [HM.out]; omega
    have hia := fun w => run_byte a hxa w
    have hib := fun w => run_byte b hyb w
    have hsx : diffC a b (pr ps k) = !(bt a x == bt b y) := by rw [diffC, hpx, hpy]; rfl
    clear hpx hpy hin
    by_cases hc : bt a x = bt b y
    · have HSX := Lib.hid (show diffC a b (pr ps k) = false by rw [hsx]; simp [hc])
      have hcb : (((bt a x).toNat : Int) != ((bt b y).toNat : Int)) = false := by rw [hc]; simp
      clear hsx hc
      go_wp2
      refine Mix.region_mixL (Mix.kinds [] [] []) (by kernel_rfl) (by kernel_rfl) ?_
      repeat ((with_reducible refine Mix.atCons ?_); first | refine Mix.skipU (by rfl) rfl (by rfl) ?_ | (refine Mix.val rfl rfl (by rfl) (fun K hK => ?_); go_big_quiet_op; refine hK _ ?_; clear hK K) | (refine Mix.skip (by rfl) ?_; go_frame))
      refine Mix.done (fun x0 => ?_)
      go_wp2
      go_roundw
      case rel => exact ⟨k + 1, u.step x0, rfl, by omega, by go_num, Lib.hid (fun j hj => by
        by_cases h : j = k
        · rw [h]; exact HSX.out
        · exact hJ.out j (by omega))⟩
      case measure => simp [intOf]; omega
    · have HSX := Lib.hid (show diffC a b (pr ps k) = true by rw [hsx]; simp [hc])
      have hcb : (((bt a x).toNat : Int) != ((bt b y).toNat : Int)) = true := by simp; exact fun e => hc (UInt8.toNat_inj.1 (by exact_mod_cast e))
      clear hsx hc
      go_wp2
      refine Mix.region_mixL (Mix.kinds [] [] []) (by kernel_rfl) (by kernel_rfl) ?_
      repeat ((with_reducible refine Mix.atCons ?_); first | refine Mix.skipU (by rfl) rfl (by rfl) ?_ | (refine Mix.val rfl rfl (by rfl) (fun K hK => ?_); go_big_quiet_op; refine hK _ ?_; clear hK K) | (refine Mix.skip (by rfl) ?_; go_frame))
      refine Mix.done (fun x0 => ?_)
      have HR := Lib.hid (cc_diff (ps := ps) HE0.out HST.out (any_at (l := ps) (d := (0, 0)) (f := diffC a b) (k := k) (by rw [← HNL.out]; exact hlt) HSX.out))
      go_wp2
      refine bodyPost_ret (v := .tuple #[.int .i64 0, .int .i64 15]) (by simp [results, Try.results35, go_sem]) rfl ?_
      exact ⟨by rw [HR.out.1, HR.out.2], u.step x0, rfl⟩
  obtain rfl : nl = k := by omega
  have HDF := Lib.hid (any_off (l := ps) (d := (0, 0)) (f := diffC a b) fun j hj => hJ.out j (by rw [HNL.out]; exact hj))
  clear hJ hk hlt HIN
  go_wp2
  go_loopw [10] (fun i0 wr => ∃ (k : Nat) (V : Later W), wr = V.w ∧ (k ≤ nl ∨ k = 1) ∧ 1 ≤ k ∧ i0 = .int .i64 k ∧ Hid (∀ j, j < k → stepC ps j = false)) (fun i0 _ => nl - (intOf i0).toNat)
  case atStart => exact ⟨1, u, rfl, .inr rfl, Nat.le_refl _, rfl, Lib.hid (fun j hj => by
    obtain rfl : j = 0 := by omega
    rfl)⟩
  obtain ⟨k, V, rfl, hk, hk1, rfl, hJ⟩ := hrel
  by_cases hlt : k < nl
  · obtain ⟨j, rfl⟩ : ∃ j, k = j + 1 := ⟨k - 1, by omega⟩
    obtain ⟨bm, om, km, e, hkm, hbm, hgm⟩ := (hx.later V).at (k := (j + 1)) (by rw [← HNL.out]; exact hlt)
    injection e with e1 e2 e3
    subst e1 e3
    clear e2
    obtain ⟨p1, p2⟩ := hgm (j + 1) (by rw [← HNL.out]; omega)
    obtain ⟨px, hpx⟩ : ∃ v, (pr ps ((j + 1))).1 = v := ⟨_, rfl⟩
    obtain ⟨py, hpy⟩ : ∃ v, (pr ps ((j + 1))).2 = v := ⟨_, rfl⟩
    rw [hpx] at p1
    rw [hpy] at p2
    obtain ⟨r1, r2⟩ := hgm j (by rw [← HNL.out]; omega)
    obtain ⟨rx, hrx⟩ : ∃ v, (pr ps (j)).1 = v := ⟨_, rfl⟩
    obtain ⟨ry, hry⟩ : ∃ v, (pr ps (j)).2 = v := ⟨_, rfl⟩
    rw [hrx] at r1
    rw [hry] at r2
    clear hgm hkm
    have hsx : stepC ps (j + 1) = !(decide (rx < px) && decide (ry < py)) := by rw [stepC, Nat.add_sub_cancel, befP, hpx, hpy, hrx, hry]; simp
    clear hpx hpy hrx hry
    by_cases h1 : px ≤ rx
    rotate_left
    by_cases h2 : py ≤ ry
    rotate_left
    · have d0 : decide (px ≤ rx) = false := by simp; omega
      have d1 : decide (py ≤ ry) = false := by simp; omega
      have HSX := Lib.hid (show stepC ps (j + 1) = false by rw [hsx]; simp; omega)
      clear hsx
      go_wp2
      refine Mix.region_mixL (Mix.kinds [] [] []) (by kernel_rfl) (by kernel_rfl) ?_
      repeat ((with_reducible refine Mix.atCons ?_); first | refine Mix.skipU (by rfl) rfl (by rfl) ?_ | (refine Mix.val rfl rfl (by rfl) (fun K hK => ?_); go_big_quiet_op; refine hK _ ?_; clear hK K) | (refine Mix.skip (by rfl) ?_; go_frame))
      refine Mix.done (fun x0 => ?_)
      go_wp2
      go_roundw
      case rel => exact ⟨j + 1 + 1, V.step x0, rfl, by omega, by omega, by go_num, Lib.hid (fun i hi => by
        by_cases h : i = j + 1
        · rw [h]; exact HSX.out
        · exact hJ.out i (by omega))⟩
      case measure => simp [intOf]; omega
    · have d0 : decide (px ≤ rx) = true := by simp; omega
      have HSX := Lib.hid (show stepC ps (j + 1) = true by rw [hsx]; simp; omega)
      clear hsx
      go_wp2
      refine Mix.region_mixL (Mix.kinds [] [] []) (by kernel_rfl) (by kernel_rfl) ?_
      repeat ((with_reducible refine Mix.atCons ?_); first | refine Mix.skipU (by rfl) rfl (by rfl) ?_ | (refine Mix.val rfl rfl (by rfl) (fun K hK => ?_); go_big_quiet_op; refine hK _ ?_; clear hK K) | (refine Mix.skip (by rfl) ?_; go_frame))
      refine Mix.done (fun x0 => ?_)
      have HR := Lib.hid (cc_step (ps := ps) HE0.out HST.out HDF.out (List.any_eq_true.2 ⟨j + 1, List.mem_range.2 (by rw [← HNL.out]; exact hlt), HSX.out⟩))
      go_wp2
      refine bodyPost_ret (v := .tuple #[.int .i64 0, .int .i64 14]) (by simp [results, Try.results35, go_sem]) rfl ?_
      exact ⟨by rw [HR.out.1, HR.out.2], V.step x0, rfl⟩
    · have d0 : decide (px ≤ rx) = false := by simp; omega
      have d1 : decide (py ≤ ry) = true := by simp; omega
      have HSX := Lib.hid (show stepC ps (j + 1) = true by rw [hsx]; simp; omega)
      clear hsx
      go_wp2
      refine Mix.region_mixL (Mix.kinds [] [] []) (by kernel_rfl) (by kernel_rfl) ?_
      repeat ((with_reducible refine Mix.atCons ?_); first | refine Mix.skipU (by rfl) rfl (by rfl) ?_ | (refine Mix.val rfl rfl (by rfl) (fun K hK => ?_); go_big_quiet_op; refine hK _ ?_; clear hK K) | (refine Mix.skip (by rfl) ?_; go_frame))
      refine Mix.done (fun x0 => ?_)
      have HR := Lib.hid (cc_step (ps := ps) HE0.out HST.out HDF.out (List.any_eq_true.2 ⟨j + 1, List.mem_range.2 (by rw [← HNL.out]; exact hlt), HSX.out⟩))
      go_wp2
      refine bodyPost_ret (v := .tuple #[.int .i64 0, .int .i64 14]) (by simp [results, Try.results35, go_sem]) rfl ?_
      exact ⟨by rw [HR.out.1, HR.out.2], V.step x0, rfl⟩
  have HAN := Lib.hid (show (List.range ps.length).any (stepC ps) = false by
    cases h : (List.range ps.length).any (stepC ps)
    · rfl
    · obtain ⟨i, hi, h⟩ := List.any_eq_true.1 h
      have hi := List.mem_range.1 hi
      rw [hJ.out i (by rw [← HNL.out] at hi; omega)] at h
      cases h)
  have HR := Lib.hid (cc_ok (ps := ps) HE0.out HST.out HDF.out HAN.out)
  go_wp2
  refine bodyPost_ret (v := .tuple #[.int .i64 nl, .int .i64 0]) (by simp [results, Try.results35, go_sem]) rfl ?_
  exact ⟨by rw [HR.out.1, HR.out.2, ← HNL.out], V, rfl⟩
end Go.Proofs.Ytpkgfkeekcgkcaa
