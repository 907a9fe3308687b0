import Derived.Test.YtbjmfhlkmklmmaaKFlat
import Derived.Test.YtbjmfhlkmklmmaaKRef
/-  Blow, Flatten, Lost of the program. -/
namespace Go.Proofs.Ytbjmfhlkmklmmaa
open Go.RowKit

theorem But.under {n m b : Nat} {X Y : World} (h : But n b X Y) (hb : m ≤ b) (hn : m ≤ n) : Below m X Y := ⟨h.os, h.tape, h.output, h.size, fun k hk => h.block k (by omega) (by omega)⟩
theorem tame_low {w h : Nat} {d : List Int} (hl : d.length = w * h) (hlow : low w h d) : tame (pad (ofL d)) 1000000000 := tame_pad fun j hj => by
  by_cases e : j < w * h
  · have := hlow j e; omega
  · rw [show ofL d j = 0 by simp [ofL, List.getElem?_eq_none (show d.length ≤ j by omega)]]; omega
theorem tame_zero : tame (pad fun _ => 0) 1000000000 := tame_pad fun j hj => by omega
set_option maxRecDepth 100000 in
set_option maxHeartbeats 2000000 in
theorem Blow_calls (w h p : Int) (dv : Value) (d : List Int) (W : World) (hd : Ints W dv d) :
    Calls Try.prog 20 #[.agg #[.int .i64 w, .int .i64 h, dv], .int .i64 p] W (GivesLE (blowL w h d p) (blowE w h d p) W) := by
  have hdl := hd.1
  obtain ⟨a, c, rfl⟩ := hd.form
  go_enter Try.func20, Try.ntmps20
  go_wp2_with fail
  obtain ⟨B, hB⟩ : ∃ B, B = W.heap.size := ⟨_, rfl⟩
  obtain ⟨z, hz⟩ : ∃ z : Later W, z.w = W.alloc (.cells #[.int .i64 w, .int .i64 h, .slice a d.length c] 24) := ⟨Later.new _ _, rfl⟩
  have c0 : z.w.cell? ⟨B, 0, none⟩ = some (.int .i64 w) := by rw [hz, hB]; simp [go_sem]
  have c1 : z.w.cell? ⟨B, 1, none⟩ = some (.int .i64 h) := by rw [hz, hB]; simp [go_sem]
  have c2 : z.w.cell? ⟨B, 2, none⟩ = some (.slice a d.length c) := by rw [hz, hB]; simp [go_sem]
  have hBz : B < z.w.heap.size := by rw [hz, hB]; simp [go_sem]
  have HZ : Hid (z.w.heap.size = B + 1) := Lib.hid (by rw [hz, hB]; simp)
  rw [← hz, ← hB]
  replace hd := hd.later z
  clear hz hB
  refine (open_calls w h _ d _ hd).mono ?_
  rintro e w' ⟨v, x, rfl, rfl, hif⟩
  have gB0 : x.w.cell? ⟨B, 0, none⟩ = some (.int .i64 w) := ((x).cell hBz).trans c0
  have gB1 : x.w.cell? ⟨B, 1, none⟩ = some (.int .i64 h) := ((x).cell hBz).trans c1
  have gB2 : x.w.cell? ⟨B, 2, none⟩ = some (.slice a d.length c) := ((x).cell hBz).trans c2
  have sB : B < x.w.heap.size := Nat.lt_of_lt_of_le hBz (x).size
  by_cases hv : vplate w h d = 0
  rotate_left
  · have hE := Lib.hid (show blowE w h d p = vplate w h d by rw [blowE, if_pos hv])
    have hL := Lib.hid (show blowL w h d p = [] by rw [blowL, if_neg (by rw [hE.out]; exact hv)])
    rw [if_neg hv] at hif
    subst hif
    have hb2 : (vplate w h d != 0) = true := by simpa using hv
    go_wp2
    go_ret2
    exact ⟨.slice none 0 0, z.step x, ret_le hE.out.symm, rfl, by rw [hL.out]; exact Ints.nil _ _⟩
  · have hv0 := hv
    rw [if_pos hv] at hif
    obtain ⟨b, rfl, hbz, hbk⟩ := hif
    obtain ⟨wn, hn, rfl, rfl, hs, hl, hlo⟩ := vplate_zero hv
    have hlow := vplate_low hl hlo
    have HL := Lib.hid hl
    have h36 : wn * hn ≤ 36 := Nat.mul_le_mul hs.2.1 hs.2.2.2
    have h1w : 1 ≤ wn * hn := Nat.mul_le_mul hs.1 hs.2.2.1
    clear hl hlo
    rw [hv]
    by_cases hp : p < 0 ∨ (d.length : Int) ≤ p
    · have hE := Lib.hid (show blowE wn hn d p = 2 by rw [blowE, if_neg (by rw [hv0]; simp), if_pos hp])
      have hL := Lib.hid (show blowL wn hn d p = [] by rw [blowL, if_neg (by rw [hE.out]; simp)])
      clear hv hv0
      rcases hp with hp | hp
      · go_wp2
        go_ret2
        exact ⟨.slice none 0 0, z.step x, ret_le hE.out.symm, rfl, by rw [hL.out]; exact Ints.nil _ _⟩
      · have hp0 : ¬ p < 0 := by omega
        go_wp2
        go_ret2
        exact ⟨.slice none 0 0, z.step x, ret_le hE.out.symm, rfl, by rw [hL.out]; exact Ints.nil _ _⟩
    · obtain ⟨k, rfl⟩ : ∃ k : Nat, p = k := ⟨p.toNat, by omega⟩
      have hkl : k < d.length := by omega
      have hkl2 : ¬ (d.length : Int) ≤ k := by omega
      obtain ⟨bd, od, cd, e, hcd, hbd, hgd⟩ := hd.at hkl
      cases e
      have gd := (x.cell hbd).trans (hgd k hkl)
      have lbd : bd < x.w.heap.size := Nat.lt_of_lt_of_le hbd x.size
      clear hgd
      by_cases h4 : nth d k ≤ 3
      · have hE := Lib.hid (show blowE wn hn d k = 9 by rw [blowE, if_neg (by rw [hv0]; simp), if_neg hp, Int.toNat_natCast, if_pos (by rw [← nth_ofL]; omega)])
        have hL := Lib.hid (show blowL wn hn d k = [] by rw [blowL, if_neg (by rw [hE.out]; simp)])
        clear hv hv0 hp
        go_wp2
        go_ret2
        exact ⟨.slice none 0 0, z.step x, ret_le hE.out.symm, rfl, by rw [hL.out]; exact Ints.nil _ _⟩
      · have hE := Lib.hid (show blowE wn hn d k = 0 by rw [blowE, if_neg (by rw [hv0]; simp), if_neg hp, Int.toNat_natCast, if_neg (by rw [← nth_ofL]; omega)])
        have hL := Lib.hid (show blowL wn hn d k = hitL wn hn d k 1 by rw [blowL, if_pos hE.out, Int.toNat_natCast, Int.toNat_natCast, Int.toNat_natCast])
        have hkw : k < wn * hn := by rw [← HL.out]; exact hkl
        have hH := Lib.hid (hit_calls b wn hn k 1 _ _ _ hs hkw x.w hbk (tame_low HL.out hlow) tame_zero (by omega) (by omega))
        clear hv hv0 hp
        go_wp2_with fail
        refine hH.out.mono ?_
        rintro e w' ⟨⟨v, rfl⟩, hbk2, hbut⟩
        rw [hitL_pad hs HL.out hkw] at hbk2
        obtain ⟨Y, hY⟩ : ∃ Y : Later z.w, w' = Y.w := ⟨⟨w', x.le.trans (hbut.under hbz x.size)⟩, rfl⟩
        rw [hY] at hbk2 ⊢
        have hrn := hbk2.rangeN
        have lb2 := hbk2.lt
        clear hY
        go_wp2_with ((with_reducible show wpList _ _ _ (⟨some 41, _, _, _, _, _⟩ :: _) _ _); refine wpList_load_dents rfl _ rfl b 3 rfl (pad (ofL (hitL wn hn d k 1))) (pad_len _) hrn ?_)
        refine (list_calls b wn hn _ _ _ _ _ hbk2 (pad_len _) h36).mono ?_
        rintro e w' ⟨lv, y, rfl, rfl, hR⟩
        rw [take_pad (by rw [hitL_len]; exact HL.out) h36] at hR
        obtain ⟨al, nl, cl, rfl⟩ : ∃ a n c, lv = .slice a n c := by obtain ⟨a, c, e⟩ := hR.form; exact ⟨a, _, c, e⟩
        go_wp2
        go_ret2
        exact ⟨_, (z.step Y).step y, ret_le hE.out.symm, rfl, by rw [hL.out]; exact hR⟩

end Go.Proofs.Ytbjmfhlkmklmmaa

/-  Flatten, Lost of the program. -/
namespace Go.Proofs.Ytbjmfhlkmklmmaa
open Go.RowKit

theorem zpad {U : List Int} : (pad fun j => (0 : Int) + ofL U j) = pad (ofL U) := pad_congr fun _ _ => Int.zero_add _
set_option maxRecDepth 100000 in
set_option maxHeartbeats 2000000 in
theorem Flatten_calls (w h : Int) (dv : Value) (d : List Int) (W : World) (hd : Ints W dv d) :
    Calls Try.prog 27 #[.agg #[.int .i64 w, .int .i64 h, dv]] W (GivesLLE (flatX w h d) (flatU w h d) (vplate w h d) W) := by
  have hdl := hd.1
  obtain ⟨a, c, rfl⟩ := hd.form
  go_enter Try.func27, Try.ntmps27
  go_wp2_with fail
  obtain ⟨B, hB⟩ : ∃ B, B = W.heap.size := ⟨_, rfl⟩
  obtain ⟨z, hz⟩ : ∃ z : Later W, z.w = W.alloc (.cells #[.int .i64 w, .int .i64 h, .slice a d.length c] 24) := ⟨Later.new _ _, rfl⟩
  have c0 : z.w.cell? ⟨B, 0, none⟩ = some (.int .i64 w) := by rw [hz, hB]; simp [go_sem]
  have c1 : z.w.cell? ⟨B, 1, none⟩ = some (.int .i64 h) := by rw [hz, hB]; simp [go_sem]
  have c2 : z.w.cell? ⟨B, 2, none⟩ = some (.slice a d.length c) := by rw [hz, hB]; simp [go_sem]
  have hBz : B < z.w.heap.size := by rw [hz, hB]; simp [go_sem]
  have HZ : Hid (z.w.heap.size = B + 1) := Lib.hid (by rw [hz, hB]; simp)
  rw [← hz, ← hB]
  replace hd := hd.later z
  clear hz hB
  refine (open_calls w h _ d _ hd).mono ?_
  rintro e w' ⟨v, x, rfl, rfl, hif⟩
  have gB0 : x.w.cell? ⟨B, 0, none⟩ = some (.int .i64 w) := ((x).cell hBz).trans c0
  have gB1 : x.w.cell? ⟨B, 1, none⟩ = some (.int .i64 h) := ((x).cell hBz).trans c1
  have gB2 : x.w.cell? ⟨B, 2, none⟩ = some (.slice a d.length c) := ((x).cell hBz).trans c2
  have sB : B < x.w.heap.size := Nat.lt_of_lt_of_le hBz (x).size
  by_cases hv : vplate w h d = 0
  rotate_left
  · have hE := Lib.hid (show flatX w h d = [] ∧ flatU w h d = [] by rw [flatX, flatU, if_neg hv, if_neg hv]; exact ⟨rfl, rfl⟩)
    rw [if_neg hv] at hif
    subst hif
    have hb2 : (vplate w h d != 0) = true := by simpa using hv
    go_wp2
    try simp only [Exit.inBlock, Exit.then]
    refine bodyPost_ret (results_tmp3 rfl _ _ _) rfl ?_
    exact ⟨.slice none 0 0, .slice none 0 0, z.step x, rfl, rfl, by rw [hE.out.1]; exact Ints.nil _ _, by rw [hE.out.2]; exact Ints.nil _ _⟩
  · have hE := Lib.hid (show flatX w h d = (hamP w.toNat h.toNat d).1 ∧ flatU w h d = (hamP w.toNat h.toNat d).2 by rw [flatX, flatU, if_pos hv, if_pos hv]; exact ⟨rfl, rfl⟩)
    have HV := Lib.hid hv
    rw [if_pos hv] at hif
    obtain ⟨b, rfl, hbz, hbk⟩ := hif
    obtain ⟨wn, hn, rfl, rfl, hs, hl, hlo⟩ := vplate_zero hv
    have hlow := vplate_low hl hlo
    have HL := Lib.hid hl
    have h36 : wn * hn ≤ 36 := Nat.mul_le_mul hs.2.1 hs.2.2.2
    have h1w : 1 ≤ wn * hn := Nat.mul_le_mul hs.1 hs.2.2.1
    clear hl hlo
    rw [hv]
    have hF := Lib.hid (flatten_calls b wn hn _ d (fun _ => 0) x.w hbk hs HL.out (fun j hj => by have := hlow j hj; omega) (fun j hj => by omega))
    clear hv
    go_wp2_with fail
    refine hF.out.mono ?_
    rintro e w' ⟨⟨v, rfl⟩, X, U, hH, hbk2, hbut⟩
    rw [zpad] at hbk2
    have hp := hH.eq
    have e1 := hE.out
    rw [Int.toNat_natCast, Int.toNat_natCast, hp] at e1
    have hXl : X.length = wn * hn := hH.run.2.2.1
    have hUl : U.length = wn * hn := hH.run.2.1
    have HE := Lib.hid e1
    clear hE e1 hp
    obtain ⟨Y, hY⟩ : ∃ Y : Later z.w, w' = Y.w := ⟨⟨w', x.le.trans (hbut.under hbz x.size)⟩, rfl⟩
    rw [hY] at hbk2 ⊢
    have hrn := hbk2.rangeN
    have lb2 := hbk2.lt
    clear hY hF hbut
    go_wp2
    refine Mix.region_mixL (Mix.kinds [] [5, 11] []) (by kernel_rfl) (by kernel_rfl) ?_
    repeat ((with_reducible refine Mix.atCons ?_); first | refine Mix.skipU (by rfl) rfl (by rfl) ?_ | (refine Mix.val rfl rfl (by rfl) (fun K hK => ?_); go_big_quiet_op; refine hK _ ?_; clear hK K))
    with_reducible refine Mix.atCons ?_
    refine Mix.val rfl rfl (by rfl) (fun K hK => ?_)
    refine quiet_load_dents _ rfl b 3 rfl (pad (ofL X)) (pad_len _) (fun w' ⟨x, hx⟩ => by rw [hx]; exact (hbk2.later x).rangeN) ?_
    refine hK _ ?_
    clear hK K
    go_frame
    refine Mix.loud rfl (by rfl) (fun x1 K hK => ?_)
    go_wp2_with fail
    refine (list_calls b wn hn _ _ _ _ _ (hbk2.later x1) (pad_len _) h36).mono ?_
    rintro e w' ⟨l1, y1, rfl, rfl, hR1⟩
    rw [take_pad hXl h36] at hR1
    obtain ⟨a1, n1, k1, rfl⟩ : ∃ a n c, l1 = .slice a n c := by obtain ⟨a, c, e⟩ := hR1.form; exact ⟨a, _, c, e⟩
    refine hK _ y1 ?_
    clear hK K
    repeat ((with_reducible refine Mix.atCons ?_); first | refine Mix.skipU (by rfl) rfl (by rfl) ?_ | (refine Mix.val rfl rfl (by rfl) (fun K hK => ?_); go_big_quiet_op; refine hK _ ?_; clear hK K))
    with_reducible refine Mix.atCons ?_
    refine Mix.val rfl rfl (by rfl) (fun K hK => ?_)
    refine quiet_load_dents _ rfl b 39 rfl (pad (ofL U)) (pad_len _) (fun w' ⟨x, hx⟩ => by rw [hx]; exact (hbk2.later x).rangeB) ?_
    refine hK _ ?_
    clear hK K
    go_frame
    refine Mix.loud rfl (by rfl) (fun x2 K hK => ?_)
    go_wp2_with fail
    refine (list_calls b wn hn _ _ _ _ _ (((hbk2.later x1).later y1).later x2) (pad_len _) h36).mono ?_
    rintro e w' ⟨l2, y2, rfl, rfl, hR2⟩
    rw [take_pad hUl h36] at hR2
    obtain ⟨a2, n2, k2, rfl⟩ : ∃ a n c, l2 = .slice a n c := by obtain ⟨a, c, e⟩ := hR2.form; exact ⟨a, _, c, e⟩
    refine hK _ y2 ?_
    clear hK K
    repeat ((with_reducible refine Mix.atCons ?_); first | refine Mix.skipU (by rfl) rfl (by rfl) ?_ | (refine Mix.val rfl rfl (by rfl) (fun K hK => ?_); go_big_quiet_op; refine hK _ ?_; clear hK K))
    refine Mix.done (fun x3 => ?_)
    have hR1' := ((hR1.later x2).later y2).later x3
    have hR2' := hR2.later x3
    go_wp2
    try simp only [Exit.inBlock, Exit.then]
    refine bodyPost_ret (results_tmp3 rfl _ _ _) rfl ?_
    exact ⟨_, _, (z.step Y).step ((((x1.step y1).step x2).step y2).step x3), ret_lle HV.out.symm, rfl, by rw [HE.out.1]; exact hR1', by rw [HE.out.2]; exact hR2'⟩

end Go.Proofs.Ytbjmfhlkmklmmaa

/-  Lost, slices.Max, CheckBlows of the program. -/
namespace Go.Proofs.Ytbjmfhlkmklmmaa
open Go.RowKit

/-- the greatest of the first k numbers, and of all -/
def maxK (xs : List Int) : Nat → Int
  | 0 => nth xs 0
  | k + 1 => max (maxK xs k) (nth xs (k + 1))
theorem maxK_lt (xs : List Int) (c : Int) : ∀ k, k < xs.length → (c < maxK xs k ↔ ∃ j, j ≤ k ∧ c < nth xs j)
  | 0, _ => by
    rw [maxK]
    constructor
    · intro h; exact ⟨0, Nat.le_refl _, h⟩
    · rintro ⟨j, hj, h⟩
      obtain rfl : j = 0 := by omega
      exact h
  | k + 1, hk => by
    have ih := maxK_lt xs c k (by omega)
    rw [maxK]
    constructor
    · intro h
      rcases Int.lt_or_le c (maxK xs k) with h1 | h1
      · obtain ⟨j, hj, h2⟩ := ih.1 h1; exact ⟨j, by omega, h2⟩
      · exact ⟨k + 1, Nat.le_refl _, by omega⟩
    · rintro ⟨j, hj, h⟩
      by_cases e : j = k + 1
      · subst e; omega
      · have := ih.2 ⟨j, by omega, h⟩; omega
theorem max_flat {xs : List Int} (h : 0 < xs.length) : decide (3 < maxK xs (xs.length - 1)) = !flatB xs := by
  rw [Bool.eq_iff_iff, decide_eq_true_iff, maxK_lt xs 3 _ (by omega), Bool.not_eq_true', ← Bool.not_eq_true, flatB, List.all_eq_true]
  constructor
  · rintro ⟨j, hj, h2⟩ hall
    have := hall xs[j] (List.getElem_mem (by omega))
    rw [nth_eq (by omega)] at h2
    simp at this; omega
  · intro hn
    refine Classical.byContradiction fun hx => hn fun x hm => ?_
    obtain ⟨j, hj, rfl⟩ := List.getElem_of_mem hm
    rw [decide_eq_true_iff]
    refine Int.not_lt.1 fun h2 => hx ⟨j, by omega, by rw [nth_eq hj]; exact h2⟩
set_option maxRecDepth 100000 in
set_option maxHeartbeats 2000000 in
theorem Max_calls (dv : Value) (d : List Int) (W : World) (hd : Ints W dv d) (h1 : 0 < d.length) :
    Calls Try.prog 57 #[dv] W fun e W' => e = .returned (.int .i64 (maxK d (d.length - 1))) ∧ W' = W := by
  have hdl := hd.1
  obtain ⟨bd, od, cd, rfl, hcd, hbd, hgd⟩ := hd.at h1
  have g0 := hgd 0 h1
  rw [Nat.add_zero] at g0
  have h1n : ¬ (d.length : Int) < 1 := by omega
  have h1p : (0 : Int) < d.length := by omega
  go_enter Try.func57, Try.ntmps57
  go_wp2
  go_loop [3, 4] (fun m i => ∃ k : Nat, k < d.length ∧ i = .int .i64 ((k : Int) + 1) ∧ m = .int .i64 (maxK d k)) (fun _ i => d.length + 1 - (intOf i).toNat)
  case atStart => exact ⟨0, h1, rfl, rfl⟩
  case round =>
    obtain ⟨k, hk, rfl, rfl⟩ := hrel
    by_cases hlt : k + 1 < d.length
    · have gd := hgd (k + 1) hlt
      have hm := Lib.hid (show maxK d (k + 1) = max (maxK d k) (nth d (k + 1)) from rfl)
      clear hgd g0
      go_wp2
      go_round
      case rel => exact ⟨k + 1, hlt, by go_num, by rw [hm.out]⟩
      case measure => simp [intOf]; omega
    · obtain rfl : k = d.length - 1 := by omega
      clear hgd g0
      go_wp2
      go_ret
      exact ⟨rfl, rfl⟩
theorem ret_ie {a b c d : Int} (h : a = b) (h2 : c = d) : Ending.returned (.tuple #[.int .i64 a, .int .i64 c]) = .returned (.tuple #[.int .i64 b, .int .i64 d]) := by rw [h, h2]
theorem sum_sub (f g : Nat → Int) (n : Nat) : Sand.sum n (fun j => f j - g j) = Sand.sum n f - Sand.sum n g := by
  rw [Int.sub_eq_add_neg, ← Sand.sum_neg, ← Sand.sum_add]
  exact Sand.sum_congr _ fun j _ => Int.sub_eq_add_neg
set_option maxRecDepth 100000 in
set_option maxHeartbeats 2000000 in
theorem Lost_calls (w h : Int) (dv : Value) (d : List Int) (W : World) (hd : Ints W dv d) :
    Calls Try.prog 29 #[.agg #[.int .i64 w, .int .i64 h, dv]] W (Gives (.tuple #[.int .i64 (lostN w h d), .int .i64 (vplate w h d)]) W) := by
  have hdl := hd.1
  obtain ⟨a, c, rfl⟩ := hd.form
  go_enter Try.func29, Try.ntmps29
  go_wp2_with fail
  obtain ⟨B, hB⟩ : ∃ B, B = W.heap.size := ⟨_, rfl⟩
  obtain ⟨z, hz⟩ : ∃ z : Later W, z.w = W.alloc (.cells #[.int .i64 w, .int .i64 h, .slice a d.length c] 24) := ⟨Later.new _ _, rfl⟩
  have c0 : z.w.cell? ⟨B, 0, none⟩ = some (.int .i64 w) := by rw [hz, hB]; simp [go_sem]
  have c1 : z.w.cell? ⟨B, 1, none⟩ = some (.int .i64 h) := by rw [hz, hB]; simp [go_sem]
  have c2 : z.w.cell? ⟨B, 2, none⟩ = some (.slice a d.length c) := by rw [hz, hB]; simp [go_sem]
  have hBz : B < z.w.heap.size := by rw [hz, hB]; simp [go_sem]
  have HZ : Hid (z.w.heap.size = B + 1) := Lib.hid (by rw [hz, hB]; simp)
  rw [← hz, ← hB]
  replace hd := hd.later z
  clear hz hB
  refine (open_calls w h _ d _ hd).mono ?_
  rintro e w' ⟨v, x, rfl, rfl, hif⟩
  have gB0 : x.w.cell? ⟨B, 0, none⟩ = some (.int .i64 w) := ((x).cell hBz).trans c0
  have gB1 : x.w.cell? ⟨B, 1, none⟩ = some (.int .i64 h) := ((x).cell hBz).trans c1
  have gB2 : x.w.cell? ⟨B, 2, none⟩ = some (.slice a d.length c) := ((x).cell hBz).trans c2
  have sB : B < x.w.heap.size := Nat.lt_of_lt_of_le hBz (x).size
  by_cases hv : vplate w h d = 0
  rotate_left
  · have hE := Lib.hid (show lostN w h d = 0 by rw [lostN, if_neg hv])
    rw [if_neg hv] at hif
    subst hif
    have hb2 : (vplate w h d != 0) = true := by simpa using hv
    go_wp2
    go_ret2
    exact ⟨ret_ie hE.out.symm rfl, z.step x, rfl⟩
  · have HV := Lib.hid hv
    rw [if_pos hv] at hif
    obtain ⟨b, rfl, hbz, hbk⟩ := hif
    obtain ⟨wn, hn, rfl, rfl, hs, hl, hlo⟩ := vplate_zero hv
    have hlow := vplate_low hl hlo
    have HL := Lib.hid hl
    have h36 : wn * hn ≤ 36 := Nat.mul_le_mul hs.2.1 hs.2.2.2
    have h1w : 1 ≤ wn * hn := Nat.mul_le_mul hs.1 hs.2.2.1
    clear hl hlo
    rw [hv]
    have hF := Lib.hid (flatten_calls b wn hn _ d (fun _ => 0) x.w hbk hs HL.out (fun j hj => by have := hlow j hj; omega) (fun j hj => by omega))
    clear hv
    go_wp2_with fail
    refine hF.out.mono ?_
    rintro e w' ⟨⟨v, rfl⟩, X, U, hH, hbk2, hbut⟩
    have hXl : X.length = wn * hn := hH.run.2.2.1
    have HE := Lib.hid (show lostN wn hn d = Sand.sum (wn * hn) (fun j => ofL d j - ofL X j) by rw [lostN, if_pos HV.out, flatX_len rfl rfl HV.out hH, sum_sub, HL.out, hXl])
    obtain ⟨Y, hY⟩ : ∃ Y : Later z.w, w' = Y.w := ⟨⟨w', x.le.trans (hbut.under hbz x.size)⟩, rfl⟩
    rw [hY] at hbk2 ⊢
    have hrn := hbk2.rangeN
    have lb2 := hbk2.lt
    clear hY hF hbut
    go_wp2_with ((with_reducible show wpList _ _ _ (⟨some 23, _, _, _, _, _⟩ :: _) _ _); refine wpList_load_dents rfl _ rfl b 3 rfl (pad (ofL X)) (pad_len _) hrn ?_)
    refine (list_calls b wn hn _ _ _ _ _ hbk2 (pad_len _) h36).mono ?_
    rintro e w' ⟨lv, y, rfl, rfl, hR⟩
    rw [take_pad hXl h36] at hR
    have hb3 := Lib.hid (fun j (hj : j < wn * hn) => (show -90 ≤ ofL d j - ofL X j ∧ ofL d j - ofL X j ≤ 90 from by have h1 := hlow j hj; have h2 := low_x hs hH.run hlow j hj; have h3 := hH.flat j hj; omega))
    obtain ⟨N, hN⟩ : ∃ N, wn * hn = N := ⟨_, rfl⟩
    rw [hN] at HE h36 hXl HL h1w hb3
    obtain ⟨bl, ol, kl, rfl, hkl, hbl, hgl⟩ := hR.at (k := 0) (by omega)
    obtain ⟨bd, od, cd, e, hcd, hbd, hgd⟩ := hd.at (k := 0) (by rw [HL.out]; omega)
    cases e
    have HLl := Lib.hid hXl
    obtain ⟨V, hV⟩ : ∃ V : Later z.w, V.w = y.w := ⟨Y.step y, rfl⟩
    rw [← hV] at hR hbl hgl ⊢
    have GL := Lib.hid hgl
    have GD := Lib.hid (fun k (hk : k < d.length) => (V.cell hbd).trans (hgd k hk))
    have sD : bd < V.w.heap.size := Nat.lt_of_lt_of_le hbd V.size
    have gB0 : V.w.cell? ⟨B, 0, none⟩ = some (.int .i64 wn) := ((V).cell hBz).trans c0
    have gB1 : V.w.cell? ⟨B, 1, none⟩ = some (.int .i64 hn) := ((V).cell hBz).trans c1
    have gB2 : V.w.cell? ⟨B, 2, none⟩ = some (.slice (some ⟨bd, od, none⟩) d.length c) := ((V).cell hBz).trans c2
    have sB : B < V.w.heap.size := Nat.lt_of_lt_of_le hBz (V).size
    rw [hXl] at hkl
    rw [show X.length = N from hXl]
    clear hV y hbk hbk2 hrn lb2 hR hgl hgd hXl hN gB0 gB1 sB
    go_wp2
    go_loop [6, 26] (fun s i => ∃ k : Nat, k ≤ N ∧ i = .int .i64 k ∧ s = .int .i64 (Sand.sum k (fun j => ofL d j - ofL X j))) (fun _ i => N - (intOf i).toNat)
    case atStart => exact ⟨0, Nat.zero_le _, rfl, rfl⟩
    case round =>
      obtain ⟨k, hk, rfl, rfl⟩ := hrel
      by_cases hlt : k < N
      · have g1 := GL.out k (by rw [HLl.out]; exact hlt)
        have g2 := GD.out k (by rw [HL.out]; exact hlt)
        have hkd : k < d.length := by rw [HL.out]; exact hlt
        have h2 := hb3.out k hlt
        have hs1 : -(90 * (k : Int)) ≤ Sand.sum k (fun j => ofL d j - ofL X j) ∧ Sand.sum k (fun j => ofL d j - ofL X j) ≤ 90 * (k : Int) := by
          have m1 := Sand.sum_mono (f := fun j => ofL d j - ofL X j) (g := fun _ => 90) k fun i hi => (hb3.out i (by omega)).2
          have m2 := Sand.sum_mono (f := fun _ => -90) (g := fun j => ofL d j - ofL X j) k fun i hi => (hb3.out i (by omega)).1
          rw [sum_const] at m1 m2
          omega
        have e1 : IntKind.i64.wrap (nth d k - nth X k) = nth d k - nth X k := IntWalk.i64_in _ (by rw [nth_ofL, nth_ofL]; omega)
        have e2 : IntKind.i64.wrap (Sand.sum k (fun j => ofL d j - ofL X j) + (nth d k - nth X k)) = Sand.sum k (fun j => ofL d j - ofL X j) + (nth d k - nth X k) := IntWalk.i64_in _ (by rw [nth_ofL, nth_ofL]; omega)
        have hsu := Lib.hid (show Sand.sum (k + 1) (fun j => ofL d j - ofL X j) = Sand.sum k (fun j => ofL d j - ofL X j) + (nth d k - nth X k) from rfl)
        clear h2 hs1
        go_wp2
        go_round
        case rel => exact ⟨k + 1, by omega, by go_num, by rw [hsu.out]⟩
        case measure => simp [intOf]; omega
      · obtain rfl : k = N := by omega
        go_wp2
        go_ret2
        exact ⟨ret_ie HE.out.symm HV.out.symm, z.step V, rfl⟩

end Go.Proofs.Ytbjmfhlkmklmmaa

/-  CheckBlows of the program. -/
namespace Go.Proofs.Ytbjmfhlkmklmmaa
open Go.RowKit

theorem tame_hits {w h : Nat} (hs : sized w h) {d bl : List Int} (hd : d.length = w * h) (hlow : ∀ j, j < w * h → 0 ≤ ofL d j ∧ ofL d j ≤ 30) (hb : ∀ j, j < bl.length → 0 ≤ ofL bl j ∧ ofL bl j ≤ 1000000) (hbl : bl.length = w * h) {k : Nat} (hk : k ≤ w * h) : tame (pad (ofL (hitsL w h d bl k))) 1000000000 := tame_pad fun j hj => by
  have h36 : w * h ≤ 36 := Nat.mul_le_mul hs.2.1 hs.2.2.2
  by_cases e : j < w * h
  · have := hitsL_tame hs hd (fun j hj => by have := hlow j (by omega); omega) hb hbl k hk j (by rw [hitsL_len]; omega)
    omega
  · rw [show ofL (hitsL w h d bl k) j = 0 by simp [ofL, List.getElem?_eq_none (show (hitsL w h d bl k).length ≤ j by rw [hitsL_len]; omega)]]; omega
theorem any_out {bl : List Int} {lo hi : Int} (h : bl.any (outB lo hi) = false) : ∀ j, j < bl.length → lo ≤ ofL bl j ∧ ofL bl j ≤ hi := fun j hj => by
  have h1 : ¬ outB lo hi (nth bl j) = true := fun e => by
    have : bl.any (outB lo hi) = true := List.any_eq_true.2 ⟨nth bl j, by rw [nth_eq hj]; exact List.getElem_mem hj, e⟩
    rw [h] at this; cases this
  simp only [outB, Bool.or_eq_true, decide_eq_true_iff, not_or] at h1
  rw [nth_ofL] at h1
  omega
set_option maxRecDepth 100000 in
set_option maxHeartbeats 2000000 in
theorem CheckBlows_calls (w h : Int) (dv uv : Value) (d bl : List Int) (W : World) (hd : Ints W dv d) (hu : Ints W uv bl) :
    Calls Try.prog 25 #[.agg #[.int .i64 w, .int .i64 h, dv], uv] W (Gives (.int .i64 (blowsE w h d bl)) W) := by
  have hul := hu.1
  obtain ⟨au, cu, rfl⟩ := hu.form
  have hdl := hd.1
  obtain ⟨a, c, rfl⟩ := hd.form
  go_enter Try.func25, Try.ntmps25
  go_wp2_with fail
  obtain ⟨B, hB⟩ : ∃ B, B = W.heap.size := ⟨_, rfl⟩
  obtain ⟨z, hz⟩ : ∃ z : Later W, z.w = W.alloc (.cells #[.int .i64 w, .int .i64 h, .slice a d.length c] 24) := ⟨Later.new _ _, rfl⟩
  have c0 : z.w.cell? ⟨B, 0, none⟩ = some (.int .i64 w) := by rw [hz, hB]; simp [go_sem]
  have c1 : z.w.cell? ⟨B, 1, none⟩ = some (.int .i64 h) := by rw [hz, hB]; simp [go_sem]
  have c2 : z.w.cell? ⟨B, 2, none⟩ = some (.slice a d.length c) := by rw [hz, hB]; simp [go_sem]
  have hBz : B < z.w.heap.size := by rw [hz, hB]; simp [go_sem]
  have HZ : Hid (z.w.heap.size = B + 1) := Lib.hid (by rw [hz, hB]; simp)
  rw [← hz, ← hB]
  replace hd := hd.later z
  replace hu := hu.later z
  clear hz hB
  refine (open_calls w h _ d _ hd).mono ?_
  rintro e w' ⟨v, x, rfl, rfl, hif⟩
  have gB0 : x.w.cell? ⟨B, 0, none⟩ = some (.int .i64 w) := ((x).cell hBz).trans c0
  have gB1 : x.w.cell? ⟨B, 1, none⟩ = some (.int .i64 h) := ((x).cell hBz).trans c1
  have gB2 : x.w.cell? ⟨B, 2, none⟩ = some (.slice a d.length c) := ((x).cell hBz).trans c2
  have sB : B < x.w.heap.size := Nat.lt_of_lt_of_le hBz (x).size
  by_cases hv : vplate w h d = 0
  rotate_left
  · have hE := Lib.hid (show blowsE w h d bl = vplate w h d by rw [blowsE, if_pos hv])
    rw [if_neg hv] at hif
    subst hif
    have hb2 : (vplate w h d != 0) = true := by simpa using hv
    go_wp2
    go_ret
    exact ⟨ret_int hE.out.symm, z.step x, rfl⟩
  · have hv0 := hv
    have hlo30 : ∀ j, j < d.length → 0 ≤ ofL d j ∧ ofL d j ≤ 30 := fun j hj => by obtain ⟨_, _, _, _, _, _, hlo⟩ := vplate_zero hv; exact hlo j hj
    rw [if_pos hv] at hif
    obtain ⟨b, rfl, hbz, hbk⟩ := hif
    obtain ⟨wn, hn, rfl, rfl, hs, hl, hlo⟩ := vplate_zero hv
    have hlow := vplate_low hl hlo
    have HL := Lib.hid hl
    have h36 : wn * hn ≤ 36 := Nat.mul_le_mul hs.2.1 hs.2.2.2
    have h1w : 1 ≤ wn * hn := Nat.mul_le_mul hs.1 hs.2.2.1
    clear hl hlo
    rw [hv]
    by_cases hll : bl.length = d.length
    rotate_left
    · have hE := Lib.hid (show blowsE wn hn d bl = 15 by rw [blowsE, if_neg (by rw [hv0]; simp), if_pos hll])
      have hll2 : ((bl.length : Int) != (d.length : Int)) = true := by simp; omega
      clear hv hv0 hll
      go_wp2
      go_ret
      exact ⟨ret_int hE.out.symm, z.step x, rfl⟩
    · have HLL := Lib.hid hll
      have hll2 : ((bl.length : Int) != (d.length : Int)) = false := by simp; omega
      clear hll
      go_wp2_with fail
      refine (within_calls _ bl 0 1000000 _ (hu.later x)).mono ?_
      rintro e w' ⟨rfl, y, rfl⟩
      cases ha : bl.any (outB 0 1000000)
      rotate_left
      · have hE := Lib.hid (show blowsE wn hn d bl = 3 by rw [blowsE, if_neg (by rw [hv0]; simp), if_neg (by rw [HLL.out]; simp), if_pos ha])
        clear hv hv0
        go_wp2
        go_ret
        exact ⟨ret_int hE.out.symm, (z.step x).step y, rfl⟩
      · have hE := Lib.hid (show blowsE wn hn d bl = if flatB (hitsL wn hn d bl bl.length) then 0 else 22 by rw [blowsE, if_neg (by rw [hv0]; simp), if_neg (by rw [HLL.out]; simp), if_neg (by rw [ha]; simp), Int.toNat_natCast, Int.toNat_natCast])
        have hbo := Lib.hid (any_out ha)
        have hl30 := Lib.hid hlo30
        obtain ⟨bu, ou, ku, e, hku, hbu, hgu⟩ := hu.at (k := 0) (by rw [HLL.out, HL.out]; omega)
        cases e
        have GU := Lib.hid hgu
        have hbk1 := hbk.later y
        have hbB := hBz
        obtain ⟨Y, hY⟩ : ∃ Y : Later z.w, Y.w = y.w := ⟨x.step y, rfl⟩
        rw [← hY] at hbk1 ⊢
        clear hY y hgu hbk hv hv0 ha hlo30 gB0 gB1 gB2 sB
        clear x
        rw [show pad (ofL d) = pad (ofL (hitsL wn hn d bl 0)) from rfl, show (pad fun _ => (0 : Int)) = pad (fun j => if j < 0 then ofL bl j else 0) from pad_congr fun j _ => by rw [if_neg (Nat.not_lt_zero _)]] at hbk1
        go_wp2
        go_loopw [31] (fun i wr => ∃ (k : Nat) (V : Later z.w), wr = V.w ∧ k ≤ bl.length ∧ i = .int .i64 k ∧ Blk V.w b wn hn (.slice a d.length c) (pad (ofL (hitsL wn hn d bl k))) (pad fun j => if j < k then ofL bl j else 0)) (fun i _ => bl.length - (intOf i).toNat)
        case atStart => exact ⟨0, Y, rfl, Nat.zero_le _, rfl, hbk1⟩
        case round =>
          obtain ⟨k, V, rfl, hk, rfl, hbk2⟩ := hrel
          clear hbk1
          have hbl : bl.length = wn * hn := by rw [HLL.out, HL.out]
          by_cases hlt : k < bl.length
          · have g1 := (V.cell hbu).trans (GU.out k hlt)
            have lbu := Nat.lt_of_lt_of_le hbu V.size
            have hb1 := hbo.out k hlt
            have hkw : k < wn * hn := by rw [← hbl]; exact hlt
            have hH := Lib.hid (hit_calls b wn hn k (ofL bl k) _ _ _ hs hkw V.w hbk2 (tame_hits hs HL.out (fun j hj => hl30.out j (by rw [HL.out]; exact hj)) hbo.out hbl (by omega)) (tame_pad fun j hj => by
              by_cases e : j < k
              · rw [if_pos e]; have := hbo.out j (by omega); omega
              · rw [if_neg e]; omega) hb1.1 (by omega))
            clear hb1
            rw [nth_ofL] at g1
            have HBL := Lib.hid hbl
            clear hbl
            go_wp2_with fail
            refine hH.out.mono ?_
            rintro e w' ⟨⟨v, rfl⟩, hbk3, hbut⟩
            rw [hitL_pad hs (by rw [hitsL_len]; exact HL.out) hkw, ← hitsL_succ, addAt_pad _ (by omega), show (pad fun j => (if j < k then ofL bl j else 0) + if j = k then ofL bl k else 0) = pad (fun j => if j < k + 1 then ofL bl j else 0) from pad_congr fun j _ => by
              by_cases e : j = k
              · subst e; rw [if_neg (Nat.lt_irrefl _), if_pos rfl, if_pos (Nat.lt_succ_self _)]; omega
              · rw [if_neg e]
                by_cases e2 : j < k
                · rw [if_pos e2, if_pos (by omega)]; omega
                · rw [if_neg e2, if_neg (by omega)]; omega] at hbk3
            go_wp2
            go_roundw
            case rel => exact ⟨k + 1, ⟨w', V.le.trans (hbut.under hbz V.size)⟩, rfl, by omega, by go_num, hbk3⟩
            case measure => simp [intOf]; omega
          · obtain rfl : k = bl.length := by omega
            have hrn := hbk2.rangeN
            have lb2 := hbk2.lt
            have hlen : (hitsL wn hn d bl bl.length).length = wn * hn := by rw [hitsL_len]; exact HL.out
            have hmx := Lib.hid (max_flat (xs := hitsL wn hn d bl bl.length) (by omega))
            clear hbl
            go_wp2_with ((with_reducible show wpList _ _ _ (⟨some 45, _, _, _, _, _⟩ :: _) _ _); refine wpList_load_dents rfl _ rfl b 3 rfl (pad (ofL (hitsL wn hn d bl bl.length))) (pad_len _) hrn ?_)
            refine (list_calls b wn hn _ _ _ _ _ hbk2 (pad_len _) h36).mono ?_
            rintro e w' ⟨lv, y, rfl, rfl, hR⟩
            rw [take_pad hlen h36] at hR
            go_wp2_with fail
            refine (Max_calls _ _ _ hR (by omega)).mono ?_
            rintro e w' ⟨rfl, rfl⟩
            obtain ⟨M, hM⟩ : ∃ M, maxK (hitsL wn hn d bl bl.length) ((hitsL wn hn d bl bl.length).length - 1) = M := ⟨_, rfl⟩
            have hmx2 := hmx.out
            rw [hM] at hmx2 ⊢
            clear hM hmx
            cases hf : flatB (hitsL wn hn d bl bl.length)
            · have h3 : 3 < M := of_decide_eq_true (hmx2.trans (by rw [hf]; rfl))
              have hE2 := Lib.hid (show blowsE wn hn d bl = 22 by rw [hE.out, hf]; rfl)
              clear hmx2 hE
              go_wp2
              go_ret
              exact ⟨ret_int hE2.out.symm, (z.step V).step y, rfl⟩
            · have h3 : ¬ 3 < M := of_decide_eq_false (hmx2.trans (by rw [hf]; rfl))
              have hE2 := Lib.hid (show blowsE wn hn d bl = 0 by rw [hE.out, hf]; rfl)
              clear hmx2 hE
              go_wp2
              go_ret
              exact ⟨ret_int hE2.out.symm, (z.step V).step y, rfl⟩

end Go.Proofs.Ytbjmfhlkmklmmaa
