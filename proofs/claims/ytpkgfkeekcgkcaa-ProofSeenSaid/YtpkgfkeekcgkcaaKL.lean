import Derived.Test.YtpkgfkeekcgkcaaKK
import Derived.Test.YtpkgfkeekcgkcaaKG
/-  The program's CheckCommon: its closures, and the library's functions on lists of pairs. -/
namespace Go.Proofs.Ytpkgfkeekcgkcaa
open Go.RowKit
set_option maxRecDepth 100000 in
set_option maxHeartbeats 4000000 in
theorem stray_calls (x y : Int) (n m c3 c4 : Nat) (a b : List UInt8) (ha : a.length = n) (hb : b.length = m) (hn : n ≤ 12) (hm : m ≤ 12) (w : World) (h3 : w.cell? ⟨c3, 0, none⟩ = some (.string ⟨a.toArray⟩)) (h4 : w.cell? ⟨c4, 0, none⟩ = some (.string ⟨b.toArray⟩)) :
    Calls Try.prog 72 #[.agg #[.int .i64 x, .int .i64 y], .pointer (some ⟨c3, 0, none⟩), .pointer (some ⟨c4, 0, none⟩)] w (Gives (.bool (strayC n m (x, y))) w) := by
  have hsa : (⟨a.toArray⟩ : ByteArray).size = n := by rw [str_size]; exact ha
  have hsb : (⟨b.toArray⟩ : ByteArray).size = m := by rw [str_size]; exact hb
  have l3 := World.block_lt_of_cell? _ _ h3
  have l4 := World.block_lt_of_cell? _ _ h4
  dsimp only at l3 l4
  clear ha hb
  by_cases h1 : 0 ≤ x ∧ x ≤ (n : Int) - 1
  · have HB1 := Lib.hid (show (decide (0 ≤ x) && decide (x ≤ (n : Int) - 1)) = true by rw [← Bool.decide_and]; exact decide_eq_true h1)
    obtain ⟨B2, hB2⟩ : ∃ B, (decide (0 ≤ y) && decide (y ≤ (m : Int) - 1)) = B := ⟨_, rfl⟩
    have HB2 := Lib.hid hB2
    have HR := Lib.hid (show strayC n m (x, y) = !B2 by
      rw [strayC, ← hB2, Bool.eq_iff_iff]
      simp
      omega)
    clear h1 hB2
    go_enter Try.func72, Try.ntmps72
    go_wp2_with fail
    refine (within_one x 0 ((n : Int) - 1) _ _ _ (by simp [go_sem]) (by omega)).mono ?_
    rintro e w' ⟨rfl, u, hw⟩
    rw [hw, HB1.out]
    obtain ⟨z, hz⟩ : ∃ z : Later w, z.w = u.w := ⟨((Later.new _ _).step (Later.new _ _)).step u, rfl⟩
    have q1 : u.w.cell? ⟨w.heap.size, 1, none⟩ = some (.int .i64 y) := by
      rw [u.cell (by simp; omega)]; simp [go_sem]
    have q2 : w.heap.size < u.w.heap.size := Nat.lt_of_lt_of_le (by simp; omega) u.size
    have q3 := (z.cell l4).trans h4
    have q4 := Nat.lt_of_lt_of_le l4 z.size
    rw [hz] at q3 q4
    clear h3 h4 l3 l4 hw w'
    go_wp2_with fail
    refine (within_one y 0 ((m : Int) - 1) _ _ _ (by simp [go_sem]) (by omega)).mono ?_
    rintro e w' ⟨rfl, v, hw⟩
    rw [hw, HB2.out]
    obtain ⟨z2, hz2⟩ : ∃ z : Later w, z.w = v.w := ⟨(Later.mk u.w (hz ▸ z.le)).step ((Later.new u.w (.cells #[.int .i64 y] 2)).step v), rfl⟩
    clear hw w'
    cases B2
    · go_wp2
      go_ret
      exact ⟨ret_bool HR.out.symm, z2, hz2.symm⟩
    · go_wp2
      go_ret
      exact ⟨ret_bool HR.out.symm, z2, hz2.symm⟩
  · have HB1 := Lib.hid (show (decide (0 ≤ x) && decide (x ≤ (n : Int) - 1)) = false by rw [← Bool.decide_and]; exact decide_eq_false h1)
    have HR := Lib.hid (show strayC n m (x, y) = true by
      rw [strayC]
      simp
      omega)
    clear h1
    go_enter Try.func72, Try.ntmps72
    go_wp2_with fail
    refine (within_one x 0 ((n : Int) - 1) _ _ _ (by simp [go_sem]) (by omega)).mono ?_
    rintro e w' ⟨rfl, u, hw⟩
    rw [hw, HB1.out]
    obtain ⟨z, hz⟩ : ∃ z : Later w, z.w = u.w := ⟨((Later.new _ _).step (Later.new _ _)).step u, rfl⟩
    clear hw w'
    go_wp2
    go_ret
    exact ⟨ret_bool HR.out.symm, z, hz.symm⟩

set_option maxRecDepth 100000 in
set_option maxHeartbeats 4000000 in
theorem diff_calls (x y c3 c4 : Nat) (a b : List UInt8) (hx : x < a.length) (hy : y < b.length) (w : World) (h3 : w.cell? ⟨c3, 0, none⟩ = some (.string ⟨a.toArray⟩)) (h4 : w.cell? ⟨c4, 0, none⟩ = some (.string ⟨b.toArray⟩)) :
    Calls Try.prog 74 #[.agg #[.int .i64 (x : Int), .int .i64 (y : Int)], .pointer (some ⟨c3, 0, none⟩), .pointer (some ⟨c4, 0, none⟩)] w (Gives (.bool (diffC a b ((x : Int), (y : Int)))) w) := by
  have hia := fun w => run_byte a hx w
  have hib := fun w => run_byte b hy w
  have l3 := World.block_lt_of_cell? _ _ h3
  have l4 := World.block_lt_of_cell? _ _ h4
  dsimp only at l3 l4
  obtain ⟨B, hB⟩ : ∃ B, (((bt a x).toNat : Int) != ((bt b y).toNat : Int)) = B := ⟨_, rfl⟩
  have HR := Lib.hid (show diffC a b ((x : Int), (y : Int)) = B by
    rw [diffC, ← hB, Int.toNat_natCast, Int.toNat_natCast, Bool.eq_iff_iff]
    simp
    refine not_congr ⟨fun e => by rw [e], fun e => UInt8.toNat_inj.1 (by exact_mod_cast e)⟩)
  clear hx hy
  go_enter Try.func74, Try.ntmps74
  go_wp2
  refine Mix.region_mixL (Mix.kinds [] [] []) (by kernel_rfl) (by kernel_rfl) ?_
  repeat ((with_reducible refine Mix.atCons ?_); first | refine Mix.skipU (by rfl) rfl (by rfl) ?_ | (refine Mix.val rfl rfl (by rfl) (fun K hK => ?_); go_big_quiet_op; refine hK _ ?_; clear hK K) | (refine Mix.skip (by rfl) ?_; go_frame))
  refine Mix.done (fun x0 => ?_)
  go_wp2
  go_ret
  exact ⟨ret_bool HR.out.symm, (Later.new _ _).step x0, rfl⟩

set_option maxRecDepth 100000 in
set_option maxHeartbeats 4000000 in
theorem IndexFunc_72 (c3 c4 : Nat) (q : Int × Int → Bool) (v : Value) (ps : List (Int × Int)) (w : World) (hv : Prs w v ps)
    (H : ∀ (x : Later w) k, k < ps.length → Calls Try.prog 72 #[.agg #[.int .i64 (pr ps k).1, .int .i64 (pr ps k).2], .pointer (some ⟨c3, 0, none⟩), .pointer (some ⟨c4, 0, none⟩)] x.w (Gives (.bool (q (pr ps k))) x.w)) :
    Calls Try.prog 91 #[v, .func (.func 72) #[] #[.pointer (some ⟨c3, 0, none⟩), .pointer (some ⟨c4, 0, none⟩)]] w fun e w' => ∃ r : Int, ∃ x : Later w, e = .returned (.int .i64 r) ∧ w' = x.w ∧ decide (0 ≤ r) = ps.any q := by
  obtain ⟨av, nv, cv, rfl⟩ : ∃ a n c, v = .slice a n c := by obtain ⟨a, c, e⟩ := hv.form; exact ⟨a, _, c, e⟩
  have HN := Lib.hid (show nv = ps.length by obtain ⟨a, c, e⟩ := hv.form; cases e; rfl)
  have hnv : nv ≤ 9007199254740992 := by rw [HN.out]; exact hv.1
  have HH := Lib.hid H
  clear H
  go_enter Try.func91, Try.ntmps91
  go_wp2
  go_loopw [5, 8] (fun _ i wr => ∃ (k : Nat) (u : Later w), wr = u.w ∧ k ≤ nv ∧ i = .int .i64 k ∧ Hid (∀ j, j < k → q (pr ps j) = false)) (fun _ i _ => nv - (intOf i).toNat)
  case atStart => exact ⟨0, Later.self _, rfl, Nat.zero_le _, rfl, Lib.hid (fun j hj => absurd hj (Nat.not_lt_zero _))⟩
  case round =>
    obtain ⟨k, u, rfl, hk, rfl, hJ⟩ := hrel
    by_cases hlt : k < nv
    · have hvu := hv.later u
      obtain ⟨bm, om, km, e, hkm, hbm, hgm⟩ := hvu.at (k := k) (by rw [← HN.out]; exact hlt)
      injection e with e1 e2 e3
      subst e1 e3
      clear e2
      obtain ⟨p1, p2⟩ := hgm k (by rw [← HN.out]; exact hlt)
      have hcl := HH.out u k (by rw [← HN.out]; exact hlt)
      obtain ⟨px, hpx⟩ : ∃ v, (pr ps k).1 = v := ⟨_, rfl⟩
      obtain ⟨py, hpy⟩ : ∃ v, (pr ps k).2 = v := ⟨_, rfl⟩
      obtain ⟨B, hB⟩ : ∃ B, q (pr ps k) = B := ⟨_, rfl⟩
      rw [hpx] at p1 hcl
      rw [hpy] at p2 hcl
      rw [hB] at hcl
      have HB := Lib.hid hB
      have HCL := Lib.hid hcl
      clear hgm hkm hvu hpx hpy hB hcl
      go_wp2_with fail
      refine HCL.out.mono ?_
      rintro e w' ⟨rfl, y, rfl⟩
      cases B
      · go_wp2
        go_roundw
        case rel => exact ⟨k + 1, u.step y, rfl, by omega, by go_num, Lib.hid (fun j hj => by
          by_cases h : j = k
          · rw [h]; exact HB.out
          · exact hJ.out j (by omega))⟩
        case measure => simp [intOf] <;> omega
      · go_wp2
        go_ret
        refine ⟨k, u.step y, rfl, rfl, ?_⟩
        rw [any_at (l := ps) (d := (0, 0)) (f := q) (k := k) (by rw [← HN.out]; exact hlt) HB.out]
        simp
    · obtain rfl : nv = k := by omega
      have hno := Lib.hid (any_off (l := ps) (d := (0, 0)) (f := q) fun j hj => hJ.out j (by rw [HN.out]; exact hj))
      go_wp2
      go_ret
      exact ⟨-1, u, rfl, rfl, by rw [hno.out]; rfl⟩
set_option maxHeartbeats 1000000 in
theorem ContainsFunc_72 (c3 c4 : Nat) (q : Int × Int → Bool) (v : Value) (ps : List (Int × Int)) (w : World) (hv : Prs w v ps)
    (H : ∀ (x : Later w) k, k < ps.length → Calls Try.prog 72 #[.agg #[.int .i64 (pr ps k).1, .int .i64 (pr ps k).2], .pointer (some ⟨c3, 0, none⟩), .pointer (some ⟨c4, 0, none⟩)] x.w (Gives (.bool (q (pr ps k))) x.w)) :
    Calls Try.prog 73 #[v, .func (.func 72) #[] #[.pointer (some ⟨c3, 0, none⟩), .pointer (some ⟨c4, 0, none⟩)]] w (Gives (.bool (ps.any q)) w) := by
  go_enter Try.func73, Try.ntmps73
  go_wp2_with fail
  refine (IndexFunc_72 c3 c4 q v ps w hv H).mono ?_
  rintro e w' ⟨r, x, rfl, rfl, hr⟩
  go_wp2
  go_ret
  exact ⟨rfl, x, rfl⟩

set_option maxRecDepth 100000 in
set_option maxHeartbeats 4000000 in
theorem IndexFunc_74 (c3 c4 : Nat) (q : Int × Int → Bool) (v : Value) (ps : List (Int × Int)) (w : World) (hv : Prs w v ps)
    (H : ∀ (x : Later w) k, k < ps.length → Calls Try.prog 74 #[.agg #[.int .i64 (pr ps k).1, .int .i64 (pr ps k).2], .pointer (some ⟨c3, 0, none⟩), .pointer (some ⟨c4, 0, none⟩)] x.w (Gives (.bool (q (pr ps k))) x.w)) :
    Calls Try.prog 91 #[v, .func (.func 74) #[] #[.pointer (some ⟨c3, 0, none⟩), .pointer (some ⟨c4, 0, none⟩)]] w fun e w' => ∃ r : Int, ∃ x : Later w, e = .returned (.int .i64 r) ∧ w' = x.w ∧ decide (0 ≤ r) = ps.any q := by
  obtain ⟨av, nv, cv, rfl⟩ : ∃ a n c, v = .slice a n c := by obtain ⟨a, c, e⟩ := hv.form; exact ⟨a, _, c, e⟩
  have HN := Lib.hid (show nv = ps.length by obtain ⟨a, c, e⟩ := hv.form; cases e; rfl)
  have hnv : nv ≤ 9007199254740992 := by rw [HN.out]; exact hv.1
  have HH := Lib.hid H
  clear H
  go_enter Try.func91, Try.ntmps91
  go_wp2
  go_loopw [5, 8] (fun _ i wr => ∃ (k : Nat) (u : Later w), wr = u.w ∧ k ≤ nv ∧ i = .int .i64 k ∧ Hid (∀ j, j < k → q (pr ps j) = false)) (fun _ i _ => nv - (intOf i).toNat)
  case atStart => exact ⟨0, Later.self _, rfl, Nat.zero_le _, rfl, Lib.hid (fun j hj => absurd hj (Nat.not_lt_zero _))⟩
  case round =>
    obtain ⟨k, u, rfl, hk, rfl, hJ⟩ := hrel
    by_cases hlt : k < nv
    · have hvu := hv.later u
      obtain ⟨bm, om, km, e, hkm, hbm, hgm⟩ := hvu.at (k := k) (by rw [← HN.out]; exact hlt)
      injection e with e1 e2 e3
      subst e1 e3
      clear e2
      obtain ⟨p1, p2⟩ := hgm k (by rw [← HN.out]; exact hlt)
      have hcl := HH.out u k (by rw [← HN.out]; exact hlt)
      obtain ⟨px, hpx⟩ : ∃ v, (pr ps k).1 = v := ⟨_, rfl⟩
      obtain ⟨py, hpy⟩ : ∃ v, (pr ps k).2 = v := ⟨_, rfl⟩
      obtain ⟨B, hB⟩ : ∃ B, q (pr ps k) = B := ⟨_, rfl⟩
      rw [hpx] at p1 hcl
      rw [hpy] at p2 hcl
      rw [hB] at hcl
      have HB := Lib.hid hB
      have HCL := Lib.hid hcl
      clear hgm hkm hvu hpx hpy hB hcl
      go_wp2_with fail
      refine HCL.out.mono ?_
      rintro e w' ⟨rfl, y, rfl⟩
      cases B
      · go_wp2
        go_roundw
        case rel => exact ⟨k + 1, u.step y, rfl, by omega, by go_num, Lib.hid (fun j hj => by
          by_cases h : j = k
          · rw [h]; exact HB.out
          · exact hJ.out j (by omega))⟩
        case measure => simp [intOf] <;> omega
      · go_wp2
        go_ret
        refine ⟨k, u.step y, rfl, rfl, ?_⟩
        rw [any_at (l := ps) (d := (0, 0)) (f := q) (k := k) (by rw [← HN.out]; exact hlt) HB.out]
        simp
    · obtain rfl : nv = k := by omega
      have hno := Lib.hid (any_off (l := ps) (d := (0, 0)) (f := q) fun j hj => hJ.out j (by rw [HN.out]; exact hj))
      go_wp2
      go_ret
      exact ⟨-1, u, rfl, rfl, by rw [hno.out]; rfl⟩
set_option maxHeartbeats 1000000 in
theorem ContainsFunc_74 (c3 c4 : Nat) (q : Int × Int → Bool) (v : Value) (ps : List (Int × Int)) (w : World) (hv : Prs w v ps)
    (H : ∀ (x : Later w) k, k < ps.length → Calls Try.prog 74 #[.agg #[.int .i64 (pr ps k).1, .int .i64 (pr ps k).2], .pointer (some ⟨c3, 0, none⟩), .pointer (some ⟨c4, 0, none⟩)] x.w (Gives (.bool (q (pr ps k))) x.w)) :
    Calls Try.prog 73 #[v, .func (.func 74) #[] #[.pointer (some ⟨c3, 0, none⟩), .pointer (some ⟨c4, 0, none⟩)]] w (Gives (.bool (ps.any q)) w) := by
  go_enter Try.func73, Try.ntmps73
  go_wp2_with fail
  refine (IndexFunc_74 c3 c4 q v ps w hv H).mono ?_
  rintro e w' ⟨r, x, rfl, rfl, hr⟩
  go_wp2
  go_ret
  exact ⟨rfl, x, rfl⟩

end Go.Proofs.Ytpkgfkeekcgkcaa

/-  The program's CheckCommon. -/
namespace Go.Proofs.Ytpkgfkeekcgkcaa
open Go.RowKit
set_option maxRecDepth 100000 in
set_option maxHeartbeats 8000000 in
theorem CheckCommon_calls (a b : List UInt8) (pv : Value) (ps : List (Int × Int)) (W : World) (hx : Prs W pv ps) : Calls Try.prog 34 #[.string ⟨a.toArray⟩, .string ⟨b.toArray⟩, pv] W (Gives (.tuple #[.int .i64 (ccN a b ps), .int .i64 (ccE a b ps)]) W) := by
  have S : Ins W [] := Ins.nil _
  obtain ⟨al, nl, cl, rfl⟩ : ∃ a n c, pv = .slice a n c := by obtain ⟨a, c, e⟩ := hx.form; exact ⟨a, _, c, e⟩
  have HNL := Lib.hid (show nl = ps.length by obtain ⟨a, c, e⟩ := hx.form; cases e; rfl)
  have hll : nl ≤ 9007199254740992 := by rw [HNL.out]; exact hx.1
  obtain ⟨E, hE⟩ : ∃ E, txtsE a b = E := ⟨_, rfl⟩
  have HE := Lib.hid hE
  by_cases h0 : E = 0
  rotate_left
  · have HR := Lib.hid (show ccN a b ps = 0 ∧ ccE a b ps = E by
      have e : ccE a b ps = E := by rw [ccE, hE, if_pos h0]
      exact ⟨by rw [ccN, e, if_neg h0], e⟩)
    have hne : (E != 0) = true := by simpa using h0
    have HX := Lib.hid (fun W => compare_err a b W (by rw [hE]; exact h0))
    rw [hE] at HX
    clear hE h0
    go_enter Try.func34, Try.ntmps34
    go_wp2_with fail
    obtain ⟨B1, hb⟩ : ∃ b, b = W.heap.size := ⟨_, rfl⟩
    have l1 : Lin (W.alloc (.cells #[.string ⟨a.toArray⟩] 9)) B1 9 [.string ⟨a.toArray⟩] := by rw [hb]; exact Lin.new _ _ [.string ⟨a.toArray⟩]
    replace S := S.later (Later.new _ (.cells #[.string ⟨a.toArray⟩] 9))
    rw [Later.new_w] at S
    replace hx := hx.later (Later.new _ (.cells #[.string ⟨a.toArray⟩] 9))
    rw [Later.new_w] at hx
    have hsz : (W.alloc (.cells #[.string ⟨a.toArray⟩] 9)).heap.size = B1 + 1 := by rw [hb]; simp
    obtain ⟨Y2, hZ⟩ : ∃ Z : Later W, Z.w = W.alloc (.cells #[.string ⟨a.toArray⟩] 9) := ⟨Later.new _ _, rfl⟩
    rw [← hZ] at S hsz hx l1 ⊢
    clear hZ
    rw [← hb]
    clear hb
    have hs2 := hsz
    rw [← hsz]
    clear hsz hs2
    obtain ⟨B3, hb⟩ : ∃ b, b = Y2.w.heap.size := ⟨_, rfl⟩
    have l3 : Lin (Y2.w.alloc (.cells #[.string ⟨b.toArray⟩] 9)) B3 9 [.string ⟨b.toArray⟩] := by rw [hb]; exact Lin.new _ _ [.string ⟨b.toArray⟩]
    replace S := S.later (Later.new _ (.cells #[.string ⟨b.toArray⟩] 9))
    rw [Later.new_w] at S
    replace hx := hx.later (Later.new _ (.cells #[.string ⟨b.toArray⟩] 9))
    rw [Later.new_w] at hx
    replace l1 := l1.later (Later.new _ (.cells #[.string ⟨b.toArray⟩] 9))
    rw [Later.new_w] at l1
    have hsz : (Y2.w.alloc (.cells #[.string ⟨b.toArray⟩] 9)).heap.size = B3 + 1 := by rw [hb]; simp
    obtain ⟨Y4, hZ⟩ : ∃ Z : Later W, Z.w = Y2.w.alloc (.cells #[.string ⟨b.toArray⟩] 9) := ⟨Y2.step (Later.new _ _), rfl⟩
    rw [← hZ] at S hsz hx l1 l3 ⊢
    clear hZ
    rw [← hb]
    clear hb
    clear hsz
    have q0_0 := l1.cell (k := 0) rfl
    have q0_l := l1.lt
    have q1_0 := l3.cell (k := 0) rfl
    have q1_l := l3.lt
    go_wp2_with fail
    clear q0_0 q0_l
    clear q1_0 q1_l
    refine (HX.out _).mono ?_
    rintro e w' ⟨rfl, hw⟩
    rw [hw]
    clear hw w'
    go_wp2
    refine bodyPost_ret (v := .tuple #[.int .i64 0, .int .i64 E]) (by simp [results, Try.results34, go_sem]) rfl ?_
    exact ⟨by rw [HR.out.1, HR.out.2], Y4, rfl⟩
  subst h0
  have hok := txts_ok hE
  have HE0 := Lib.hid hE
  obtain ⟨n, hn⟩ : ∃ n, a.length = n := ⟨_, rfl⟩
  obtain ⟨m, hm⟩ : ∃ n, b.length = n := ⟨_, rfl⟩
  rw [hn, hm] at hok
  obtain ⟨ha, hb⟩ := hok
  have HN := Lib.hid hn
  have HM := Lib.hid hm
  clear hE hn hm
  obtain ⟨B, hB⟩ : ∃ B, ps.any (strayC n m) = B := ⟨_, rfl⟩
  have HST := Lib.hid hB
  cases B
  rotate_left
  · have HR := Lib.hid (cc_stray (ps := ps) HE0.out (by rw [HN.out, HM.out]; exact hB))
    clear hB
    go_enter Try.func34, Try.ntmps34
    go_wp2_with fail
    obtain ⟨B1, hb⟩ : ∃ b, b = W.heap.size := ⟨_, rfl⟩
    have l1 : Lin (W.alloc (.cells #[.string ⟨a.toArray⟩] 9)) B1 9 [.string ⟨a.toArray⟩] := by rw [hb]; exact Lin.new _ _ [.string ⟨a.toArray⟩]
    replace S := S.later (Later.new _ (.cells #[.string ⟨a.toArray⟩] 9))
    rw [Later.new_w] at S
    replace hx := hx.later (Later.new _ (.cells #[.string ⟨a.toArray⟩] 9))
    rw [Later.new_w] at hx
    have hsz : (W.alloc (.cells #[.string ⟨a.toArray⟩] 9)).heap.size = B1 + 1 := by rw [hb]; simp
    obtain ⟨Y2, hZ⟩ : ∃ Z : Later W, Z.w = W.alloc (.cells #[.string ⟨a.toArray⟩] 9) := ⟨Later.new _ _, rfl⟩
    rw [← hZ] at S hsz hx l1 ⊢
    clear hZ
    rw [← hb]
    clear hb
    have hs2 := hsz
    rw [← hsz]
    clear hsz hs2
    obtain ⟨B3, hb⟩ : ∃ b, b = Y2.w.heap.size := ⟨_, rfl⟩
    have l3 : Lin (Y2.w.alloc (.cells #[.string ⟨b.toArray⟩] 9)) B3 9 [.string ⟨b.toArray⟩] := by rw [hb]; exact Lin.new _ _ [.string ⟨b.toArray⟩]
    replace S := S.later (Later.new _ (.cells #[.string ⟨b.toArray⟩] 9))
    rw [Later.new_w] at S
    replace hx := hx.later (Later.new _ (.cells #[.string ⟨b.toArray⟩] 9))
    rw [Later.new_w] at hx
    replace l1 := l1.later (Later.new _ (.cells #[.string ⟨b.toArray⟩] 9))
    rw [Later.new_w] at l1
    have hsz : (Y2.w.alloc (.cells #[.string ⟨b.toArray⟩] 9)).heap.size = B3 + 1 := by rw [hb]; simp
    obtain ⟨Y4, hZ⟩ : ∃ Z : Later W, Z.w = Y2.w.alloc (.cells #[.string ⟨b.toArray⟩] 9) := ⟨Y2.step (Later.new _ _), rfl⟩
    rw [← hZ] at S hsz hx l1 l3 ⊢
    clear hZ
    rw [← hb]
    clear hb
    clear hsz
    have q0_0 := l1.cell (k := 0) rfl
    have q0_l := l1.lt
    have q1_0 := l3.cell (k := 0) rfl
    have q1_l := l3.lt
    go_wp2_with fail
    clear q0_0 q0_l
    clear q1_0 q1_l
    refine (compare_ok a b _ HE0.out).mono ?_
    rintro e w' ⟨p, mp, M, y, rfl, rfl, -, -⟩
    replace hx := hx.later y
    replace l1 := l1.later y
    replace l3 := l3.later y
    replace S := S.later y
    obtain ⟨Y5, hZ⟩ : ∃ Z : Later W, Z.w = y.w := ⟨Y4.step (y), rfl⟩
    rw [← hZ] at S hx l1 l3 ⊢
    clear hZ
    clear y
    go_wp2_with fail
    refine (ContainsFunc_72 B1 B3 (strayC n m) _ ps _ hx (fun x k hk => stray_calls _ _ n m _ _ a b HN.out HM.out ha hb _ ((l1.later x).cell (k := 0) rfl) ((l3.later x).cell (k := 0) rfl))).mono ?_
    rintro e w' ⟨rfl, y, rfl⟩
    rw [HST.out]
    replace hx := hx.later y
    replace l1 := l1.later y
    replace l3 := l3.later y
    replace S := S.later y
    obtain ⟨Y6, hZ⟩ : ∃ Z : Later W, Z.w = y.w := ⟨Y5.step (y), rfl⟩
    rw [← hZ] at S hx l1 l3 ⊢
    clear hZ
    clear y
    go_wp2
    refine bodyPost_ret (v := .tuple #[.int .i64 0, .int .i64 3]) (by simp [results, Try.results34, go_sem]) rfl ?_
    exact ⟨by rw [HR.out.1, HR.out.2], Y6, rfl⟩
  have HST2 := Lib.hid (show ps.any (strayC a.length b.length) = false by rw [HN.out, HM.out]; exact hB)
  clear hB
  obtain ⟨B, hB⟩ : ∃ B, ps.any (diffC a b) = B := ⟨_, rfl⟩
  have HDF := Lib.hid hB
  have HIN := Lib.hid (show ∀ k, k < ps.length → ∃ x y : Nat, pr ps k = ((x : Int), (y : Int)) ∧ x < a.length ∧ y < b.length from fun k hk => by
    have h1 := any_get (l := ps) (d := (0, 0)) HST2.out hk
    have h2 : strayC a.length b.length (pr ps k) = false := h1
    rw [strayC] at h2
    simp only [Bool.or_eq_false_iff, decide_eq_false_iff_not] at h2
    obtain ⟨x, hx⟩ := Int.eq_ofNat_of_zero_le (show 0 ≤ (pr ps k).1 by omega)
    obtain ⟨y, hy⟩ := Int.eq_ofNat_of_zero_le (show 0 ≤ (pr ps k).2 by omega)
    exact ⟨x, y, Prod.ext hx hy, by omega, by omega⟩)
  have HCD := Lib.hid (show ∀ (c3 c4 : Nat) (w : World), w.cell? ⟨c3, 0, none⟩ = some (.string ⟨a.toArray⟩) → w.cell? ⟨c4, 0, none⟩ = some (.string ⟨b.toArray⟩) → ∀ k, k < ps.length → Calls Try.prog 74 #[.agg #[.int .i64 (pr ps k).1, .int .i64 (pr ps k).2], .pointer (some ⟨c3, 0, none⟩), .pointer (some ⟨c4, 0, none⟩)] w (Gives (.bool (diffC a b (pr ps k))) w) from fun c3 c4 w h3 h4 k hk => by
    obtain ⟨x, y, e, hx, hy⟩ := HIN.out k hk
    rw [e]
    exact diff_calls x y c3 c4 a b hx hy w h3 h4)
  clear HIN
  cases B
  rotate_left
  · have HR := Lib.hid (cc_diff (ps := ps) HE0.out HST2.out hB)
    clear hB
    go_enter Try.func34, Try.ntmps34
    go_wp2_with fail
    obtain ⟨B1, hb⟩ : ∃ b, b = W.heap.size := ⟨_, rfl⟩
    have l1 : Lin (W.alloc (.cells #[.string ⟨a.toArray⟩] 9)) B1 9 [.string ⟨a.toArray⟩] := by rw [hb]; exact Lin.new _ _ [.string ⟨a.toArray⟩]
    replace S := S.later (Later.new _ (.cells #[.string ⟨a.toArray⟩] 9))
    rw [Later.new_w] at S
    replace hx := hx.later (Later.new _ (.cells #[.string ⟨a.toArray⟩] 9))
    rw [Later.new_w] at hx
    have hsz : (W.alloc (.cells #[.string ⟨a.toArray⟩] 9)).heap.size = B1 + 1 := by rw [hb]; simp
    obtain ⟨Y2, hZ⟩ : ∃ Z : Later W, Z.w = W.alloc (.cells #[.string ⟨a.toArray⟩] 9) := ⟨Later.new _ _, rfl⟩
    rw [← hZ] at S hsz hx l1 ⊢
    clear hZ
    rw [← hb]
    clear hb
    have hs2 := hsz
    rw [← hsz]
    clear hsz hs2
    obtain ⟨B3, hb⟩ : ∃ b, b = Y2.w.heap.size := ⟨_, rfl⟩
    have l3 : Lin (Y2.w.alloc (.cells #[.string ⟨b.toArray⟩] 9)) B3 9 [.string ⟨b.toArray⟩] := by rw [hb]; exact Lin.new _ _ [.string ⟨b.toArray⟩]
    replace S := S.later (Later.new _ (.cells #[.string ⟨b.toArray⟩] 9))
    rw [Later.new_w] at S
    replace hx := hx.later (Later.new _ (.cells #[.string ⟨b.toArray⟩] 9))
    rw [Later.new_w] at hx
    replace l1 := l1.later (Later.new _ (.cells #[.string ⟨b.toArray⟩] 9))
    rw [Later.new_w] at l1
    have hsz : (Y2.w.alloc (.cells #[.string ⟨b.toArray⟩] 9)).heap.size = B3 + 1 := by rw [hb]; simp
    obtain ⟨Y4, hZ⟩ : ∃ Z : Later W, Z.w = Y2.w.alloc (.cells #[.string ⟨b.toArray⟩] 9) := ⟨Y2.step (Later.new _ _), rfl⟩
    rw [← hZ] at S hsz hx l1 l3 ⊢
    clear hZ
    rw [← hb]
    clear hb
    clear hsz
    have q0_0 := l1.cell (k := 0) rfl
    have q0_l := l1.lt
    have q1_0 := l3.cell (k := 0) rfl
    have q1_l := l3.lt
    go_wp2_with fail
    clear q0_0 q0_l
    clear q1_0 q1_l
    refine (compare_ok a b _ HE0.out).mono ?_
    rintro e w' ⟨p, mp, M, y, rfl, rfl, -, -⟩
    replace hx := hx.later y
    replace l1 := l1.later y
    replace l3 := l3.later y
    replace S := S.later y
    obtain ⟨Y5, hZ⟩ : ∃ Z : Later W, Z.w = y.w := ⟨Y4.step (y), rfl⟩
    rw [← hZ] at S hx l1 l3 ⊢
    clear hZ
    clear y
    go_wp2_with fail
    refine (ContainsFunc_72 B1 B3 (strayC n m) _ ps _ hx (fun x k hk => stray_calls _ _ n m _ _ a b HN.out HM.out ha hb _ ((l1.later x).cell (k := 0) rfl) ((l3.later x).cell (k := 0) rfl))).mono ?_
    rintro e w' ⟨rfl, y, rfl⟩
    rw [HST.out]
    replace hx := hx.later y
    replace l1 := l1.later y
    replace l3 := l3.later y
    replace S := S.later y
    obtain ⟨Y6, hZ⟩ : ∃ Z : Later W, Z.w = y.w := ⟨Y5.step (y), rfl⟩
    rw [← hZ] at S hx l1 l3 ⊢
    clear hZ
    clear y
    go_wp2_with fail
    refine (ContainsFunc_74 B1 B3 (diffC a b) _ ps _ hx (fun x k hk => HCD.out _ _ _ ((l1.later x).cell (k := 0) rfl) ((l3.later x).cell (k := 0) rfl) k hk)).mono ?_
    rintro e w' ⟨rfl, y, rfl⟩
    rw [HDF.out]
    replace hx := hx.later y
    replace l1 := l1.later y
    replace l3 := l3.later y
    replace S := S.later y
    obtain ⟨Y7, hZ⟩ : ∃ Z : Later W, Z.w = y.w := ⟨Y6.step (y), rfl⟩
    rw [← hZ] at S hx l1 l3 ⊢
    clear hZ
    clear y
    go_wp2
    refine bodyPost_ret (v := .tuple #[.int .i64 0, .int .i64 15]) (by simp [results, Try.results34, go_sem]) rfl ?_
    exact ⟨by rw [HR.out.1, HR.out.2], Y7, rfl⟩
  clear hB
  go_enter Try.func34, Try.ntmps34
  go_wp2_with fail
  obtain ⟨B1, hb⟩ : ∃ b, b = W.heap.size := ⟨_, rfl⟩
  have l1 : Lin (W.alloc (.cells #[.string ⟨a.toArray⟩] 9)) B1 9 [.string ⟨a.toArray⟩] := by rw [hb]; exact Lin.new _ _ [.string ⟨a.toArray⟩]
  replace S := S.later (Later.new _ (.cells #[.string ⟨a.toArray⟩] 9))
  rw [Later.new_w] at S
  replace hx := hx.later (Later.new _ (.cells #[.string ⟨a.toArray⟩] 9))
  rw [Later.new_w] at hx
  have hsz : (W.alloc (.cells #[.string ⟨a.toArray⟩] 9)).heap.size = B1 + 1 := by rw [hb]; simp
  obtain ⟨Y2, hZ⟩ : ∃ Z : Later W, Z.w = W.alloc (.cells #[.string ⟨a.toArray⟩] 9) := ⟨Later.new _ _, rfl⟩
  rw [← hZ] at S hsz hx l1 ⊢
  clear hZ
  rw [← hb]
  clear hb
  have hs2 := hsz
  rw [← hsz]
  clear hsz hs2
  obtain ⟨B3, hb⟩ : ∃ b, b = Y2.w.heap.size := ⟨_, rfl⟩
  have l3 : Lin (Y2.w.alloc (.cells #[.string ⟨b.toArray⟩] 9)) B3 9 [.string ⟨b.toArray⟩] := by rw [hb]; exact Lin.new _ _ [.string ⟨b.toArray⟩]
  replace S := S.later (Later.new _ (.cells #[.string ⟨b.toArray⟩] 9))
  rw [Later.new_w] at S
  replace hx := hx.later (Later.new _ (.cells #[.string ⟨b.toArray⟩] 9))
  rw [Later.new_w] at hx
  replace l1 := l1.later (Later.new _ (.cells #[.string ⟨b.toArray⟩] 9))
  rw [Later.new_w] at l1
  have hsz : (Y2.w.alloc (.cells #[.string ⟨b.toArray⟩] 9)).heap.size = B3 + 1 := by rw [hb]; simp
  obtain ⟨Y4, hZ⟩ : ∃ Z : Later W, Z.w = Y2.w.alloc (.cells #[.string ⟨b.toArray⟩] 9) := ⟨Y2.step (Later.new _ _), rfl⟩
  rw [← hZ] at S hsz hx l1 l3 ⊢
  clear hZ
  rw [← hb]
  clear hb
  clear hsz
  have q0_0 := l1.cell (k := 0) rfl
  have q0_l := l1.lt
  have q1_0 := l3.cell (k := 0) rfl
  have q1_l := l3.lt
  go_wp2_with fail
  clear q0_0 q0_l
  clear q1_0 q1_l
  refine (compare_ok a b _ HE0.out).mono ?_
  rintro e w' ⟨p, mp, M, y, rfl, rfl, -, -⟩
  replace hx := hx.later y
  replace l1 := l1.later y
  replace l3 := l3.later y
  replace S := S.later y
  obtain ⟨Y5, hZ⟩ : ∃ Z : Later W, Z.w = y.w := ⟨Y4.step (y), rfl⟩
  rw [← hZ] at S hx l1 l3 ⊢
  clear hZ
  clear y
  go_wp2_with fail
  refine (ContainsFunc_72 B1 B3 (strayC n m) _ ps _ hx (fun x k hk => stray_calls _ _ n m _ _ a b HN.out HM.out ha hb _ ((l1.later x).cell (k := 0) rfl) ((l3.later x).cell (k := 0) rfl))).mono ?_
  rintro e w' ⟨rfl, y, rfl⟩
  rw [HST.out]
  replace hx := hx.later y
  replace l1 := l1.later y
  replace l3 := l3.later y
  replace S := S.later y
  obtain ⟨Y6, hZ⟩ : ∃ Z : Later W, Z.w = y.w := ⟨Y5.step (y), rfl⟩
  rw [← hZ] at S hx l1 l3 ⊢
  clear hZ
  clear y
  go_wp2_with fail
  refine (ContainsFunc_74 B1 B3 (diffC a b) _ ps _ hx (fun x k hk => HCD.out _ _ _ ((l1.later x).cell (k := 0) rfl) ((l3.later x).cell (k := 0) rfl) k hk)).mono ?_
  rintro e w' ⟨rfl, y, rfl⟩
  rw [HDF.out]
  replace hx := hx.later y
  replace l1 := l1.later y
  replace l3 := l3.later y
  replace S := S.later y
  obtain ⟨Y7, hZ⟩ : ∃ Z : Later W, Z.w = y.w := ⟨Y6.step (y), rfl⟩
  rw [← hZ] at S hx l1 l3 ⊢
  clear hZ
  clear y
  go_wp2
  go_loopw [11] (fun i0 wr => ∃ (k : Nat) (V : Later Y7.w), wr = V.w ∧ (k ≤ nl ∨ k = 1) ∧ 1 ≤ k ∧ i0 = .int .i64 k ∧ Hid (∀ j, j < k → stepC ps j = false)) (fun i0 _ => nl - (intOf i0).toNat)
  case atStart => exact ⟨1, Later.self _, rfl, .inr rfl, Nat.le_refl _, rfl, Lib.hid (fun j hj => by
    obtain rfl : j = 0 := by omega
    rfl)⟩
  obtain ⟨k, V, rfl, hk, hk1, rfl, hJ⟩ := hrel
  by_cases hlt : k < nl
  · obtain ⟨j, rfl⟩ : ∃ j, k = j + 1 := ⟨k - 1, by omega⟩
    obtain ⟨bm, om, km, e, hkm, hbm, hgm⟩ := (hx.later V).at (k := (j + 1)) (by rw [← HNL.out]; exact hlt)
    injection e with e1 e2 e3
    subst e1 e3
    clear e2
    obtain ⟨p1, p2⟩ := hgm (j + 1) (by rw [← HNL.out]; omega)
    obtain ⟨px, hpx⟩ : ∃ v, (pr ps ((j + 1))).1 = v := ⟨_, rfl⟩
    obtain ⟨py, hpy⟩ : ∃ v, (pr ps ((j + 1))).2 = v := ⟨_, rfl⟩
    rw [hpx] at p1
    rw [hpy] at p2
    obtain ⟨r1, r2⟩ := hgm j (by rw [← HNL.out]; omega)
    obtain ⟨rx, hrx⟩ : ∃ v, (pr ps (j)).1 = v := ⟨_, rfl⟩
    obtain ⟨ry, hry⟩ : ∃ v, (pr ps (j)).2 = v := ⟨_, rfl⟩
    rw [hrx] at r1
    rw [hry] at r2
    clear hgm hkm
    have hsx : stepC ps (j + 1) = !(befP (rx, ry) (px, py)) := by rw [stepC, Nat.add_sub_cancel, befP, befP, hpx, hpy, hrx, hry]; simp
    clear hpx hpy hrx hry
    obtain ⟨B, hB⟩ : ∃ B, befP (rx, ry) (px, py) = B := ⟨_, rfl⟩
    rw [hB] at hsx
    have HSX := Lib.hid hsx
    have HBB := Lib.hid hB
    clear hsx hB
    go_wp2
    refine Mix.region_mixL (Mix.kinds [] [24] []) (by kernel_rfl) (by kernel_rfl) ?_
    repeat ((with_reducible refine Mix.atCons ?_); first | refine Mix.skipU (by rfl) rfl (by rfl) ?_ | (refine Mix.val rfl rfl (by rfl) (fun K hK => ?_); go_big_quiet_op; refine hK _ ?_; clear hK K) | (refine Mix.skip (by rfl) ?_; go_frame))
    refine Mix.loud rfl (by rfl) (fun x1 K hK => ?_)
    go_wp2_with fail
    refine (before_calls rx ry px py _).mono ?_
    rintro e w' ⟨rfl, y, rfl⟩
    rw [HBB.out]
    refine hK _ y ?_
    clear hK K
    try go_frame
    repeat ((with_reducible refine Mix.atCons ?_); first | refine Mix.skipU (by rfl) rfl (by rfl) ?_ | (refine Mix.val rfl rfl (by rfl) (fun K hK => ?_); go_big_quiet_op; refine hK _ ?_; clear hK K) | (refine Mix.skip (by rfl) ?_; go_frame))
    refine Mix.done (fun x2 => ?_)
    obtain ⟨V2, hV2⟩ : ∃ V2 : Later Y7.w, V2.w = x2.w := ⟨((V.step x1).step y).step x2, rfl⟩
    rw [← hV2]
    clear hV2 x2 y x1 p1 p2 r1 r2
    cases B
    · have HR := Lib.hid (cc_step (ps := ps) HE0.out HST2.out HDF.out (List.any_eq_true.2 ⟨j + 1, List.mem_range.2 (by rw [← HNL.out]; exact hlt), HSX.out⟩))
      go_wp2
      refine bodyPost_ret (v := .tuple #[.int .i64 0, .int .i64 14]) (by simp [results, Try.results34, go_sem]) rfl ?_
      exact ⟨by rw [HR.out.1, HR.out.2], Y7.step V2, rfl⟩
    · go_wp2
      go_roundw
      case rel => exact ⟨j + 1 + 1, V2, rfl, by omega, by omega, by go_num, Lib.hid (fun i hi => by
        by_cases h : i = j + 1
        · rw [h]; exact HSX.out
        · exact hJ.out i (by omega))⟩
      case measure => simp [intOf] <;> omega
  have HAN := Lib.hid (show (List.range ps.length).any (stepC ps) = false by
    cases h : (List.range ps.length).any (stepC ps)
    · rfl
    · obtain ⟨i, hi, h⟩ := List.any_eq_true.1 h
      have hi := List.mem_range.1 hi
      rw [hJ.out i (by rw [← HNL.out] at hi; omega)] at h
      cases h)
  have HR := Lib.hid (cc_ok (ps := ps) HE0.out HST2.out HDF.out HAN.out)
  go_wp2
  refine bodyPost_ret (v := .tuple #[.int .i64 nl, .int .i64 0]) (by simp [results, Try.results34, go_sem]) rfl ?_
  exact ⟨by rw [HR.out.1, HR.out.2, ← HNL.out], Y7.step V, rfl⟩
end Go.Proofs.Ytpkgfkeekcgkcaa
