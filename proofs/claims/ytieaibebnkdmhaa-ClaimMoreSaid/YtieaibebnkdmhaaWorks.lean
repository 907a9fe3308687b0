import Derived.Test.YtieaibebnkdmhaaClosed
namespace Go.Proofs.Ytieaibebnkdmhaa
open Go.RowKit


set_option maxRecDepth 100000 in
set_option maxHeartbeats 8000000 in
theorem Works_calls (w : World) : Calls Try.prog 18 #[] w (Gives (.bool true) w) := by
  go_enter Try.func18, Try.ntmps18
  go_wp2_with fail
  refine (Book_calls w).mono ?_
  rintro e w' ⟨a1, c1, a2, c2, x1, rfl, rfl, hn1, hs1⟩
  go_wp2_with fail
  refine (plain_calls x1.w).mono ?_
  rintro e w' ⟨a3, c3, a4, c4, x2, rfl, rfl, hn2, hs2⟩
  replace hn1 := hn1.later x2
  replace hs1 := hs1.later x2
  obtain ⟨B1, hB1⟩ : ∃ B, B = x2.w.heap.size := ⟨_, rfl⟩
  obtain ⟨B2, hB2⟩ : ∃ B, B = x2.w.heap.size + 1 := ⟨_, rfl⟩
  have b10 : ((x2.w.alloc (.cells #[.slice a1 bN.length c1, .slice a2 bS.length c2] 24)).alloc (.cells #[.slice a3 cN.length c3, .slice a4 cS'.length c4] 24)).cell? ⟨B1, 0, none⟩ = some (.slice a1 bN.length c1) := by rw [hB1]; simp [go_sem]
  have b11 : ((x2.w.alloc (.cells #[.slice a1 bN.length c1, .slice a2 bS.length c2] 24)).alloc (.cells #[.slice a3 cN.length c3, .slice a4 cS'.length c4] 24)).cell? ⟨B1, 1, none⟩ = some (.slice a2 bS.length c2) := by rw [hB1]; simp [go_sem]
  have b20 : ((x2.w.alloc (.cells #[.slice a1 bN.length c1, .slice a2 bS.length c2] 24)).alloc (.cells #[.slice a3 cN.length c3, .slice a4 cS'.length c4] 24)).cell? ⟨B2, 0, none⟩ = some (.slice a3 cN.length c3) := by rw [hB2]; simp [go_sem]
  have b21 : ((x2.w.alloc (.cells #[.slice a1 bN.length c1, .slice a2 bS.length c2] 24)).alloc (.cells #[.slice a3 cN.length c3, .slice a4 cS'.length c4] 24)).cell? ⟨B2, 1, none⟩ = some (.slice a4 cS'.length c4) := by rw [hB2]; simp [go_sem]
  have g1 : B1 < ((x2.w.alloc (.cells #[.slice a1 bN.length c1, .slice a2 bS.length c2] 24)).alloc (.cells #[.slice a3 cN.length c3, .slice a4 cS'.length c4] 24)).heap.size := by rw [hB1]; simp; omega
  have g2 : B2 < ((x2.w.alloc (.cells #[.slice a1 bN.length c1, .slice a2 bS.length c2] 24)).alloc (.cells #[.slice a3 cN.length c3, .slice a4 cS'.length c4] 24)).heap.size := by rw [hB2]; simp
  replace hn1 := (hn1.later (Later.new _ (.cells #[.slice a1 bN.length c1, .slice a2 bS.length c2] 24))).later (Later.new _ (.cells #[.slice a3 cN.length c3, .slice a4 cS'.length c4] 24))
  replace hs1 := (hs1.later (Later.new _ (.cells #[.slice a1 bN.length c1, .slice a2 bS.length c2] 24))).later (Later.new _ (.cells #[.slice a3 cN.length c3, .slice a4 cS'.length c4] 24))
  replace hn2 := (hn2.later (Later.new _ (.cells #[.slice a1 bN.length c1, .slice a2 bS.length c2] 24))).later (Later.new _ (.cells #[.slice a3 cN.length c3, .slice a4 cS'.length c4] 24))
  replace hs2 := (hs2.later (Later.new _ (.cells #[.slice a1 bN.length c1, .slice a2 bS.length c2] 24))).later (Later.new _ (.cells #[.slice a3 cN.length c3, .slice a4 cS'.length c4] 24))
  rw [Later.new_w, Later.new_w] at hn1 hs1 hn2 hs2
  have hle : Below w.heap.size w ((x2.w.alloc (.cells #[.slice a1 bN.length c1, .slice a2 bS.length c2] 24)).alloc (.cells #[.slice a3 cN.length c3, .slice a4 cS'.length c4] 24)) := (((x1.step x2).step (Later.new _ _)).step (Later.new _ _)).le
  go_wp2_with fail
  rw [← hB2, ← hB1]
  obtain ⟨cur, hcur⟩ : ∃ q, q = ((x2.w.alloc (.cells #[.slice a1 bN.length c1, .slice a2 bS.length c2] 24)).alloc (.cells #[.slice a3 cN.length c3, .slice a4 cS'.length c4] 24)) := ⟨_, rfl⟩
  rw [← hcur] at b10 b11 b20 b21 g1 g2 hn1 hs1 hn2 hs2 hle ⊢
  clear hcur hB1 hB2 x2 x1
  go_wp2_with fail
  have h := First_calls _ _ bN bS cur hn1 hs1
  rw [ev_f, ev_b] at h
  refine h.mono ?_
  clear h
  rintro e w' ⟨lf, x, rfl, rfl, hf⟩
  obtain ⟨_, _, rfl⟩ := hf.form
  obtain ⟨Y, hY⟩ : ∃ Y : Later cur, Y.w = x.w := ⟨x, rfl⟩
  replace b10 := (Y.cell (o := 0) g1).trans b10
  replace b11 := (Y.cell (o := 1) g1).trans b11
  replace b20 := (Y.cell (o := 0) g2).trans b20
  replace b21 := (Y.cell (o := 1) g2).trans b21
  replace g1 : B1 < Y.w.heap.size := Nat.lt_of_lt_of_le g1 Y.size
  replace g2 : B2 < Y.w.heap.size := Nat.lt_of_lt_of_le g2 Y.size
  replace hn1 := hn1.later Y
  replace hs1 := hs1.later Y
  replace hn2 := hn2.later Y
  replace hs2 := hs2.later Y
  replace hle := hle.trans (Y.le.mono hle.size)
  rw [hY] at b10 b11 b20 b21 g1 g2 hle hn1 hs1 hn2 hs2 
  obtain ⟨cur', hc⟩ : ∃ q, x.w = q := ⟨_, rfl⟩
  rw [hc] at b10 b11 b20 b21 g1 g2 hle hn1 hs1 hn2 hs2 hf ⊢
  clear hc hY Y
  try clear x
  obtain ⟨cur, rfl⟩ : ∃ q, q = cur' := ⟨_, rfl⟩
  go_wp2_with fail
  have h := Last_calls _ _ bN bS cur hn1 hs1
  rw [ev_l, ev_b] at h
  refine h.mono ?_
  clear h
  rintro e w' ⟨ll, x, rfl, rfl, hl⟩
  obtain ⟨_, _, rfl⟩ := hl.form
  obtain ⟨Y, hY⟩ : ∃ Y : Later cur, Y.w = x.w := ⟨x, rfl⟩
  replace b10 := (Y.cell (o := 0) g1).trans b10
  replace b11 := (Y.cell (o := 1) g1).trans b11
  replace b20 := (Y.cell (o := 0) g2).trans b20
  replace b21 := (Y.cell (o := 1) g2).trans b21
  replace g1 : B1 < Y.w.heap.size := Nat.lt_of_lt_of_le g1 Y.size
  replace g2 : B2 < Y.w.heap.size := Nat.lt_of_lt_of_le g2 Y.size
  replace hn1 := hn1.later Y
  replace hs1 := hs1.later Y
  replace hn2 := hn2.later Y
  replace hs2 := hs2.later Y
  replace hf := hf.later Y
  replace hle := hle.trans (Y.le.mono hle.size)
  rw [hY] at b10 b11 b20 b21 g1 g2 hle hn1 hs1 hn2 hs2 hf
  obtain ⟨cur', hc⟩ : ∃ q, x.w = q := ⟨_, rfl⟩
  rw [hc] at b10 b11 b20 b21 g1 g2 hle hn1 hs1 hn2 hs2 hf hl ⊢
  clear hc hY Y
  try clear x
  obtain ⟨cur, rfl⟩ : ∃ q, q = cur' := ⟨_, rfl⟩
  go_wp2_with fail
  have h := All_calls _ _ bN bS cur hn1 hs1
  rw [ev_a, ev_b] at h
  refine h.mono ?_
  clear h
  rintro e w' ⟨la, x, rfl, rfl, ha⟩
  obtain ⟨_, _, rfl⟩ := ha.form
  obtain ⟨Y, hY⟩ : ∃ Y : Later cur, Y.w = x.w := ⟨x, rfl⟩
  replace b10 := (Y.cell (o := 0) g1).trans b10
  replace b11 := (Y.cell (o := 1) g1).trans b11
  replace b20 := (Y.cell (o := 0) g2).trans b20
  replace b21 := (Y.cell (o := 1) g2).trans b21
  replace g1 : B1 < Y.w.heap.size := Nat.lt_of_lt_of_le g1 Y.size
  replace g2 : B2 < Y.w.heap.size := Nat.lt_of_lt_of_le g2 Y.size
  replace hn1 := hn1.later Y
  replace hs1 := hs1.later Y
  replace hn2 := hn2.later Y
  replace hs2 := hs2.later Y
  replace hf := hf.later Y
  replace hl := hl.later Y
  replace hle := hle.trans (Y.le.mono hle.size)
  rw [hY] at b10 b11 b20 b21 g1 g2 hle hn1 hs1 hn2 hs2 hf hl
  obtain ⟨cur', hc⟩ : ∃ q, x.w = q := ⟨_, rfl⟩
  rw [hc] at b10 b11 b20 b21 g1 g2 hle hn1 hs1 hn2 hs2 hf hl ha ⊢
  clear hc hY Y
  try clear x
  obtain ⟨cur, rfl⟩ : ∃ q, q = cur' := ⟨_, rfl⟩
  go_wp2_with fail
  have h := All_calls _ _ cN cS' cur hn2 hs2
  rw [ev_o, ev_c] at h
  refine h.mono ?_
  clear h
  rintro e w' ⟨lo, x, rfl, rfl, ho⟩
  obtain ⟨_, _, rfl⟩ := ho.form
  obtain ⟨Y, hY⟩ : ∃ Y : Later cur, Y.w = x.w := ⟨x, rfl⟩
  replace b10 := (Y.cell (o := 0) g1).trans b10
  replace b11 := (Y.cell (o := 1) g1).trans b11
  replace b20 := (Y.cell (o := 0) g2).trans b20
  replace b21 := (Y.cell (o := 1) g2).trans b21
  replace g1 : B1 < Y.w.heap.size := Nat.lt_of_lt_of_le g1 Y.size
  replace g2 : B2 < Y.w.heap.size := Nat.lt_of_lt_of_le g2 Y.size
  replace hn1 := hn1.later Y
  replace hs1 := hs1.later Y
  replace hn2 := hn2.later Y
  replace hs2 := hs2.later Y
  replace hf := hf.later Y
  replace hl := hl.later Y
  replace ha := ha.later Y
  replace hle := hle.trans (Y.le.mono hle.size)
  rw [hY] at b10 b11 b20 b21 g1 g2 hle hn1 hs1 hn2 hs2 hf hl ha
  obtain ⟨cur', hc⟩ : ∃ q, x.w = q := ⟨_, rfl⟩
  rw [hc] at b10 b11 b20 b21 g1 g2 hle hn1 hs1 hn2 hs2 hf hl ha ho ⊢
  clear hc hY Y
  try clear x
  obtain ⟨cur, rfl⟩ : ∃ q, q = cur' := ⟨_, rfl⟩
  go_wp2_with fail
  refine Mix.region_mixL (Mix.kinds [1] [2, 3] []) (by kernel_rfl) (by kernel_rfl) ?_
  repeat ((with_reducible refine Mix.atCons ?_); first | refine Mix.skipU (by rfl) rfl (by rfl) ?_ | (refine Mix.val rfl rfl (by rfl) (fun K hK => ?_); go_big_quiet_op; refine hK _ ?_; clear hK K))
  refine Mix.new rfl (by rfl) (fun b => .slice (some ⟨b, 0, none⟩) 2 2) (.cells #[.int .i64 1, .int .i64 0] 3) (fun w => by kernel_rfl) (fun d0 x0 hd0 hx0 => ?_)
  have i0 : Ints x0.w (.slice (some ⟨d0, 0, none⟩) 2 2) [1, 0] := ints_of2 (by simp only [World.cell?, hx0]; rfl) (by simp only [World.cell?, hx0]; rfl)
  clear hd0 hx0
  repeat ((with_reducible refine Mix.atCons ?_); first | refine Mix.skipU (by rfl) rfl (by rfl) ?_ | (refine Mix.val rfl rfl (by rfl) (fun K hK => ?_); go_big_quiet_op; refine hK _ ?_; clear hK K))
  refine Mix.loud rfl (by rfl) (fun x1 K hK => ?_)
  go_wp2_with fail
  refine (of_calls _ _ _ _).mono ?_
  rintro e w' ⟨rfl, rfl⟩
  refine hK _ (Later.self _) ?_
  clear hK K
  rw [Later.self_w]
  repeat ((with_reducible refine Mix.atCons ?_); first | refine Mix.skipU (by rfl) rfl (by rfl) ?_ | (refine Mix.val rfl rfl (by rfl) (fun K hK => ?_); go_big_quiet_op; refine hK _ ?_; clear hK K))
  replace i0 := i0.later x1
  refine Mix.loud rfl (by rfl) (fun u K hK => ?_)
  replace i0 := i0.later u
  obtain ⟨Yu, hYu⟩ : ∃ Y : Later cur, Y.w = u.w := ⟨(x0.step x1).step u, rfl⟩
  have hn1u := hn1.later Yu
  have hs1u := hs1.later Yu
  have hn2u := hn2.later Yu
  have hs2u := hs2.later Yu
  rw [hYu] at hn1u hs1u hn2u hs2u
  go_wp2_with fail
  have h := CheckMatching_calls _ _ _ cN cS' [1, 0] u.w hn2u hs2u i0
  rw [ev_n, ev_5] at h
  refine h.mono ?_
  clear h
  rintro e w' ⟨rfl, x, rfl⟩
  refine hK _ x ?_
  clear hK K
  repeat ((with_reducible refine Mix.atCons ?_); first | refine Mix.skipU (by rfl) rfl (by rfl) ?_ | (refine Mix.val rfl rfl (by rfl) (fun K hK => ?_); go_big_quiet_op; refine hK _ ?_; clear hK K))
  refine Mix.done (fun z => ?_)
  clear i0
  clear hn1u hs1u hn2u hs2u hYu Yu
  obtain ⟨Y, hY⟩ : ∃ Y : Later cur, Y.w = z.w := ⟨(((x0.step x1).step u).step x).step z, rfl⟩
  replace b10 := (Y.cell (o := 0) g1).trans b10
  replace b11 := (Y.cell (o := 1) g1).trans b11
  replace b20 := (Y.cell (o := 0) g2).trans b20
  replace b21 := (Y.cell (o := 1) g2).trans b21
  replace g1 : B1 < Y.w.heap.size := Nat.lt_of_lt_of_le g1 Y.size
  replace g2 : B2 < Y.w.heap.size := Nat.lt_of_lt_of_le g2 Y.size
  replace hn1 := hn1.later Y
  replace hs1 := hs1.later Y
  replace hn2 := hn2.later Y
  replace hs2 := hs2.later Y
  replace hf := hf.later Y
  replace hl := hl.later Y
  replace ha := ha.later Y
  replace ho := ho.later Y
  replace hle := hle.trans (Y.le.mono hle.size)
  rw [hY] at b10 b11 b20 b21 g1 g2 hle hn1 hs1 hn2 hs2 hf hl ha ho
  obtain ⟨cur', hc⟩ : ∃ q, z.w = q := ⟨_, rfl⟩
  rw [hc] at b10 b11 b20 b21 g1 g2 hle hn1 hs1 hn2 hs2 hf hl ha ho ⊢
  clear hc hY Y
  try clear z
  obtain ⟨cur, rfl⟩ : ∃ q, q = cur' := ⟨_, rfl⟩
  go_wp2_with fail
  refine Mix.region_mixL (Mix.kinds [1] [2, 3] []) (by kernel_rfl) (by kernel_rfl) ?_
  repeat ((with_reducible refine Mix.atCons ?_); first | refine Mix.skipU (by rfl) rfl (by rfl) ?_ | (refine Mix.val rfl rfl (by rfl) (fun K hK => ?_); go_big_quiet_op; refine hK _ ?_; clear hK K))
  refine Mix.new rfl (by rfl) (fun b => .slice (some ⟨b, 0, none⟩) 2 2) (.cells #[.int .i64 1, .int .i64 1] 3) (fun w => by kernel_rfl) (fun d0 x0 hd0 hx0 => ?_)
  have i0 : Ints x0.w (.slice (some ⟨d0, 0, none⟩) 2 2) [1, 1] := ints_of2 (by simp only [World.cell?, hx0]; rfl) (by simp only [World.cell?, hx0]; rfl)
  clear hd0 hx0
  repeat ((with_reducible refine Mix.atCons ?_); first | refine Mix.skipU (by rfl) rfl (by rfl) ?_ | (refine Mix.val rfl rfl (by rfl) (fun K hK => ?_); go_big_quiet_op; refine hK _ ?_; clear hK K))
  refine Mix.loud rfl (by rfl) (fun x1 K hK => ?_)
  go_wp2_with fail
  refine (of_calls _ _ _ _).mono ?_
  rintro e w' ⟨rfl, rfl⟩
  refine hK _ (Later.self _) ?_
  clear hK K
  rw [Later.self_w]
  repeat ((with_reducible refine Mix.atCons ?_); first | refine Mix.skipU (by rfl) rfl (by rfl) ?_ | (refine Mix.val rfl rfl (by rfl) (fun K hK => ?_); go_big_quiet_op; refine hK _ ?_; clear hK K))
  replace i0 := i0.later x1
  refine Mix.loud rfl (by rfl) (fun u K hK => ?_)
  replace i0 := i0.later u
  obtain ⟨Yu, hYu⟩ : ∃ Y : Later cur, Y.w = u.w := ⟨(x0.step x1).step u, rfl⟩
  have hn1u := hn1.later Yu
  have hs1u := hs1.later Yu
  have hn2u := hn2.later Yu
  have hs2u := hs2.later Yu
  rw [hYu] at hn1u hs1u hn2u hs2u
  go_wp2_with fail
  have h := CheckMatching_calls _ _ _ cN cS' [1, 1] u.w hn2u hs2u i0
  rw [ev_6] at h
  refine h.mono ?_
  clear h
  rintro e w' ⟨rfl, x, rfl⟩
  refine hK _ x ?_
  clear hK K
  repeat ((with_reducible refine Mix.atCons ?_); first | refine Mix.skipU (by rfl) rfl (by rfl) ?_ | (refine Mix.val rfl rfl (by rfl) (fun K hK => ?_); go_big_quiet_op; refine hK _ ?_; clear hK K))
  refine Mix.done (fun z => ?_)
  clear i0
  clear hn1u hs1u hn2u hs2u hYu Yu
  obtain ⟨Y, hY⟩ : ∃ Y : Later cur, Y.w = z.w := ⟨(((x0.step x1).step u).step x).step z, rfl⟩
  replace b10 := (Y.cell (o := 0) g1).trans b10
  replace b11 := (Y.cell (o := 1) g1).trans b11
  replace b20 := (Y.cell (o := 0) g2).trans b20
  replace b21 := (Y.cell (o := 1) g2).trans b21
  replace g1 : B1 < Y.w.heap.size := Nat.lt_of_lt_of_le g1 Y.size
  replace g2 : B2 < Y.w.heap.size := Nat.lt_of_lt_of_le g2 Y.size
  replace hn1 := hn1.later Y
  replace hs1 := hs1.later Y
  replace hn2 := hn2.later Y
  replace hs2 := hs2.later Y
  replace hf := hf.later Y
  replace hl := hl.later Y
  replace ha := ha.later Y
  replace ho := ho.later Y
  replace hle := hle.trans (Y.le.mono hle.size)
  rw [hY] at b10 b11 b20 b21 g1 g2 hle hn1 hs1 hn2 hs2 hf hl ha ho
  obtain ⟨cur', hc⟩ : ∃ q, z.w = q := ⟨_, rfl⟩
  rw [hc] at b10 b11 b20 b21 g1 g2 hle hn1 hs1 hn2 hs2 hf hl ha ho ⊢
  clear hc hY Y
  try clear z
  obtain ⟨cur, rfl⟩ : ∃ q, q = cur' := ⟨_, rfl⟩
  go_wp2_with fail
  refine Mix.region_mixL (Mix.kinds [1] [2, 3] []) (by kernel_rfl) (by kernel_rfl) ?_
  repeat ((with_reducible refine Mix.atCons ?_); first | refine Mix.skipU (by rfl) rfl (by rfl) ?_ | (refine Mix.val rfl rfl (by rfl) (fun K hK => ?_); go_big_quiet_op; refine hK _ ?_; clear hK K))
  refine Mix.new rfl (by rfl) (fun b => .slice (some ⟨b, 0, none⟩) 2 2) (.cells #[.int .i64 0, .int .i64 0] 3) (fun w => by kernel_rfl) (fun d0 x0 hd0 hx0 => ?_)
  have i0 : Ints x0.w (.slice (some ⟨d0, 0, none⟩) 2 2) [0, 0] := ints_of2 (by simp only [World.cell?, hx0]; rfl) (by simp only [World.cell?, hx0]; rfl)
  clear hd0 hx0
  repeat ((with_reducible refine Mix.atCons ?_); first | refine Mix.skipU (by rfl) rfl (by rfl) ?_ | (refine Mix.val rfl rfl (by rfl) (fun K hK => ?_); go_big_quiet_op; refine hK _ ?_; clear hK K))
  refine Mix.loud rfl (by rfl) (fun x1 K hK => ?_)
  go_wp2_with fail
  refine (of_calls _ _ _ _).mono ?_
  rintro e w' ⟨rfl, rfl⟩
  refine hK _ (Later.self _) ?_
  clear hK K
  rw [Later.self_w]
  repeat ((with_reducible refine Mix.atCons ?_); first | refine Mix.skipU (by rfl) rfl (by rfl) ?_ | (refine Mix.val rfl rfl (by rfl) (fun K hK => ?_); go_big_quiet_op; refine hK _ ?_; clear hK K))
  replace i0 := i0.later x1
  refine Mix.loud rfl (by rfl) (fun u K hK => ?_)
  replace i0 := i0.later u
  obtain ⟨Yu, hYu⟩ : ∃ Y : Later cur, Y.w = u.w := ⟨(x0.step x1).step u, rfl⟩
  have hn1u := hn1.later Yu
  have hs1u := hs1.later Yu
  have hn2u := hn2.later Yu
  have hs2u := hs2.later Yu
  rw [hYu] at hn1u hs1u hn2u hs2u
  go_wp2_with fail
  have h := CheckMatching_calls _ _ _ cN cS' [0, 0] u.w hn2u hs2u i0
  rw [ev_7] at h
  refine h.mono ?_
  clear h
  rintro e w' ⟨rfl, x, rfl⟩
  refine hK _ x ?_
  clear hK K
  repeat ((with_reducible refine Mix.atCons ?_); first | refine Mix.skipU (by rfl) rfl (by rfl) ?_ | (refine Mix.val rfl rfl (by rfl) (fun K hK => ?_); go_big_quiet_op; refine hK _ ?_; clear hK K))
  refine Mix.done (fun z => ?_)
  clear i0
  clear hn1u hs1u hn2u hs2u hYu Yu
  obtain ⟨Y, hY⟩ : ∃ Y : Later cur, Y.w = z.w := ⟨(((x0.step x1).step u).step x).step z, rfl⟩
  replace b10 := (Y.cell (o := 0) g1).trans b10
  replace b11 := (Y.cell (o := 1) g1).trans b11
  replace b20 := (Y.cell (o := 0) g2).trans b20
  replace b21 := (Y.cell (o := 1) g2).trans b21
  replace g1 : B1 < Y.w.heap.size := Nat.lt_of_lt_of_le g1 Y.size
  replace g2 : B2 < Y.w.heap.size := Nat.lt_of_lt_of_le g2 Y.size
  replace hn1 := hn1.later Y
  replace hs1 := hs1.later Y
  replace hn2 := hn2.later Y
  replace hs2 := hs2.later Y
  replace hf := hf.later Y
  replace hl := hl.later Y
  replace ha := ha.later Y
  replace ho := ho.later Y
  replace hle := hle.trans (Y.le.mono hle.size)
  rw [hY] at b10 b11 b20 b21 g1 g2 hle hn1 hs1 hn2 hs2 hf hl ha ho
  obtain ⟨cur', hc⟩ : ∃ q, z.w = q := ⟨_, rfl⟩
  rw [hc] at b10 b11 b20 b21 g1 g2 hle hn1 hs1 hn2 hs2 hf hl ha ho ⊢
  clear hc hY Y
  try clear z
  obtain ⟨cur, rfl⟩ : ∃ q, q = cur' := ⟨_, rfl⟩
  go_wp2_with fail
  refine Mix.region_mixL (Mix.kinds [1] [2, 3] []) (by kernel_rfl) (by kernel_rfl) ?_
  repeat ((with_reducible refine Mix.atCons ?_); first | refine Mix.skipU (by rfl) rfl (by rfl) ?_ | (refine Mix.val rfl rfl (by rfl) (fun K hK => ?_); go_big_quiet_op; refine hK _ ?_; clear hK K))
  refine Mix.new rfl (by rfl) (fun b => .slice (some ⟨b, 0, none⟩) 3 3) (.cells #[.int .i64 0, .int .i64 2, .int .i64 1] 3) (fun w => by kernel_rfl) (fun d0 x0 hd0 hx0 => ?_)
  have i0 : Ints x0.w (.slice (some ⟨d0, 0, none⟩) 3 3) [0, 2, 1] := ints_of3 (by simp only [World.cell?, hx0]; rfl) (by simp only [World.cell?, hx0]; rfl) (by simp only [World.cell?, hx0]; rfl)
  clear hd0 hx0
  repeat ((with_reducible refine Mix.atCons ?_); first | refine Mix.skipU (by rfl) rfl (by rfl) ?_ | (refine Mix.val rfl rfl (by rfl) (fun K hK => ?_); go_big_quiet_op; refine hK _ ?_; clear hK K))
  refine Mix.loud rfl (by rfl) (fun x1 K hK => ?_)
  go_wp2_with fail
  refine (of_calls _ _ _ _).mono ?_
  rintro e w' ⟨rfl, rfl⟩
  refine hK _ (Later.self _) ?_
  clear hK K
  rw [Later.self_w]
  repeat ((with_reducible refine Mix.atCons ?_); first | refine Mix.skipU (by rfl) rfl (by rfl) ?_ | (refine Mix.val rfl rfl (by rfl) (fun K hK => ?_); go_big_quiet_op; refine hK _ ?_; clear hK K))
  replace i0 := i0.later x1
  refine Mix.loud rfl (by rfl) (fun u K hK => ?_)
  replace i0 := i0.later u
  obtain ⟨Yu, hYu⟩ : ∃ Y : Later cur, Y.w = u.w := ⟨(x0.step x1).step u, rfl⟩
  have hn1u := hn1.later Yu
  have hs1u := hs1.later Yu
  have hn2u := hn2.later Yu
  have hs2u := hs2.later Yu
  rw [hYu] at hn1u hs1u hn2u hs2u
  go_wp2_with fail
  have h := Unsettled_calls _ _ _ bN bS [0, 2, 1] u.w hn1u hs1u i0
  rw [ev_8] at h
  refine h.mono ?_
  clear h
  rintro e w' ⟨rfl, x, rfl⟩
  refine hK _ x ?_
  clear hK K
  repeat ((with_reducible refine Mix.atCons ?_); first | refine Mix.skipU (by rfl) rfl (by rfl) ?_ | (refine Mix.val rfl rfl (by rfl) (fun K hK => ?_); go_big_quiet_op; refine hK _ ?_; clear hK K))
  refine Mix.done (fun z => ?_)
  clear i0
  clear hn1u hs1u hn2u hs2u hYu Yu
  obtain ⟨Y, hY⟩ : ∃ Y : Later cur, Y.w = z.w := ⟨(((x0.step x1).step u).step x).step z, rfl⟩
  replace b10 := (Y.cell (o := 0) g1).trans b10
  replace b11 := (Y.cell (o := 1) g1).trans b11
  replace b20 := (Y.cell (o := 0) g2).trans b20
  replace b21 := (Y.cell (o := 1) g2).trans b21
  replace g1 : B1 < Y.w.heap.size := Nat.lt_of_lt_of_le g1 Y.size
  replace g2 : B2 < Y.w.heap.size := Nat.lt_of_lt_of_le g2 Y.size
  replace hn1 := hn1.later Y
  replace hs1 := hs1.later Y
  replace hn2 := hn2.later Y
  replace hs2 := hs2.later Y
  replace hf := hf.later Y
  replace hl := hl.later Y
  replace ha := ha.later Y
  replace ho := ho.later Y
  replace hle := hle.trans (Y.le.mono hle.size)
  rw [hY] at b10 b11 b20 b21 g1 g2 hle hn1 hs1 hn2 hs2 hf hl ha ho
  obtain ⟨cur', hc⟩ : ∃ q, z.w = q := ⟨_, rfl⟩
  rw [hc] at b10 b11 b20 b21 g1 g2 hle hn1 hs1 hn2 hs2 hf hl ha ho ⊢
  clear hc hY Y
  try clear z
  obtain ⟨cur, rfl⟩ : ∃ q, q = cur' := ⟨_, rfl⟩
  go_wp2_with fail
  refine Mix.region_mixL (Mix.kinds [1] [2, 3] []) (by kernel_rfl) (by kernel_rfl) ?_
  repeat ((with_reducible refine Mix.atCons ?_); first | refine Mix.skipU (by rfl) rfl (by rfl) ?_ | (refine Mix.val rfl rfl (by rfl) (fun K hK => ?_); go_big_quiet_op; refine hK _ ?_; clear hK K))
  refine Mix.new rfl (by rfl) (fun b => .slice (some ⟨b, 0, none⟩) 2 2) (.cells #[.int .i64 0, .int .i64 (-1)] 3) (fun w => by kernel_rfl) (fun d0 x0 hd0 hx0 => ?_)
  have i0 : Ints x0.w (.slice (some ⟨d0, 0, none⟩) 2 2) [0, -1] := ints_of2 (by simp only [World.cell?, hx0]; rfl) (by simp only [World.cell?, hx0]; rfl)
  clear hd0 hx0
  repeat ((with_reducible refine Mix.atCons ?_); first | refine Mix.skipU (by rfl) rfl (by rfl) ?_ | (refine Mix.val rfl rfl (by rfl) (fun K hK => ?_); go_big_quiet_op; refine hK _ ?_; clear hK K))
  refine Mix.loud rfl (by rfl) (fun x1 K hK => ?_)
  go_wp2_with fail
  refine (of_calls _ _ _ _).mono ?_
  rintro e w' ⟨rfl, rfl⟩
  refine hK _ (Later.self _) ?_
  clear hK K
  rw [Later.self_w]
  repeat ((with_reducible refine Mix.atCons ?_); first | refine Mix.skipU (by rfl) rfl (by rfl) ?_ | (refine Mix.val rfl rfl (by rfl) (fun K hK => ?_); go_big_quiet_op; refine hK _ ?_; clear hK K))
  replace i0 := i0.later x1
  refine Mix.loud rfl (by rfl) (fun u K hK => ?_)
  replace i0 := i0.later u
  obtain ⟨Yu, hYu⟩ : ∃ Y : Later cur, Y.w = u.w := ⟨(x0.step x1).step u, rfl⟩
  have hn1u := hn1.later Yu
  have hs1u := hs1.later Yu
  have hn2u := hn2.later Yu
  have hs2u := hs2.later Yu
  rw [hYu] at hn1u hs1u hn2u hs2u
  go_wp2_with fail
  have h := Unsettled_calls _ _ _ cN cS' [0, -1] u.w hn2u hs2u i0
  rw [ev_9] at h
  refine h.mono ?_
  clear h
  rintro e w' ⟨rfl, x, rfl⟩
  refine hK _ x ?_
  clear hK K
  repeat ((with_reducible refine Mix.atCons ?_); first | refine Mix.skipU (by rfl) rfl (by rfl) ?_ | (refine Mix.val rfl rfl (by rfl) (fun K hK => ?_); go_big_quiet_op; refine hK _ ?_; clear hK K))
  refine Mix.done (fun z => ?_)
  clear i0
  clear hn1u hs1u hn2u hs2u hYu Yu
  obtain ⟨Y, hY⟩ : ∃ Y : Later cur, Y.w = z.w := ⟨(((x0.step x1).step u).step x).step z, rfl⟩
  replace b10 := (Y.cell (o := 0) g1).trans b10
  replace b11 := (Y.cell (o := 1) g1).trans b11
  replace b20 := (Y.cell (o := 0) g2).trans b20
  replace b21 := (Y.cell (o := 1) g2).trans b21
  replace g1 : B1 < Y.w.heap.size := Nat.lt_of_lt_of_le g1 Y.size
  replace g2 : B2 < Y.w.heap.size := Nat.lt_of_lt_of_le g2 Y.size
  replace hn1 := hn1.later Y
  replace hs1 := hs1.later Y
  replace hn2 := hn2.later Y
  replace hs2 := hs2.later Y
  replace hf := hf.later Y
  replace hl := hl.later Y
  replace ha := ha.later Y
  replace ho := ho.later Y
  replace hle := hle.trans (Y.le.mono hle.size)
  rw [hY] at b10 b11 b20 b21 g1 g2 hle hn1 hs1 hn2 hs2 hf hl ha ho
  obtain ⟨cur', hc⟩ : ∃ q, z.w = q := ⟨_, rfl⟩
  rw [hc] at b10 b11 b20 b21 g1 g2 hle hn1 hs1 hn2 hs2 hf hl ha ho ⊢
  clear hc hY Y
  try clear z
  obtain ⟨cur, rfl⟩ : ∃ q, q = cur' := ⟨_, rfl⟩
  go_wp2_with fail
  have h := Kind_calls _ _ bN bS 0 0 cur hn1 hs1
  rw [ev_10] at h
  refine h.mono ?_
  clear h
  rintro e w' ⟨rfl, x, rfl⟩
  obtain ⟨Y, hY⟩ : ∃ Y : Later cur, Y.w = x.w := ⟨x, rfl⟩
  replace b10 := (Y.cell (o := 0) g1).trans b10
  replace b11 := (Y.cell (o := 1) g1).trans b11
  replace b20 := (Y.cell (o := 0) g2).trans b20
  replace b21 := (Y.cell (o := 1) g2).trans b21
  replace g1 : B1 < Y.w.heap.size := Nat.lt_of_lt_of_le g1 Y.size
  replace g2 : B2 < Y.w.heap.size := Nat.lt_of_lt_of_le g2 Y.size
  replace hn1 := hn1.later Y
  replace hs1 := hs1.later Y
  replace hn2 := hn2.later Y
  replace hs2 := hs2.later Y
  replace hf := hf.later Y
  replace hl := hl.later Y
  replace ha := ha.later Y
  replace ho := ho.later Y
  replace hle := hle.trans (Y.le.mono hle.size)
  rw [hY] at b10 b11 b20 b21 g1 g2 hle hn1 hs1 hn2 hs2 hf hl ha ho
  obtain ⟨cur', hc⟩ : ∃ q, x.w = q := ⟨_, rfl⟩
  rw [hc] at b10 b11 b20 b21 g1 g2 hle hn1 hs1 hn2 hs2 hf hl ha ho ⊢
  clear hc hY Y
  try clear x
  obtain ⟨cur, rfl⟩ : ∃ q, q = cur' := ⟨_, rfl⟩
  go_wp2_with fail
  have h := Kind_calls _ _ cN cS' 0 0 cur hn2 hs2
  rw [ev_11] at h
  refine h.mono ?_
  clear h
  rintro e w' ⟨rfl, x, rfl⟩
  obtain ⟨Y, hY⟩ : ∃ Y : Later cur, Y.w = x.w := ⟨x, rfl⟩
  replace b10 := (Y.cell (o := 0) g1).trans b10
  replace b11 := (Y.cell (o := 1) g1).trans b11
  replace b20 := (Y.cell (o := 0) g2).trans b20
  replace b21 := (Y.cell (o := 1) g2).trans b21
  replace g1 : B1 < Y.w.heap.size := Nat.lt_of_lt_of_le g1 Y.size
  replace g2 : B2 < Y.w.heap.size := Nat.lt_of_lt_of_le g2 Y.size
  replace hn1 := hn1.later Y
  replace hs1 := hs1.later Y
  replace hn2 := hn2.later Y
  replace hs2 := hs2.later Y
  replace hf := hf.later Y
  replace hl := hl.later Y
  replace ha := ha.later Y
  replace ho := ho.later Y
  replace hle := hle.trans (Y.le.mono hle.size)
  rw [hY] at b10 b11 b20 b21 g1 g2 hle hn1 hs1 hn2 hs2 hf hl ha ho
  obtain ⟨cur', hc⟩ : ∃ q, x.w = q := ⟨_, rfl⟩
  rw [hc] at b10 b11 b20 b21 g1 g2 hle hn1 hs1 hn2 hs2 hf hl ha ho ⊢
  clear hc hY Y
  try clear x
  obtain ⟨cur, rfl⟩ : ∃ q, q = cur' := ⟨_, rfl⟩
  go_wp2_with fail
  have h := Kind_calls _ _ cN cS' 2 0 cur hn2 hs2
  rw [ev_12] at h
  refine h.mono ?_
  clear h
  rintro e w' ⟨rfl, x, rfl⟩
  obtain ⟨Y, hY⟩ : ∃ Y : Later cur, Y.w = x.w := ⟨x, rfl⟩
  replace b10 := (Y.cell (o := 0) g1).trans b10
  replace b11 := (Y.cell (o := 1) g1).trans b11
  replace b20 := (Y.cell (o := 0) g2).trans b20
  replace b21 := (Y.cell (o := 1) g2).trans b21
  replace g1 : B1 < Y.w.heap.size := Nat.lt_of_lt_of_le g1 Y.size
  replace g2 : B2 < Y.w.heap.size := Nat.lt_of_lt_of_le g2 Y.size
  replace hn1 := hn1.later Y
  replace hs1 := hs1.later Y
  replace hn2 := hn2.later Y
  replace hs2 := hs2.later Y
  replace hf := hf.later Y
  replace hl := hl.later Y
  replace ha := ha.later Y
  replace ho := ho.later Y
  replace hle := hle.trans (Y.le.mono hle.size)
  rw [hY] at b10 b11 b20 b21 g1 g2 hle hn1 hs1 hn2 hs2 hf hl ha ho
  obtain ⟨cur', hc⟩ : ∃ q, x.w = q := ⟨_, rfl⟩
  rw [hc] at b10 b11 b20 b21 g1 g2 hle hn1 hs1 hn2 hs2 hf hl ha ho ⊢
  clear hc hY Y
  try clear x
  obtain ⟨cur, rfl⟩ : ∃ q, q = cur' := ⟨_, rfl⟩
  go_wp2_with fail
  refine Mix.region_mixL (Mix.kinds [1, 3] [2, 4, 5] []) (by kernel_rfl) (by kernel_rfl) ?_
  repeat ((with_reducible refine Mix.atCons ?_); first | refine Mix.skipU (by rfl) rfl (by rfl) ?_ | (refine Mix.val rfl rfl (by rfl) (fun K hK => ?_); go_big_quiet_op; refine hK _ ?_; clear hK K))
  refine Mix.new rfl (by rfl) (fun b => .slice (some ⟨b, 0, none⟩) 3 3) (.cells #[.int .i64 1, .int .i64 2, .int .i64 0] 3) (fun w => by kernel_rfl) (fun d0 x0 hd0 hx0 => ?_)
  have i0 : Ints x0.w (.slice (some ⟨d0, 0, none⟩) 3 3) [1, 2, 0] := ints_of3 (by simp only [World.cell?, hx0]; rfl) (by simp only [World.cell?, hx0]; rfl) (by simp only [World.cell?, hx0]; rfl)
  clear hd0 hx0
  repeat ((with_reducible refine Mix.atCons ?_); first | refine Mix.skipU (by rfl) rfl (by rfl) ?_ | (refine Mix.val rfl rfl (by rfl) (fun K hK => ?_); go_big_quiet_op; refine hK _ ?_; clear hK K))
  refine Mix.loud rfl (by rfl) (fun x1 K hK => ?_)
  go_wp2_with fail
  refine (of_calls _ _ _ _).mono ?_
  rintro e w' ⟨rfl, rfl⟩
  refine hK _ (Later.self _) ?_
  clear hK K
  rw [Later.self_w]
  repeat ((with_reducible refine Mix.atCons ?_); first | refine Mix.skipU (by rfl) rfl (by rfl) ?_ | (refine Mix.val rfl rfl (by rfl) (fun K hK => ?_); go_big_quiet_op; refine hK _ ?_; clear hK K))
  replace i0 := i0.later x1
  refine Mix.new rfl (by rfl) (fun b => .slice (some ⟨b, 0, none⟩) 3 3) (.cells #[.int .i64 2, .int .i64 0, .int .i64 1] 3) (fun w => by kernel_rfl) (fun d1 x2 hd1 hx1 => ?_)
  have i1 : Ints x2.w (.slice (some ⟨d1, 0, none⟩) 3 3) [2, 0, 1] := ints_of3 (by simp only [World.cell?, hx1]; rfl) (by simp only [World.cell?, hx1]; rfl) (by simp only [World.cell?, hx1]; rfl)
  clear hd1 hx1
  repeat ((with_reducible refine Mix.atCons ?_); first | refine Mix.skipU (by rfl) rfl (by rfl) ?_ | (refine Mix.val rfl rfl (by rfl) (fun K hK => ?_); go_big_quiet_op; refine hK _ ?_; clear hK K))
  replace i0 := i0.later x2
  refine Mix.loud rfl (by rfl) (fun x3 K hK => ?_)
  go_wp2_with fail
  refine (of_calls _ _ _ _).mono ?_
  rintro e w' ⟨rfl, rfl⟩
  refine hK _ (Later.self _) ?_
  clear hK K
  rw [Later.self_w]
  repeat ((with_reducible refine Mix.atCons ?_); first | refine Mix.skipU (by rfl) rfl (by rfl) ?_ | (refine Mix.val rfl rfl (by rfl) (fun K hK => ?_); go_big_quiet_op; refine hK _ ?_; clear hK K))
  replace i0 := i0.later x3
  replace i1 := i1.later x3
  refine Mix.loud rfl (by rfl) (fun u K hK => ?_)
  replace i0 := i0.later u
  replace i1 := i1.later u
  obtain ⟨Yu, hYu⟩ : ∃ Y : Later cur, Y.w = u.w := ⟨(((x0.step x1).step x2).step x3).step u, rfl⟩
  have hn1u := hn1.later Yu
  have hs1u := hs1.later Yu
  have hn2u := hn2.later Yu
  have hs2u := hs2.later Yu
  rw [hYu] at hn1u hs1u hn2u hs2u
  go_wp2_with fail
  have h := Better_calls _ _ _ _ bN bS [1, 2, 0] [2, 0, 1] u.w hn1u hs1u i0 i1
  rw [ev_m, ev_13] at h
  refine h.mono ?_
  clear h
  rintro e w' ⟨lm, x, rfl, rfl, hm⟩
  refine hK _ x ?_
  clear hK K
  obtain ⟨_, _, rfl⟩ := hm.form
  repeat ((with_reducible refine Mix.atCons ?_); first | refine Mix.skipU (by rfl) rfl (by rfl) ?_ | (refine Mix.val rfl rfl (by rfl) (fun K hK => ?_); go_big_quiet_op; refine hK _ ?_; clear hK K))
  refine Mix.done (fun z => ?_)
  clear i0
  clear i1
  clear hn1u hs1u hn2u hs2u hYu Yu
  replace hm := hm.later z
  obtain ⟨Y, hY⟩ : ∃ Y : Later cur, Y.w = z.w := ⟨(((((x0.step x1).step x2).step x3).step u).step x).step z, rfl⟩
  replace b10 := (Y.cell (o := 0) g1).trans b10
  replace b11 := (Y.cell (o := 1) g1).trans b11
  replace b20 := (Y.cell (o := 0) g2).trans b20
  replace b21 := (Y.cell (o := 1) g2).trans b21
  replace g1 : B1 < Y.w.heap.size := Nat.lt_of_lt_of_le g1 Y.size
  replace g2 : B2 < Y.w.heap.size := Nat.lt_of_lt_of_le g2 Y.size
  replace hn1 := hn1.later Y
  replace hs1 := hs1.later Y
  replace hn2 := hn2.later Y
  replace hs2 := hs2.later Y
  replace hf := hf.later Y
  replace hl := hl.later Y
  replace ha := ha.later Y
  replace ho := ho.later Y
  replace hle := hle.trans (Y.le.mono hle.size)
  rw [hY] at b10 b11 b20 b21 g1 g2 hle hn1 hs1 hn2 hs2 hf hl ha ho
  obtain ⟨cur', hc⟩ : ∃ q, z.w = q := ⟨_, rfl⟩
  rw [hc] at b10 b11 b20 b21 g1 g2 hle hn1 hs1 hn2 hs2 hf hl ha ho hm ⊢
  clear hc hY Y
  try clear z
  obtain ⟨cur, rfl⟩ : ∃ q, q = cur' := ⟨_, rfl⟩
  go_wp2_with fail
  refine Mix.region_mixL (Mix.kinds [1, 3] [2, 4, 5] []) (by kernel_rfl) (by kernel_rfl) ?_
  repeat ((with_reducible refine Mix.atCons ?_); first | refine Mix.skipU (by rfl) rfl (by rfl) ?_ | (refine Mix.val rfl rfl (by rfl) (fun K hK => ?_); go_big_quiet_op; refine hK _ ?_; clear hK K))
  refine Mix.new rfl (by rfl) (fun b => .slice (some ⟨b, 0, none⟩) 3 3) (.cells #[.int .i64 1, .int .i64 2, .int .i64 0] 3) (fun w => by kernel_rfl) (fun d0 x0 hd0 hx0 => ?_)
  have i0 : Ints x0.w (.slice (some ⟨d0, 0, none⟩) 3 3) [1, 2, 0] := ints_of3 (by simp only [World.cell?, hx0]; rfl) (by simp only [World.cell?, hx0]; rfl) (by simp only [World.cell?, hx0]; rfl)
  clear hd0 hx0
  repeat ((with_reducible refine Mix.atCons ?_); first | refine Mix.skipU (by rfl) rfl (by rfl) ?_ | (refine Mix.val rfl rfl (by rfl) (fun K hK => ?_); go_big_quiet_op; refine hK _ ?_; clear hK K))
  refine Mix.loud rfl (by rfl) (fun x1 K hK => ?_)
  go_wp2_with fail
  refine (of_calls _ _ _ _).mono ?_
  rintro e w' ⟨rfl, rfl⟩
  refine hK _ (Later.self _) ?_
  clear hK K
  rw [Later.self_w]
  repeat ((with_reducible refine Mix.atCons ?_); first | refine Mix.skipU (by rfl) rfl (by rfl) ?_ | (refine Mix.val rfl rfl (by rfl) (fun K hK => ?_); go_big_quiet_op; refine hK _ ?_; clear hK K))
  replace i0 := i0.later x1
  refine Mix.new rfl (by rfl) (fun b => .slice (some ⟨b, 0, none⟩) 3 3) (.cells #[.int .i64 2, .int .i64 0, .int .i64 1] 3) (fun w => by kernel_rfl) (fun d1 x2 hd1 hx1 => ?_)
  have i1 : Ints x2.w (.slice (some ⟨d1, 0, none⟩) 3 3) [2, 0, 1] := ints_of3 (by simp only [World.cell?, hx1]; rfl) (by simp only [World.cell?, hx1]; rfl) (by simp only [World.cell?, hx1]; rfl)
  clear hd1 hx1
  repeat ((with_reducible refine Mix.atCons ?_); first | refine Mix.skipU (by rfl) rfl (by rfl) ?_ | (refine Mix.val rfl rfl (by rfl) (fun K hK => ?_); go_big_quiet_op; refine hK _ ?_; clear hK K))
  replace i0 := i0.later x2
  refine Mix.loud rfl (by rfl) (fun x3 K hK => ?_)
  go_wp2_with fail
  refine (of_calls _ _ _ _).mono ?_
  rintro e w' ⟨rfl, rfl⟩
  refine hK _ (Later.self _) ?_
  clear hK K
  rw [Later.self_w]
  repeat ((with_reducible refine Mix.atCons ?_); first | refine Mix.skipU (by rfl) rfl (by rfl) ?_ | (refine Mix.val rfl rfl (by rfl) (fun K hK => ?_); go_big_quiet_op; refine hK _ ?_; clear hK K))
  replace i0 := i0.later x3
  replace i1 := i1.later x3
  refine Mix.loud rfl (by rfl) (fun u K hK => ?_)
  replace i0 := i0.later u
  replace i1 := i1.later u
  obtain ⟨Yu, hYu⟩ : ∃ Y : Later cur, Y.w = u.w := ⟨(((x0.step x1).step x2).step x3).step u, rfl⟩
  have hn1u := hn1.later Yu
  have hs1u := hs1.later Yu
  have hn2u := hn2.later Yu
  have hs2u := hs2.later Yu
  rw [hYu] at hn1u hs1u hn2u hs2u
  go_wp2_with fail
  have h := Worse_calls _ _ _ _ bN bS [1, 2, 0] [2, 0, 1] u.w hn1u hs1u i0 i1
  rw [ev_w, ev_13] at h
  refine h.mono ?_
  clear h
  rintro e w' ⟨lw, x, rfl, rfl, hw⟩
  refine hK _ x ?_
  clear hK K
  obtain ⟨_, _, rfl⟩ := hw.form
  repeat ((with_reducible refine Mix.atCons ?_); first | refine Mix.skipU (by rfl) rfl (by rfl) ?_ | (refine Mix.val rfl rfl (by rfl) (fun K hK => ?_); go_big_quiet_op; refine hK _ ?_; clear hK K))
  refine Mix.done (fun z => ?_)
  clear i0
  clear i1
  clear hn1u hs1u hn2u hs2u hYu Yu
  replace hw := hw.later z
  obtain ⟨Y, hY⟩ : ∃ Y : Later cur, Y.w = z.w := ⟨(((((x0.step x1).step x2).step x3).step u).step x).step z, rfl⟩
  replace b10 := (Y.cell (o := 0) g1).trans b10
  replace b11 := (Y.cell (o := 1) g1).trans b11
  replace b20 := (Y.cell (o := 0) g2).trans b20
  replace b21 := (Y.cell (o := 1) g2).trans b21
  replace g1 : B1 < Y.w.heap.size := Nat.lt_of_lt_of_le g1 Y.size
  replace g2 : B2 < Y.w.heap.size := Nat.lt_of_lt_of_le g2 Y.size
  replace hn1 := hn1.later Y
  replace hs1 := hs1.later Y
  replace hn2 := hn2.later Y
  replace hs2 := hs2.later Y
  replace hf := hf.later Y
  replace hl := hl.later Y
  replace ha := ha.later Y
  replace ho := ho.later Y
  replace hm := hm.later Y
  replace hle := hle.trans (Y.le.mono hle.size)
  rw [hY] at b10 b11 b20 b21 g1 g2 hle hn1 hs1 hn2 hs2 hf hl ha ho hm
  obtain ⟨cur', hc⟩ : ∃ q, z.w = q := ⟨_, rfl⟩
  rw [hc] at b10 b11 b20 b21 g1 g2 hle hn1 hs1 hn2 hs2 hf hl ha ho hm hw ⊢
  clear hc hY Y
  try clear z
  obtain ⟨cur, rfl⟩ : ∃ q, q = cur' := ⟨_, rfl⟩
  go_wp2_with fail
  refine Mix.region_mixL (Mix.kinds [1, 3] [2, 4, 5] []) (by kernel_rfl) (by kernel_rfl) ?_
  repeat ((with_reducible refine Mix.atCons ?_); first | refine Mix.skipU (by rfl) rfl (by rfl) ?_ | (refine Mix.val rfl rfl (by rfl) (fun K hK => ?_); go_big_quiet_op; refine hK _ ?_; clear hK K))
  refine Mix.new rfl (by rfl) (fun b => .slice (some ⟨b, 0, none⟩) 3 3) (.cells #[.int .i64 0, .int .i64 1, .int .i64 2] 3) (fun w => by kernel_rfl) (fun d0 x0 hd0 hx0 => ?_)
  have i0 : Ints x0.w (.slice (some ⟨d0, 0, none⟩) 3 3) [0, 1, 2] := ints_of3 (by simp only [World.cell?, hx0]; rfl) (by simp only [World.cell?, hx0]; rfl) (by simp only [World.cell?, hx0]; rfl)
  clear hd0 hx0
  repeat ((with_reducible refine Mix.atCons ?_); first | refine Mix.skipU (by rfl) rfl (by rfl) ?_ | (refine Mix.val rfl rfl (by rfl) (fun K hK => ?_); go_big_quiet_op; refine hK _ ?_; clear hK K))
  refine Mix.loud rfl (by rfl) (fun x1 K hK => ?_)
  go_wp2_with fail
  refine (of_calls _ _ _ _).mono ?_
  rintro e w' ⟨rfl, rfl⟩
  refine hK _ (Later.self _) ?_
  clear hK K
  rw [Later.self_w]
  repeat ((with_reducible refine Mix.atCons ?_); first | refine Mix.skipU (by rfl) rfl (by rfl) ?_ | (refine Mix.val rfl rfl (by rfl) (fun K hK => ?_); go_big_quiet_op; refine hK _ ?_; clear hK K))
  replace i0 := i0.later x1
  refine Mix.new rfl (by rfl) (fun b => .slice (some ⟨b, 0, none⟩) 3 3) (.cells #[.int .i64 0, .int .i64 2, .int .i64 1] 3) (fun w => by kernel_rfl) (fun d1 x2 hd1 hx1 => ?_)
  have i1 : Ints x2.w (.slice (some ⟨d1, 0, none⟩) 3 3) [0, 2, 1] := ints_of3 (by simp only [World.cell?, hx1]; rfl) (by simp only [World.cell?, hx1]; rfl) (by simp only [World.cell?, hx1]; rfl)
  clear hd1 hx1
  repeat ((with_reducible refine Mix.atCons ?_); first | refine Mix.skipU (by rfl) rfl (by rfl) ?_ | (refine Mix.val rfl rfl (by rfl) (fun K hK => ?_); go_big_quiet_op; refine hK _ ?_; clear hK K))
  replace i0 := i0.later x2
  refine Mix.loud rfl (by rfl) (fun x3 K hK => ?_)
  go_wp2_with fail
  refine (of_calls _ _ _ _).mono ?_
  rintro e w' ⟨rfl, rfl⟩
  refine hK _ (Later.self _) ?_
  clear hK K
  rw [Later.self_w]
  repeat ((with_reducible refine Mix.atCons ?_); first | refine Mix.skipU (by rfl) rfl (by rfl) ?_ | (refine Mix.val rfl rfl (by rfl) (fun K hK => ?_); go_big_quiet_op; refine hK _ ?_; clear hK K))
  replace i0 := i0.later x3
  replace i1 := i1.later x3
  refine Mix.loud rfl (by rfl) (fun u K hK => ?_)
  replace i0 := i0.later u
  replace i1 := i1.later u
  obtain ⟨Yu, hYu⟩ : ∃ Y : Later cur, Y.w = u.w := ⟨(((x0.step x1).step x2).step x3).step u, rfl⟩
  have hn1u := hn1.later Yu
  have hs1u := hs1.later Yu
  have hn2u := hn2.later Yu
  have hs2u := hs2.later Yu
  rw [hYu] at hn1u hs1u hn2u hs2u
  go_wp2_with fail
  have h := Better_calls _ _ _ _ bN bS [0, 1, 2] [0, 2, 1] u.w hn1u hs1u i0 i1
  rw [ev_15] at h
  refine h.mono ?_
  clear h
  rintro e w' ⟨lz, x, rfl, rfl, hz⟩
  refine hK _ x ?_
  clear hK K
  obtain ⟨_, _, rfl⟩ := hz.form
  repeat ((with_reducible refine Mix.atCons ?_); first | refine Mix.skipU (by rfl) rfl (by rfl) ?_ | (refine Mix.val rfl rfl (by rfl) (fun K hK => ?_); go_big_quiet_op; refine hK _ ?_; clear hK K))
  refine Mix.done (fun z => ?_)
  clear i0
  clear i1
  clear hn1u hs1u hn2u hs2u hYu Yu
  obtain ⟨Y, hY⟩ : ∃ Y : Later cur, Y.w = z.w := ⟨(((((x0.step x1).step x2).step x3).step u).step x).step z, rfl⟩
  replace b10 := (Y.cell (o := 0) g1).trans b10
  replace b11 := (Y.cell (o := 1) g1).trans b11
  replace b20 := (Y.cell (o := 0) g2).trans b20
  replace b21 := (Y.cell (o := 1) g2).trans b21
  replace g1 : B1 < Y.w.heap.size := Nat.lt_of_lt_of_le g1 Y.size
  replace g2 : B2 < Y.w.heap.size := Nat.lt_of_lt_of_le g2 Y.size
  replace hn1 := hn1.later Y
  replace hs1 := hs1.later Y
  replace hn2 := hn2.later Y
  replace hs2 := hs2.later Y
  replace hf := hf.later Y
  replace hl := hl.later Y
  replace ha := ha.later Y
  replace ho := ho.later Y
  replace hm := hm.later Y
  replace hw := hw.later Y
  replace hle := hle.trans (Y.le.mono hle.size)
  rw [hY] at b10 b11 b20 b21 g1 g2 hle hn1 hs1 hn2 hs2 hf hl ha ho hm hw
  obtain ⟨cur', hc⟩ : ∃ q, z.w = q := ⟨_, rfl⟩
  rw [hc] at b10 b11 b20 b21 g1 g2 hle hn1 hs1 hn2 hs2 hf hl ha ho hm hw ⊢
  clear hc hY Y
  try clear z
  obtain ⟨cur, rfl⟩ : ∃ q, q = cur' := ⟨_, rfl⟩
  go_wp2_with (go_at_call 51; (with_reducible refine (of_calls _ _ _ _).mono ?_); rintro e w' ⟨rfl, rfl⟩)
  have h := Ints_calls _ _ [0, 1, 2] [0, 1, 2] _ (hf.later (Later.new _ (.cells #[.int .i64 0, .int .i64 1, .int .i64 2] 3))) (Ints.lit cur [0, 1, 2] 3 rfl rfl rfl (by simp))
  rw [show eqI [0, 1, 2] [0, 1, 2] = true from by decide] at h
  refine h.mono ?_
  clear h
  rintro e w' ⟨rfl, x, rfl⟩
  obtain ⟨Y, hY⟩ : ∃ Y : Later cur, Y.w = x.w := ⟨(Later.new cur (.cells #[.int .i64 0, .int .i64 1, .int .i64 2] 3)).step x, rfl⟩
  replace b10 := (Y.cell (o := 0) g1).trans b10
  replace b11 := (Y.cell (o := 1) g1).trans b11
  replace b20 := (Y.cell (o := 0) g2).trans b20
  replace b21 := (Y.cell (o := 1) g2).trans b21
  replace g1 : B1 < Y.w.heap.size := Nat.lt_of_lt_of_le g1 Y.size
  replace g2 : B2 < Y.w.heap.size := Nat.lt_of_lt_of_le g2 Y.size
  replace hn1 := hn1.later Y
  replace hs1 := hs1.later Y
  replace hn2 := hn2.later Y
  replace hs2 := hs2.later Y
  replace hf := hf.later Y
  replace hl := hl.later Y
  replace ha := ha.later Y
  replace ho := ho.later Y
  replace hm := hm.later Y
  replace hw := hw.later Y
  replace hle := hle.trans (Y.le.mono hle.size)
  rw [hY] at b10 b11 b20 b21 g1 g2 hle hn1 hs1 hn2 hs2 hf hl ha ho hm hw
  obtain ⟨cur', hc⟩ : ∃ q, x.w = q := ⟨_, rfl⟩
  rw [hc] at b10 b11 b20 b21 g1 g2 hle hn1 hs1 hn2 hs2 hf hl ha ho hm hw ⊢
  clear hc hY Y
  try clear x
  obtain ⟨cur, rfl⟩ : ∃ q, q = cur' := ⟨_, rfl⟩
  go_wp2_with (go_at_call 51; (with_reducible refine (of_calls _ _ _ _).mono ?_); rintro e w' ⟨rfl, rfl⟩)
  have h := Ints_calls _ _ [2, 0, 1] [2, 0, 1] _ (hl.later (Later.new _ (.cells #[.int .i64 2, .int .i64 0, .int .i64 1] 3))) (Ints.lit cur [2, 0, 1] 3 rfl rfl rfl (by simp))
  rw [show eqI [2, 0, 1] [2, 0, 1] = true from by decide] at h
  refine h.mono ?_
  clear h
  rintro e w' ⟨rfl, x, rfl⟩
  obtain ⟨Y, hY⟩ : ∃ Y : Later cur, Y.w = x.w := ⟨(Later.new cur (.cells #[.int .i64 2, .int .i64 0, .int .i64 1] 3)).step x, rfl⟩
  replace b10 := (Y.cell (o := 0) g1).trans b10
  replace b11 := (Y.cell (o := 1) g1).trans b11
  replace b20 := (Y.cell (o := 0) g2).trans b20
  replace b21 := (Y.cell (o := 1) g2).trans b21
  replace g1 : B1 < Y.w.heap.size := Nat.lt_of_lt_of_le g1 Y.size
  replace g2 : B2 < Y.w.heap.size := Nat.lt_of_lt_of_le g2 Y.size
  replace hn1 := hn1.later Y
  replace hs1 := hs1.later Y
  replace hn2 := hn2.later Y
  replace hs2 := hs2.later Y
  replace hf := hf.later Y
  replace hl := hl.later Y
  replace ha := ha.later Y
  replace ho := ho.later Y
  replace hm := hm.later Y
  replace hw := hw.later Y
  replace hle := hle.trans (Y.le.mono hle.size)
  rw [hY] at b10 b11 b20 b21 g1 g2 hle hn1 hs1 hn2 hs2 hf hl ha ho hm hw
  obtain ⟨cur', hc⟩ : ∃ q, x.w = q := ⟨_, rfl⟩
  rw [hc] at b10 b11 b20 b21 g1 g2 hle hn1 hs1 hn2 hs2 hf hl ha ho hm hw ⊢
  clear hc hY Y
  try clear x
  obtain ⟨cur, rfl⟩ : ∃ q, q = cur' := ⟨_, rfl⟩
  go_wp2_with (first | (go_at_call 51; (with_reducible refine (of_calls _ _ _ _).mono ?_); rintro e w' ⟨rfl, rfl⟩) | (go_at_call 53; (with_reducible refine (lists_calls _ _ _ _).mono ?_); rintro e w' ⟨rfl, rfl⟩))
  obtain ⟨YL, hYL⟩ : ∃ Y : Later cur, Y.w = ((((cur.alloc (.cells #[.int .i64 0, .int .i64 1, .int .i64 2] 3)).alloc (.cells #[.int .i64 1, .int .i64 2, .int .i64 0] 3)).alloc (.cells #[.int .i64 2, .int .i64 0, .int .i64 1] 3)).alloc (.cells #[.slice (some ⟨cur.heap.size, 0, none⟩) 3 3, .slice (some ⟨cur.heap.size + 1, 0, none⟩) 3 3, .slice (some ⟨cur.heap.size + 1 + 1, 0, none⟩) 3 3] 25)) := ⟨((((Later.new _ (.cells #[.int .i64 0, .int .i64 1, .int .i64 2] 3)).step (Later.new _ (.cells #[.int .i64 1, .int .i64 2, .int .i64 0] 3))).step (Later.new _ (.cells #[.int .i64 2, .int .i64 0, .int .i64 1] 3))).step (Later.new _ (.cells #[.slice (some ⟨cur.heap.size, 0, none⟩) 3 3, .slice (some ⟨cur.heap.size + 1, 0, none⟩) 3 3, .slice (some ⟨cur.heap.size + 1 + 1, 0, none⟩) 3 3] 25))), rfl⟩
  have p0_0 : ((((cur.alloc (.cells #[.int .i64 0, .int .i64 1, .int .i64 2] 3)).alloc (.cells #[.int .i64 1, .int .i64 2, .int .i64 0] 3)).alloc (.cells #[.int .i64 2, .int .i64 0, .int .i64 1] 3)).alloc (.cells #[.slice (some ⟨cur.heap.size, 0, none⟩) 3 3, .slice (some ⟨cur.heap.size + 1, 0, none⟩) 3 3, .slice (some ⟨cur.heap.size + 1 + 1, 0, none⟩) 3 3] 25)).cell? ⟨cur.heap.size, 0, none⟩ = some (.int .i64 0) := by simp [go_sem]
  have p0_1 : ((((cur.alloc (.cells #[.int .i64 0, .int .i64 1, .int .i64 2] 3)).alloc (.cells #[.int .i64 1, .int .i64 2, .int .i64 0] 3)).alloc (.cells #[.int .i64 2, .int .i64 0, .int .i64 1] 3)).alloc (.cells #[.slice (some ⟨cur.heap.size, 0, none⟩) 3 3, .slice (some ⟨cur.heap.size + 1, 0, none⟩) 3 3, .slice (some ⟨cur.heap.size + 1 + 1, 0, none⟩) 3 3] 25)).cell? ⟨cur.heap.size, 1, none⟩ = some (.int .i64 1) := by simp [go_sem]
  have p0_2 : ((((cur.alloc (.cells #[.int .i64 0, .int .i64 1, .int .i64 2] 3)).alloc (.cells #[.int .i64 1, .int .i64 2, .int .i64 0] 3)).alloc (.cells #[.int .i64 2, .int .i64 0, .int .i64 1] 3)).alloc (.cells #[.slice (some ⟨cur.heap.size, 0, none⟩) 3 3, .slice (some ⟨cur.heap.size + 1, 0, none⟩) 3 3, .slice (some ⟨cur.heap.size + 1 + 1, 0, none⟩) 3 3] 25)).cell? ⟨cur.heap.size, 2, none⟩ = some (.int .i64 2) := by simp [go_sem]
  have n0 : ((((cur.alloc (.cells #[.int .i64 0, .int .i64 1, .int .i64 2] 3)).alloc (.cells #[.int .i64 1, .int .i64 2, .int .i64 0] 3)).alloc (.cells #[.int .i64 2, .int .i64 0, .int .i64 1] 3)).alloc (.cells #[.slice (some ⟨cur.heap.size, 0, none⟩) 3 3, .slice (some ⟨cur.heap.size + 1, 0, none⟩) 3 3, .slice (some ⟨cur.heap.size + 1 + 1, 0, none⟩) 3 3] 25)).cell? ⟨cur.heap.size + 1 + 1 + 1, 0, none⟩ = some (.slice (some ⟨cur.heap.size, 0, none⟩) 3 3) := by simp [go_sem]
  have p1_0 : ((((cur.alloc (.cells #[.int .i64 0, .int .i64 1, .int .i64 2] 3)).alloc (.cells #[.int .i64 1, .int .i64 2, .int .i64 0] 3)).alloc (.cells #[.int .i64 2, .int .i64 0, .int .i64 1] 3)).alloc (.cells #[.slice (some ⟨cur.heap.size, 0, none⟩) 3 3, .slice (some ⟨cur.heap.size + 1, 0, none⟩) 3 3, .slice (some ⟨cur.heap.size + 1 + 1, 0, none⟩) 3 3] 25)).cell? ⟨cur.heap.size + 1, 0, none⟩ = some (.int .i64 1) := by simp [go_sem]
  have p1_1 : ((((cur.alloc (.cells #[.int .i64 0, .int .i64 1, .int .i64 2] 3)).alloc (.cells #[.int .i64 1, .int .i64 2, .int .i64 0] 3)).alloc (.cells #[.int .i64 2, .int .i64 0, .int .i64 1] 3)).alloc (.cells #[.slice (some ⟨cur.heap.size, 0, none⟩) 3 3, .slice (some ⟨cur.heap.size + 1, 0, none⟩) 3 3, .slice (some ⟨cur.heap.size + 1 + 1, 0, none⟩) 3 3] 25)).cell? ⟨cur.heap.size + 1, 1, none⟩ = some (.int .i64 2) := by simp [go_sem]
  have p1_2 : ((((cur.alloc (.cells #[.int .i64 0, .int .i64 1, .int .i64 2] 3)).alloc (.cells #[.int .i64 1, .int .i64 2, .int .i64 0] 3)).alloc (.cells #[.int .i64 2, .int .i64 0, .int .i64 1] 3)).alloc (.cells #[.slice (some ⟨cur.heap.size, 0, none⟩) 3 3, .slice (some ⟨cur.heap.size + 1, 0, none⟩) 3 3, .slice (some ⟨cur.heap.size + 1 + 1, 0, none⟩) 3 3] 25)).cell? ⟨cur.heap.size + 1, 2, none⟩ = some (.int .i64 0) := by simp [go_sem]
  have n1 : ((((cur.alloc (.cells #[.int .i64 0, .int .i64 1, .int .i64 2] 3)).alloc (.cells #[.int .i64 1, .int .i64 2, .int .i64 0] 3)).alloc (.cells #[.int .i64 2, .int .i64 0, .int .i64 1] 3)).alloc (.cells #[.slice (some ⟨cur.heap.size, 0, none⟩) 3 3, .slice (some ⟨cur.heap.size + 1, 0, none⟩) 3 3, .slice (some ⟨cur.heap.size + 1 + 1, 0, none⟩) 3 3] 25)).cell? ⟨cur.heap.size + 1 + 1 + 1, 1, none⟩ = some (.slice (some ⟨cur.heap.size + 1, 0, none⟩) 3 3) := by simp [go_sem]
  have p2_0 : ((((cur.alloc (.cells #[.int .i64 0, .int .i64 1, .int .i64 2] 3)).alloc (.cells #[.int .i64 1, .int .i64 2, .int .i64 0] 3)).alloc (.cells #[.int .i64 2, .int .i64 0, .int .i64 1] 3)).alloc (.cells #[.slice (some ⟨cur.heap.size, 0, none⟩) 3 3, .slice (some ⟨cur.heap.size + 1, 0, none⟩) 3 3, .slice (some ⟨cur.heap.size + 1 + 1, 0, none⟩) 3 3] 25)).cell? ⟨cur.heap.size + 1 + 1, 0, none⟩ = some (.int .i64 2) := by simp [go_sem]
  have p2_1 : ((((cur.alloc (.cells #[.int .i64 0, .int .i64 1, .int .i64 2] 3)).alloc (.cells #[.int .i64 1, .int .i64 2, .int .i64 0] 3)).alloc (.cells #[.int .i64 2, .int .i64 0, .int .i64 1] 3)).alloc (.cells #[.slice (some ⟨cur.heap.size, 0, none⟩) 3 3, .slice (some ⟨cur.heap.size + 1, 0, none⟩) 3 3, .slice (some ⟨cur.heap.size + 1 + 1, 0, none⟩) 3 3] 25)).cell? ⟨cur.heap.size + 1 + 1, 1, none⟩ = some (.int .i64 0) := by simp [go_sem]
  have p2_2 : ((((cur.alloc (.cells #[.int .i64 0, .int .i64 1, .int .i64 2] 3)).alloc (.cells #[.int .i64 1, .int .i64 2, .int .i64 0] 3)).alloc (.cells #[.int .i64 2, .int .i64 0, .int .i64 1] 3)).alloc (.cells #[.slice (some ⟨cur.heap.size, 0, none⟩) 3 3, .slice (some ⟨cur.heap.size + 1, 0, none⟩) 3 3, .slice (some ⟨cur.heap.size + 1 + 1, 0, none⟩) 3 3] 25)).cell? ⟨cur.heap.size + 1 + 1, 2, none⟩ = some (.int .i64 1) := by simp [go_sem]
  have n2 : ((((cur.alloc (.cells #[.int .i64 0, .int .i64 1, .int .i64 2] 3)).alloc (.cells #[.int .i64 1, .int .i64 2, .int .i64 0] 3)).alloc (.cells #[.int .i64 2, .int .i64 0, .int .i64 1] 3)).alloc (.cells #[.slice (some ⟨cur.heap.size, 0, none⟩) 3 3, .slice (some ⟨cur.heap.size + 1, 0, none⟩) 3 3, .slice (some ⟨cur.heap.size + 1 + 1, 0, none⟩) 3 3] 25)).cell? ⟨cur.heap.size + 1 + 1 + 1, 2, none⟩ = some (.slice (some ⟨cur.heap.size + 1 + 1, 0, none⟩) 3 3) := by simp [go_sem]
  have hfL := ha.later YL
  rw [hYL] at hfL
  have h := Lists_calls _ _ [[0, 1, 2], [1, 2, 0], [2, 0, 1]] [[0, 1, 2], [1, 2, 0], [2, 0, 1]] _ hfL (rows_of3 n0 n1 n2 (ints_of3 p0_0 p0_1 p0_2) (ints_of3 p1_0 p1_1 p1_2) (ints_of3 p2_0 p2_1 p2_2))
  rw [show eqL [[0, 1, 2], [1, 2, 0], [2, 0, 1]] [[0, 1, 2], [1, 2, 0], [2, 0, 1]] = true from by decide] at h
  refine h.mono ?_
  clear h hfL n0 p0_0 p0_1 p0_2 n1 p1_0 p1_1 p1_2 n2 p2_0 p2_1 p2_2
  rintro e w' ⟨rfl, x, rfl⟩
  obtain ⟨Y, hY⟩ : ∃ Y : Later cur, Y.w = x.w := ⟨((((Later.new _ (.cells #[.int .i64 0, .int .i64 1, .int .i64 2] 3)).step (Later.new _ (.cells #[.int .i64 1, .int .i64 2, .int .i64 0] 3))).step (Later.new _ (.cells #[.int .i64 2, .int .i64 0, .int .i64 1] 3))).step (Later.new _ (.cells #[.slice (some ⟨cur.heap.size, 0, none⟩) 3 3, .slice (some ⟨cur.heap.size + 1, 0, none⟩) 3 3, .slice (some ⟨cur.heap.size + 1 + 1, 0, none⟩) 3 3] 25))).step x, rfl⟩
  replace b10 := (Y.cell (o := 0) g1).trans b10
  replace b11 := (Y.cell (o := 1) g1).trans b11
  replace b20 := (Y.cell (o := 0) g2).trans b20
  replace b21 := (Y.cell (o := 1) g2).trans b21
  replace g1 : B1 < Y.w.heap.size := Nat.lt_of_lt_of_le g1 Y.size
  replace g2 : B2 < Y.w.heap.size := Nat.lt_of_lt_of_le g2 Y.size
  replace hn1 := hn1.later Y
  replace hs1 := hs1.later Y
  replace hn2 := hn2.later Y
  replace hs2 := hs2.later Y
  replace hf := hf.later Y
  replace hl := hl.later Y
  replace ha := ha.later Y
  replace ho := ho.later Y
  replace hm := hm.later Y
  replace hw := hw.later Y
  replace hle := hle.trans (Y.le.mono hle.size)
  rw [hY] at b10 b11 b20 b21 g1 g2 hle hn1 hs1 hn2 hs2 hf hl ha ho hm hw
  obtain ⟨cur', hc⟩ : ∃ q, x.w = q := ⟨_, rfl⟩
  rw [hc] at b10 b11 b20 b21 g1 g2 hle hn1 hs1 hn2 hs2 hf hl ha ho hm hw ⊢
  clear hc hY Y
  try clear x
  obtain ⟨cur, rfl⟩ : ∃ q, q = cur' := ⟨_, rfl⟩
  go_wp2_with (first | (go_at_call 51; (with_reducible refine (of_calls _ _ _ _).mono ?_); rintro e w' ⟨rfl, rfl⟩) | (go_at_call 53; (with_reducible refine (lists_calls _ _ _ _).mono ?_); rintro e w' ⟨rfl, rfl⟩))
  obtain ⟨YL, hYL⟩ : ∃ Y : Later cur, Y.w = ((cur.alloc (.cells #[.int .i64 0, .int .i64 (-1)] 3)).alloc (.cells #[.slice (some ⟨cur.heap.size, 0, none⟩) 2 2] 25)) := ⟨((Later.new _ (.cells #[.int .i64 0, .int .i64 (-1)] 3)).step (Later.new _ (.cells #[.slice (some ⟨cur.heap.size, 0, none⟩) 2 2] 25))), rfl⟩
  have p0_0 : ((cur.alloc (.cells #[.int .i64 0, .int .i64 (-1)] 3)).alloc (.cells #[.slice (some ⟨cur.heap.size, 0, none⟩) 2 2] 25)).cell? ⟨cur.heap.size, 0, none⟩ = some (.int .i64 0) := by simp [go_sem]
  have p0_1 : ((cur.alloc (.cells #[.int .i64 0, .int .i64 (-1)] 3)).alloc (.cells #[.slice (some ⟨cur.heap.size, 0, none⟩) 2 2] 25)).cell? ⟨cur.heap.size, 1, none⟩ = some (.int .i64 (-1)) := by simp [go_sem]
  have n0 : ((cur.alloc (.cells #[.int .i64 0, .int .i64 (-1)] 3)).alloc (.cells #[.slice (some ⟨cur.heap.size, 0, none⟩) 2 2] 25)).cell? ⟨cur.heap.size + 1, 0, none⟩ = some (.slice (some ⟨cur.heap.size, 0, none⟩) 2 2) := by simp [go_sem]
  have hfL := ho.later YL
  rw [hYL] at hfL
  have h := Lists_calls _ _ [[0, -1]] [[0, -1]] _ hfL (rows_of1 n0 (ints_of2 p0_0 p0_1))
  rw [show eqL [[0, -1]] [[0, -1]] = true from by decide] at h
  refine h.mono ?_
  clear h hfL n0 p0_0 p0_1
  rintro e w' ⟨rfl, x, rfl⟩
  obtain ⟨Y, hY⟩ : ∃ Y : Later cur, Y.w = x.w := ⟨((Later.new _ (.cells #[.int .i64 0, .int .i64 (-1)] 3)).step (Later.new _ (.cells #[.slice (some ⟨cur.heap.size, 0, none⟩) 2 2] 25))).step x, rfl⟩
  replace b10 := (Y.cell (o := 0) g1).trans b10
  replace b11 := (Y.cell (o := 1) g1).trans b11
  replace b20 := (Y.cell (o := 0) g2).trans b20
  replace b21 := (Y.cell (o := 1) g2).trans b21
  replace g1 : B1 < Y.w.heap.size := Nat.lt_of_lt_of_le g1 Y.size
  replace g2 : B2 < Y.w.heap.size := Nat.lt_of_lt_of_le g2 Y.size
  replace hn1 := hn1.later Y
  replace hs1 := hs1.later Y
  replace hn2 := hn2.later Y
  replace hs2 := hs2.later Y
  replace hf := hf.later Y
  replace hl := hl.later Y
  replace ha := ha.later Y
  replace ho := ho.later Y
  replace hm := hm.later Y
  replace hw := hw.later Y
  replace hle := hle.trans (Y.le.mono hle.size)
  rw [hY] at b10 b11 b20 b21 g1 g2 hle hn1 hs1 hn2 hs2 hf hl ha ho hm hw
  obtain ⟨cur', hc⟩ : ∃ q, x.w = q := ⟨_, rfl⟩
  rw [hc] at b10 b11 b20 b21 g1 g2 hle hn1 hs1 hn2 hs2 hf hl ha ho hm hw ⊢
  clear hc hY Y
  try clear x
  obtain ⟨cur, rfl⟩ : ∃ q, q = cur' := ⟨_, rfl⟩
  go_wp2_with (go_at_call 51; (with_reducible refine (of_calls _ _ _ _).mono ?_); rintro e w' ⟨rfl, rfl⟩)
  have h := Ints_calls _ _ [1, 2, 0] [1, 2, 0] _ (hm.later (Later.new _ (.cells #[.int .i64 1, .int .i64 2, .int .i64 0] 3))) (Ints.lit cur [1, 2, 0] 3 rfl rfl rfl (by simp))
  rw [show eqI [1, 2, 0] [1, 2, 0] = true from by decide] at h
  refine h.mono ?_
  clear h
  rintro e w' ⟨rfl, x, rfl⟩
  obtain ⟨Y, hY⟩ : ∃ Y : Later cur, Y.w = x.w := ⟨(Later.new cur (.cells #[.int .i64 1, .int .i64 2, .int .i64 0] 3)).step x, rfl⟩
  replace b10 := (Y.cell (o := 0) g1).trans b10
  replace b11 := (Y.cell (o := 1) g1).trans b11
  replace b20 := (Y.cell (o := 0) g2).trans b20
  replace b21 := (Y.cell (o := 1) g2).trans b21
  replace g1 : B1 < Y.w.heap.size := Nat.lt_of_lt_of_le g1 Y.size
  replace g2 : B2 < Y.w.heap.size := Nat.lt_of_lt_of_le g2 Y.size
  replace hn1 := hn1.later Y
  replace hs1 := hs1.later Y
  replace hn2 := hn2.later Y
  replace hs2 := hs2.later Y
  replace hf := hf.later Y
  replace hl := hl.later Y
  replace ha := ha.later Y
  replace ho := ho.later Y
  replace hm := hm.later Y
  replace hw := hw.later Y
  replace hle := hle.trans (Y.le.mono hle.size)
  rw [hY] at b10 b11 b20 b21 g1 g2 hle hn1 hs1 hn2 hs2 hf hl ha ho hm hw
  obtain ⟨cur', hc⟩ : ∃ q, x.w = q := ⟨_, rfl⟩
  rw [hc] at b10 b11 b20 b21 g1 g2 hle hn1 hs1 hn2 hs2 hf hl ha ho hm hw ⊢
  clear hc hY Y
  try clear x
  obtain ⟨cur, rfl⟩ : ∃ q, q = cur' := ⟨_, rfl⟩
  go_wp2_with (go_at_call 51; (with_reducible refine (of_calls _ _ _ _).mono ?_); rintro e w' ⟨rfl, rfl⟩)
  have h := Ints_calls _ _ [2, 0, 1] [2, 0, 1] _ (hw.later (Later.new _ (.cells #[.int .i64 2, .int .i64 0, .int .i64 1] 3))) (Ints.lit cur [2, 0, 1] 3 rfl rfl rfl (by simp))
  rw [show eqI [2, 0, 1] [2, 0, 1] = true from by decide] at h
  refine h.mono ?_
  clear h
  rintro e w' ⟨rfl, x, rfl⟩
  obtain ⟨Y, hY⟩ : ∃ Y : Later cur, Y.w = x.w := ⟨(Later.new cur (.cells #[.int .i64 2, .int .i64 0, .int .i64 1] 3)).step x, rfl⟩
  replace b10 := (Y.cell (o := 0) g1).trans b10
  replace b11 := (Y.cell (o := 1) g1).trans b11
  replace b20 := (Y.cell (o := 0) g2).trans b20
  replace b21 := (Y.cell (o := 1) g2).trans b21
  replace g1 : B1 < Y.w.heap.size := Nat.lt_of_lt_of_le g1 Y.size
  replace g2 : B2 < Y.w.heap.size := Nat.lt_of_lt_of_le g2 Y.size
  replace hn1 := hn1.later Y
  replace hs1 := hs1.later Y
  replace hn2 := hn2.later Y
  replace hs2 := hs2.later Y
  replace hf := hf.later Y
  replace hl := hl.later Y
  replace ha := ha.later Y
  replace ho := ho.later Y
  replace hm := hm.later Y
  replace hw := hw.later Y
  replace hle := hle.trans (Y.le.mono hle.size)
  rw [hY] at b10 b11 b20 b21 g1 g2 hle hn1 hs1 hn2 hs2 hf hl ha ho hm hw
  obtain ⟨cur', hc⟩ : ∃ q, x.w = q := ⟨_, rfl⟩
  rw [hc] at b10 b11 b20 b21 g1 g2 hle hn1 hs1 hn2 hs2 hf hl ha ho hm hw ⊢
  clear hc hY Y
  try clear x
  obtain ⟨cur, rfl⟩ : ∃ q, q = cur' := ⟨_, rfl⟩
  go_wp2
  go_ret
  exact ⟨rfl, ⟨_, hle⟩, rfl⟩
end Go.Proofs.Ytieaibebnkdmhaa
