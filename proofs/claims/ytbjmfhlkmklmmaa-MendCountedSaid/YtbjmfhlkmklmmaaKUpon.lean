import Derived.Test.YtbjmfhlkmklmmaaKApi
/-  Lost, CheckBlows of the definitions. -/
namespace Go.Proofs.Ytbjmfhlkmklmmaa
open Go.RowKit

theorem hamP_cases (w h : Nat) (d : List Int) : (∃ X U, Ham w h d X U ∧ hamP w h d = (X, U)) ∨ hamP w h d = ([], []) := by
  by_cases hx : ∃ X U, Ham w h d X U
  · obtain ⟨X, U, hm⟩ := hx; exact .inl ⟨X, U, hm, hm.eq⟩
  · refine .inr ?_
    rw [hamP, dif_neg]
    rintro ⟨p, hp⟩
    exact hx ⟨p.1, p.2, hp⟩
theorem flatX_tame {w h : Nat} {d : List Int} (hs : sized w h) (hlow : low w h d) : (flatX w h d).length ≤ 36 ∧ tame (flatX w h d) 1000000 := by
  have h36 : w * h ≤ 36 := Nat.mul_le_mul hs.2.1 hs.2.2.2
  rw [flatX]
  split
  · rw [Int.toNat_natCast, Int.toNat_natCast]
    rcases hamP_cases w h d with ⟨X, U, hm, e⟩ | e
    · rw [e]
      have hl : X.length = w * h := hm.run.2.2.1
      refine ⟨by show X.length ≤ 36; omega, fun j hj => ?_⟩
      have hj' : j < X.length := hj
      have h1 := low_x hs hm.run hlow j (by omega)
      show -1000000 ≤ ofL X j ∧ ofL X j ≤ 1000000
      omega
    · rw [e]; exact ⟨Nat.zero_le _, fun j hj => absurd hj (Nat.not_lt_zero _)⟩
  · exact ⟨Nat.zero_le _, fun j hj => absurd hj (Nat.not_lt_zero _)⟩
theorem sum_tame {d : List Int} (h36 : d.length ≤ 36) (ht : tame d 1000000) : -(36 * 1000000) ≤ Sand.sum d.length (ofL d) ∧ Sand.sum d.length (ofL d) ≤ 36 * 1000000 := by
  have m1 := Sand.sum_mono (f := ofL d) (g := fun _ => 1000000) d.length fun i hi => (ht i hi).2
  have m2 := Sand.sum_mono (f := fun _ => -1000000) (g := ofL d) d.length fun i hi => (ht i hi).1
  rw [sum_const] at m1 m2
  omega
set_option maxRecDepth 100000 in
set_option maxHeartbeats 2000000 in
theorem refLost_calls (w h : Int) (dv : Value) (d : List Int) (W : World) (hd : Ints W dv d) :
    Calls Try.prog 30 #[.agg #[.int .i64 w, .int .i64 h, dv]] W (Gives (.tuple #[.int .i64 (lostN w h d), .int .i64 (vplate w h d)]) W) := by
  have hdl := hd.1
  obtain ⟨a, c, rfl⟩ := hd.form
  go_enter Try.func30, Try.ntmps30
  go_wp2_with fail
  obtain ⟨B, hB⟩ : ∃ B, B = W.heap.size := ⟨_, rfl⟩
  obtain ⟨z, hz⟩ : ∃ z : Later W, z.w = W.alloc (.cells #[.int .i64 w, .int .i64 h, .slice a d.length c] 24) := ⟨Later.new _ _, rfl⟩
  have c0 : z.w.cell? ⟨B, 0, none⟩ = some (.int .i64 w) := by rw [hz, hB]; simp [go_sem]
  have c1 : z.w.cell? ⟨B, 1, none⟩ = some (.int .i64 h) := by rw [hz, hB]; simp [go_sem]
  have c2 : z.w.cell? ⟨B, 2, none⟩ = some (.slice a d.length c) := by rw [hz, hB]; simp [go_sem]
  have hBz : B < z.w.heap.size := by rw [hz, hB]; simp [go_sem]
  have HZ : Hid (z.w.heap.size = B + 1) := Lib.hid (by rw [hz, hB]; simp)
  rw [← hz, ← hB]
  replace hd := hd.later z
  clear hz hB
  refine (refFlatten_calls w h _ d _ hd).mono ?_
  rintro e w' ⟨v, u, x, rfl, rfl, hX, hU⟩
  obtain ⟨a1, n1, k1, rfl⟩ : ∃ a n c, v = .slice a n c := by obtain ⟨a, c, e⟩ := hX.form; exact ⟨a, _, c, e⟩
  have gB0 : x.w.cell? ⟨B, 0, none⟩ = some (.int .i64 w) := ((x).cell hBz).trans c0
  have gB1 : x.w.cell? ⟨B, 1, none⟩ = some (.int .i64 h) := ((x).cell hBz).trans c1
  have gB2 : x.w.cell? ⟨B, 2, none⟩ = some (.slice a d.length c) := ((x).cell hBz).trans c2
  have sB : B < x.w.heap.size := Nat.lt_of_lt_of_le hBz (x).size
  by_cases hv : vplate w h d = 0
  · have HE := Lib.hid (show lostN w h d = Sand.sum d.length (ofL d) - Sand.sum (flatX w h d).length (ofL (flatX w h d)) by rw [lostN, if_pos hv])
    have HV := Lib.hid hv
    obtain ⟨wn, hn, rfl, rfl, hs, hl, hlo⟩ := vplate_zero hv
    have h36 : wn * hn ≤ 36 := Nat.mul_le_mul hs.2.1 hs.2.2.2
    have htd : tame d 1000000 := fun j hj => by have := hlo j hj; rw [nth_ofL] at this; omega
    have hS1 := Lib.hid (fun (V : World) (hV : Ints V (.slice a d.length c) d) => Sum_calls _ d V hV (by omega) htd)
    have hXt := flatX_tame hs (vplate_low hl hlo)
    have hb1 := Lib.hid (show -(36 * 1000000) ≤ Sand.sum d.length (ofL d) ∧ Sand.sum d.length (ofL d) ≤ 36 * 1000000 from sum_tame (by omega) htd)
    have hb2 := Lib.hid (show -(36 * 1000000) ≤ Sand.sum (flatX wn hn d).length (ofL (flatX wn hn d)) ∧ Sand.sum (flatX wn hn d).length (ofL (flatX wn hn d)) ≤ 36 * 1000000 from sum_tame hXt.1 hXt.2)
    rw [hv]
    clear hv hl hlo htd
    go_wp2_with fail
    refine (hS1.out _ (hd.later x)).mono ?_
    rintro e w' ⟨rfl, rfl⟩
    go_wp2_with fail
    refine (Sum_calls _ _ _ hX hXt.1 hXt.2).mono ?_
    rintro e w' ⟨rfl, rfl⟩
    have e1 := IntWalk.i64_in (Sand.sum d.length (ofL d) - Sand.sum (flatX wn hn d).length (ofL (flatX wn hn d))) (by have := hb1.out; have := hb2.out; omega)
    obtain ⟨S1, hS⟩ : ∃ S, Sand.sum d.length (ofL d) = S := ⟨_, rfl⟩
    obtain ⟨S2, hS'⟩ : ∃ S, Sand.sum (flatX wn hn d).length (ofL (flatX wn hn d)) = S := ⟨_, rfl⟩
    rw [hS, hS'] at e1 HE
    rw [hS, hS']
    clear hS hS' hb1 hb2 hS1
    go_wp2
    go_ret2
    exact ⟨ret_ie HE.out.symm HV.out.symm, z.step x, rfl⟩
  · have hE := Lib.hid (show lostN w h d = 0 by rw [lostN, if_neg hv])
    have hb2 : (vplate w h d != 0) = true := by simpa using hv
    go_wp2
    go_ret2
    exact ⟨ret_ie hE.out.symm rfl, z.step x, rfl⟩

theorem any_bad {bl : List Int} {lo hi : Int} {k : Nat} (hk : k < bl.length) (h : outB lo hi (nth bl k) = true) : bl.any (outB lo hi) = true := List.any_eq_true.2 ⟨nth bl k, by rw [nth_eq hk]; exact List.getElem_mem hk, h⟩
theorem any_none {bl : List Int} {lo hi : Int} (h : ∀ j, j < bl.length → lo ≤ nth bl j ∧ nth bl j ≤ hi) : bl.any (outB lo hi) = false := by
  rw [← Bool.not_eq_true, List.any_eq_true]
  rintro ⟨x, hx, ho⟩
  obtain ⟨j, hj, rfl⟩ := List.getElem_of_mem hx
  have := h j hj
  rw [nth_eq hj] at this
  simp only [outB, Bool.or_eq_true, decide_eq_true_iff] at ho
  omega
set_option maxRecDepth 100000 in
set_option maxHeartbeats 2000000 in
theorem refCheckBlows_calls (w h : Int) (dv uv : Value) (d bl : List Int) (W : World) (hd : Ints W dv d) (hu : Ints W uv bl) :
    Calls Try.prog 26 #[.agg #[.int .i64 w, .int .i64 h, dv], uv] W (Gives (.int .i64 (blowsE w h d bl)) W) := by
  have hul := hu.1
  obtain ⟨au, cu, rfl⟩ := hu.form
  have hdl := hd.1
  obtain ⟨a, c, rfl⟩ := hd.form
  go_enter Try.func26, Try.ntmps26
  go_wp2_with fail
  obtain ⟨B, hB⟩ : ∃ B, B = W.heap.size := ⟨_, rfl⟩
  obtain ⟨z, hz⟩ : ∃ z : Later W, z.w = W.alloc (.cells #[.int .i64 w, .int .i64 h, .slice a d.length c] 24) := ⟨Later.new _ _, rfl⟩
  have c0 : z.w.cell? ⟨B, 0, none⟩ = some (.int .i64 w) := by rw [hz, hB]; simp [go_sem]
  have c1 : z.w.cell? ⟨B, 1, none⟩ = some (.int .i64 h) := by rw [hz, hB]; simp [go_sem]
  have c2 : z.w.cell? ⟨B, 2, none⟩ = some (.slice a d.length c) := by rw [hz, hB]; simp [go_sem]
  have hBz : B < z.w.heap.size := by rw [hz, hB]; simp [go_sem]
  have HZ : Hid (z.w.heap.size = B + 1) := Lib.hid (by rw [hz, hB]; simp)
  rw [← hz, ← hB]
  replace hd := hd.later z
  replace hu := hu.later z
  clear hz hB
  refine (refCheckPlate_calls w h _ d _ hd).mono ?_
  rintro e w' ⟨rfl, x, rfl⟩
  have gB0 : x.w.cell? ⟨B, 0, none⟩ = some (.int .i64 w) := ((x).cell hBz).trans c0
  have gB1 : x.w.cell? ⟨B, 1, none⟩ = some (.int .i64 h) := ((x).cell hBz).trans c1
  have gB2 : x.w.cell? ⟨B, 2, none⟩ = some (.slice a d.length c) := ((x).cell hBz).trans c2
  have sB : B < x.w.heap.size := Nat.lt_of_lt_of_le hBz (x).size
  by_cases hv : vplate w h d = 0
  rotate_left
  · have hE := Lib.hid (show blowsE w h d bl = vplate w h d by rw [blowsE, if_pos hv])
    have hb2 : (vplate w h d != 0) = true := by simpa using hv
    go_wp2_with fail
    refine (refCheckPlate_calls w h _ d _ (hd.later x)).mono ?_
    rintro e w' ⟨rfl, y, rfl⟩
    go_wp2
    go_ret
    exact ⟨ret_int hE.out.symm, (z.step x).step y, rfl⟩
  · have hv0 := hv
    have hlo30 : ∀ j, j < d.length → 0 ≤ ofL d j ∧ ofL d j ≤ 30 := fun j hj => by obtain ⟨_, _, _, _, _, _, hlo⟩ := vplate_zero hv; exact hlo j hj
    obtain ⟨wn, hn, rfl, rfl, hs, hl, hlo⟩ := vplate_zero hv
    have HL := Lib.hid hl
    have h36 : wn * hn ≤ 36 := Nat.mul_le_mul hs.2.1 hs.2.2.2
    have h1w : 1 ≤ wn * hn := Nat.mul_le_mul hs.1 hs.2.2.1
    clear hl hlo
    rw [hv]
    by_cases hll : bl.length = d.length
    rotate_left
    · have hE := Lib.hid (show blowsE wn hn d bl = 15 by rw [blowsE, if_neg (by rw [hv0]; simp), if_pos hll])
      have hll2 : ((bl.length : Int) != (d.length : Int)) = true := by simp; omega
      clear hv hv0 hll
      go_wp2
      go_ret
      exact ⟨ret_int hE.out.symm, z.step x, rfl⟩
    · have HLL := Lib.hid hll
      have hll2 : ((bl.length : Int) != (d.length : Int)) = false := by simp; omega
      have hE := Lib.hid (show blowsE wn hn d bl = if bl.any (outB 0 1000000) then 3 else if flatB (hitsL wn hn d bl bl.length) then 0 else 22 by rw [blowsE, if_neg (by rw [hv0]; simp), if_neg (by rw [hll]; simp), Int.toNat_natCast, Int.toNat_natCast])
      obtain ⟨bu, ou, ku, e, hku, hbu, hgu⟩ := hu.at (k := 0) (by rw [HLL.out, HL.out]; omega)
      cases e
      have GU := Lib.hid hgu
      clear hll hgu hv hv0
      go_wp2
      go_loop [5] (fun i => ∃ k : Nat, k ≤ bl.length ∧ i = .int .i64 k ∧ Hid (∀ j, j < k → 0 ≤ nth bl j ∧ nth bl j ≤ 1000000)) (fun i => bl.length - (intOf i).toNat)
      case atStart => exact ⟨0, Nat.zero_le _, rfl, fun j hj => absurd hj (Nat.not_lt_zero _)⟩
      case round =>
        obtain ⟨k, hk, rfl, hp⟩ := hrel
        by_cases hlt : k < bl.length
        · have g1 := (x.cell hbu).trans (GU.out k hlt)
          have lbu := Nat.lt_of_lt_of_le hbu x.size
          by_cases h1 : nth bl k < 0
          · have hE2 := Lib.hid (show blowsE wn hn d bl = 3 by rw [hE.out, if_pos (any_bad hlt (by simp [outB, h1]))])
            clear hE
            go_wp2
            go_ret
            exact ⟨ret_int hE2.out.symm, z.step x, rfl⟩
          · by_cases h2 : 1000000 < nth bl k
            · have hE2 := Lib.hid (show blowsE wn hn d bl = 3 by rw [hE.out, if_pos (any_bad hlt (by simp [outB, h2]))])
              clear hE
              go_wp2
              go_ret
              exact ⟨ret_int hE2.out.symm, z.step x, rfl⟩
            · have hp2 := Lib.hid (show ∀ j, j < k + 1 → 0 ≤ nth bl j ∧ nth bl j ≤ 1000000 from fun j hj => by
                by_cases e : j = k
                · subst e; omega
                · exact hp.out j (by omega))
              go_wp2
              go_round
              case rel => exact ⟨k + 1, by omega, by go_num, hp2⟩
              case measure => simp [intOf]; omega
        · obtain rfl : k = bl.length := by omega
          have hbo := Lib.hid (fun j (hj : j < bl.length) => (show 0 ≤ ofL bl j ∧ ofL bl j ≤ 1000000 from hp.out j hj))
          have hE2 := Lib.hid (show blowsE wn hn d bl = if flatB (hitsL wn hn d bl bl.length) then 0 else 22 by rw [hE.out, if_neg (by rw [any_none hp.out]; simp)])
          have hl30 := Lib.hid hlo30
          have hdx := hd.later x
          clear hE hp hlo30
          go_wp2
          go_loopw [6, 7] (fun l i wr => ∃ (k : Nat) (V : Later x.w) (a' : Option Addr) (n' c' : Nat), wr = V.w ∧ k ≤ bl.length ∧ i = .int .i64 k ∧ l = .slice a' n' c' ∧ Ints V.w (.slice a' n' c') (hitsL wn hn d bl k)) (fun _ i _ => bl.length - (intOf i).toNat)
          case atStart => exact ⟨0, Later.self _, _, _, _, rfl, Nat.zero_le _, rfl, rfl, hdx⟩
          case round =>
            obtain ⟨k, V, a', n', c', rfl, hk, rfl, rfl, hX⟩ := hrel
            clear hdx
            by_cases hlt : k < bl.length
            · have g1 := (V.cell (Nat.lt_of_lt_of_le hbu x.size)).trans ((x.cell hbu).trans (GU.out k hlt))
              have lbu := Nat.lt_of_lt_of_le (Nat.lt_of_lt_of_le hbu x.size) V.size
              have kB0 := (V.cell sB).trans gB0
              have kB1 := (V.cell sB).trans gB1
              have kB2 := (V.cell sB).trans gB2
              have lB2 := Nat.lt_of_lt_of_le sB V.size
              rw [nth_ofL] at g1
              have hkw : k < wn * hn := by rw [← HL.out, ← HLL.out]; exact hlt
              have hb1 := hbo.out k hlt
              have hH := Lib.hid (fun (V2 : World) (hV : Ints V2 (.slice a' n' c') (hitsL wn hn d bl k)) => Hit_calls wn hn k (ofL bl k) _ _ hs hkw V2 hV (by rw [hitsL_len]; exact HL.out)
                ((hitsL_tame hs HL.out (fun j hj => by have := hl30.out j hj; omega) hbo.out (by rw [HLL.out, HL.out]) k (by omega)).mono (by omega)) hb1.1 (by omega))
              clear hb1
              go_wp2
              refine Mix.region_mixL (Mix.kinds [] [10] []) (by kernel_rfl) (by kernel_rfl) ?_
              repeat ((with_reducible refine Mix.atCons ?_); first | refine Mix.skipU (by rfl) rfl (by rfl) ?_ | (refine Mix.val rfl rfl (by rfl) (fun K hK => ?_); go_big_quiet_op; refine hK _ ?_; clear hK K))
              refine Mix.loud rfl (by rfl) (fun x1 K hK => ?_)
              go_wp2_with fail
              refine (hH.out _ (hX.later x1)).mono ?_
              rintro e w' ⟨v2, y1, rfl, rfl, hR⟩
              obtain ⟨a2, n2, k2, rfl⟩ := hR.form'
              refine hK _ y1 ?_
              clear hK K
              repeat ((with_reducible refine Mix.atCons ?_); first | refine Mix.skipU (by rfl) rfl (by rfl) ?_ | (refine Mix.val rfl rfl (by rfl) (fun K hK => ?_); go_big_quiet_op; refine hK _ ?_; clear hK K))
              refine Mix.done (fun x3 => ?_)
              have hR2 := (hR.ints (by rw [hitL_len, hitsL_len, HL.out]; omega)).later x3
              rw [← hitsL_succ] at hR2
              go_wp2
              go_roundw
              case rel => exact ⟨k + 1, ((V.step x1).step y1).step x3, _, _, _, rfl, by omega, by go_num, rfl, hR2⟩
              case measure => simp [intOf]; omega
            · obtain rfl : k = bl.length := by omega
              go_wp2_with fail
              refine (IsFlat_calls _ _ _ hX).mono ?_
              rintro e w' ⟨rfl, rfl⟩
              cases hf : flatB (hitsL wn hn d bl bl.length)
              · have hE3 := Lib.hid (show blowsE wn hn d bl = 22 by rw [hE2.out, hf]; rfl)
                clear hE2
                go_wp2
                go_ret
                exact ⟨ret_int hE3.out.symm, (z.step x).step V, rfl⟩
              · have hE3 := Lib.hid (show blowsE wn hn d bl = 0 by rw [hE2.out, hf]; rfl)
                clear hE2
                go_wp2
                go_ret
                exact ⟨ret_int hE3.out.symm, (z.step x).step V, rfl⟩

end Go.Proofs.Ytbjmfhlkmklmmaa

/-  UponOf, Upon of the definitions. -/
namespace Go.Proofs.Ytbjmfhlkmklmmaa
open Go.RowKit

/-- dents laid upon dents -/
def sumL (d q : List Int) : List Int := (List.range d.length).map fun j => ofL d j + ofL q j
theorem sumL_len (d q : List Int) : (sumL d q).length = d.length := by simp [sumL]
theorem ofL_sumL (d q : List Int) {j : Nat} (hj : j < d.length) : ofL (sumL d q) j = ofL d j + ofL q j := by simp [ofL, sumL, hj]
theorem sumL_low {w h : Nat} {d q : List Int} (hl : d.length = w * h) (h1 : ∀ j, j < w * h → 0 ≤ ofL d j ∧ ofL d j ≤ 30) (h2 : ∀ j, j < w * h → 0 ≤ ofL q j ∧ ofL q j ≤ 30) : low w h (sumL d q) := fun j hj => by
  rw [ofL_sumL _ _ (by omega)]
  have := h1 j hj
  have := h2 j hj
  omega
noncomputable def uponF (w h : Nat) (d q : List Int) : List Int := (hamP w h (sumL d q)).1
def uponE (w h : Int) (d : List Int) (w2 h2 : Int) (q : List Int) : Int := if vplate w h d ≠ 0 then vplate w h d else if vplate w2 h2 q ≠ 0 then vplate w2 h2 q else if w ≠ w2 ∨ h ≠ h2 then 15 else 0
noncomputable def uponL (w h : Int) (d : List Int) (w2 h2 : Int) (q : List Int) : List Int := if uponE w h d w2 h2 q = 0 then uponF w.toNat h.toNat d q else []
set_option maxRecDepth 100000 in
set_option maxHeartbeats 2000000 in
theorem UponOf_calls (w h : Nat) (dv qv : Value) (d q : List Int) (hs : sized w h) (W : World) (hd : Ints W dv d) (hq : Ints W qv q) (hl : d.length = w * h) (hl2 : q.length = w * h) (h1 : ∀ j, j < w * h → 0 ≤ ofL d j ∧ ofL d j ≤ 30) (h2 : ∀ j, j < w * h → 0 ≤ ofL q j ∧ ofL q j ≤ 30) :
    Calls Try.prog 63 #[.int .i64 w, .int .i64 h, dv, qv] W (GivesN (uponF w h d q) W) := by
  have h36 : w * h ≤ 36 := Nat.mul_le_mul hs.2.1 hs.2.2.2
  have h1w : 1 ≤ w * h := Nat.mul_le_mul hs.1 hs.2.2.1
  obtain ⟨bd, od, cd, rfl, hcd, hbd, hgd⟩ := hd.at (k := 0) (by omega)
  obtain ⟨bq, oq, cq, rfl, hcq, hbq, hgq⟩ := hq.at (k := 0) (by omega)
  have hF := Lib.hid (fun (V : World) (v : Value) (hV : Ints V v (sumL d q)) => FlattenOf_calls w h v (sumL d q) hs V hV (by rw [sumL_len]; exact hl) (sumL_low hl h1 h2))
  obtain ⟨N, hN⟩ : ∃ N, w * h = N := ⟨_, rfl⟩
  have HN := Lib.hid hN
  rw [hN] at hl hl2 h36 h1w h1 h2
  have GD := Lib.hid hgd
  have GQ := Lib.hid hgq
  have HL := Lib.hid hl
  have HL2 := Lib.hid hl2
  have hlen : d.length = N := hl
  have hb1 := Lib.hid h1
  have hb2 := Lib.hid h2
  rw [hl] at hcd
  rw [show Value.slice (some ⟨bd, od, none⟩) d.length cd = .slice (some ⟨bd, od, none⟩) N cd from by rw [hl], show Value.slice (some ⟨bq, oq, none⟩) q.length cq = .slice (some ⟨bq, oq, none⟩) N cq from by rw [hl2]]
  rw [hl2] at hcq
  clear hgd hgq hl hl2 h1 h2 hN hd hq hlen
  go_enter Try.func63, Try.ntmps63
  go_wp2
  go_loopw [9, 10] (fun s i wr => ∃ (k : Nat) (V : Later W) (a : Option Addr) (n c : Nat), wr = V.w ∧ k ≤ N ∧ i = .int .i64 k ∧ s = .slice a n c ∧ IntsN W.heap.size V.w (.slice a n c) ((sumL d q).take k)) (fun _ i _ => N - (intOf i).toNat)
  case atStart => exact ⟨0, Later.self _, none, 0, 0, rfl, Nat.zero_le _, rfl, rfl, IntsN.nil _ _⟩
  case round =>
    obtain ⟨k, V, a, n, c, rfl, hk, rfl, rfl, hS⟩ := hrel
    by_cases hlt : k < N
    · have g1 := (V.cell hbd).trans (GD.out k (by rw [HL.out]; exact hlt))
      have g2 := (V.cell hbq).trans (GQ.out k (by rw [HL2.out]; exact hlt))
      have l1 := Nat.lt_of_lt_of_le hbd V.size
      have l2 := Nat.lt_of_lt_of_le hbq V.size
      have hx1 := hb1.out k hlt
      have hx2 := hb2.out k hlt
      have e1 : IntKind.i64.wrap (nth d k + nth q k) = nth d k + nth q k := IntWalk.i64_in _ (by rw [nth_ofL, nth_ofL]; omega)
      clear hx1 hx2
      go_wp2
      refine Mix.region_mixL (Mix.kinds [] [10] [11, 12]) (by kernel_rfl) (by kernel_rfl) ?_
      repeat ((with_reducible refine Mix.atCons ?_); first | refine Mix.skipU (by rfl) rfl (by rfl) ?_ | (refine Mix.val rfl rfl (by rfl) (fun K hK => ?_); go_big_quiet_op; refine hK _ ?_; clear hK K))
      refine Mix.loud rfl (by rfl) (fun x1 K hK => ?_)
      go_wp2_with fail
      obtain ⟨V2, hV2⟩ : ∃ V2 : Later W, V2.w = x1.w.alloc (.cells #[.int .i64 (nth d k + nth q k)] 2) := ⟨(V.step x1).step (Later.new _ _), rfl⟩
      refine hK _ (Later.new _ _) ?_
      clear hK K
      refine Mix.lastR rfl (by rfl) (by decide) (fun x2 K hK => ?_)
      obtain ⟨Y, hY⟩ : ∃ Y : Later V.w, x2.w = Y.w := ⟨(x1.step (Later.new _ _)).step x2, rfl⟩
      have hcs : x2.w.cell? ⟨x1.w.heap.size, 0, none⟩ = some (.int .i64 (nth d k + nth q k)) := by
        have := (Boxed.new x1.w 2 (.int .i64 (nth d k + nth q k))).cell
        rw [← this]
        exact x2.cell (by simp [go_sem])
      have hS2 : IntsN W.heap.size x2.w (.slice a n c) ((sumL d q).take k) := by rw [hY]; exact hS.later Y
      have hlo2 : W.heap.size ≤ x2.w.heap.size := by rw [hY]; exact Nat.le_trans V.size Y.size
      have hB2 : Below W.heap.size W x2.w := by rw [hY]; exact (V.step Y).le
      obtain ⟨v3, w3, hrun, hS3, hg3⟩ := run_app_intN x2.w W.heap.size _ _ x1.w.heap.size 1 (nth d k + nth q k) hS2 hcs (Nat.le_refl _) hlo2 (by rw [List.length_take]; omega) 22
      refine Lib.wp_append_run_sl _ _ _ 22 rfl _ _ rfl rfl hrun ?_
      refine hK _ _ ?_
      have hB3 := hB2.trans (hS2.below hg3 hlo2)
      clear hK K hrun hcs hY
      rw [show (sumL d q).take k ++ [nth d k + nth q k] = (sumL d q).take (k + 1) from by rw [← take_snoc (by rw [sumL_len, HL.out]; exact hlt), nth_ofL (sumL d q), ofL_sumL _ _ (by rw [HL.out]; exact hlt)]; rfl] at hS3
      obtain ⟨a3, n3, c3, rfl⟩ := hS3.form'
      refine Mix.last rfl (by rfl) (fun x3 K hK => ?_)
      go_wp2_with fail
      refine Mix.done (fun x4 => ?_)
      go_wp2
      go_roundw
      case rel => exact ⟨k + 1, ⟨x4.w, hB3.trans ((x3.step x4).le.mono hB3.size)⟩, _, _, _, rfl, by omega, by go_num, rfl, (hS3.later x3).later x4⟩
      case measure => simp [intOf]; omega
    · obtain rfl : k = N := by omega
      rw [List.take_of_length_le (by rw [sumL_len, HL.out]; exact Nat.le_refl _)] at hS
      have hSI := hS.ints (by rw [sumL_len, HL.out]; omega)
      go_wp2_with fail
      refine (hF.out _ _ hSI).mono ?_
      rintro e w' ⟨xv, uv, X, U, y, rfl, rfl, hX, hU, hH⟩
      obtain ⟨ax, nx, cx, rfl⟩ := hX.form'
      obtain ⟨au, nu, cu, rfl⟩ := hU.form'
      have hE := Lib.hid (show uponF w h d q = X by rw [uponF, hH.eq])
      go_wp2
      go_ret
      exact ⟨_, V.step y, rfl, rfl, by rw [hE.out]; exact hX.mono V.size⟩

end Go.Proofs.Ytbjmfhlkmklmmaa

/-  Upon of the definitions. -/
namespace Go.Proofs.Ytbjmfhlkmklmmaa
open Go.RowKit

set_option maxRecDepth 100000 in
set_option maxHeartbeats 2000000 in
theorem refUpon_calls (w h w2 h2 : Int) (dv qv : Value) (d q : List Int) (W : World) (hd : Ints W dv d) (hq : Ints W qv q) :
    Calls Try.prog 37 #[.agg #[.int .i64 w, .int .i64 h, dv], .agg #[.int .i64 w2, .int .i64 h2, qv]] W (GivesLE (uponL w h d w2 h2 q) (uponE w h d w2 h2 q) W) := by
  have hdl := hd.1
  have hql := hq.1
  obtain ⟨a, c, rfl⟩ := hd.form
  obtain ⟨a2, c2, rfl⟩ := hq.form
  go_enter Try.func37, Try.ntmps37
  go_wp2_with fail
  obtain ⟨B, hB⟩ : ∃ B, B = W.heap.size := ⟨_, rfl⟩
  obtain ⟨C, hC⟩ : ∃ C, C = B + 1 := ⟨_, rfl⟩
  obtain ⟨z, hz⟩ : ∃ z : Later W, z.w = (W.alloc (.cells #[.int .i64 w, .int .i64 h, .slice a d.length c] 24)).alloc (.cells #[.int .i64 w2, .int .i64 h2, .slice a2 q.length c2] 24) := ⟨(Later.new _ _).step (Later.new _ _), rfl⟩
  have b0 : z.w.cell? ⟨B, 0, none⟩ = some (.int .i64 w) := by rw [hz, hB]; simp [go_sem]
  have b1 : z.w.cell? ⟨B, 1, none⟩ = some (.int .i64 h) := by rw [hz, hB]; simp [go_sem]
  have b2 : z.w.cell? ⟨B, 2, none⟩ = some (.slice a d.length c) := by rw [hz, hB]; simp [go_sem]
  have k0 : z.w.cell? ⟨C, 0, none⟩ = some (.int .i64 w2) := by rw [hz, hC, hB]; simp [go_sem]
  have k1 : z.w.cell? ⟨C, 1, none⟩ = some (.int .i64 h2) := by rw [hz, hC, hB]; simp [go_sem]
  have k2 : z.w.cell? ⟨C, 2, none⟩ = some (.slice a2 q.length c2) := by rw [hz, hC, hB]; simp [go_sem]
  have hBz : B < z.w.heap.size := by rw [hz, hB]; simp [go_sem] <;> omega
  have hCz : C < z.w.heap.size := by rw [hz, hC, hB]; simp [go_sem]
  rw [← hz, ← hB, ← hC]
  replace hd := (hd.later z)
  replace hq := (hq.later z)
  clear hz hB hC
  refine (refCheckPlate_calls w h _ d _ hd).mono ?_
  rintro e w' ⟨rfl, x, rfl⟩
  have gb0 : x.w.cell? ⟨B, 0, none⟩ = some (.int .i64 w) := ((x).cell hBz).trans b0
  have gb1 : x.w.cell? ⟨B, 1, none⟩ = some (.int .i64 h) := ((x).cell hBz).trans b1
  have gb2 : x.w.cell? ⟨B, 2, none⟩ = some (.slice a d.length c) := ((x).cell hBz).trans b2
  have gsB : B < x.w.heap.size := Nat.lt_of_lt_of_le hBz (x).size
  have gk0 : x.w.cell? ⟨C, 0, none⟩ = some (.int .i64 w2) := ((x).cell hCz).trans k0
  have gk1 : x.w.cell? ⟨C, 1, none⟩ = some (.int .i64 h2) := ((x).cell hCz).trans k1
  have gk2 : x.w.cell? ⟨C, 2, none⟩ = some (.slice a2 q.length c2) := ((x).cell hCz).trans k2
  have gsC : C < x.w.heap.size := Nat.lt_of_lt_of_le hCz (x).size
  by_cases hv : vplate w h d = 0
  rotate_left
  · have hE := Lib.hid (show uponE w h d w2 h2 q = vplate w h d by rw [uponE, if_pos hv])
    have hL := Lib.hid (show uponL w h d w2 h2 q = [] by rw [uponL, if_neg (by rw [hE.out]; exact hv)])
    have hb2 : (vplate w h d != 0) = true := by simpa using hv
    go_wp2_with fail
    refine (refCheckPlate_calls w h _ d _ (hd.later x)).mono ?_
    rintro e w' ⟨rfl, y, rfl⟩
    go_wp2
    go_ret2
    exact ⟨.slice none 0 0, (z.step x).step y, ret_le hE.out.symm, rfl, by rw [hL.out]; exact Ints.nil _ _⟩
  · have HV := Lib.hid hv
    rw [hv]
    clear hv
    go_wp2_with fail
    refine (refCheckPlate_calls w2 h2 _ q _ (hq.later x)).mono ?_
    rintro e w' ⟨rfl, y, rfl⟩
    obtain ⟨Y, hY⟩ : ∃ Y : Later z.w, Y.w = y.w := ⟨x.step y, rfl⟩
    rw [← hY]
    clear hY y gb0 gb1 gb2 gk0 gk1 gk2 gsB gsC
    clear x
    have gb0 : Y.w.cell? ⟨B, 0, none⟩ = some (.int .i64 w) := ((Y).cell hBz).trans b0
    have gb1 : Y.w.cell? ⟨B, 1, none⟩ = some (.int .i64 h) := ((Y).cell hBz).trans b1
    have gb2 : Y.w.cell? ⟨B, 2, none⟩ = some (.slice a d.length c) := ((Y).cell hBz).trans b2
    have gsB : B < Y.w.heap.size := Nat.lt_of_lt_of_le hBz (Y).size
    have gk0 : Y.w.cell? ⟨C, 0, none⟩ = some (.int .i64 w2) := ((Y).cell hCz).trans k0
    have gk1 : Y.w.cell? ⟨C, 1, none⟩ = some (.int .i64 h2) := ((Y).cell hCz).trans k1
    have gk2 : Y.w.cell? ⟨C, 2, none⟩ = some (.slice a2 q.length c2) := ((Y).cell hCz).trans k2
    have gsC : C < Y.w.heap.size := Nat.lt_of_lt_of_le hCz (Y).size
    by_cases hv2 : vplate w2 h2 q = 0
    rotate_left
    · have hE := Lib.hid (show uponE w h d w2 h2 q = vplate w2 h2 q by rw [uponE, if_neg (by rw [HV.out]; simp), if_pos hv2])
      have hL := Lib.hid (show uponL w h d w2 h2 q = [] by rw [uponL, if_neg (by rw [hE.out]; exact hv2)])
      have hb2 : (vplate w2 h2 q != 0) = true := by simpa using hv2
      go_wp2_with fail
      refine (refCheckPlate_calls w2 h2 _ q _ (hq.later Y)).mono ?_
      rintro e w' ⟨rfl, y, rfl⟩
      go_wp2
      go_ret2
      exact ⟨.slice none 0 0, (z.step Y).step y, ret_le hE.out.symm, rfl, by rw [hL.out]; exact Ints.nil _ _⟩
    · have HV2 := Lib.hid hv2
      rw [hv2]
      clear hv2
      by_cases hw : w = w2
      rotate_left
      · have hE := Lib.hid (show uponE w h d w2 h2 q = 15 by rw [uponE, if_neg (by rw [HV.out]; simp), if_neg (by rw [HV2.out]; simp), if_pos (.inl hw)])
        have hL := Lib.hid (show uponL w h d w2 h2 q = [] by rw [uponL, if_neg (by rw [hE.out]; simp)])
        have hwb : (w != w2) = true := by simpa using hw
        clear hw
        go_wp2
        go_ret2
        exact ⟨.slice none 0 0, z.step Y, ret_le hE.out.symm, rfl, by rw [hL.out]; exact Ints.nil _ _⟩
      · by_cases hh : h = h2
        rotate_left
        · have hE := Lib.hid (show uponE w h d w2 h2 q = 15 by rw [uponE, if_neg (by rw [HV.out]; simp), if_neg (by rw [HV2.out]; simp), if_pos (.inr hh)])
          have hL := Lib.hid (show uponL w h d w2 h2 q = [] by rw [uponL, if_neg (by rw [hE.out]; simp)])
          have hwb : (w != w2) = false := by simpa using hw
          have hhb : (h != h2) = true := by simpa using hh
          clear hh hw
          go_wp2
          go_ret2
          exact ⟨.slice none 0 0, z.step Y, ret_le hE.out.symm, rfl, by rw [hL.out]; exact Ints.nil _ _⟩
        · have hE := Lib.hid (show uponE w h d w2 h2 q = 0 by rw [uponE, if_neg (by rw [HV.out]; simp), if_neg (by rw [HV2.out]; simp), if_neg (by rw [hw, hh]; simp)])
          have hL := Lib.hid (show uponL w h d w2 h2 q = uponF w.toNat h.toNat d q by rw [uponL, if_pos hE.out])
          obtain ⟨wn, hn, rfl, rfl, hs, hl, hlo⟩ := vplate_zero HV.out
          subst hw hh
          obtain ⟨wn', hn', e1, e2, _, hl2, hlo2⟩ := vplate_zero HV2.out
          have hwn : wn' = wn := by omega
          have hhn : hn' = hn := by omega
          subst hwn hhn
          have hU := Lib.hid (UponOf_calls wn' hn' _ _ d q hs Y.w (hd.later Y) (hq.later Y) hl hl2 (fun j hj => hlo j (by omega)) (fun j hj => hlo2 j (by omega)))
          have h36 : wn' * hn' ≤ 36 := Nat.mul_le_mul hs.2.1 hs.2.2.2
          have HLen := Lib.hid (show (uponF wn' hn' d q).length ≤ 36 by
            rw [uponF]
            rcases hamP_cases wn' hn' (sumL d q) with ⟨X, U, hm, e⟩ | e
            · rw [e]; show X.length ≤ 36; rw [hm.run.2.2.1]; exact h36
            · rw [e]; exact Nat.zero_le _)
          clear hl hl2 hlo hlo2 e1 e2
          go_wp2_with fail
          refine hU.out.mono ?_
          rintro e w' ⟨v, y, rfl, rfl, hX⟩
          obtain ⟨ax, nx, cx, rfl⟩ := hX.form'
          go_wp2
          go_ret2
          refine ⟨_, (z.step Y).step y, ret_le hE.out.symm, rfl, ?_⟩
          rw [hL.out, Int.toNat_natCast, Int.toNat_natCast]
          exact hX.ints (Nat.le_trans HLen.out (by omega))

end Go.Proofs.Ytbjmfhlkmklmmaa

/-  Upon of the program. -/
namespace Go.Proofs.Ytbjmfhlkmklmmaa
open Go.RowKit

set_option maxRecDepth 100000 in
set_option maxHeartbeats 2000000 in
theorem Upon_calls (w h w2 h2 : Int) (dv qv : Value) (d q : List Int) (W : World) (hd : Ints W dv d) (hq : Ints W qv q) :
    Calls Try.prog 36 #[.agg #[.int .i64 w, .int .i64 h, dv], .agg #[.int .i64 w2, .int .i64 h2, qv]] W (GivesLE (uponL w h d w2 h2 q) (uponE w h d w2 h2 q) W) := by
  have hdl := hd.1
  have hql := hq.1
  obtain ⟨a, c, rfl⟩ := hd.form
  obtain ⟨a2, c2, rfl⟩ := hq.form
  go_enter Try.func36, Try.ntmps36
  go_wp2_with fail
  obtain ⟨B, hB⟩ : ∃ B, B = W.heap.size := ⟨_, rfl⟩
  obtain ⟨C, hC⟩ : ∃ C, C = B + 1 := ⟨_, rfl⟩
  obtain ⟨z, hz⟩ : ∃ z : Later W, z.w = (W.alloc (.cells #[.int .i64 w, .int .i64 h, .slice a d.length c] 24)).alloc (.cells #[.int .i64 w2, .int .i64 h2, .slice a2 q.length c2] 24) := ⟨(Later.new _ _).step (Later.new _ _), rfl⟩
  have b0 : z.w.cell? ⟨B, 0, none⟩ = some (.int .i64 w) := by rw [hz, hB]; simp [go_sem]
  have b1 : z.w.cell? ⟨B, 1, none⟩ = some (.int .i64 h) := by rw [hz, hB]; simp [go_sem]
  have b2 : z.w.cell? ⟨B, 2, none⟩ = some (.slice a d.length c) := by rw [hz, hB]; simp [go_sem]
  have k0 : z.w.cell? ⟨C, 0, none⟩ = some (.int .i64 w2) := by rw [hz, hC, hB]; simp [go_sem]
  have k1 : z.w.cell? ⟨C, 1, none⟩ = some (.int .i64 h2) := by rw [hz, hC, hB]; simp [go_sem]
  have k2 : z.w.cell? ⟨C, 2, none⟩ = some (.slice a2 q.length c2) := by rw [hz, hC, hB]; simp [go_sem]
  have hBz : B < z.w.heap.size := by rw [hz, hB]; simp [go_sem] <;> omega
  have hCz : C < z.w.heap.size := by rw [hz, hC, hB]; simp [go_sem]
  rw [← hz, ← hB, ← hC]
  replace hd := (hd.later z)
  replace hq := (hq.later z)
  clear hz hB hC
  refine (open_calls w h _ d _ hd).mono ?_
  rintro e w' ⟨v, x, rfl, rfl, hif⟩
  have gb0 : x.w.cell? ⟨B, 0, none⟩ = some (.int .i64 w) := ((x).cell hBz).trans b0
  have gb1 : x.w.cell? ⟨B, 1, none⟩ = some (.int .i64 h) := ((x).cell hBz).trans b1
  have gb2 : x.w.cell? ⟨B, 2, none⟩ = some (.slice a d.length c) := ((x).cell hBz).trans b2
  have gsB : B < x.w.heap.size := Nat.lt_of_lt_of_le hBz (x).size
  have gk0 : x.w.cell? ⟨C, 0, none⟩ = some (.int .i64 w2) := ((x).cell hCz).trans k0
  have gk1 : x.w.cell? ⟨C, 1, none⟩ = some (.int .i64 h2) := ((x).cell hCz).trans k1
  have gk2 : x.w.cell? ⟨C, 2, none⟩ = some (.slice a2 q.length c2) := ((x).cell hCz).trans k2
  have gsC : C < x.w.heap.size := Nat.lt_of_lt_of_le hCz (x).size
  by_cases hv : vplate w h d = 0
  rotate_left
  · have hE := Lib.hid (show uponE w h d w2 h2 q = vplate w h d by rw [uponE, if_pos hv])
    have hL := Lib.hid (show uponL w h d w2 h2 q = [] by rw [uponL, if_neg (by rw [hE.out]; exact hv)])
    rw [if_neg hv] at hif
    subst hif
    have hb2 : (vplate w h d != 0) = true := by simpa using hv
    go_wp2
    go_ret2
    exact ⟨.slice none 0 0, z.step x, ret_le hE.out.symm, rfl, by rw [hL.out]; exact Ints.nil _ _⟩
  · have HV := Lib.hid hv
    rw [if_pos hv] at hif
    obtain ⟨b, rfl, hbz, hbk⟩ := hif
    rw [hv]
    clear hv
    go_wp2_with fail
    refine (CheckPlate_calls w2 h2 _ q _ (hq.later x)).mono ?_
    rintro e w' ⟨rfl, y, rfl⟩
    have hbk1 := hbk.later y
    obtain ⟨Y, hY⟩ : ∃ Y : Later z.w, Y.w = y.w := ⟨x.step y, rfl⟩
    rw [← hY] at hbk1 ⊢
    clear hY y gb0 gb1 gb2 gk0 gk1 gk2 gsB gsC hbk
    clear x
    have gb0 : Y.w.cell? ⟨B, 0, none⟩ = some (.int .i64 w) := ((Y).cell hBz).trans b0
    have gb1 : Y.w.cell? ⟨B, 1, none⟩ = some (.int .i64 h) := ((Y).cell hBz).trans b1
    have gb2 : Y.w.cell? ⟨B, 2, none⟩ = some (.slice a d.length c) := ((Y).cell hBz).trans b2
    have gsB : B < Y.w.heap.size := Nat.lt_of_lt_of_le hBz (Y).size
    have gk0 : Y.w.cell? ⟨C, 0, none⟩ = some (.int .i64 w2) := ((Y).cell hCz).trans k0
    have gk1 : Y.w.cell? ⟨C, 1, none⟩ = some (.int .i64 h2) := ((Y).cell hCz).trans k1
    have gk2 : Y.w.cell? ⟨C, 2, none⟩ = some (.slice a2 q.length c2) := ((Y).cell hCz).trans k2
    have gsC : C < Y.w.heap.size := Nat.lt_of_lt_of_le hCz (Y).size
    by_cases hv2 : vplate w2 h2 q = 0
    rotate_left
    · have hE := Lib.hid (show uponE w h d w2 h2 q = vplate w2 h2 q by rw [uponE, if_neg (by rw [HV.out]; simp), if_pos hv2])
      have hL := Lib.hid (show uponL w h d w2 h2 q = [] by rw [uponL, if_neg (by rw [hE.out]; exact hv2)])
      have hb2 : (vplate w2 h2 q != 0) = true := by simpa using hv2
      go_wp2
      go_ret2
      exact ⟨.slice none 0 0, z.step Y, ret_le hE.out.symm, rfl, by rw [hL.out]; exact Ints.nil _ _⟩
    · have HV2 := Lib.hid hv2
      rw [hv2]
      clear hv2
      by_cases hw : w = w2
      rotate_left
      · have hE := Lib.hid (show uponE w h d w2 h2 q = 15 by rw [uponE, if_neg (by rw [HV.out]; simp), if_neg (by rw [HV2.out]; simp), if_pos (.inl hw)])
        have hL := Lib.hid (show uponL w h d w2 h2 q = [] by rw [uponL, if_neg (by rw [hE.out]; simp)])
        have hwb : (w != w2) = true := by simpa using hw
        clear hw
        go_wp2
        go_ret2
        exact ⟨.slice none 0 0, z.step Y, ret_le hE.out.symm, rfl, by rw [hL.out]; exact Ints.nil _ _⟩
      · by_cases hh : h = h2
        rotate_left
        · have hE := Lib.hid (show uponE w h d w2 h2 q = 15 by rw [uponE, if_neg (by rw [HV.out]; simp), if_neg (by rw [HV2.out]; simp), if_pos (.inr hh)])
          have hL := Lib.hid (show uponL w h d w2 h2 q = [] by rw [uponL, if_neg (by rw [hE.out]; simp)])
          have hwb : (w != w2) = false := by simpa using hw
          have hhb : (h != h2) = true := by simpa using hh
          clear hh hw
          go_wp2
          go_ret2
          exact ⟨.slice none 0 0, z.step Y, ret_le hE.out.symm, rfl, by rw [hL.out]; exact Ints.nil _ _⟩
        · have hE := Lib.hid (show uponE w h d w2 h2 q = 0 by rw [uponE, if_neg (by rw [HV.out]; simp), if_neg (by rw [HV2.out]; simp), if_neg (by rw [hw, hh]; simp)])
          have hL := Lib.hid (show uponL w h d w2 h2 q = uponF w.toNat h.toNat d q by rw [uponL, if_pos hE.out])
          obtain ⟨wn, hn, rfl, rfl, hs, hl, hlo⟩ := vplate_zero HV.out
          subst hw hh
          obtain ⟨wn', hn', e1, e2, _, hl2, hlo2⟩ := vplate_zero HV2.out
          have hwn : wn' = wn := by omega
          have hhn : hn' = hn := by omega
          subst hwn hhn
          have h36 : wn' * hn' ≤ 36 := Nat.mul_le_mul hs.2.1 hs.2.2.2
          have h1w : 1 ≤ wn' * hn' := Nat.mul_le_mul hs.1 hs.2.2.1
          have hF := Lib.hid (fun (V : World) (dv : Value) (hV : Blk V b wn' hn' dv (pad (ofL (sumL d q))) (pad fun _ => 0)) => flatten_calls b wn' hn' dv (sumL d q) (fun _ => 0) V hV hs (by rw [sumL_len]; exact hl) (sumL_low hl (fun j hj => hlo j (by omega)) (fun j hj => hlo2 j (by omega))) (fun j hj => by omega))
          obtain ⟨bq, oq, kq, e, hkq, hbq, hgq⟩ := hq.at (k := 0) (by omega)
          cases e
          have GQ := Lib.hid hgq
          have hbd1 := Lib.hid (fun j (hj : j < wn' * hn') => (show 0 ≤ ofL d j ∧ ofL d j ≤ 30 from hlo j (by omega)))
          have hbd2 := Lib.hid (fun j (hj : j < wn' * hn') => (show 0 ≤ ofL q j ∧ ofL q j ≤ 30 from hlo2 j (by omega)))
          have HL := Lib.hid hl
          have HL2 := Lib.hid hl2
          rw [show pad (ofL d) = pad (fun j => ofL d j + if j < 0 then ofL q j else 0) from pad_congr fun j _ => by rw [if_neg (Nat.not_lt_zero _)]; omega] at hbk1
          clear hl hl2 hlo hlo2 e1 e2 hgq hq hd
          go_wp2
          go_loopw [39] (fun i wr => ∃ (k : Nat) (V : Later z.w), wr = V.w ∧ k ≤ q.length ∧ i = .int .i64 k ∧ Blk V.w b wn' hn' (.slice a d.length c) (pad fun j => ofL d j + if j < k then ofL q j else 0) (pad fun _ => 0)) (fun i _ => q.length - (intOf i).toNat)
          case atStart => exact ⟨0, Y, rfl, Nat.zero_le _, rfl, hbk1⟩
          case round =>
            obtain ⟨k, V, rfl, hk, rfl, hbk2⟩ := hrel
            clear hbk1
            by_cases hlt : k < q.length
            · have hkN : k < wn' * hn' := by rw [← HL2.out]; exact hlt
              have hk36 : k < 36 := by omega
              have g1 := (V.cell hbq).trans (GQ.out k hlt)
              have l1 := Nat.lt_of_lt_of_le hbq V.size
              rw [nth_ofL] at g1
              have g2 := hbk2.cellN hk36
              have f2 := hbk2.frozen (3 + k)
              rw [nth_ofL, ofL_pad _ hk36, if_neg (Nat.lt_irrefl _), Int.add_zero] at g2
              have lb := hbk2.lt
              have hx1 := hbd1.out k hkN
              have hx2 := hbd2.out k hkN
              have e1 : IntKind.i64.wrap (ofL d k + ofL q k) = ofL d k + ofL q k := IntWalk.i64_in _ (by omega)
              clear hx1 hx2
              go_wp2
              refine Mix.region_mixL (Mix.kinds [] [] [11]) (by kernel_rfl) (by kernel_rfl) ?_
              repeat ((with_reducible refine Mix.atCons ?_); first | refine Mix.skipU (by rfl) rfl (by rfl) ?_ | (refine Mix.val rfl rfl (by rfl) (fun K hK => ?_); go_big_quiet_op; refine hK _ ?_; clear hK K))
              refine Mix.last rfl (by rfl) (fun x1 K hK => ?_)
              have hbx := hbk2.later x1
              have g3 := hbx.cellN hk36
              have f3 := hbx.frozen (3 + k)
              have hst := hbx.setN hk36 (ofL d k + ofL q k)
              rw [show (pad fun j => ofL d j + if j < k then ofL q j else 0).set k (ofL d k + ofL q k) = pad (fun j => ofL d j + if j < k + 1 then ofL q j else 0) from ofL_ext (by rw [List.length_set, pad_len, pad_len]) fun j hj => by
                rw [List.length_set, pad_len] at hj
                rw [ofL_set _ _ _ _ (by rw [pad_len]; exact hk36), ofL_pad _ hj, ofL_pad _ hj]
                by_cases e : j = k
                · subst e; rw [if_pos rfl, if_pos (Nat.lt_succ_self _)]
                · rw [if_neg e]
                  by_cases e2 : j < k
                  · rw [if_pos e2, if_pos (by omega)]
                  · rw [if_neg e2, if_neg (by omega)]] at hst
              clear g2 f2 lb g1 l1 hbx
              go_wp2_with fail
              refine Mix.done (fun y => ?_)
              clear g3 f3
              have hB3 := (V.le.trans (x1.le.mono V.size)).setCell (p := ⟨b, 3 + k, none⟩) hbz (.int .i64 (ofL d k + ofL q k))
              go_wp2
              go_roundw
              case rel => exact ⟨k + 1, ⟨y.w, hB3.trans (y.le.mono hB3.size)⟩, rfl, by omega, by go_num, hst.later y⟩
              case measure => simp [intOf]; omega
            · obtain rfl : k = q.length := by omega
              rw [show (pad fun j => ofL d j + if j < q.length then ofL q j else 0) = pad (ofL (sumL d q)) from pad_congr fun j hj => by
                by_cases e : j < d.length
                · rw [ofL_sumL _ _ e, if_pos (by rw [HL2.out, ← HL.out]; exact e)]
                · rw [if_neg (by rw [HL2.out, ← HL.out]; exact e), show ofL d j = 0 by simp [ofL, List.getElem?_eq_none (show d.length ≤ j by omega)], show ofL (sumL d q) j = 0 by simp [ofL, List.getElem?_eq_none (show (sumL d q).length ≤ j by rw [sumL_len]; omega)]]; rfl] at hbk2
              go_wp2_with fail
              refine (hF.out _ _ hbk2).mono ?_
              rintro e w' ⟨⟨v, rfl⟩, X, U, hH, hbk3, hbut⟩
              have hXl : X.length = wn' * hn' := hH.run.2.2.1
              have hX := Lib.hid (show uponF wn' hn' d q = X by rw [uponF, hH.eq])
              obtain ⟨V2, hV2⟩ : ∃ V2 : Later z.w, w' = V2.w := ⟨⟨w', V.le.trans (hbut.under hbz V.size)⟩, rfl⟩
              rw [hV2] at hbk3 ⊢
              have hrn := hbk3.rangeN
              have lb2 := hbk3.lt
              clear hV2 hF hbut
              go_wp2_with ((with_reducible show wpList _ _ _ (⟨some 62, _, _, _, _, _⟩ :: _) _ _); refine wpList_load_dents rfl _ rfl b 3 rfl (pad (ofL X)) (pad_len _) hrn ?_)
              refine (list_calls b wn' hn' _ _ _ _ _ hbk3 (pad_len _) h36).mono ?_
              rintro e w' ⟨lv, y, rfl, rfl, hR⟩
              rw [take_pad hXl h36] at hR
              obtain ⟨al, nl, cl, rfl⟩ : ∃ a n c, lv = .slice a n c := by obtain ⟨a, c, e⟩ := hR.form; exact ⟨a, _, c, e⟩
              go_wp2
              go_ret2
              refine ⟨_, (z.step V2).step y, ret_le hE.out.symm, rfl, ?_⟩
              rw [hL.out, Int.toNat_natCast, Int.toNat_natCast, hX.out]
              exact hR

end Go.Proofs.Ytbjmfhlkmklmmaa
