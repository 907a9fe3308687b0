import Derived.Test.YtbjmfhlkmklmmaaFreshP
/-  flat: a plate hammered flat, as the program says. -/
namespace Go.Proofs.Ytbjmfhlkmklmmaa
open Go.RowKit

theorem wpOp_some {P : Program} {ops : Array Oper} {Q : Exit → Act → World → Prop} {i : Nat} {o : Oper} {K : Act → World → Prop} {a : Act} {w : World} (ho : ops[i]? = some o) (hw : Region.wanted o (yielded ops a.tmps) = true)
    (h : ∀ K' : Act → World → Prop, (∀ a' w', K a' w' → K' a' w') → o.wp P a w K' Q) : wpOp P ops Q i K a w := by
  unfold wpOp
  rw [ho]
  dsimp only
  rw [if_pos hw]
  exact .inl (h K fun _ _ h => h)
namespace Mix
section
variable {P : Program} {ops : Array Oper} {W0 : World} {cls : Nat → Cls} {Q : Act → World → Prop} {i : Nat} {rest : List Nat} {a : Act} {w : World}
theorem gval (o : Oper) (ho : ops[i]? = some o) (hc : cls i = .val) (hv : valOp o.op = true) (hw : Region.wanted o (yielded ops a.tmps) = true)
    (h : ∀ K : Act → Prop, (∀ a', Good P ops W0 cls Q rest a' w → K a') → o.quiet P a (fun w' => ∃ x : Later W0, w' = x.w) K) : Good P ops W0 cls Q (i :: rest) a w := by
  obtain ⟨v, h1, h2⟩ := h (fun a' => Good P ops W0 cls Q rest a' w) (fun _ h => h)
  refine gcons o ho (.inr (.inl ⟨fun _ => hc, v, .inl ⟨hw, fun w' hw' => ?_⟩, h2⟩))
  have h3 := h1 w' hw'
  unfold Oper.quietAt at h3
  cases hr : (execOp a.eval o).run P w' with
  | ok n w1 =>
    obtain ⟨u, rfl⟩ := valOp_run hv hr
    rw [hr] at h3
    simp only [Oper.quietUpon] at h3
    rw [h3.1, h3.2]
  | halt x w1 => rw [hr] at h3; exact h3.elim
end
end Mix
theorem ints_other {w : World} {a : Option Addr} {n c : Nat} {xs : List Int} (h : Ints w (.slice a n c) xs) {C : Nat} (hC : ∀ b o s, a = some ⟨b, o, s⟩ → n ≠ 0 → b ≠ C) (k : Nat) (v : Value) : Ints (w.setCell ⟨C, k, none⟩ v) (.slice a n c) xs := by
  obtain ⟨hl, ⟨h1, h2⟩ | ⟨b, o, cap, e, hc, hb, hg⟩⟩ := h
  · exact ⟨hl, .inl ⟨h1, h2⟩⟩
  · cases e
    by_cases h0 : xs.length = 0
    · exact ⟨hl, .inl ⟨List.eq_nil_of_length_eq_zero h0, some ⟨b, o, none⟩, c, by rw [h0]⟩⟩
    · have hbC := hC b o none rfl h0
      exact ⟨hl, .inr ⟨b, o, _, rfl, hc, by simp [World.setCell]; exact hb, fun k' hk' => (World.cell?_setCell_other _ _ _ _ (fun e => by injection e with e1 e2; exact hbC e1.symm)).trans (hg k' hk')⟩⟩
/-- what 'flat' returns -/
def GivesFl (w h : Nat) (X U : List Int) (W : World) (e : Ending) (W' : World) : Prop := ∃ av uv, ∃ x : Later W, e = .returned (.tuple #[.agg #[.int .i64 w, .int .i64 h, av], uv, .bool true]) ∧ W' = x.w ∧ Ints x.w av X ∧ Ints x.w uv U
/-- two plates by value, and a third block; three lists -/
structure FlS (V : World) (B C E : Nat) (w h : Int) (pv xv uv : Value) (d X U : List Int) (cs : List Value) : Prop where
  b : Lin V B 24 [.int .i64 w, .int .i64 h, pv]
  c : Lin V C 24 cs
  e : Lin V E 24 [.int .i64 w, .int .i64 h, xv]
  d : Ints V pv d
  x : Ints V xv X
  u : Ints V uv U
theorem FlS.later {V : World} {B C E : Nat} {w h : Int} {pv xv uv : Value} {d X U : List Int} {cs : List Value} (s : FlS V B C E w h pv xv uv d X U cs) (y : Later V) : FlS y.w B C E w h pv xv uv d X U cs :=
  ⟨s.b.later y, s.c.later y, s.e.later y, s.d.later y, s.x.later y, s.u.later y⟩
theorem Lin.new (W : World) (T : TypeId) (cs : List Value) : Lin (W.alloc (.cells cs.toArray T)) W.heap.size T cs := World.alloc_heap_new _ _
set_option maxRecDepth 100000 in
set_option maxHeartbeats 4000000 in
theorem flat_calls (w h : Nat) (dv : Value) (d X U : List Int) (W : World) (hd : Ints W dv d) (hv : vplate w h d = 0) (hm : Ham w h d X U) :
    Calls Try.prog 43 #[.agg #[.int .i64 w, .int .i64 h, dv]] W (GivesFl w h X U W) := by
  have hdl := hd.1
  obtain ⟨a, c, rfl⟩ := hd.form
  obtain ⟨hs, hl, hlo, hlow⟩ := valid_low hv
  have hfo := flat_of hv hm
  have h36 : w * h ≤ 36 := Nat.mul_le_mul hs.2.1 hs.2.2.2
  have h1w : 1 ≤ w * h := Nat.mul_le_mul hs.1 hs.2.2.1
  have HV := Lib.hid hv
  have HL := Lib.hid hl
  have HLO := Lib.hid hlo
  have HFO := Lib.hid hfo
  have HVX := Lib.hid (hm.vp hs hlow)
  have HFX := Lib.hid hm.fl
  have HBL := Lib.hid (hm.blowsOK hs hlow hv)
  have HUP := Lib.hid (hm.upos hs hlow)
  have HXL := Lib.hid hm.lenX
  have HUL := Lib.hid hm.lenU
  have HHX := Lib.hid (hm.hits hs)
  clear hv hl hlo hfo hlow hm
  go_enter Try.func43, Try.ntmps43
  go_wp2_with fail
  obtain ⟨B, hB⟩ : ∃ B, B = W.heap.size := ⟨_, rfl⟩
  obtain ⟨C, hC⟩ : ∃ C, C = B + 1 := ⟨_, rfl⟩
  obtain ⟨z, hz⟩ : ∃ z : Later W, z.w = (W.alloc (.cells #[.int .i64 w, .int .i64 h, .slice a d.length c] 24)).alloc (.cells #[.int .i64 0, .int .i64 0, .slice none 0 0] 24) := ⟨(Later.new _ _).step (Later.new _ _), rfl⟩
  have lB : Lin z.w B 24 [.int .i64 w, .int .i64 h, .slice a d.length c] := by
    rw [hz, hB]; exact (Lin.new W 24 [.int .i64 w, .int .i64 h, .slice a d.length c]).later (Later.new _ _)
  have lC : Lin z.w C 24 [.int .i64 0, .int .i64 0, .slice none 0 0] := by
    rw [hz, hC, hB]
    have h9 := Lin.new (W.alloc (.cells #[.int .i64 w, .int .i64 h, .slice a d.length c] 24)) 24 [.int .i64 0, .int .i64 0, .slice none 0 0]
    rw [World.size_alloc] at h9
    exact h9
  have hCW : W.heap.size ≤ C := by omega
  have hCB : C ≠ B := by omega
  rw [← hz, ← hB, ← hC]
  replace hd := hd.later z
  clear hz hB hC
  refine (Flatten_callsF w h _ d _ hd).mono ?_
  rintro e w' ⟨av, uv, x, rfl, rfl, hX, hU, hF1, hF2⟩
  rw [HFO.out.1] at hX
  rw [HFO.out.2] at hU
  rw [HV.out]
  have hXl := hX.1
  have hUl := hU.1
  obtain ⟨ax, cx, rfl⟩ := hX.form
  obtain ⟨au, cu, rfl⟩ := hU.form
  have hCX : ∀ b o s, ax = some ⟨b, o, s⟩ → X.length ≠ 0 → b ≠ C := fun b o s e h0 => by
    subst e
    have := hF1 b o s _ _ rfl h0
    have := lC.lt
    omega
  have hCU : ∀ b o s, au = some ⟨b, o, s⟩ → U.length ≠ 0 → b ≠ C := fun b o s e h0 => by
    subst e
    have := hF2 b o s _ _ rfl h0
    have := lC.lt
    omega
  clear hF1 hF2
  obtain ⟨E, hE⟩ : ∃ E, E = x.w.heap.size := ⟨_, rfl⟩
  obtain ⟨V, hV⟩ : ∃ V : Later z.w, V.w = x.w.alloc (.cells #[.int .i64 w, .int .i64 h, .slice ax X.length cx] 24) := ⟨x.step (Later.new _ _), rfl⟩
  have hEC : E ≠ C := by have := lC.lt; have := x.size; omega
  have S : FlS V.w B C E w h (.slice a d.length c) (.slice ax X.length cx) (.slice au U.length cu) d X U [.int .i64 0, .int .i64 0, .slice none 0 0] :=
    ⟨lB.later V, lC.later V, by rw [hV, hE]; exact Lin.new x.w 24 [.int .i64 w, .int .i64 h, .slice ax X.length cx], hd.later V, by rw [hV]; exact hX.later (Later.new _ _), by rw [hV]; exact hU.later (Later.new _ _)⟩
  have bx := lB.later x
  have b0 := bx.cell (k := 0) rfl
  have b1 := bx.cell (k := 1) rfl
  have bl := bx.lt
  clear lB lC hX hU hd bx
  go_wp2_with fail
  rw [← hV, ← hE]
  clear hV hE b0 b1 bl x
  refine (refCheckPlate_calls w h _ X _ S.x).mono ?_
  rintro e w' ⟨rfl, y1, rfl⟩
  rw [HVX.out]
  have S1 := S.later y1
  have b0 := S1.b.cell (k := 0) rfl
  have b1 := S1.b.cell (k := 1) rfl
  have b2 := S1.b.cell (k := 2) rfl
  have bl := S1.b.lt
  have e0 := S1.e.cell (k := 0) rfl
  have e1 := S1.e.cell (k := 1) rfl
  have e2 := S1.e.cell (k := 2) rfl
  have el := S1.e.lt
  go_wp2_with fail
  refine (IsFlat_calls _ X _ S1.x).mono ?_
  rintro e w' ⟨rfl, rfl⟩
  rw [HFX.out]
  go_wp2_with fail
  refine (refCheckBlows_calls w h _ _ d U _ S1.d S1.u).mono ?_
  rintro e w' ⟨rfl, y2, rfl⟩
  rw [HBL.out]
  have S2 := S1.later y2
  clear b0 b1 b2 bl e0 e1 e2 el S1 S
  have b0 := S2.b.cell (k := 0) rfl
  have b1 := S2.b.cell (k := 1) rfl
  have b2 := S2.b.cell (k := 2) rfl
  have bl := S2.b.lt
  have e0 := S2.e.cell (k := 0) rfl
  have e1 := S2.e.cell (k := 1) rfl
  have e2 := S2.e.cell (k := 2) rfl
  have el := S2.e.lt
  obtain ⟨Y, hY⟩ : ∃ Y : Later z.w, Y.w = y2.w := ⟨(V.step y1).step y2, rfl⟩
  rw [← hY] at S2 b0 b1 b2 bl e0 e1 e2 el ⊢
  clear hY y2 y1 V
  obtain ⟨bu, ou, ku, e, hku, hbu, hgu⟩ := S2.u.at (k := 0) (by rw [HUL.out]; omega)
  cases e
  have GU := Lib.hid hgu
  have HU1 := Lib.hid (show U.length = w * h from HUL.out)
  have S2d := S2.d
  clear hgu
  go_wp2
  go_loopw [9, 10] (fun l i wr => ∃ (k : Nat) (V : Later Y.w) (a' : Option Addr) (n' c' : Nat), wr = V.w ∧ k ≤ U.length ∧ i = .int .i64 k ∧ l = .slice a' n' c' ∧ Ints V.w (.slice a' n' c') (hitsL w h d U k)) (fun _ i _ => U.length - (intOf i).toNat)
  case atStart => exact ⟨0, Later.self _, _, _, _, rfl, Nat.zero_le _, rfl, rfl, S2d⟩
  case round =>
    obtain ⟨k, V, a', n', c', rfl, hk, rfl, rfl, hX⟩ := hrel
    clear S2d
    by_cases hlt : k < U.length
    · have g1 := (V.cell hbu).trans (GU.out k hlt)
      have lbu := Nat.lt_of_lt_of_le hbu V.size
      have kB0 := (V.cell bl).trans b0
      have kB1 := (V.cell bl).trans b1
      have lB2 := Nat.lt_of_lt_of_le bl V.size
      rw [nth_ofL] at g1
      have hkw : k < w * h := by rw [← HU1.out]; exact hlt
      have hb1 := HUP.out k hkw
      have hH := Lib.hid (fun (V2 : World) (hV : Ints V2 (.slice a' n' c') (hitsL w h d U k)) => Hit_calls w h k (ofL U k) _ _ hs hkw V2 hV (by rw [hitsL_len]; exact HL.out)
        ((hitsL_tame hs HL.out (fun j hj => by have := HLO.out j (by rw [← HL.out]; exact hj); omega) (fun j hj => by have := HUP.out j (by rw [← HU1.out]; exact hj); omega) HU1.out k (by omega)).mono (by omega)) hb1.1 (by omega))
      clear hb1
      go_wp2
      refine Mix.region_mixL (Mix.kinds [] [10] []) (by kernel_rfl) (by kernel_rfl) ?_
      repeat ((with_reducible refine Mix.atCons ?_); first | refine Mix.skipU (by rfl) rfl (by rfl) ?_ | (refine Mix.val rfl rfl (by rfl) (fun K hK => ?_); go_big_quiet_op; refine hK _ ?_; clear hK K))
      refine Mix.loud rfl (by rfl) (fun x1 K hK => ?_)
      go_wp2_with fail
      refine (hH.out _ (hX.later x1)).mono ?_
      rintro e w' ⟨v2, y1, rfl, rfl, hR⟩
      obtain ⟨a2, n2, k2, rfl⟩ := hR.form'
      refine hK _ y1 ?_
      clear hK K
      repeat ((with_reducible refine Mix.atCons ?_); first | refine Mix.skipU (by rfl) rfl (by rfl) ?_ | (refine Mix.val rfl rfl (by rfl) (fun K hK => ?_); go_big_quiet_op; refine hK _ ?_; clear hK K))
      refine Mix.done (fun x3 => ?_)
      have hR2 := (hR.ints (by rw [hitL_len, hitsL_len, HL.out]; omega)).later x3
      rw [← hitsL_succ] at hR2
      go_wp2
      go_roundw
      case rel => exact ⟨k + 1, ((V.step x1).step y1).step x3, _, _, _, rfl, by omega, by go_num, rfl, hR2⟩
      case measure => simp [intOf]; omega
    · obtain rfl : k = U.length := by omega
      rw [HU1.out, HHX.out] at hX
      have S3 := S2.later V
      obtain ⟨Z, hZ⟩ : ∃ Z : Later z.w, Z.w = V.w := ⟨Y.step V, rfl⟩
      rw [← hZ] at hX S3 ⊢
      clear b0 b1 b2 bl e0 e1 e2 el S2 hZ GU hbu
      have e0 := S3.e.cell (k := 0) rfl
      have e1 := S3.e.cell (k := 1) rfl
      have e2 := S3.e.cell (k := 2) rfl
      have el := S3.e.lt
      go_wp2
      refine wp_region_any (by kernel_rfl) ?_
      refine wpAny_take (i := 1) (v := .slice (some ⟨bu, ou, none⟩) U.length cu) rfl (by kernel_rfl) (by kernel_rfl) (by kernel_rfl) (fun _ _ _ h => h) (.inl ⟨by rfl, fun w => by rfl⟩) ?_
      simp only [List.getElem_toArray, List.getElem_cons_succ, List.getElem_cons_zero, Act.put, List.setIfInBounds_toArray, List.set]
      refine wpAny_take (i := 2) (v := .slice a' n' c') rfl (by kernel_rfl) (by kernel_rfl) (by kernel_rfl) (fun _ _ _ h => h) (.inl ⟨by rfl, fun w => by rfl⟩) ?_
      simp only [List.getElem_toArray, List.getElem_cons_succ, List.getElem_cons_zero, Act.put, List.setIfInBounds_toArray, List.set]
      refine wpAny_take (i := 3) (v := .slice ax X.length cx) rfl (by kernel_rfl) (by kernel_rfl) (by kernel_rfl) (fun _ _ _ h => h) (.inl ⟨by rfl, fun w => by rfl⟩) ?_
      simp only [List.getElem_toArray, List.getElem_cons_succ, List.getElem_cons_zero, Act.put, List.setIfInBounds_toArray, List.set]
      refine Mix.any_rest (W0 := Z.w) (rem := [0, 4, 5, 6, 7]) (cls := Mix.kinds [] [4] [5, 6, 7]) (by kernel_rfl) ⟨Later.draw _, rfl⟩ ?_
      show Mix.Good _ _ _ _ _ _ _ (Later.draw Z.w).w
      refine Mix.gval _ rfl rfl rfl (by rfl) (fun K hK => ?_)
      simp only [List.getElem_toArray, List.getElem_cons_succ, List.getElem_cons_zero]
      go_big_quiet_op
      refine hK _ ?_
      clear hK K
      refine Mix.gloud _ rfl rfl (by rfl) (fun x1 K hK => ?_)
      go_wp2_with fail
      refine (Longs_calls _ _ X X _ ((hX.later (Later.draw Z.w)).later x1) ((S3.x.later (Later.draw Z.w)).later x1)).mono ?_
      rintro e w' ⟨rfl, y1, rfl⟩
      rw [eqI_self]
      refine hK _ y1 ?_
      clear hK K e0 e1 e2 el
      have S4 := (S3.later (Later.draw Z.w)).later (x1.step y1)
      rw [Later.step_w] at S4
      obtain ⟨Z2, hZ2⟩ : ∃ Z2 : Later z.w, Z2.w = y1.w := ⟨((Z.step (Later.draw Z.w)).step x1).step y1, rfl⟩
      rw [← hZ2] at S4 ⊢
      clear hZ2 y1 x1 hX S3
      refine Mix.glast _ rfl rfl (by rfl) (by decide) (fun x2 K hK => ?_)
      have S5 := S4.later x2
      have c0 := S5.c.cell (k := 0) rfl
      have c1 := S5.c.cell (k := 1) rfl
      have c2 := S5.c.cell (k := 2) rfl
      have f0 := S5.c.frozen 0
      have f1 := S5.c.frozen 1
      have f2 := S5.c.frozen 2
      have cl := S5.c.lt
      clear S4
      have hB3 := (((z.step (Z2.step x2)).le.setCell (p := ⟨C, 0, none⟩) hCW (.int .i64 w)).setCell (p := ⟨C, 1, none⟩) hCW (.int .i64 h)).setCell (p := ⟨C, 2, none⟩) hCW (.slice ax X.length cx)
      simp only [Later.step_w] at hB3
      have hL3 := ((S5.c.set 0 (.int .i64 w)).set 1 (.int .i64 h)).set 2 (.slice ax X.length cx)
      have hX3 : Ints (((x2.w.setCell ⟨C, 0, none⟩ (.int .i64 w)).setCell ⟨C, 1, none⟩ (.int .i64 h)).setCell ⟨C, 2, none⟩ (.slice ax X.length cx)) (.slice ax X.length cx) X := ints_other (ints_other (ints_other S5.x hCX _ _) hCX _ _) hCX _ _
      have hU3 : Ints (((x2.w.setCell ⟨C, 0, none⟩ (.int .i64 w)).setCell ⟨C, 1, none⟩ (.int .i64 h)).setCell ⟨C, 2, none⟩ (.slice ax X.length cx)) (.slice (some ⟨bu, ou, none⟩) U.length cu) U := ints_other (ints_other (ints_other S5.u hCU _ _) hCU _ _) hCU _ _
      have HL3 := Lib.hid hL3
      have HX3 := Lib.hid hX3
      have HU3 := Lib.hid hU3
      have HB3 := Lib.hid hB3
      clear hL3 hX3 hU3 hB3 S5
      go_wp2_with fail
      refine Mix.glast _ rfl rfl (by rfl) (by decide) (fun x4 K4 hK4 => ?_)
      go_wp2_with fail
      refine Mix.glast _ rfl rfl (by rfl) (by decide) (fun x5 K5 hK5 => ?_)
      go_wp2_with fail
      refine Mix.gdone (fun x6 => ?_)
      have hLf := HL3.out.later (x4.step (x5.step x6))
      have hXf := HX3.out.later (x4.step (x5.step x6))
      have hUf := HU3.out.later (x4.step (x5.step x6))
      have hBf := HB3.out.trans ((x4.step (x5.step x6)).le.mono HB3.out.size)
      simp only [Later.step_w] at hLf hXf hUf hBf
      clear c0 c1 c2 f0 f1 f2 cl
      go_wp2
      refine bodyPost_ret (results_agg3_2 (t := 2) (u := 3) (v := 4) rfl _ _ _ rfl (fun w => by kernel_rfl) (fun w => by kernel_rfl) (x := .int .i64 w) (y := .int .i64 h) (z := .slice ax X.length cx) (hLf.cell rfl) (hLf.cell rfl) (hLf.cell rfl)) rfl ?_
      exact ⟨_, _, ⟨x6.w, hBf⟩, rfl, rfl, hXf, hUf⟩

end Go.Proofs.Ytbjmfhlkmklmmaa
