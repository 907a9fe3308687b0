import Derived.Test.YtpkgfkeekcgkcaaKH
import Derived.Test.YtpkgfkeekcgkcaaKE
import Derived.Test.YtpkgfkeekcgkcaaKF
/-  The program's page.back. -/
namespace Go.Proofs.Ytpkgfkeekcgkcaa
open Go.RowKit
theorem StrsM.form {lo : Nat} {w : World} {v : Value} {xs : List (List UInt8)} (h : StrsM lo w v xs) : ∃ a c, v = .slice a xs.length c := by
  obtain ⟨_, ⟨rfl, h0⟩ | ⟨g, cap, cur, rfl, _⟩⟩ := h
  · exact ⟨_, _, by rw [h0]⟩
  · exact ⟨_, _, rfl⟩
theorem bkA_zero (st : List Int) (l : List UInt8) (ad : List (List UInt8)) (N : Nat) : ∀ k j, (rd st l ad k).length < j → sat (bkA st l ad N k) j = []
  | 0, j, _ => by simp only [bkA, sat, List.getD_eq_getElem?_getD, List.getElem?_replicate]; split <;> rfl
  | k + 1, j, h => by
    rw [rd_len_succ] at h
    have hb : (rd st l ad k).length ≤ bkP st l ad k := by rw [bkP]; omega
    have ih := bkA_zero st l ad N k j (by omega)
    rw [bkA]
    split
    · by_cases hk : bkP st l ad k < (bkA st l ad N k).length
      · rw [sat_set hk, if_neg (by omega)]; exact ih
      · rw [List.set_eq_of_length_le (by omega)]; exact ih
    · exact ih
theorem take_app {xs : List (List UInt8)} {m : Nat} (h : m < xs.length) (h0 : sat xs m = []) : xs.take m ++ [[]] = xs.take (m + 1) := by
  rw [sat_eq h] at h0
  rw [List.take_add_one, List.getElem?_eq_getElem h, h0]; rfl
theorem set_take {xs : List (List UInt8)} {m : Nat} {y : List UInt8} : (xs.take (m + 1)).set m y = (xs.set m y).take (m + 1) := by
  rw [List.take_set]
theorem sat_take {xs : List (List UInt8)} {m j : Nat} (h : j < m) : sat (xs.take m) j = sat xs j := by
  simp only [sat, List.getD_eq_getElem?_getD, List.getElem?_take, if_pos h]
/-- marks by value -/
def MksV (st : List Int) (ad : List (List UInt8)) (W : World) (e : Ending) (w' : World) : Prop := ∃ sv av, ∃ x : Later W, e = .returned (.agg #[sv, av]) ∧ w' = x.w ∧ IntsM W.heap.size x.w sv st ∧ StrsM W.heap.size x.w av ad
theorem Bm.past' {W U : World} {T lo R : Nat} {sv av : Value} {st : List Int} {ad : List (List UInt8)} (h : Bm W U T sv av sv av st ad) (hlo : lo ≤ W.heap.size) (hR : R < W.heap.size) (u v : Value) :
    IntsM lo ((U.setCell ⟨R, 0, none⟩ u).setCell ⟨R, 1, none⟩ v) sv st ∧ StrsM lo ((U.setCell ⟨R, 0, none⟩ u).setCell ⟨R, 1, none⟩ v) av ad := by
  have ne1 : sv.ownBlock ≠ some R := fun e => by have := (World.ownsRow.lt h.s R e).1; omega
  have ne2 : av.ownBlock ≠ some R := fun e => by have := (World.ownsRow.lt h.a R e).1; omega
  have h1 : IntsM W.heap.size ((U.setCell ⟨R, 0, none⟩ u).setCell ⟨R, 1, none⟩ v) sv st := World.ownsRow.kept (World.ownsRow.kept h.s (grownBy_setCell_at U R 0 u) (.inr ne1)) (grownBy_setCell_at _ R 1 v) (.inr ne1)
  have h2 : StrsM W.heap.size ((U.setCell ⟨R, 0, none⟩ u).setCell ⟨R, 1, none⟩ v) av ad := (h.a.kept (grownBy_setCell_at U R 0 u) (.inr ne2)).kept (grownBy_setCell_at _ R 1 v) (.inr ne2)
  exact ⟨World.ownsRow.mono h1 hlo, World.ownsRow.mono h2 hlo⟩
set_option maxRecDepth 100000 in
set_option maxHeartbeats 4000000 in
theorem kept_calls {W U : World} {T : Nat} {sv av : Value} {st : List Int} {ad : List (List UInt8)} (hbm : Bm W U T sv av sv av st ad) (hbig : ad.length + 1 ≤ 1000000000000) :
    Calls Try.prog 84 #[.pointer (some ⟨T, 0, none⟩)] U fun e w' => e = .returned (.tuple #[]) ∧ ∃ av', Bm W w' T sv av' sv av' st (ad ++ [[]]) := by
  obtain ⟨a0, n0, c0, rfl⟩ := hbm.a.form'
  have hA := hbm.later (Later.new U (.cells #[.string ⟨#[]⟩] 9))
  rw [Later.new_w] at hA
  obtain ⟨v6, w6, hr6, hb6⟩ := hA.appA U.heap.size 1 [] (by simp [go_sem]) hbig 23
  obtain ⟨a7, n7, c7, rfl⟩ := hb6.a.form'
  have HR6 := Lib.hid hr6
  clear hr6 hA
  have lT := hbm.lin
  have u1 := lT.cell (k := 1) rfl
  have uT := lT.lt
  have lX8 := hb6.lin
  have v1' := lX8.cell (k := 1) rfl
  have v1f := lX8.frozen 1
  have v1l := lX8.lt
  have HB9 := Lib.hid hb6.setA
  clear lT lX8 hb6 hbm
  go_enter Try.func84, Try.ntmps84
  go_wp2_with ((with_reducible show wpList _ _ _ (⟨some 4, _, _, _, _, _⟩ :: _) _ _); refine Lib.wpList_append_run_sl _ rfl _ _ 23 rfl _ _ rfl rfl HR6.out ?_)
  go_end0
  exact ⟨rfl, _, HB9.out⟩
set_option maxRecDepth 100000 in
set_option maxHeartbeats 4000000 in
theorem pback_calls (p : Nat) (l : List UInt8) (sv av : Value) (st : List Int) (ad : List (List UInt8)) (ho : Okm l st ad) (hN : (rd st l ad (l.length + 1)).length ≤ 12) (W : World) (hp : Pag W p sv av l) (hm : Mks W sv av st ad) :
    Calls Try.prog 58 #[.pointer (some ⟨p, 0, none⟩)] W (MksV (bkS st l ad (l.length + 1)) (bkA st l ad (rd st l ad (l.length + 1)).length l.length) W) := by
  have S : Ins W [] := Ins.nil _
  obtain ⟨sx, ns, cs, rfl⟩ : ∃ a n c, sv = .slice a n c := by obtain ⟨a, c, e⟩ := hm.s.form; exact ⟨a, _, c, e⟩
  obtain ⟨aa, na, ca, rfl⟩ : ∃ a n c, av = .slice a n c := by obtain ⟨a, c, e⟩ := hm.a.form; exact ⟨a, _, c, e⟩
  have HS := Lib.hid (show ns = st.length by obtain ⟨a, c, e⟩ := hm.s.form; cases e; rfl)
  have HA := Lib.hid (show na = ad.length by obtain ⟨a, c, e⟩ := hm.a.form; cases e; rfl)
  have hsl : ns ≤ 9007199254740992 := by rw [HS.out]; exact hm.s.1
  have hal : na ≤ 9007199254740992 := by rw [HA.out]; exact hm.a.1
  obtain ⟨n, hn⟩ : ∃ n, l.length = n := ⟨_, rfl⟩
  rw [hn] at hN ⊢
  obtain ⟨N, hNe⟩ : ∃ N, (rd st l ad (n + 1)).length = N := ⟨_, rfl⟩
  rw [hNe] at hN ⊢
  have h12 : n ≤ 12 := by rw [← hn]; exact ho.l12
  have HOK := Lib.hid ho
  have HL := Lib.hid hn
  have HN := Lib.hid hNe
  have HAL := Lib.hid (show na = n + 1 by rw [HA.out, ho.al, hn])
  clear hn ho hNe
  have hp3 : Pag (((W.alloc (.cells #[.slice none 0 0, .slice none 0 0] 25)).alloc (.cells #[.string ⟨#[]⟩] 9)).alloc (.cells #[.slice none 0 0, .slice (some ⟨W.heap.size + 1, 0, none⟩) 1 1] 25)) p (.slice sx ns cs) (.slice aa na ca) l := ((hp.later (Later.new _ _)).later (Later.new _ _)).later (Later.new _ _)
  have c1 := Lin.cell hp3 (k := 1) rfl
  have cl := Lin.lt hp3
  clear hp3
  go_enter Try.func58, Try.ntmps58
  go_wp2
  clear c1 cl
  obtain ⟨B1, hb⟩ : ∃ b, b = W.heap.size := ⟨_, rfl⟩
  have hloB1 : W.heap.size ≤ B1 := by rw [hb]; exact Nat.le_refl _
  have l1 : Lin (W.alloc (.cells #[.slice none 0 0, .slice none 0 0] 25)) B1 25 [.slice none 0 0, .slice none 0 0] := by rw [hb]; exact Lin.new _ _ [.slice none 0 0, .slice none 0 0]
  replace S := S.later (Later.new _ (.cells #[.slice none 0 0, .slice none 0 0] 25))
  rw [Later.new_w] at S
  replace hm := hm.later (Later.new _ (.cells #[.slice none 0 0, .slice none 0 0] 25))
  rw [Later.new_w] at hm
  replace hp := hp.later (Later.new _ (.cells #[.slice none 0 0, .slice none 0 0] 25))
  rw [Later.new_w] at hp
  have hsz : (W.alloc (.cells #[.slice none 0 0, .slice none 0 0] 25)).heap.size = B1 + 1 := by rw [hb]; simp
  obtain ⟨Y2, hZ⟩ : ∃ Z : Later W, Z.w = W.alloc (.cells #[.slice none 0 0, .slice none 0 0] 25) := ⟨Later.new _ _, rfl⟩
  rw [← hZ] at S hsz hm hp l1 ⊢
  clear hZ
  rw [← hb]
  clear hb
  have hRY : B1 < Y2.w.heap.size := l1.lt
  have ha0 := StrsM.zeros Y2.w (lo := Y2.w.heap.size) (n := 1) rfl (Nat.le_refl _) (by omega)
  rw [show madeCells #[.string ⟨#[]⟩] 1 = #[.string ⟨#[]⟩] from by simp [madeCells]; exact ⟨0, by decide, rfl⟩, hsz] at ha0
  have hT0 : (Y2.w.alloc (.cells #[.string ⟨#[]⟩] 9)).heap.size = B1 + 1 + 1 := by simp [hsz]
  obtain ⟨V0, hV0⟩ : ∃ V : Later Y2.w, V.w = (Y2.w.alloc (.cells #[.string ⟨#[]⟩] 9)).alloc (.cells #[.slice none 0 0, .slice (some ⟨B1 + 1, 0, none⟩) 1 1] 25) := ⟨(Later.new _ _).step (Later.new _ _), rfl⟩
  have hbm : Bm Y2.w V0.w (B1 + 1 + 1) (.slice none 0 0) (.slice (some ⟨B1 + 1, 0, none⟩) 1 1) (.slice none 0 0) (.slice (some ⟨B1 + 1, 0, none⟩) 1 1) [] [[]] := Bm.made V0.le (by rw [hV0, hsz]; exact ha0.later (Later.new _ _)) (by rw [hV0, ← hT0]; exact Lin.new _ _ _) (by rw [hsz]; omega)
  rw [← hV0]
  clear hV0 hT0 ha0
  obtain ⟨T, hT⟩ : ∃ T, B1 + 1 + 1 = T := ⟨_, rfl⟩
  rw [hT] at hbm ⊢
  clear hT hsz
  have hsz : (⟨l.toArray⟩ : ByteArray).size = n := by rw [str_size]; exact HL.out
  have hzero := bkA_zero st l ad N
  have HZ := Lib.hid hzero
  clear hzero
  have hna1 : na ≤ n + 1 := by have := HAL.out; omega
  have hna2 : n + 1 ≤ na := by have := HAL.out; omega
  go_loopw [6, 7, 19] (fun _ _ i0 wr => ∃ (k q : Nat) (V : Later Y2.w) (sx' ax' : Value), wr = V.w ∧ k ≤ n + 1 ∧ i0 = .int .i64 k ∧ Hid ((k ≤ n → (rd st l ad k).length = q) ∧ (k = n + 1 → q = N)) ∧ Bm Y2.w V.w T sx' ax' sx' ax' (bkS st l ad k) ((bkA st l ad N (min k n)).take (q + 1))) (fun _ _ i0 _ => n + 1 - (intOf i0).toNat)
  case atStart => exact ⟨0, 0, V0, _, _, rfl, Nat.zero_le _, rfl, Lib.hid ⟨fun _ => rfl, fun h => by omega⟩, by rw [Nat.zero_min]; exact hbm⟩
  clear hbm
  obtain ⟨k, p0, V, sx', ax', rfl, hk, rfl, HPK, hbm⟩ := hrel
  obtain ⟨a0, n0, c0, rfl⟩ := hbm.s.form'
  by_cases hlt : k < n + 1
  · have HP0 := Lib.hid (HPK.out.1 (by omega))
    clear HPK
    rw [show min k n = k by omega] at hbm
    have hkna : k < na := by omega
    obtain ⟨x, hx⟩ : ∃ v, sat ad k = v := ⟨_, rfl⟩
    obtain ⟨C, hC⟩ : ∃ C, x.length = C := ⟨_, rfl⟩
    have hC12 : C ≤ 12 := by rw [← hC, ← hx]; exact HOK.out.sat12 k
    have hP1 := bkP_le st l ad (k := k) (n := n + 1) (by omega)
    rw [bkP, HP0.out, hx, hC, HN.out] at hP1
    have HX := Lib.hid hx
    have HC := Lib.hid (show (sat ad k).length = C by rw [hx, hC])
    have hsx : (⟨x.toArray⟩ : ByteArray).size = C := by rw [str_size]; exact hC
    clear hx hC
    have hslen : (bkS st l ad k).length ≤ 100 := by
      have := bkS_len st l ad k
      rw [HP0.out] at this
      omega
    have hm_Y := hm.later V
    have hp_Y := hp.later V
    have l1_Y := l1.later V
    obtain ⟨ba, oa, ka, e, hka, hba, hga⟩ := hm_Y.a.at (k := k) (by rw [← HA.out]; exact hkna)
    injection e with e1 e2 e3
    subst e1 e3
    have qa := hga k (by rw [← HA.out]; exact hkna)
    rw [HX.out] at qa
    clear hga e2
    clear hm_Y hp_Y l1_Y
    go_wp2
    clear qa hba hka
    go_loopw [26] (fun i0 wr => ∃ (q m0 : Nat) (V : Later Y2.w) (sx' : Value) (a' : Option Addr) (c' : Nat), wr = V.w ∧ q ≤ C ∧ i0 = .int .i64 q ∧ Hid (m0 = p0 + q + 1) ∧ Bm Y2.w V.w T sx' (.slice a' m0 c') sx' (.slice a' m0 c') (bkS st l ad k ++ bkR p0 q) ((bkA st l ad N k).take (p0 + q + 1))) (fun i0 _ => C - (intOf i0).toNat)
    case atStart =>
      obtain ⟨a', c', rfl⟩ := hbm.a.form
      refine ⟨0, _, V, _, a', c', rfl, Nat.zero_le _, rfl, Lib.hid ?_, by rw [show bkR p0 0 = [] from rfl, List.append_nil]; exact hbm⟩
      rw [List.length_take, bkA_len]; omega
    clear hbm V a0 n0 c0
    obtain ⟨q, m0, V, sx', g0, d0, rfl, hq, rfl, HM, hbm⟩ := hrel
    obtain ⟨a0, n0, c0, rfl⟩ := hbm.s.form'
    have hm0 : m0 ≤ 13 := by have := HM.out; omega
    by_cases hqlt : q < C
    · obtain ⟨p', hp'⟩ : ∃ p', p0 + q = p' := ⟨_, rfl⟩
      have hmi : (m0 : Int) - 1 = (p' : Int) := by have := HM.out; omega
      have HPQ := Lib.hid hp'
      have hpb : p' ≤ 12 := by omega
      have hpN : p' + 1 ≤ N := by omega
      clear hp'
      have HSX := Lib.hid (bkR_succ p0 q)
      have HTK := Lib.hid (show (bkA st l ad N k).take (p0 + q + 1) ++ [[]] = (bkA st l ad N k).take (p0 + (q + 1) + 1) from take_app (by rw [bkA_len]; omega) (HZ.out k (p0 + q + 1) (by rw [HP0.out]; omega)))
      have hA := hbm.later (Later.new V.w (.cells #[.int .i64 p'] 3))
      rw [Later.new_w] at hA
      obtain ⟨v6, w6, hr6, hb6⟩ := hA.appS V.w.heap.size 1 _ (by simp [go_sem]; rfl) (by rw [List.length_append, bkR_len]; omega) 22
      obtain ⟨a7, n7, c7, rfl⟩ := hb6.s.form'
      have HR6 := Lib.hid hr6
      clear hr6 hA
      have lT := hbm.lin
      have u0 := lT.cell (k := 0) rfl
      have u1 := lT.cell (k := 1) rfl
      have uT := lT.lt
      have lX8 := hb6.lin
      have v1' := lX8.cell (k := 0) rfl
      have v1f := lX8.frozen 0
      have v1l := lX8.lt
      have HB9 := Lib.hid hb6.setS
      clear lT lX8 hb6 hbm
      go_wp2_with ((with_reducible show wpList _ _ _ (⟨some 35, _, _, _, _, _⟩ :: _) _ _); refine Lib.wpList_append_run_sl _ rfl _ _ 22 rfl _ _ rfl rfl HR6.out ?_)
      obtain ⟨V2, hV2⟩ : ∃ V : Later Y2.w, V.w = w6.setCell ⟨T, 0, none⟩ (.slice a7 n7 c7) := ⟨⟨_, HB9.out.le⟩, rfl⟩
      have hb9 := HB9.out
      rw [← hV2] at hb9 ⊢
      clear hV2 HB9 HR6 v1' v1f v1l u0 u1 uT
      refine (kept_calls hb9 (by rw [List.length_take]; omega)).mono ?_
      rintro e w' ⟨rfl, av2, hb⟩
      clear hb9
      rw [HTK.out] at hb
      obtain ⟨V3, hV3⟩ : ∃ V : Later Y2.w, V.w = w' := ⟨⟨_, hb.le⟩, rfl⟩
      rw [← hV3] at hb ⊢
      clear hV3 w'
      obtain ⟨a3, c3, rfl⟩ := hb.a.form
      have HL3 := Lib.hid (show ((bkA st l ad N k).take (p0 + (q + 1) + 1)).length = p0 + (q + 1) + 1 by rw [List.length_take, bkA_len]; omega)
      have HB3 := Lib.hid hb
      clear hb
      go_wp2
      go_roundw
      case rel => exact ⟨q + 1, _, V3, _, a3, c3, rfl, by omega, by go_num, HL3, by rw [HSX.out, ← List.append_assoc, HPQ.out]; exact HB3.out⟩
      case measure => simp [intOf] <;> omega
    obtain rfl : C = q := by omega
    have HSX := Lib.hid (show bkS st l ad k ++ bkR p0 C = bkS st l ad (k + 1) by rw [bkS, HP0.out, HC.out])
    rw [HSX.out] at hbm
    have HPP := Lib.hid (show bkP st l ad k = p0 + C by rw [bkP, HP0.out, HC.out])
    have hm_Y := hm.later V
    have hp_Y := hp.later V
    have l1_Y := l1.later V
    have c2 := Lin.cell hp_Y (k := 2) rfl
    have cl := Lin.lt hp_Y
    by_cases hkn : k = n
    · subst hkn
      have HRN := Lib.hid (show p0 + C = N by rw [← HPP.out, ← HN.out, rd_len_succ, kp_end (by rw [HL.out]; omega)]; rfl)
      go_wp2
      go_roundw
      case rel => first | exact ⟨k + 1, p0 + C, V, _, _, rfl, by omega, by go_num, Lib.hid ⟨fun h => by omega, fun _ => HRN.out⟩, by rw [show min (k + 1) k = k by omega]; exact hbm⟩ | ((repeat apply Exists.intro); exact ⟨⟨k + 1, p0 + C, V, _, _, rfl, by omega, by go_num, Lib.hid ⟨fun h => by omega, fun _ => HRN.out⟩, by rw [show min (k + 1) k = k by omega]; exact hbm⟩, rfl⟩)
      case measure => simp [intOf] <;> omega
    have hkn' : k < n := by omega
    have hkl : k < l.length := by rw [HL.out]; exact hkn'
    have hkb : ((k : Int) == (n : Int)) = false := by simp; omega
    have hext := ext_bt hkl
    obtain ⟨P, hP⟩ : ∃ P, hasB st k = P := ⟨_, rfl⟩
    have HPB := Lib.hid hP
    cases P
    · have HBA := Lib.hid (show bkA st l ad N (k + 1) = bkA st l ad N k by rw [bkA, if_neg (by rw [hP]; simp)])
      have HRD := Lib.hid (show (rd st l ad (k + 1)).length = p0 + C + 1 by rw [rd_len_succ, kp_no hkl hP, HPP.out]; rfl)
      clear hP
      have HLE2 := Lib.hid (show (rd st l ad (k + 1)).length ≤ N by rw [← HN.out]; exact Nat.le_trans (rd_mono st l ad (k + 1) (n - k)) (by rw [show k + 1 + (n - k) = n + 1 by omega]; exact Nat.le_refl _))
      have hle2 := HLE2.out
      rw [HRD.out] at hle2
      go_wp2_with fail
      refine (strikes_calls p _ _ l st k _ hp_Y hm_Y.s).mono ?_
      rintro e w' ⟨rfl, hw⟩
      rw [hw, HPB.out]
      clear hw w'
      go_wp2_with fail
      refine (kept_calls hbm (by rw [List.length_take]; omega)).mono ?_
      rintro e w' ⟨rfl, av2, hb⟩
      rw [show (bkA st l ad N k).take (p0 + C + 1) ++ [[]] = (bkA st l ad N k).take (p0 + C + 1 + 1) from take_app (by rw [bkA_len]; omega) (HZ.out k (p0 + C + 1) (by rw [HP0.out]; omega)), ← HBA.out] at hb
      obtain ⟨V3, hV3⟩ : ∃ V : Later Y2.w, V.w = w' := ⟨⟨_, hb.le⟩, rfl⟩
      rw [← hV3] at hb ⊢
      clear hV3 w'
      have HB3 := Lib.hid hb
      clear hb hbm hle2
      go_wp2
      go_roundw
      case rel => first | exact ⟨k + 1, p0 + C + 1, V3, _, _, rfl, by omega, by go_num, Lib.hid ⟨fun _ => HRD.out, fun h => by omega⟩, by rw [show min (k + 1) n = k + 1 by omega]; exact HB3.out⟩ | ((repeat apply Exists.intro); exact ⟨⟨k + 1, p0 + C + 1, V3, _, _, rfl, by omega, by go_num, Lib.hid ⟨fun _ => HRD.out, fun h => by omega⟩, by rw [show min (k + 1) n = k + 1 by omega]; exact HB3.out⟩, rfl⟩)
      case measure => simp [intOf] <;> omega
    · have HBA := Lib.hid (show bkA st l ad N (k + 1) = (bkA st l ad N k).set (p0 + C) (sat (bkA st l ad N k) (p0 + C) ++ [bt l k]) by rw [bkA, if_pos ⟨hkl, hP⟩, HPP.out])
      have HRD := Lib.hid (show (rd st l ad (k + 1)).length = p0 + C by rw [rd_len_succ, kp_yes hP, HPP.out]; rfl)
      clear hP
      have HLE2 := Lib.hid (show (rd st l ad (k + 1)).length ≤ N by rw [← HN.out]; exact Nat.le_trans (rd_mono st l ad (k + 1) (n - k)) (by rw [show k + 1 + (n - k) = n + 1 by omega]; exact Nat.le_refl _))
      have hle2 := HLE2.out
      rw [HRD.out] at hle2
      go_wp2_with fail
      refine (strikes_calls p _ _ l st k _ hp_Y hm_Y.s).mono ?_
      rintro e w' ⟨rfl, hw⟩
      rw [hw, HPB.out]
      clear hw w'
      obtain ⟨p', hp'⟩ : ∃ p', p0 + C = p' := ⟨_, rfl⟩
      have hmi : (m0 : Int) - 1 = (p' : Int) := by have := HM.out; omega
      have hpm : p' < m0 := by have := HM.out; omega
      rw [hp'] at HRD hle2 HBA hbm
      have hpl : p' < ((bkA st l ad N k).take (p' + 1)).length := by rw [List.length_take, bkA_len]; omega
      clear hp'
      have lT := hbm.lin
      have u1 := lT.cell (k := 1) rfl
      have uT := lT.lt
      clear lT
      obtain ⟨y, hy⟩ : ∃ y, sat (bkA st l ad N k) p' = y := ⟨_, rfl⟩
      obtain ⟨g, rfl, hgl, -, -, hm0d, -, hcl, -⟩ := hbm.put (k := p') hpl []
      rw [sat_take (Nat.lt_succ_self _), hy] at hcl
      have HBY := Lib.hid (show ((bkA st l ad N k).take (p' + 1)).set p' (y ++ [bt l k]) = (bkA st l ad N (k + 1)).take (p' + 1) by rw [HBA.out, hy, set_take])
      have hyl : y.length ≤ 12 := by
        have := bkA_sat st l ad N k p'
        rw [hy] at this
        omega
      clear hy
      go_wp2
      refine Mix.region_mixL (Mix.kinds [] [] [18]) (by kernel_rfl) (by kernel_rfl) ?_
      repeat ((with_reducible refine Mix.atCons ?_); first | refine Mix.skipU (by rfl) rfl (by rfl) ?_ | (refine Mix.val rfl rfl (by rfl) (fun K hK => ?_); go_big_quiet_op; refine hK _ ?_; clear hK K) | (refine Mix.skip (by rfl) ?_; go_frame))
      refine Mix.last rfl (by rfl) (fun x8 K8 hK8 => ?_)
      clear hcl hgl
      have hb8 := hbm.later x8
      obtain ⟨g', e1, hgl, -, -, -, hfz, hcl, hb9⟩ := hb8.put (k := p') hpl (y ++ [bt l k])
      obtain rfl : g = g' := Addr.some_block e1
      clear e1
      have HB9 := Lib.hid hb9
      clear hb8 hbm hb9
      go_wp2_with fail
      refine Mix.done (fun x9 => ?_)
      have hb9 := HB9.out.later x9
      rw [HBY.out] at hb9
      clear HB9
      obtain ⟨V3, hV3⟩ : ∃ V : Later Y2.w, V.w = x9.w := ⟨⟨_, hb9.le⟩, rfl⟩
      rw [← hV3] at hb9 ⊢
      have HB3 := Lib.hid hb9
      clear hV3 x9 hb9 hcl hgl hfz u1 uT
      go_wp2
      go_roundw
      case rel => first | exact ⟨k + 1, p', V3, _, _, rfl, by omega, by go_num, Lib.hid ⟨fun _ => HRD.out, fun h => by omega⟩, by rw [show min (k + 1) n = k + 1 by omega]; exact HB3.out⟩ | ((repeat apply Exists.intro); exact ⟨⟨k + 1, p', V3, _, _, rfl, by omega, by go_num, Lib.hid ⟨fun _ => HRD.out, fun h => by omega⟩, by rw [show min (k + 1) n = k + 1 by omega]; exact HB3.out⟩, rfl⟩)
      case measure => simp [intOf] <;> omega
  obtain rfl : k = n + 1 := by omega
  obtain rfl : N = p0 := (HPK.out.2 rfl).symm
  rw [show min (n + 1) n = n by omega, List.take_of_length_le (by rw [bkA_len]; omega)] at hbm
  obtain ⟨g0, m0, d0, rfl⟩ := hbm.a.form'
  have hlS := bkS_len st l ad (n + 1)
  rw [HN.out] at hlS
  have hlA := bkA_len st l ad N n
  have t0 := (l1.later V).cell (k := 0) rfl
  have t1' := (l1.later V).cell (k := 1) rfl
  have f0 := (l1.later V).frozen 0
  have f1 := (l1.later V).frozen 1
  have tl := (l1.later V).lt
  have lT := hbm.lin
  have z0 := lT.cell (k := 0) rfl
  have z1 := lT.cell (k := 1) rfl
  have zl := lT.lt
  clear lT
  go_wp2
  refine bodyPost_ret (v := .agg #[.slice a0 n0 c0, .slice g0 m0 d0]) (by simp [results, Try.results58, go_sem, t0, t1']) rfl ?_
  refine ⟨_, _, ⟨_, (((Y2.step V).le.setCell (p := ⟨B1, 0, none⟩) hloB1 (.slice a0 n0 c0)).setCell (p := ⟨B1, 1, none⟩) hloB1 (.slice g0 m0 d0))⟩, rfl, rfl, hbm.past' Y2.size hRY _ _⟩
end Go.Proofs.Ytpkgfkeekcgkcaa

/-  The program's Back. -/
namespace Go.Proofs.Ytpkgfkeekcgkcaa
open Go.RowKit
set_option maxRecDepth 100000 in
set_option maxHeartbeats 4000000 in
theorem Back_calls (l : List UInt8) (sv av : Value) (st : List Int) (ad : List (List UInt8)) (W : World) (hm : Mks W sv av st ad) :
    Calls Try.prog 22 #[.string ⟨l.toArray⟩, .agg #[sv, av]] W (MksG (backS l st ad) (backA l st ad) (backE l st ad) W) := by
  have S : Ins W [] := Ins.nil _
  obtain ⟨sx, ns, cs, rfl⟩ : ∃ a n c, sv = .slice a n c := by obtain ⟨a, c, e⟩ := hm.s.form; exact ⟨a, _, c, e⟩
  obtain ⟨aa, na, ca, rfl⟩ : ∃ a n c, av = .slice a n c := by obtain ⟨a, c, e⟩ := hm.a.form; exact ⟨a, _, c, e⟩
  have HS := Lib.hid (show ns = st.length by obtain ⟨a, c, e⟩ := hm.s.form; cases e; rfl)
  have HA := Lib.hid (show na = ad.length by obtain ⟨a, c, e⟩ := hm.a.form; cases e; rfl)
  have hsl : ns ≤ 9007199254740992 := by rw [HS.out]; exact hm.s.1
  have hal : na ≤ 9007199254740992 := by rw [HA.out]; exact hm.a.1
  obtain ⟨E, hE⟩ : ∃ E, marksE l st ad = E := ⟨_, rfl⟩
  have HE := Lib.hid hE
  by_cases h0 : E = 0
  rotate_left
  · have HR := Lib.hid (show backE l st ad = E ∧ backS l st ad = [] ∧ backA l st ad = [] by
      have h : backE l st ad = E := by rw [backE, hE, if_pos h0]
      rw [backS, backA, h]; exact ⟨rfl, if_neg h0, if_neg h0⟩)
    have hne : (E != 0) = true := by simpa using h0
    have HNE := Lib.hid (show marksE l st ad ≠ 0 by rw [hE]; exact h0)
    clear hE h0
    go_enter Try.func22, Try.ntmps22
    go_wp2_with fail
    obtain ⟨B1, hb⟩ : ∃ b, b = W.heap.size := ⟨_, rfl⟩
    have l1 : Lin (W.alloc (.cells #[.slice sx ns cs, .slice aa na ca] 25)) B1 25 [.slice sx ns cs, .slice aa na ca] := by rw [hb]; exact Lin.new _ _ [.slice sx ns cs, .slice aa na ca]
    replace S := S.later (Later.new _ (.cells #[.slice sx ns cs, .slice aa na ca] 25))
    rw [Later.new_w] at S
    replace hm := hm.later (Later.new _ (.cells #[.slice sx ns cs, .slice aa na ca] 25))
    rw [Later.new_w] at hm
    have hsz : (W.alloc (.cells #[.slice sx ns cs, .slice aa na ca] 25)).heap.size = B1 + 1 := by rw [hb]; simp
    obtain ⟨Y2, hZ⟩ : ∃ Z : Later W, Z.w = W.alloc (.cells #[.slice sx ns cs, .slice aa na ca] 25) := ⟨Later.new _ _, rfl⟩
    rw [← hZ] at S hsz hm l1 ⊢
    clear hZ
    rw [← hb]
    clear hb
    have hs2 := hsz
    rw [← hsz]
    clear hsz hs2
    obtain ⟨B3, hb⟩ : ∃ b, b = Y2.w.heap.size := ⟨_, rfl⟩
    have hloB3 : W.heap.size ≤ B3 := by rw [hb]; exact Y2.size
    have l3 : Lin (Y2.w.alloc (.cells #[.slice none 0 0, .slice none 0 0] 25)) B3 25 [.slice none 0 0, .slice none 0 0] := by rw [hb]; exact Lin.new _ _ [.slice none 0 0, .slice none 0 0]
    replace S := S.later (Later.new _ (.cells #[.slice none 0 0, .slice none 0 0] 25))
    rw [Later.new_w] at S
    replace hm := hm.later (Later.new _ (.cells #[.slice none 0 0, .slice none 0 0] 25))
    rw [Later.new_w] at hm
    replace l1 := l1.later (Later.new _ (.cells #[.slice none 0 0, .slice none 0 0] 25))
    rw [Later.new_w] at l1
    have hsz : (Y2.w.alloc (.cells #[.slice none 0 0, .slice none 0 0] 25)).heap.size = B3 + 1 := by rw [hb]; simp
    obtain ⟨Y4, hZ⟩ : ∃ Z : Later W, Z.w = Y2.w.alloc (.cells #[.slice none 0 0, .slice none 0 0] 25) := ⟨Y2.step (Later.new _ _), rfl⟩
    rw [← hZ] at S hsz hm l1 l3 ⊢
    clear hZ
    rw [← hb]
    clear hb
    clear hsz
    have q0_0 := l1.cell (k := 0) rfl
    have q0_1 := l1.cell (k := 1) rfl
    have q0_l := l1.lt
    go_wp2_with fail
    clear q0_0 q0_1 q0_l
    refine (open_err l _ _ st ad _ hm HNE.out).mono ?_
    rintro e w' ⟨rfl, y, rfl⟩
    rw [HE.out]
    replace hm := hm.later y
    replace l1 := l1.later y
    replace l3 := l3.later y
    replace S := S.later y
    obtain ⟨Y5, hZ⟩ : ∃ Z : Later W, Z.w = y.w := ⟨Y4.step (y), rfl⟩
    rw [← hZ] at S hm l1 l3 ⊢
    clear hZ
    clear y
    have t0 := l3.cell (k := 0) rfl
    have t1' := l3.cell (k := 1) rfl
    have f0 := l3.frozen 0
    have f1 := l3.frozen 1
    have tl := l3.lt
    go_wp2
    refine bodyPost_ret (v := .tuple #[.agg #[.slice none 0 0, .slice none 0 0], .int .i64 E]) (by simp [results, Try.results22, go_sem, t0, t1']) rfl ?_
    refine ⟨_, _, ⟨_, ((Y5.le.setCell (p := ⟨B3, 0, none⟩) hloB3 (.slice none 0 0)).setCell (p := ⟨B3, 1, none⟩) hloB3 (.slice none 0 0))⟩, by rw [HR.out.1], rfl, by rw [HR.out.2.1, HR.out.2.2]; exact ⟨Ints.nil _ _, Strs.nil _ _⟩⟩
  subst h0
  have ho := marks_ok hE
  have HO := Lib.hid ho
  obtain ⟨V, hV⟩ : ∃ V, rd st l ad (l.length + 1) = V := ⟨_, rfl⟩
  have HV := Lib.hid hV
  have hB : backE l st ad = txtE V := by rw [backE, hE, if_neg (by simp), hV]
  by_cases hl : 12 < V.length
  · have HR := Lib.hid (show backE l st ad = 7 ∧ backS l st ad = [] ∧ backA l st ad = [] by
      have h : backE l st ad = 7 := by rw [hB, txtE, if_pos hl]
      rw [backS, backA, h]; exact ⟨rfl, if_neg (by decide), if_neg (by decide)⟩)
    have HD := Lib.hid (show decide (12 < V.length) = true from decide_eq_true hl)
    clear hE hB hl hV ho
    go_enter Try.func22, Try.ntmps22
    go_wp2_with fail
    obtain ⟨B1, hb⟩ : ∃ b, b = W.heap.size := ⟨_, rfl⟩
    have l1 : Lin (W.alloc (.cells #[.slice sx ns cs, .slice aa na ca] 25)) B1 25 [.slice sx ns cs, .slice aa na ca] := by rw [hb]; exact Lin.new _ _ [.slice sx ns cs, .slice aa na ca]
    replace S := S.later (Later.new _ (.cells #[.slice sx ns cs, .slice aa na ca] 25))
    rw [Later.new_w] at S
    replace hm := hm.later (Later.new _ (.cells #[.slice sx ns cs, .slice aa na ca] 25))
    rw [Later.new_w] at hm
    have hsz : (W.alloc (.cells #[.slice sx ns cs, .slice aa na ca] 25)).heap.size = B1 + 1 := by rw [hb]; simp
    obtain ⟨Y2, hZ⟩ : ∃ Z : Later W, Z.w = W.alloc (.cells #[.slice sx ns cs, .slice aa na ca] 25) := ⟨Later.new _ _, rfl⟩
    rw [← hZ] at S hsz hm l1 ⊢
    clear hZ
    rw [← hb]
    clear hb
    have hs2 := hsz
    rw [← hsz]
    clear hsz hs2
    obtain ⟨B3, hb⟩ : ∃ b, b = Y2.w.heap.size := ⟨_, rfl⟩
    have hloB3 : W.heap.size ≤ B3 := by rw [hb]; exact Y2.size
    have l3 : Lin (Y2.w.alloc (.cells #[.slice none 0 0, .slice none 0 0] 25)) B3 25 [.slice none 0 0, .slice none 0 0] := by rw [hb]; exact Lin.new _ _ [.slice none 0 0, .slice none 0 0]
    replace S := S.later (Later.new _ (.cells #[.slice none 0 0, .slice none 0 0] 25))
    rw [Later.new_w] at S
    replace hm := hm.later (Later.new _ (.cells #[.slice none 0 0, .slice none 0 0] 25))
    rw [Later.new_w] at hm
    replace l1 := l1.later (Later.new _ (.cells #[.slice none 0 0, .slice none 0 0] 25))
    rw [Later.new_w] at l1
    have hsz : (Y2.w.alloc (.cells #[.slice none 0 0, .slice none 0 0] 25)).heap.size = B3 + 1 := by rw [hb]; simp
    obtain ⟨Y4, hZ⟩ : ∃ Z : Later W, Z.w = Y2.w.alloc (.cells #[.slice none 0 0, .slice none 0 0] 25) := ⟨Y2.step (Later.new _ _), rfl⟩
    rw [← hZ] at S hsz hm l1 l3 ⊢
    clear hZ
    rw [← hb]
    clear hb
    clear hsz
    have q0_0 := l1.cell (k := 0) rfl
    have q0_1 := l1.cell (k := 1) rfl
    have q0_l := l1.lt
    go_wp2_with fail
    clear q0_0 q0_1 q0_l
    refine (open_ok l _ _ st ad _ hm HE.out).mono ?_
    rintro e w' ⟨b, y, rfl, rfl, hp⟩
    replace hm := hm.later y
    replace l1 := l1.later y
    replace l3 := l3.later y
    replace S := S.later y
    obtain ⟨Y5, hZ⟩ : ∃ Z : Later W, Z.w = y.w := ⟨Y4.step (y), rfl⟩
    rw [← hZ] at S hm l1 l3 hp ⊢
    clear hZ
    clear y
    go_wp2_with fail
    refine (pread_calls b l _ _ st ad HO.out _ hp hm).mono ?_
    rintro e w' ⟨rfl, y, rfl⟩
    rw [HV.out]
    replace hm := hm.later y
    replace l1 := l1.later y
    replace l3 := l3.later y
    replace hp := hp.later y
    replace S := S.later y
    obtain ⟨Y6, hZ⟩ : ∃ Z : Later W, Z.w = y.w := ⟨Y5.step (y), rfl⟩
    rw [← hZ] at S hm l1 l3 hp ⊢
    clear hZ
    clear y
    go_wp2_with fail
    refine (plong_calls V _).mono ?_
    rintro e w' ⟨rfl, hw⟩
    rw [hw, HD.out]
    clear hw w'
    have t0 := l3.cell (k := 0) rfl
    have t1' := l3.cell (k := 1) rfl
    have f0 := l3.frozen 0
    have f1 := l3.frozen 1
    have tl := l3.lt
    go_wp2
    refine bodyPost_ret (v := .tuple #[.agg #[.slice none 0 0, .slice none 0 0], .int .i64 7]) (by simp [results, Try.results22, go_sem, t0, t1']) rfl ?_
    refine ⟨_, _, ⟨_, ((Y6.le.setCell (p := ⟨B3, 0, none⟩) hloB3 (.slice none 0 0)).setCell (p := ⟨B3, 1, none⟩) hloB3 (.slice none 0 0))⟩, by rw [HR.out.1], rfl, by rw [HR.out.2.1, HR.out.2.2]; exact ⟨Ints.nil _ _, Strs.nil _ _⟩⟩
  have HR := Lib.hid (show backE l st ad = 0 ∧ backS l st ad = bkS st l ad (l.length + 1) ∧ backA l st ad = bkA st l ad V.length l.length by
    have h : backE l st ad = 0 := by rw [hB, txtE, if_neg hl]
    rw [backS, backA, h, hV]; exact ⟨rfl, if_pos rfl, if_pos rfl⟩)
  have HD := Lib.hid (show decide (12 < V.length) = false from decide_eq_false hl)
  have hlS := bkS_len st l ad (l.length + 1)
  skip
  have HL12 := Lib.hid (show (rd st l ad (l.length + 1)).length ≤ 12 by rw [hV]; omega)
  clear hE hB hl hV ho hlS
  go_enter Try.func22, Try.ntmps22
  go_wp2_with fail
  obtain ⟨B1, hb⟩ : ∃ b, b = W.heap.size := ⟨_, rfl⟩
  have l1 : Lin (W.alloc (.cells #[.slice sx ns cs, .slice aa na ca] 25)) B1 25 [.slice sx ns cs, .slice aa na ca] := by rw [hb]; exact Lin.new _ _ [.slice sx ns cs, .slice aa na ca]
  replace S := S.later (Later.new _ (.cells #[.slice sx ns cs, .slice aa na ca] 25))
  rw [Later.new_w] at S
  replace hm := hm.later (Later.new _ (.cells #[.slice sx ns cs, .slice aa na ca] 25))
  rw [Later.new_w] at hm
  have hsz : (W.alloc (.cells #[.slice sx ns cs, .slice aa na ca] 25)).heap.size = B1 + 1 := by rw [hb]; simp
  obtain ⟨Y2, hZ⟩ : ∃ Z : Later W, Z.w = W.alloc (.cells #[.slice sx ns cs, .slice aa na ca] 25) := ⟨Later.new _ _, rfl⟩
  rw [← hZ] at S hsz hm l1 ⊢
  clear hZ
  rw [← hb]
  clear hb
  have hs2 := hsz
  rw [← hsz]
  clear hsz hs2
  obtain ⟨B3, hb⟩ : ∃ b, b = Y2.w.heap.size := ⟨_, rfl⟩
  have hloB3 : W.heap.size ≤ B3 := by rw [hb]; exact Y2.size
  have l3 : Lin (Y2.w.alloc (.cells #[.slice none 0 0, .slice none 0 0] 25)) B3 25 [.slice none 0 0, .slice none 0 0] := by rw [hb]; exact Lin.new _ _ [.slice none 0 0, .slice none 0 0]
  replace S := S.later (Later.new _ (.cells #[.slice none 0 0, .slice none 0 0] 25))
  rw [Later.new_w] at S
  replace hm := hm.later (Later.new _ (.cells #[.slice none 0 0, .slice none 0 0] 25))
  rw [Later.new_w] at hm
  replace l1 := l1.later (Later.new _ (.cells #[.slice none 0 0, .slice none 0 0] 25))
  rw [Later.new_w] at l1
  have hsz : (Y2.w.alloc (.cells #[.slice none 0 0, .slice none 0 0] 25)).heap.size = B3 + 1 := by rw [hb]; simp
  obtain ⟨Y4, hZ⟩ : ∃ Z : Later W, Z.w = Y2.w.alloc (.cells #[.slice none 0 0, .slice none 0 0] 25) := ⟨Y2.step (Later.new _ _), rfl⟩
  rw [← hZ] at S hsz hm l1 l3 ⊢
  clear hZ
  rw [← hb]
  clear hb
  clear hsz
  have q0_0 := l1.cell (k := 0) rfl
  have q0_1 := l1.cell (k := 1) rfl
  have q0_l := l1.lt
  go_wp2_with fail
  clear q0_0 q0_1 q0_l
  refine (open_ok l _ _ st ad _ hm HE.out).mono ?_
  rintro e w' ⟨b, y, rfl, rfl, hp⟩
  replace hm := hm.later y
  replace l1 := l1.later y
  replace l3 := l3.later y
  replace S := S.later y
  obtain ⟨Y5, hZ⟩ : ∃ Z : Later W, Z.w = y.w := ⟨Y4.step (y), rfl⟩
  rw [← hZ] at S hm l1 l3 hp ⊢
  clear hZ
  clear y
  go_wp2_with fail
  refine (pread_calls b l _ _ st ad HO.out _ hp hm).mono ?_
  rintro e w' ⟨rfl, y, rfl⟩
  rw [HV.out]
  replace hm := hm.later y
  replace l1 := l1.later y
  replace l3 := l3.later y
  replace hp := hp.later y
  replace S := S.later y
  obtain ⟨Y6, hZ⟩ : ∃ Z : Later W, Z.w = y.w := ⟨Y5.step (y), rfl⟩
  rw [← hZ] at S hm l1 l3 hp ⊢
  clear hZ
  clear y
  go_wp2_with fail
  refine (plong_calls V _).mono ?_
  rintro e w' ⟨rfl, hw⟩
  rw [hw, HD.out]
  clear hw w'
  go_wp2_with fail
  have hRY : B3 < Y6.w.heap.size := l3.lt
  refine (pback_calls b l _ _ st ad HO.out HL12.out _ hp hm).mono ?_
  rintro e w' ⟨s1, a1, V1, rfl, rfl, hmi, hma⟩
  obtain ⟨a0, n0, c0, rfl⟩ := hmi.form'
  obtain ⟨g0, m0, d0, rfl⟩ := hma.form'
  have ne1 : (Value.slice a0 n0 c0).ownBlock ≠ some B3 := fun e => by have := (World.ownsRow.lt hmi B3 e).1; omega
  have ne2 : (Value.slice g0 m0 d0).ownBlock ≠ some B3 := fun e => by have := (World.ownsRow.lt hma B3 e).1; omega
  have HMI := Lib.hid (fun u v => World.ownsRow.kept (World.ownsRow.kept hmi (grownBy_setCell_at V1.w B3 0 u) (.inr ne1)) (grownBy_setCell_at _ B3 1 v) (.inr ne1))
  have HMA := Lib.hid (fun u v => (hma.kept (grownBy_setCell_at V1.w B3 0 u) (.inr ne2)).kept (grownBy_setCell_at _ B3 1 v) (.inr ne2))
  clear ne1 ne2 hmi hma
  have hlA := bkA_len st l ad V.length l.length
  have hlS := bkS_len st l ad (l.length + 1)
  have hl12 := HO.out.l12
  have hV12 := HL12.out
  rw [HV.out] at hlS hV12
  have HLA := Lib.hid hlA
  have HLS := Lib.hid hlS
  have HV12 := Lib.hid hV12
  clear hlA hlS hl12 hV12
  skip
  have t0 := (l3.later V1).cell (k := 0) rfl
  have t1' := (l3.later V1).cell (k := 1) rfl
  have f0 := (l3.later V1).frozen 0
  have f1 := (l3.later V1).frozen 1
  have tl := (l3.later V1).lt
  go_wp2
  refine bodyPost_ret (v := .tuple #[.agg #[.slice a0 n0 c0, .slice g0 m0 d0], .int .i64 0]) (by simp [results, Try.results22, go_sem, t0, t1']) rfl ?_
  refine ⟨_, _, ⟨_, (((Y6.step V1).le.setCell (p := ⟨B3, 0, none⟩) hloB3 (.slice a0 n0 c0)).setCell (p := ⟨B3, 1, none⟩) hloB3 (.slice g0 m0 d0))⟩, by rw [HR.out.1], rfl, by rw [HR.out.2.1, HR.out.2.2]; rw [← HV.out]; exact ⟨IntsM.ints (HMI.out _ _) (by have := HLS.out; have := HV12.out; omega), StrsM.strs (HMA.out _ _) (by rw [HV.out, HLA.out]; have := HV12.out; omega)⟩⟩
end Go.Proofs.Ytpkgfkeekcgkcaa
