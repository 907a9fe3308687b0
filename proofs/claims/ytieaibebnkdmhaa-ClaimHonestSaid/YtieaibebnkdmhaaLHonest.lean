import Derived.Test.YtieaibebnkdmhaaLaw4
import Derived.Test.YtieaibebnkdmhaaTh9
import Derived.Test.YtieaibebnkdmhaaOwnS
import Derived.Test.YtieaibebnkdmhaaWorks
import Derived.Test.YtieaibebnkdmhaaTab
import Derived.IntWalk
namespace Go.Proofs.Ytieaibebnkdmhaa
open Go.RowKit

def Gives1 (P : Value → World → Prop) (w : World) (e : Ending) (w' : World) : Prop := ∃ v, ∃ x : Later w, e = .returned v ∧ w' = x.w ∧ P v x.w
set_option maxRecDepth 100000 in
set_option maxHeartbeats 4000000 in
theorem replaced_calls (nv sv bv : Value) (ns ss : List (List Int)) (bs : List Int) (n : Nat) (w : World) (hn : Rows2 w nv ns) (hs : Rows2 w sv ss) (hb : Byts w bv bs) (hlt : n < ns.length) (h6 : ns.length ≤ 6) (hr6 : (row ns n).length ≤ 6) (hb20 : bs.length ≤ 20) :
    Calls Try.prog 47 #[.agg #[nv, sv], .int .i64 n, bv] w (Gives1 (fun v W => ∃ nv', v = .agg #[nv', sv] ∧ Rows2 W nv' (ns.set n (replF bs (row ns n) []))) w) := by
  have hbl := hb.1
  have hb2 := Lib.hid hb.2.1
  obtain ⟨an, cn, rfl⟩ := hn.form
  obtain ⟨aS, cS, rfl⟩ := hs.form
  obtain ⟨aB, cB, rfl⟩ := hb.form
  obtain ⟨bn, on, cn', fn, e, hcpn, hbn, hcn⟩ := hn.at hlt
  cases e
  obtain ⟨gn0, hrj⟩ := hcn n hlt
  obtain ⟨ar, cr, efr⟩ := hrj.form
  rw [efr] at gn0 hrj
  clear hcn efr
  have hwr := hrj.1
  obtain ⟨u, hu⟩ : ∃ u : Later w, u.w = ((w.alloc (.cells #[.slice (some ⟨bn, on, none⟩) ns.length cn, .slice aS ss.length cS] 24)).alloc (.cells #[.slice none 0 0, .slice none 0 0] 24)).alloc (.cells #[] 3) := ⟨((Later.new _ _).step (Later.new _ _)).step (Later.new _ _), rfl⟩
  have gE := (u.cell (o := on + n) hbn).trans gn0
  have hu1 : BoxB u.w w.heap.size (.slice (some ⟨bn, on, none⟩) ns.length cn) (.slice aS ss.length cS) := by
    rw [hu]; exact ((BoxB.new w _ _).later (Later.new _ _)).later (Later.new _ _)
  have hu2 : BoxB u.w (w.heap.size + 1) (.slice none 0 0) (.slice none 0 0) := by
    rw [hu]
    have := (BoxB.new (w.alloc (.cells #[.slice (some ⟨bn, on, none⟩) ns.length cn, .slice aS ss.length cS] 24)) (.slice none 0 0) (.slice none 0 0)).later (Later.new _ (.cells #[] 3))
    rw [Later.new_w] at this
    simpa using this
  have hu3 : IntsN (w.heap.size + 1 + 1) u.w (.slice (some ⟨w.heap.size + 1 + 1, 0, none⟩) 0 0) [] := by
    rw [hu]; exact IntsN.empty _ (by simp) (by simp)
  have hus : w.heap.size + 1 + 1 ≤ u.w.heap.size := by rw [hu]; simp
  obtain ⟨a0, n0, c0, q, hrun, hN0⟩ := app_empty hu3 (hrj.later u) hus (by omega) 25
  have hL0 := hN0.ints (by omega)
  have hB0 := hu1.later q
  have hR0 := hu2.later q
  have hqn := (hn.later u).later q
  have hqs := (hs.later u).later q
  have hqb := (hb.later u).later q
  obtain ⟨W, hW⟩ : ∃ W : Later w, W.w = q.w := ⟨u.step q, rfl⟩
  rw [← hW] at hL0 hB0 hR0 hqn hqs hqb
  rw [← hW, hu] at hrun
  rw [hu] at gE
  have HR := Lib.hid hrun
  clear hrun hN0 hu1 hu2 hu3 hu hus hW
  clear q u
  go_enter Try.func47, Try.ntmps47
  go_wp2_with ((with_reducible show wpList _ _ _ (⟨some 18, _, _, _, _, _⟩ :: _) _ _); refine Lib.wpList_append_run_sl _ rfl _ _ 25 rfl _ _ rfl rfl HR.out ?_)
  clear HR gE
  obtain ⟨a0', e0⟩ : ∃ a, Value.slice a0 n0 c0 = .slice a (row ns n).length c0 := by obtain ⟨a, c, e⟩ := hL0.form; cases e; exact ⟨_, rfl⟩
  cases e0
  go_loopw [7, 8, 9] (fun l m i wr => ∃ k : Nat, ∃ left acc : List Int, ∃ y : Later W.w, wr = y.w ∧ k ≤ bs.length ∧ i = .int .i64 k ∧ Ints y.w l left ∧ left.length ≤ 6 ∧ acc.length ≤ k ∧ IntsN W.w.heap.size y.w m acc ∧ Apart2 l m ∧ Hid (replF bs (row ns n) [] = replF (bs.drop k) left acc)) (fun _ _ i _ => bs.length - (intOf i).toNat)
  case atStart => exact ⟨0, row ns n, [], Later.self _, rfl, Nat.zero_le _, rfl, hL0, hr6, Nat.zero_le _, IntsN.nil _ _, fun b off n c e h => by simp [Value.ownBlock], rfl⟩
  case round =>
    obtain ⟨k, left, acc, y, rfl, hk, rfl, hL, hl6, hak, hM, hap, hrep⟩ := hrel
    rename_i lv mv
    obtain ⟨al, cl, rfl⟩ := hL.form
    obtain ⟨am, nm, cm, rfl⟩ := hM.form'
    by_cases hkb : k < bs.length
    · by_cases hne : left = []
      · subst hne
        have hfin := Lib.hid (show replF bs (row ns n) [] = acc by rw [hrep.out, replF_end _ _ _ _ (.inr rfl)])
        have hbB := hB0.later y
        have hbR := hR0.later y
        have gB0 := hbB.cell0
        have gB1 := hbB.cell1
        have sB := hbB.lt
        clear hrep hap hL hqb
        go_wp2
        refine Mix.region_mixL (Mix.kinds [0, 7] [3] [8]) (by kernel_rfl) (by kernel_rfl) ?_
        refine Mix.new rfl (by rfl) (fun b => .slice (some ⟨b, 0, none⟩) 0 0) (.cells #[] 25) (fun w => by simp [go_sem]) (fun E x hE hxE => ?_)
        simp only [Act.put, List.setIfInBounds_toArray, List.set]
        repeat ((with_reducible refine Mix.atCons ?_); first | refine Mix.skipU (by rfl) rfl (by rfl) ?_ | (refine Mix.val rfl rfl (by rfl) (fun K hK => ?_); go_big_quiet_op; refine hK _ ?_; clear hK K))
        refine Mix.loud rfl (by rfl) (fun x1 K1 hK => ?_)
        have hE2 : x1.w.ownsRow y.w.heap.size 25 1 (.slice (some ⟨E, 0, none⟩) 0 0) 0 [] := ⟨rfl, .inr ⟨E, 0, #[], rfl, hE, (x1.le.block E (Array.getElem?_eq_some_iff.1 hxE).1).trans hxE, Nat.le_refl _, by simp [maxLen], rfl, rfl⟩⟩
        obtain ⟨a2, n2, c2, q2, hrun2, hN2⟩ := app_rows_empty (W.step ((y.step x).step x1)) (lx := w.heap.size) (lo := y.w.heap.size) (Nat.le_refl _) (Nat.le_trans W.size y.size) hE2 hn (by omega) (Nat.le_trans x.size x1.size) (by omega) 22
        refine Lib.wp_append_run_sl _ _ _ 22 rfl _ _ rfl rfl hrun2 ?_
        refine hK _ q2 ?_
        clear hK hrun2
        simp only [Act.put, List.setIfInBounds_toArray, List.set]
        repeat ((with_reducible refine Mix.atCons ?_); first | refine Mix.skipU (by rfl) rfl (by rfl) ?_ | (refine Mix.val rfl rfl (by rfl) (fun K hK => ?_); go_big_quiet_op; refine hK _ ?_; clear hK K))
        refine Mix.new rfl (by rfl) (fun b => .pointer (some ⟨b, 0, none⟩)) (.cells #[.slice none 0 0, .slice none 0 0] 24) (fun w => by simp [go_sem]) (fun X x3 hX hxX => ?_)
        simp only [Act.put, List.setIfInBounds_toArray, List.set]
        refine Mix.last rfl (by rfl) (fun x4 K4 hK => ?_)
        have hbX : BoxB x4.w X (.slice none 0 0) (.slice none 0 0) := (x4.le.block X (Array.getElem?_eq_some_iff.1 hxX).1).trans hxX
        have gX0 := hbX.cell0
        have gX1 := hbX.cell1
        have fX0 := hbX.frozen0
        have fX1 := hbX.frozen1
        have sX := hbX.lt
        go_wp2_with fail
        have hbX5 := (hbX.set0 (.slice a2 n2 c2)).set1 (.slice aS ss.length cS)
        have hlX : w.heap.size ≤ X := Nat.le_trans W.size (Nat.le_trans y.size hX)
        have hN5 := (((hN2.later x3).later x4).set0 hbX hlX 0 (.slice a2 n2 c2)).set0 (hbX.set0 (.slice a2 n2 c2)) hlX 1 (.slice aS ss.length cS)
        have hB5 : Below y.w.heap.size y.w ((x4.w.setCell ⟨X, 0, none⟩ (.slice a2 n2 c2)).setCell ⟨X, 1, none⟩ (.slice aS ss.length cS)) := ((((((x.step x1).step q2).step x3).step x4).le).setCell (p := ⟨X, 0, none⟩) hX _).setCell (p := ⟨X, 1, none⟩) hX _
        obtain ⟨Z, hZ⟩ : ∃ Z : Later y.w, Z.w = (x4.w.setCell ⟨X, 0, none⟩ (.slice a2 n2 c2)).setCell ⟨X, 1, none⟩ (.slice aS ss.length cS) := ⟨⟨_, hB5⟩, rfl⟩
        rw [← hZ] at hbX5 hN5 ⊢
        clear hZ hB5 hbX gX0 gX1 fX0 fX1 sX hN2 hE2 hxX hxE
        refine Mix.done (fun x5 => ?_)
        have hbX6 := hbX5.later x5
        have hN6 := hN5.later x5
        have hM6 := ((hM.later Z).later x5)
        have hI6 := hM6.ints (by omega)
        obtain ⟨g, e1, e2, hlg, hgs, hnc, fG, ⟨uG, gG⟩, hst, hgr⟩ := hN6.stored hlt hI6 (Sep.of_own hM6) (Nat.le_trans W.size y.size)
        have hXg : some X ≠ some g := by have := hN6.not_box hbX6; rw [e1] at this; exact this
        subst e1 e2
        have hbX7 := hbX6.kept hgr hXg
        have hbR7 := ((hbR.later Z).later x5).kept hgr (by intro e; cases e; have := hbR.lt; omega)
        have gX0 := hbX6.cell0
        have hX70 := hbX7.cell0
        have hX71 := hbX7.cell1
        have hR70 := hbR7.cell0
        have hR71 := hbR7.cell1
        have fR70 := hbR7.frozen0
        have fR71 := hbR7.frozen1
        have sX6 := hbX6.lt
        have sX7 := hbX7.lt
        have sR7 := hbR7.lt
        go_wp2
        have hbR9 := (hbR7.set0 (.slice (some ⟨g, 0, none⟩) ns.length c2)).set1 (.slice aS ss.length cS)
        have hst9 := (hst.set0 hbR7 (by omega) 0 (.slice (some ⟨g, 0, none⟩) ns.length c2)).set0 (hbR7.set0 (.slice (some ⟨g, 0, none⟩) ns.length c2)) (by omega) 1 (.slice aS ss.length cS)
        have hgw : w.heap.size ≤ g := Nat.le_trans W.size (Nat.le_trans y.size hlg)
        have hB9 := ((((W.step ((y.step Z).step x5)).le.setCell (p := ⟨g, n, none⟩) hgw (.slice am nm cm)).setCell (p := ⟨w.heap.size + 1, 0, none⟩) (Nat.le_succ _) (.slice (some ⟨g, 0, none⟩) ns.length c2)).setCell (p := ⟨w.heap.size + 1, 1, none⟩) (Nat.le_succ _) (.slice aS ss.length cS))
        have hR9 := hst9.rows (Nat.le_trans W.size y.size) (by rw [List.length_set]; omega)
        rw [← hfin.out] at hR9
        refine bodyPost_ret (results_agg2 rfl _ _ _ rfl (fun w => by kernel_rfl) (fun w => by kernel_rfl) hbR9.cell0 hbR9.cell1) rfl ?_
        exact ⟨_, ⟨_, hB9⟩, rfl, rfl, _, rfl, hR9⟩
      · have hll : 0 < left.length := List.length_pos_iff.2 hne
        obtain ⟨bb, ob, cb, e, hcb, hbb, hgb⟩ := hqb.at hkb
        cases e
        have gb := (y.cell hbb).trans (hgb k hkb)
        have sb : bb < y.w.heap.size := Nat.lt_of_lt_of_le hbb y.size
        have hx := hb2.out k hkb
        have hd := Lib.hid (replF_drop bs left acc k hkb hne)
        have k0 := Int.emod_nonneg (nth bs k) (show ((left.length : Int) + 1) ≠ 0 by omega)
        have k1 := Int.emod_lt_of_pos (nth bs k) (show (0 : Int) < (left.length : Int) + 1 by omega)
        obtain ⟨K, hK⟩ : ∃ K : Nat, nth bs k % ((left.length : Int) + 1) = K := ⟨(nth bs k % ((left.length : Int) + 1)).toNat, by omega⟩
        rw [hK, Int.toNat_natCast] at hd
        rw [hK] at k0 k1
        have e1 : IntKind.i64.wrap ((left.length : Int) + 1) = (left.length : Int) + 1 := IntWalk.i64_in _ (by omega)
        have e2 : IntKind.i64.wrap (nth bs k) = nth bs k := IntWalk.i64_in _ (by omega)
        obtain ⟨bl, ol, cl', e, hcl, hbl', hgl⟩ := hL.at hll
        cases e
        clear hgb
        by_cases hKl : K = left.length
        · subst hKl
          have hd2 := Lib.hid (show replF bs (row ns n) [] = replF (bs.drop (k + 1)) (left.drop 1) acc by rw [hrep.out, hd.out, if_pos rfl])
          go_wp2
          go_roundw
          case rel => exact ⟨k + 1, left.drop 1, acc, y, rfl, by omega, by go_num, hL.fromS (j := 1) (by omega), by rw [List.length_drop]; omega, by omega, hM, hap.sub (by omega), hd2⟩
          case measure => simp [intOf]; omega
        · have hKlt : K < left.length := by omega
          have hd2 := Lib.hid (show replF bs (row ns n) [] = replF (bs.drop (k + 1)) (left.take K ++ left.drop (K + 1)) (acc ++ [nth left K]) by rw [hrep.out, hd.out, if_neg hKl])
          have gl := hgl K hKlt
          obtain ⟨v', q1, hrun1, hN1, hg1⟩ := app_int_step y.le hM (nth left K) (by omega) 25
          obtain ⟨a1, n1, c1, rfl⟩ := hN1.form'
          have hL1 := hL.kept hg1 hap
          have hM1 := Lib.hid fun j hj => (World.ownsRow.lt hN1 j hj).2
          have HR := Lib.hid hrun1
          have e3 : IntKind.i64.wrap ((K : Int) + 1) = (K : Int) + 1 := IntWalk.i64_in _ (by omega)
          have hcll : left.length ≤ cl := hcl
          clear hrun1 hgl hd hrep
          go_wp2_with ((with_reducible show wpList _ _ _ (⟨some 51, _, _, _, _, _⟩ :: _) _ _); refine Lib.wpList_append_run_sl _ rfl _ _ 25 rfl _ _ rfl rfl HR.out ?_)
          refine Mix.region_mixL (Mix.kinds [0] [4] [9, 10]) (by kernel_rfl) (by kernel_rfl) ?_
          refine Mix.new rfl (by rfl) (fun b => .slice (some ⟨b, 0, none⟩) 0 0) (.cells #[] 3) (fun w => by simp [go_sem]) (fun E x hE hxE => ?_)
          simp only [Act.put, List.setIfInBounds_toArray, List.set]
          repeat ((with_reducible refine Mix.atCons ?_); first | refine Mix.skipU (by rfl) rfl (by rfl) ?_ | (refine Mix.val rfl rfl (by rfl) (fun K hK => ?_); go_big_quiet_op; refine hK _ ?_; clear hK K))
          refine Mix.loud rfl (by rfl) (fun x1 K1 hK => ?_)
          have hE2 : IntsN q1.w.heap.size x1.w (.slice (some ⟨E, 0, none⟩) 0 0) [] := (IntsN.of_block hE hxE).later x1
          obtain ⟨a2, n2, c2, q2, hrun2, hN2⟩ := app_empty hE2 (((hL1.takeS (j := K) (by omega)).later x).later x1) (Nat.le_trans x.size x1.size) (by rw [List.length_take]; omega) 25
          refine Lib.wp_append_run_sl _ _ _ 25 rfl _ _ rfl rfl hrun2 ?_
          refine hK _ q2 ?_
          clear hK hrun2
          simp only [Act.put, List.setIfInBounds_toArray, List.set]
          repeat ((with_reducible refine Mix.atCons ?_); first | refine Mix.skipU (by rfl) rfl (by rfl) ?_ | (refine Mix.val rfl rfl (by rfl) (fun K hK => ?_); go_big_quiet_op; refine hK _ ?_; clear hK K))
          refine Mix.lastR rfl (by rfl) (by decide) (fun x3 K3 hK => ?_)
          have hN2' := hN2.later x3
          obtain ⟨v3, w3, hrun3, hN3, hg3⟩ := run_app_ints x3.w q1.w.heap.size _ _ (left.take K) (left.drop (K + 1)) hN2' (((((hL1.fromS (j := K + 1) (by omega)).later x).later x1).later q2).later x3) (Nat.le_trans x.size (Nat.le_trans x1.size (Nat.le_trans q2.size x3.size))) (by rw [List.length_take, List.length_drop]; omega) 25
          obtain ⟨a3, n3, c3, rfl⟩ := hN3.form'
          refine Lib.wp_append_run_sl _ _ _ 25 rfl _ _ rfl rfl hrun3 ?_
          refine hK _ _ ?_
          clear hK
          simp only [Act.put, List.setIfInBounds_toArray, List.set]
          have hB3 : Below q1.w.heap.size q1.w w3 := (((x.step x1).step q2).step x3).le.trans (hN2'.below hg3 (Nat.le_trans x.size (Nat.le_trans x1.size (Nat.le_trans q2.size x3.size))))
          obtain ⟨Z, hZ⟩ : ∃ Z : Later q1.w, Z.w = w3 := ⟨⟨w3, hB3⟩, rfl⟩
          rw [← hZ] at hN3 hrun3 ⊢
          clear hg3 hB3 hZ hrun3 hN2' hN2 hE2
          refine Mix.last rfl (by rfl) (fun x4 K4 hK => ?_)
          go_wp2_with fail
          all_goals
            refine Mix.done (fun x5 => ?_)
            go_wp2
            go_roundw
            case rel => exact ⟨k + 1, _, _, ((q1.step Z).step x4).step x5, rfl, by omega, by go_num, ((hN3.ints (by rw [List.length_append, List.length_take, List.length_drop]; omega)).later x4).later x5, by rw [List.length_append, List.length_take, List.length_drop]; omega, by simp; omega, ((hN1.later Z).later x4).later x5, Apart2.of_lt ((hN3.later x4).later x5) hM1.out, hd2⟩
            case measure => simp [intOf]; omega
    · have hfin := Lib.hid (show replF bs (row ns n) [] = acc by rw [hrep.out, replF_end _ _ _ _ (.inl (by omega))])
      have hbB := hB0.later y
      have hbR := hR0.later y
      have gB0 := hbB.cell0
      have gB1 := hbB.cell1
      have sB := hbB.lt
      clear hrep hap hL hqb
      go_wp2
      refine Mix.region_mixL (Mix.kinds [0, 7] [3] [8]) (by kernel_rfl) (by kernel_rfl) ?_
      refine Mix.new rfl (by rfl) (fun b => .slice (some ⟨b, 0, none⟩) 0 0) (.cells #[] 25) (fun w => by simp [go_sem]) (fun E x hE hxE => ?_)
      simp only [Act.put, List.setIfInBounds_toArray, List.set]
      repeat ((with_reducible refine Mix.atCons ?_); first | refine Mix.skipU (by rfl) rfl (by rfl) ?_ | (refine Mix.val rfl rfl (by rfl) (fun K hK => ?_); go_big_quiet_op; refine hK _ ?_; clear hK K))
      refine Mix.loud rfl (by rfl) (fun x1 K1 hK => ?_)
      have hE2 : x1.w.ownsRow y.w.heap.size 25 1 (.slice (some ⟨E, 0, none⟩) 0 0) 0 [] := ⟨rfl, .inr ⟨E, 0, #[], rfl, hE, (x1.le.block E (Array.getElem?_eq_some_iff.1 hxE).1).trans hxE, Nat.le_refl _, by simp [maxLen], rfl, rfl⟩⟩
      obtain ⟨a2, n2, c2, q2, hrun2, hN2⟩ := app_rows_empty (W.step ((y.step x).step x1)) (lx := w.heap.size) (lo := y.w.heap.size) (Nat.le_refl _) (Nat.le_trans W.size y.size) hE2 hn (by omega) (Nat.le_trans x.size x1.size) (by omega) 22
      refine Lib.wp_append_run_sl _ _ _ 22 rfl _ _ rfl rfl hrun2 ?_
      refine hK _ q2 ?_
      clear hK hrun2
      simp only [Act.put, List.setIfInBounds_toArray, List.set]
      repeat ((with_reducible refine Mix.atCons ?_); first | refine Mix.skipU (by rfl) rfl (by rfl) ?_ | (refine Mix.val rfl rfl (by rfl) (fun K hK => ?_); go_big_quiet_op; refine hK _ ?_; clear hK K))
      refine Mix.new rfl (by rfl) (fun b => .pointer (some ⟨b, 0, none⟩)) (.cells #[.slice none 0 0, .slice none 0 0] 24) (fun w => by simp [go_sem]) (fun X x3 hX hxX => ?_)
      simp only [Act.put, List.setIfInBounds_toArray, List.set]
      refine Mix.last rfl (by rfl) (fun x4 K4 hK => ?_)
      have hbX : BoxB x4.w X (.slice none 0 0) (.slice none 0 0) := (x4.le.block X (Array.getElem?_eq_some_iff.1 hxX).1).trans hxX
      have gX0 := hbX.cell0
      have gX1 := hbX.cell1
      have fX0 := hbX.frozen0
      have fX1 := hbX.frozen1
      have sX := hbX.lt
      go_wp2_with fail
      have hbX5 := (hbX.set0 (.slice a2 n2 c2)).set1 (.slice aS ss.length cS)
      have hlX : w.heap.size ≤ X := Nat.le_trans W.size (Nat.le_trans y.size hX)
      have hN5 := (((hN2.later x3).later x4).set0 hbX hlX 0 (.slice a2 n2 c2)).set0 (hbX.set0 (.slice a2 n2 c2)) hlX 1 (.slice aS ss.length cS)
      have hB5 : Below y.w.heap.size y.w ((x4.w.setCell ⟨X, 0, none⟩ (.slice a2 n2 c2)).setCell ⟨X, 1, none⟩ (.slice aS ss.length cS)) := ((((((x.step x1).step q2).step x3).step x4).le).setCell (p := ⟨X, 0, none⟩) hX _).setCell (p := ⟨X, 1, none⟩) hX _
      obtain ⟨Z, hZ⟩ : ∃ Z : Later y.w, Z.w = (x4.w.setCell ⟨X, 0, none⟩ (.slice a2 n2 c2)).setCell ⟨X, 1, none⟩ (.slice aS ss.length cS) := ⟨⟨_, hB5⟩, rfl⟩
      rw [← hZ] at hbX5 hN5 ⊢
      clear hZ hB5 hbX gX0 gX1 fX0 fX1 sX hN2 hE2 hxX hxE
      refine Mix.done (fun x5 => ?_)
      have hbX6 := hbX5.later x5
      have hN6 := hN5.later x5
      have hM6 := ((hM.later Z).later x5)
      have hI6 := hM6.ints (by omega)
      obtain ⟨g, e1, e2, hlg, hgs, hnc, fG, ⟨uG, gG⟩, hst, hgr⟩ := hN6.stored hlt hI6 (Sep.of_own hM6) (Nat.le_trans W.size y.size)
      have hXg : some X ≠ some g := by have := hN6.not_box hbX6; rw [e1] at this; exact this
      subst e1 e2
      have hbX7 := hbX6.kept hgr hXg
      have hbR7 := ((hbR.later Z).later x5).kept hgr (by intro e; cases e; have := hbR.lt; omega)
      have gX0 := hbX6.cell0
      have hX70 := hbX7.cell0
      have hX71 := hbX7.cell1
      have hR70 := hbR7.cell0
      have hR71 := hbR7.cell1
      have fR70 := hbR7.frozen0
      have fR71 := hbR7.frozen1
      have sX6 := hbX6.lt
      have sX7 := hbX7.lt
      have sR7 := hbR7.lt
      go_wp2
      have hbR9 := (hbR7.set0 (.slice (some ⟨g, 0, none⟩) ns.length c2)).set1 (.slice aS ss.length cS)
      have hst9 := (hst.set0 hbR7 (by omega) 0 (.slice (some ⟨g, 0, none⟩) ns.length c2)).set0 (hbR7.set0 (.slice (some ⟨g, 0, none⟩) ns.length c2)) (by omega) 1 (.slice aS ss.length cS)
      have hgw : w.heap.size ≤ g := Nat.le_trans W.size (Nat.le_trans y.size hlg)
      have hB9 := ((((W.step ((y.step Z).step x5)).le.setCell (p := ⟨g, n, none⟩) hgw (.slice am nm cm)).setCell (p := ⟨w.heap.size + 1, 0, none⟩) (Nat.le_succ _) (.slice (some ⟨g, 0, none⟩) ns.length c2)).setCell (p := ⟨w.heap.size + 1, 1, none⟩) (Nat.le_succ _) (.slice aS ss.length cS))
      have hR9 := hst9.rows (Nat.le_trans W.size y.size) (by rw [List.length_set]; omega)
      rw [← hfin.out] at hR9
      refine bodyPost_ret (results_agg2 rfl _ _ _ rfl (fun w => by kernel_rfl) (fun w => by kernel_rfl) hbR9.cell0 hbR9.cell1) rfl ?_
      exact ⟨_, ⟨_, hB9⟩, rfl, rfl, _, rfl, hR9⟩


/-- the region of the last line -/
def tabH : List Tab := [⟨[], some 42, [10]⟩, ⟨[0], some 43, [42]⟩, ⟨[1], some 44, [43]⟩, ⟨[2], some 45, [12, 44]⟩, ⟨[3, 2], some 46, [45, 44]⟩, ⟨[2, 4], some 47, [44, 46]⟩, ⟨[5, 2], some 48, [47]⟩, ⟨[6], some 49, [9, 48]⟩, ⟨[7, 6], some 50, [49, 48]⟩, ⟨[6], some 51, [3, 48]⟩, ⟨[9, 6], some 52, [51, 48]⟩, ⟨[10, 6], some 53, [52, 48]⟩, ⟨[8, 11, 6], some 54, [50, 53, 48]⟩, ⟨[6, 12], some 55, [48, 54]⟩, ⟨[13, 6], some 56, [55]⟩, ⟨[14], some 57, [11, 56]⟩, ⟨[15, 14], some 58, [57, 56]⟩, ⟨[14], some 59, [3, 56]⟩, ⟨[17, 14], some 60, [59, 56]⟩, ⟨[18, 14], some 61, [60, 56]⟩, ⟨[16, 19, 14], some 62, [58, 61, 56]⟩, ⟨[14, 20], some 63, [56, 62]⟩, ⟨[21, 14], some 64, [63]⟩, ⟨[22], some 65, [11, 64]⟩, ⟨[22], some 66, [7, 64]⟩, ⟨[23, 24, 22], some 67, [65, 66, 64]⟩, ⟨[25, 22], some 68, [67, 64]⟩, ⟨[26, 22], some 69, [68, 64]⟩, ⟨[22, 27], some 70, [64, 69]⟩, ⟨[28, 22], some 71, [70]⟩, ⟨[29], some 72, [11, 71]⟩, ⟨[29], some 73, [7, 71]⟩, ⟨[30, 31, 29], some 74, [72, 73, 71]⟩, ⟨[32, 29], some 75, [74, 71]⟩, ⟨[29], some 76, [3, 71]⟩, ⟨[34, 29], some 77, [76, 71]⟩, ⟨[35, 29], some 78, [77, 71]⟩, ⟨[33, 36, 29], some 79, [75, 78, 71]⟩, ⟨[29, 37], some 80, [71, 79]⟩, ⟨[38, 29], some 81, [80]⟩, ⟨[39], some 82, [3, 81]⟩, ⟨[40, 39], some 83, [82, 81]⟩, ⟨[39], some 84, [7, 81]⟩, ⟨[41, 42, 39], some 85, [83, 84, 81]⟩, ⟨[43, 39], some 86, [85, 81]⟩, ⟨[39], some 87, [11, 81]⟩, ⟨[39], some 88, [7, 81]⟩, ⟨[45, 46, 39], some 89, [87, 88, 81]⟩, ⟨[47, 39], some 90, [89, 81]⟩, ⟨[39], some 91, [9, 81]⟩, ⟨[39], some 92, [7, 81]⟩, ⟨[49, 50, 39], some 93, [91, 92, 81]⟩, ⟨[51, 39], some 94, [93, 81]⟩, ⟨[44, 48, 52, 39, 39], some 95, [86, 90, 94, 81]⟩, ⟨[53, 39], some 96, [95, 81]⟩, ⟨[39, 54], some 97, [81, 96]⟩, ⟨[55, 53], some 98, [97]⟩, ⟨[56, 56], some 99, [98]⟩, ⟨[56, 57], some 100, [98, 99]⟩, ⟨[58, 57, 0, 1, 2, 3, 4, 5, 6, 7, 8, 9, 10, 11, 12, 13, 14, 15, 16, 17, 18, 19, 20, 21, 22, 23, 24, 25, 26, 27, 28, 29, 30, 31, 32, 33, 34, 35, 36, 37, 38, 39, 40, 41, 42, 43, 44, 45, 46, 47, 48, 49, 50, 51, 52, 53, 54, 55, 56, 57, 58], some 6, [100]⟩]
set_option maxRecDepth 100000 in
set_option maxHeartbeats 4000000 in
theorem LHonest_calls (nv sv : Value) (ns ss : List (List Int)) (a : Int) (bv : Value) (bs : List Int) (w : World) (hn : Rows2 w nv ns) (hs : Rows2 w sv ss) (ha0 : 0 ≤ a) (ha1 : a ≤ 255) (hb : Byts w bv bs) :
    Calls Try.prog 12 #[.agg #[nv, sv], .int .u8 a, bv] w (Gives (.bool true) w) := by
  have hnl := hn.1
  have hsl := hs.1
  obtain ⟨an, cn, rfl⟩ := hn.form
  obtain ⟨aS, cS, rfl⟩ := hs.form
  have lhb := hb.1
  obtain ⟨ahb, chb, rfl⟩ := hb.form
  by_cases hv : vbook ns ss = 0
  rotate_left
  · have hvb : (vbook ns ss == 0) = false := by simpa using hv
    clear hv
    go_enter Try.func12, Try.ntmps12
    go_wp2_with fail
    obtain ⟨B, hB⟩ : ∃ B, B = w.heap.size := ⟨_, rfl⟩
    obtain ⟨z, hz⟩ : ∃ z : Later w, z.w = w.alloc (.cells #[.slice an ns.length cn, .slice aS ss.length cS] 24) := ⟨Later.new _ _, rfl⟩
    have c0 : z.w.cell? ⟨B, 0, none⟩ = some (.slice an ns.length cn) := by rw [hz, hB]; simp [go_sem]
    have c1 : z.w.cell? ⟨B, 1, none⟩ = some (.slice aS ss.length cS) := by rw [hz, hB]; simp [go_sem]
    have hBz : B < z.w.heap.size := by rw [hz, hB]; simp [go_sem]
    have HZ : Hid (z.w.heap.size = B + 1) := Lib.hid (by rw [hz, hB]; simp)
    rw [← hz, ← hB]
    replace hn := hn.later z
    replace hs := hs.later z
    replace hb := hb.later z
    clear hz hB
    refine (fine_calls _ _ ns ss _ hn hs).mono ?_
    rintro e w' ⟨rfl, x, rfl⟩
    rw [hvb]
    go_wp2_with fail
    refine (Works_calls x.w).mono ?_
    rintro e w' ⟨rfl, y, rfl⟩
    go_wp2
    go_ret
    exact ⟨rfl, (z.step x).step y, rfl⟩
  have hvb : (vbook ns ss == 0) = true := by rw [hv]; rfl
  have HV := Lib.hid hv
  clear hv
  by_cases hg : 20 < bs.length
  · go_enter Try.func12, Try.ntmps12
    go_wp2_with fail
    obtain ⟨B, hB⟩ : ∃ B, B = w.heap.size := ⟨_, rfl⟩
    obtain ⟨z, hz⟩ : ∃ z : Later w, z.w = w.alloc (.cells #[.slice an ns.length cn, .slice aS ss.length cS] 24) := ⟨Later.new _ _, rfl⟩
    have c0 : z.w.cell? ⟨B, 0, none⟩ = some (.slice an ns.length cn) := by rw [hz, hB]; simp [go_sem]
    have c1 : z.w.cell? ⟨B, 1, none⟩ = some (.slice aS ss.length cS) := by rw [hz, hB]; simp [go_sem]
    have hBz : B < z.w.heap.size := by rw [hz, hB]; simp [go_sem]
    have HZ : Hid (z.w.heap.size = B + 1) := Lib.hid (by rw [hz, hB]; simp)
    rw [← hz, ← hB]
    replace hn := hn.later z
    replace hs := hs.later z
    replace hb := hb.later z
    clear hz hB
    refine (fine_calls _ _ ns ss _ hn hs).mono ?_
    rintro e w' ⟨rfl, x, rfl⟩
    rw [hvb]
    go_wp2_with fail
    refine (Works_calls x.w).mono ?_
    rintro e w' ⟨rfl, y, rfl⟩
    go_wp2
    go_ret
    exact ⟨rfl, (z.step x).step y, rfl⟩
  go_enter Try.func12, Try.ntmps12
  go_wp2_with fail
  obtain ⟨B, hB⟩ : ∃ B, B = w.heap.size := ⟨_, rfl⟩
  obtain ⟨z, hz⟩ : ∃ z : Later w, z.w = w.alloc (.cells #[.slice an ns.length cn, .slice aS ss.length cS] 24) := ⟨Later.new _ _, rfl⟩
  have c0 : z.w.cell? ⟨B, 0, none⟩ = some (.slice an ns.length cn) := by rw [hz, hB]; simp [go_sem]
  have c1 : z.w.cell? ⟨B, 1, none⟩ = some (.slice aS ss.length cS) := by rw [hz, hB]; simp [go_sem]
  have hBz : B < z.w.heap.size := by rw [hz, hB]; simp [go_sem]
  have HZ : Hid (z.w.heap.size = B + 1) := Lib.hid (by rw [hz, hB]; simp)
  rw [← hz, ← hB]
  replace hn := hn.later z
  replace hs := hs.later z
  replace hb := hb.later z
  clear hz hB
  refine (fine_calls _ _ ns ss _ hn hs).mono ?_
  rintro e w' ⟨rfl, x, rfl⟩
  rw [hvb]
  clear hvb
  
  have hposN : 0 < ns.length := (vbook_valid HV.out).1
  have ra0 := Int.emod_nonneg a (show (ns.length : Int) ≠ 0 by omega)
  have ra1 := Int.emod_lt_of_pos a (show (0 : Int) < ns.length by omega)
  obtain ⟨N, hN⟩ : ∃ N : Nat, a % (ns.length : Int) = N := ⟨(a % (ns.length : Int)).toNat, by omega⟩
  have hNl : N < ns.length := by omega
  have h6 : ns.length ≤ 6 := (vbook_valid HV.out).2.1
  have hr6 : (row ns N).length ≤ 6 := by
    have hb := vbook_valid HV.out
    have := SM.nodup_len (l2 := (List.range ss.length).map fun (s : Nat) => (s : Int)) (hb.2.2.2.2.1 _ (row_mem hNl)) (fun y hy => by
      have := hb.2.2.2.2.2.2.1 _ (row_mem hNl) y hy
      exact List.mem_map.2 ⟨y.toNat, List.mem_range.2 (by omega), by omega⟩)
    simp at this
    omega
  have hbs := hb.2.1
  have hrl := Lib.hid (repl_ok HV.out hNl hbs)
  have hH := Lib.hid (honest HV.out hNl hrl.out.1 hrl.out.2)
  have hVx := Lib.hid (set_valid HV.out hNl hrl.out.1 hrl.out.2)
  obtain ⟨L, hL⟩ : ∃ L, replF bs (row ns N) [] = L := ⟨_, rfl⟩
  have hRp := replaced_calls _ _ _ ns ss bs N x.w (hn.later x) (hs.later x) (hb.later x) hNl h6 hr6 (by omega)
  rw [hL] at hRp hH hVx
  clear hL hrl hbs ra0 ra1
  have gB0 : x.w.cell? ⟨B, 0, none⟩ = some (.slice an ns.length cn) := ((x).cell hBz).trans c0
  have gB1 : x.w.cell? ⟨B, 1, none⟩ = some (.slice aS ss.length cS) := ((x).cell hBz).trans c1
  have sB : B < x.w.heap.size := Nat.lt_of_lt_of_le hBz (x).size
  go_wp2_with fail
  refine hRp.mono ?_
  clear hRp
  rintro e w' ⟨v, y, rfl, rfl, nv', rfl, hX⟩
  obtain ⟨aX, nX, cX, rfl⟩ : ∃ a n c, nv' = .slice a n c := by obtain ⟨a, c, e⟩ := hX.form; exact ⟨a, _, c, e⟩
  clear gB0 gB1 sB
  have gB0 : y.w.cell? ⟨B, 0, none⟩ = some (.slice an ns.length cn) := ((x.step y).cell hBz).trans c0
  have gB1 : y.w.cell? ⟨B, 1, none⟩ = some (.slice aS ss.length cS) := ((x.step y).cell hBz).trans c1
  have sB : B < y.w.heap.size := Nat.lt_of_lt_of_le hBz (x.step y).size
  obtain ⟨q, hq⟩ : ∃ q : Later z.w, q.w = y.w.alloc (.cells #[.slice aX nX cX, .slice aS ss.length cS] 24) := ⟨(x.step y).step (Later.new _ _), rfl⟩
  have hbx : BoxB q.w y.w.heap.size (.slice aX nX cX) (.slice aS ss.length cS) := by rw [hq]; exact BoxB.new _ _ _
  have hXq : Rows2 q.w (.slice aX nX cX) (ns.set N L) := by rw [hq]; exact hX.later (Later.new _ _)
  have cF := First_calls _ _ ns ss q.w (hn.later q) (hs.later q)
  rw [FirstR, if_pos HV.out, HV.out] at cF
  go_wp2_with fail
  rw [← hq]
  refine cF.mono ?_
  clear cF hq gB0 gB1 sB hX
  rintro e w' ⟨fv, y2, rfl, rfl, hF⟩
  replace hbx := hbx.later y2
  replace hXq := hXq.later y2
  obtain ⟨q2, hq2⟩ : ∃ q2 : Later z.w, y2.w = q2.w := ⟨q.step y2, rfl⟩
  rw [hq2] at hbx hXq hF ⊢
  clear hq2 y2 q
  have gx0 := hbx.cell0
  have gx1 := hbx.cell1
  have sX := hbx.lt
  have cG := First_calls _ _ (ns.set N L) ss q2.w hXq (hs.later q2)
  rw [FirstR, if_pos hVx.out, hVx.out] at cG
  obtain ⟨aF, cF, rfl⟩ := hF.form
  go_wp2_with fail
  refine cG.mono ?_
  clear cG gx0 gx1 sX hbx
  rintro e w' ⟨gv, y3, rfl, rfl, hG⟩
  replace hF := hF.later y3
  obtain ⟨q, hq⟩ : ∃ q : Later z.w, y3.w = q.w := ⟨q2.step y3, rfl⟩
  rw [hq] at hF hG ⊢
  clear hq y3 hXq q2
  obtain ⟨aG, cG, rfl⟩ := hG.form
  have sG := claims_sett hVx.out
  obtain ⟨g, eg⟩ : ∃ g, claimsF (tabOf (ns.set N L) ss) (ns.set N L) = g := ⟨_, rfl⟩
  obtain ⟨f, ef⟩ : ∃ f, claimsF (tabOf ns ss) ns = f := ⟨_, rfl⟩
  have lF : f.length = ns.length := by rw [← ef]; exact claimsF_len _ _
  rw [eg] at hG hH sG ⊢
  rw [ef] at hF hH ⊢
  have lG : g.length = ns.length := by rw [sG.1.len, List.length_set]
  have hg0 : -1 ≤ nth g N := sG.1.lo N (by rw [List.length_set]; exact hNl)
  have hg1 : nth g N < ss.length := sG.1.hi N (by rw [List.length_set]; exact hNl)
  clear eg ef sG
  obtain ⟨bF, oF, cF', e, hcpF, hbF, hcF⟩ := hF.at (k := N) (by omega)
  cases e
  obtain ⟨bG, oG, cG', e, hcpG, hbG, hcG⟩ := hG.at (k := N) (by omega)
  cases e
  have gF := hcF N (by omega)
  have gG := hcG N (by omega)
  have gB0 : q.w.cell? ⟨B, 0, none⟩ = some (.slice an ns.length cn) := ((q).cell hBz).trans c0
  have gB1 : q.w.cell? ⟨B, 1, none⟩ = some (.slice aS ss.length cS) := ((q).cell hBz).trans c1
  have sB : B < q.w.heap.size := Nat.lt_of_lt_of_le hBz (q).size
  obtain ⟨bn, on, cn', fn, e, hcpn, hbn, hcn⟩ := hn.at hNl
  cases e
  obtain ⟨gn0, hrj⟩ := hcn N hNl
  have gn : q.w.cell? ⟨bn, on + N, none⟩ = some (fn N) := (q.cell hbn).trans gn0
  have sn : bn < q.w.heap.size := Nat.lt_of_lt_of_le hbn q.size
  have R1 := fun (u : Later q.w) => lrather_calls (fn N) (row ns N) (nth g N) (nth f N) u.w ((hrj.later q).later u)
  rw [hH.out] at R1
  have R1 := Lib.hid R1
  clear hcF hcG hcn gn0
  rw [lF, lG]
  go_wp2
  refine region_later_lit (by kernel_rfl) (lexB_tab tabH (by kernel_rfl) (by kernel_rfl) (by kernel_rfl)) ?_
  repeat (first | go_big_quiet_step (first
       | (go_at_call 44; (with_reducible exact Later.quiet_same _ (R1.out _)))
       | (go_at_call 18; exact Later.quiet _ (Works_calls _))))
  refine wpQuiet_nil ?_
  intro u
  go_wp2
  go_ret
  exact ⟨rfl, (z.step q).step u, rfl⟩
end Go.Proofs.Ytieaibebnkdmhaa
