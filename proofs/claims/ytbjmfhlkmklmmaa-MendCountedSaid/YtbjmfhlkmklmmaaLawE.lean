import Derived.Test.YtbjmfhlkmklmmaaLawD
/-  sized: a plate out of numbers, of the size of another one. -/
namespace Go.Proofs.Ytbjmfhlkmklmmaa
open Go.RowKit

/-- A struct in a block of the call's own, whose cell k holds a list of the call's own, that grows. -/
structure Fld (W U : World) (C k : Nat) (T : TypeId) (cs : List Value) (v : Value) (xs : List Int) : Prop where
  le : Below W.heap.size W U
  lin : Lin U C T cs
  val : cs[k]? = some v
  own : IntsN W.heap.size U v xs
  ne : v.ownBlock ≠ some C
  lo : W.heap.size ≤ C
theorem Fld.later {W U : World} {C k : Nat} {T : TypeId} {cs : List Value} {v : Value} {xs : List Int} (h : Fld W U C k T cs v xs) (y : Later U) : Fld W y.w C k T cs v xs :=
  ⟨h.le.trans (y.le.mono h.le.size), h.lin.later y, h.val, h.own.later y, h.ne, h.lo⟩
theorem Fld.app {W U : World} {C k : Nat} {T : TypeId} {cs : List Value} {v : Value} {xs : List Int} (h : Fld W U C k T cs v xs) (y : Int) (hbig : xs.length + 1 ≤ 1000000000000) (ty : TypeId) :
    ∃ v', ∃ q : Later W, (Builtin.append_ #[22, 22] ty #[v, .slice (some ⟨U.heap.size, 0, none⟩) 1 1]).run Try.prog (U.alloc (.cells #[.int .i64 y] 2)) = .ok v' q.w ∧ Lin q.w C T cs ∧ Fld W (q.w.setCell ⟨C, k, none⟩ v') C k T (cs.set k v') v' (xs ++ [y]) := by
  obtain ⟨i, hi, hz, hsz, hby⟩ := info_intN
  have hA' := h.own.later (Later.new U (.cells #[.int .i64 y] 2))
  have hL' := h.lin.later (Later.new U (.cells #[.int .i64 y] 2))
  rw [Later.new_w] at hA' hL'
  have hlo : W.heap.size ≤ (U.alloc (.cells #[.int .i64 y] 2)).heap.size := by have := h.le.size; simp; omega
  obtain ⟨v', w', h1, h2, h3, _, h5⟩ := run_append_own_at (P := Try.prog) (U.alloc (.cells #[.int .i64 y] 2)) W.heap.size 22 ty 2 i (.int .i64 0) 1 8 Try.underlying22 hi hz hsz hby rfl (by decide) v xs.length _ hA'
    ⟨U.heap.size, 0, none⟩ 1 1 [.int .i64 y] rfl (cell_one_new _ _ _) (by intro u hu; simp at hu; subst hu; rfl) (by simp only [maxLen]; omega) (by omega) hlo
  have hb := hA'.below h3 hlo
  have hB : Below W.heap.size W w' := (h.le.alloc h.le.size _).trans hb
  have hne : v'.ownBlock ≠ some C := by
    rcases h5 with e | e
    · rw [e]; exact h.ne
    · rw [e]; intro e2
      injection e2 with e2
      have := h.lin.lt
      rw [World.size_alloc] at e2
      omega
  have hL : Lin w' C T cs := hL'.kept h3 (Ne.symm h.ne)
  have hO : IntsN W.heap.size w' v' (xs ++ [y]) := by
    unfold IntsN
    rw [List.map_append, List.length_append]
    exact h2
  refine ⟨v', ⟨w', hB⟩, h1, hL, hB.setCell (p := ⟨C, k, none⟩) h.lo v', hL.set k v', ?_, hO.kept (grownBy_setCell_at w' C k v') (.inr hne), hne, h.lo⟩
  have hk : k < cs.length := (List.getElem?_eq_some_iff.1 h.val).1
  simp [hk]
/-- the dents of a plate out of numbers -/
def sizedN (ys : List Int) (most : Int) (i : Nat) : Int := if 0 < ys.length then nth ys (i % ys.length) % (most + 1) else 0
def sizedL (ys : List Int) (most : Int) (n : Nat) : List Int := (List.range n).map (sizedN ys most)
theorem sizedL_len (ys : List Int) (most : Int) (n : Nat) : (sizedL ys most n).length = n := by simp [sizedL]
theorem sizedL_snoc (ys : List Int) (most : Int) (k : Nat) : sizedL ys most (k + 1) = sizedL ys most k ++ [sizedN ys most k] := by simp [sizedL, List.range_succ]
theorem ofL_sizedL (ys : List Int) (most : Int) {n j : Nat} (hj : j < n) : ofL (sizedL ys most n) j = sizedN ys most j := by simp [ofL, sizedL, hj]
theorem sizedN_range (ys : List Int) {most : Int} (h : 0 ≤ most) (i : Nat) : 0 ≤ sizedN ys most i ∧ sizedN ys most i ≤ most := by
  rw [sizedN]
  split
  · have h1 := Int.emod_nonneg (nth ys (i % ys.length)) (show most + 1 ≠ 0 by omega)
    have h2 := Int.emod_lt_of_pos (nth ys (i % ys.length)) (show 0 < most + 1 by omega)
    omega
  · exact ⟨Int.le_refl _, h⟩
/-- what 'sized' returns -/
def GivesPl (w h : Int) (L : List Int) (W : World) (e : Ending) (W' : World) : Prop := ∃ zv, ∃ x : Later W, e = .returned (.agg #[.int .i64 w, .int .i64 h, zv]) ∧ W' = x.w ∧ IntsN W.heap.size x.w zv L
/-- a list of the call's own is not a struct -/
theorem IntsN.ne_plate {lo : Nat} {w : World} {v : Value} {xs : List Int} {T : Nat} {cs : List Value} (h : IntsN lo w v xs) (hT : Lin w T 24 cs) : v.ownBlock ≠ some T := fun e => by
  obtain ⟨_, hr | ⟨g, cap, cur, rfl, _, hg, _⟩⟩ := h
  · rw [hr.1] at e; cases e
  · simp only [Value.ownBlock, Option.some.injEq] at e
    subst e
    have h2 : w.heap[g]? = _ := hT
    rw [h2] at hg
    cases hg
set_option maxRecDepth 100000 in
set_option maxHeartbeats 4000000 in
theorem sized_calls (w h : Int) (dv bv : Value) (d ys : List Int) (most : Int) (hm : 0 ≤ most ∧ most ≤ 1000) (W : World) (hd : Ints W dv d) (hys : Byts W bv ys) (hl36 : d.length ≤ 36) :
    Calls Try.prog 47 #[.agg #[.int .i64 w, .int .i64 h, dv], bv, .int .i64 most] W (GivesPl w h (sizedL ys most d.length) W) := by
  have hdl := hd.1
  obtain ⟨a, c, rfl⟩ := hd.form
  obtain ⟨ab, nb, cb, rfl⟩ : ∃ a n c, bv = .slice a n c := by obtain ⟨a, c, e⟩ := hys.form; exact ⟨a, _, c, e⟩
  have HN := Lib.hid (show nb = ys.length by obtain ⟨a, c, e⟩ := hys.form; cases e; rfl)
  go_enter Try.func47, Try.ntmps47
  obtain ⟨B, hB⟩ : ∃ B, B = W.heap.size := ⟨_, rfl⟩
  obtain ⟨R, hR⟩ : ∃ R, R = B + 1 := ⟨_, rfl⟩
  obtain ⟨C, hC⟩ : ∃ C, C = R + 1 := ⟨_, rfl⟩
  obtain ⟨z, hz⟩ : ∃ z : Later W, z.w = (W.alloc (.cells #[.int .i64 w, .int .i64 h, .slice a d.length c] 24)).alloc (.cells #[.int .i64 0, .int .i64 0, .slice none 0 0] 24) := ⟨(Later.new _ _).step (Later.new _ _), rfl⟩
  have lB : Lin z.w B 24 [.int .i64 w, .int .i64 h, .slice a d.length c] := by
    rw [hz, hB]; exact (Lin.new W 24 [.int .i64 w, .int .i64 h, .slice a d.length c]).later (Later.new _ _)
  have lR : Lin z.w R 24 [.int .i64 0, .int .i64 0, .slice none 0 0] := by
    rw [hz, hR, hB]
    have h9 := Lin.new (W.alloc (.cells #[.int .i64 w, .int .i64 h, .slice a d.length c] 24)) 24 [.int .i64 0, .int .i64 0, .slice none 0 0]
    rw [World.size_alloc] at h9
    exact h9
  have hCz : C = z.w.heap.size := by rw [hz, hC, hR, hB]; simp
  have hRW : W.heap.size ≤ R := by omega
  obtain ⟨V0, hV0⟩ : ∃ V : Later z.w, V.w = z.w.alloc (.cells #[.int .i64 w, .int .i64 h, .slice none 0 0] 24) := ⟨Later.new _ _, rfl⟩
  have F0 : Fld z.w V0.w C 2 24 [.int .i64 w, .int .i64 h, .slice none 0 0] (.slice none 0 0) [] := by
    refine ⟨V0.le, ?_, rfl, IntsN.nil _ _, by simp [Value.ownBlock], by omega⟩
    rw [hV0, hCz]; exact Lin.new z.w 24 [.int .i64 w, .int .i64 h, .slice none 0 0]
  go_wp2
  rw [← hz, ← hV0, ← hB, ← hR, ← hC]
  replace hys := hys.later z
  clear hz hV0 hB hR hC hCz hd
  go_loopw [8] (fun i wr => ∃ (k : Nat) (v : Value) (V : Later z.w), wr = V.w ∧ i = .int .i64 k ∧ k ≤ d.length ∧ Fld z.w V.w C 2 24 [.int .i64 w, .int .i64 h, v] v (sizedL ys most k)) (fun i _ => d.length - (intOf i).toNat)
  case atStart => exact ⟨0, _, V0, rfl, rfl, Nat.zero_le _, F0⟩
  case round =>
    obtain ⟨k, v, V, rfl, rfl, hk, hF⟩ := hrel
    have lB1 := lB.later V
    have b2 := lB1.cell (k := 2) rfl
    have bl := lB1.lt
    by_cases hlt : k < d.length
    · obtain ⟨v2, q, hrun, hL2, hF2⟩ := hF.app (sizedN ys most k) (by rw [sizedL_len]; omega) 22
      rw [← sizedL_snoc] at hF2
      obtain ⟨av2, nv2, cv2, rfl⟩ := hF2.own.form'
      have HF2 := Lib.hid hF2
      have c2 := hF.lin.cell (k := 2) rfl
      have cl := hF.lin.lt
      have qc2 := hL2.cell (k := 2) rfl
      have qf2 := hL2.frozen 2
      have qcl := hL2.lt
      clear hF2 F0
      by_cases h0 : 0 < nb
      · obtain ⟨r, hr⟩ : ∃ r, k % nb = r := ⟨_, rfl⟩
        have er : (k : Int) % (nb : Int) = (r : Int) := by rw [← hr]; exact (Int.natCast_emod _ _).symm
        have hrn : r < nb := by rw [← hr]; exact Nat.mod_lt _ h0
        have hnb : (nb : Int) ≠ 0 := by omega
        have hyb := hys.2.1 r (by rw [← HN.out]; exact hrn)
        obtain ⟨b8, o8, k8, e8, hk8, hb8, hg8⟩ := hys.at (k := 0) (by rw [← HN.out]; exact h0)
        injection e8 with f1 f2 f3
        subst f1
        have gy := (V.cell hb8).trans (hg8 r (by rw [← HN.out]; exact hrn))
        have gl := Nat.lt_of_lt_of_le hb8 V.size
        have ev := Lib.hid (show sizedN ys most k = nth ys r % (most + 1) by rw [sizedN, if_pos (by rw [← HN.out]; exact h0), ← HN.out, hr])
        rw [ev.out] at hrun
        have HR := Lib.hid hrun
        clear f2 f3 hg8 hr hk8 hrun
        go_wp2_with ((with_reducible show wpList _ _ _ (⟨some 40, _, _, _, _, _⟩ :: _) _ _); refine Lib.wpList_append_run_sl _ rfl _ _ 22 rfl _ _ rfl rfl HR.out ?_)
        go_roundw
        case rel => exact ⟨k + 1, _, ⟨_, HF2.out.le⟩, rfl, by go_num, by omega, HF2.out⟩
        case measure => simp [intOf]; omega
      · have ev : sizedN ys most k = 0 := by rw [sizedN, if_neg (by rw [← HN.out]; exact h0)]
        rw [ev] at hrun
        have HR := Lib.hid hrun
        clear hrun ev
        go_wp2_with ((with_reducible show wpList _ _ _ (⟨some 40, _, _, _, _, _⟩ :: _) _ _); refine Lib.wpList_append_run_sl _ rfl _ _ 22 rfl _ _ rfl rfl HR.out ?_)
        go_roundw
        case rel => exact ⟨k + 1, _, ⟨_, HF2.out.le⟩, rfl, by go_num, by omega, HF2.out⟩
        case measure => simp [intOf]; omega
    · obtain rfl : k = d.length := by omega
      have c0 := hF.lin.cell (k := 0) rfl
      have c1 := hF.lin.cell (k := 1) rfl
      have c2 := hF.lin.cell (k := 2) rfl
      have cl := hF.lin.lt
      have lR1 := lR.later V
      have r0 := lR1.cell (k := 0) rfl
      have r1 := lR1.cell (k := 1) rfl
      have r2 := lR1.cell (k := 2) rfl
      have f0 := lR1.frozen 0
      have f1 := lR1.frozen 1
      have f2 := lR1.frozen 2
      have rl := lR1.lt
      have hne : C ≠ R := by have := hF.lo; have := lR.lt; omega
      have HB3 := Lib.hid ((((z.step V).le.setCell (p := ⟨R, 0, none⟩) hRW (.int .i64 w)).setCell (p := ⟨R, 1, none⟩) hRW (.int .i64 h)).setCell (p := ⟨R, 2, none⟩) hRW v)
      have HL3 := Lib.hid (((lR1.set 0 (.int .i64 w)).set 1 (.int .i64 h)).set 2 v)
      obtain ⟨av, nv, cv, rfl⟩ := hF.own.form'
      have hne9 := hF.own.ne_plate lR1
      have HX3 := Lib.hid ((((hF.own.kept (grownBy_setCell_at V.w R 0 (.int .i64 w)) (.inr hne9)).kept (grownBy_setCell_at _ R 1 (.int .i64 h)) (.inr hne9)).kept (grownBy_setCell_at _ R 2 (.slice av nv cv)) (.inr hne9)).mono z.size)
      clear F0 hF lR1 hne hne9
      go_wp2
      refine bodyPost_ret (results_agg3 rfl _ _ _ rfl (fun w => by kernel_rfl) (fun w => by kernel_rfl) (x := .int .i64 w) (y := .int .i64 h) (z := .slice av nv cv) (HL3.out.cell rfl) (HL3.out.cell rfl) (HL3.out.cell rfl)) rfl ?_
      exact ⟨_, ⟨_, HB3.out⟩, rfl, rfl, HX3.out⟩

end Go.Proofs.Ytbjmfhlkmklmmaa
