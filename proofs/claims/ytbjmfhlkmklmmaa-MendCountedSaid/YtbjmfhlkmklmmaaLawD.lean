import Derived.Test.YtbjmfhlkmklmmaaLawC
import Derived.Test.YtbjmfhlkmklmmaaOpen7
import Derived.Maps.AppendAt
/-  upon: two plates laid upon one another, as the program says. -/
namespace Go.Proofs.Ytbjmfhlkmklmmaa
open Go.RowKit

theorem upon_of {w h : Nat} {d q X U : List Int} (hv : vplate w h d = 0) (hvq : vplate w h q = 0) (hm : Ham w h (sumL d q) X U) : uponE w h d w h q = 0 ∧ uponL w h d w h q = X := by
  have hE : uponE w h d w h q = 0 := by rw [uponE, if_neg (by rw [hv]; simp), if_neg (by rw [hvq]; simp), if_neg (by simp)]
  refine ⟨hE, ?_⟩
  rw [uponL, if_pos hE, Int.toNat_natCast, Int.toNat_natCast, uponF, hm.eq]
/-- what 'upon' returns -/
def GivesUp (w h : Nat) (Z : List Int) (W : World) (e : Ending) (W' : World) : Prop := ∃ zv, ∃ x : Later W, e = .returned (.tuple #[.agg #[.int .i64 w, .int .i64 h, zv], .bool true]) ∧ W' = x.w ∧ Ints x.w zv Z
/-- a plate by value, a second block; a list -/
structure UpS (V : World) (B C : Nat) (w h : Int) (pv : Value) (cs : List Value) : Prop where
  b : Lin V B 24 [.int .i64 w, .int .i64 h, pv]
  c : Lin V C 24 cs
theorem UpS.later {V : World} {B C : Nat} {w h : Int} {pv : Value} {cs : List Value} (s : UpS V B C w h pv cs) (y : Later V) : UpS y.w B C w h pv cs := ⟨s.b.later y, s.c.later y⟩
theorem exec_load3 {P : Program} {o : Oper} {r : Operand → Value} {p : Operand} {T : TypeId} {E : Nat} {x y z : Value} (ho : o.op = .load T p) (hp : r p = .pointer (some ⟨E, 0, none⟩)) (i1 : ∀ w, (isAgg T).run P w = .ok true w) (i2 : ∀ w, (sizeOf T).run P w = .ok 3 w)
    {w : World} (h : Lin w E T [x, y, z]) : (execOp r o).run P w = .ok (.value (.agg #[x, y, z])) w := by
  have h1 := h.cell (k := 0) rfl
  have h2 := h.cell (k := 1) rfl
  have h3 := h.cell (k := 2) rfl
  simp [execOp, ho, hp, go_sem, i1, i2, loadCellsFrom, h1, h2, h3]
set_option maxRecDepth 100000 in
set_option maxHeartbeats 4000000 in
theorem upon_calls (w h : Nat) (dv qv : Value) (d q Z U : List Int) (W : World) (hd : Ints W dv d) (hq : Ints W qv q) (hv : vplate w h d = 0) (hvq : vplate w h q = 0) (hm : Ham w h (sumL d q) Z U) (hlow : low w h (sumL d q)) :
    Calls Try.prog 48 #[.agg #[.int .i64 w, .int .i64 h, dv], .agg #[.int .i64 w, .int .i64 h, qv]] W (GivesUp w h Z W) := by
  have hdl := hd.1
  have hql := hq.1
  obtain ⟨a, c, rfl⟩ := hd.form
  obtain ⟨a2, c2, rfl⟩ := hq.form
  have hs := (valid_low hv).1
  have HU := Lib.hid (upon_of hv hvq hm)
  have HVZ := Lib.hid (hm.vp hs hlow)
  have HFZ := Lib.hid hm.fl
  clear hv hvq hm hlow
  go_enter Try.func48, Try.ntmps48
  go_wp2_with fail
  obtain ⟨B, hB⟩ : ∃ B, B = W.heap.size := ⟨_, rfl⟩
  obtain ⟨C, hC⟩ : ∃ C, C = B + 1 + 1 := ⟨_, rfl⟩
  obtain ⟨z, hz⟩ : ∃ z : Later W, z.w = ((W.alloc (.cells #[.int .i64 w, .int .i64 h, .slice a d.length c] 24)).alloc (.cells #[.int .i64 w, .int .i64 h, .slice a2 q.length c2] 24)).alloc (.cells #[.int .i64 0, .int .i64 0, .slice none 0 0] 24) := ⟨((Later.new _ _).step (Later.new _ _)).step (Later.new _ _), rfl⟩
  have lB : Lin z.w B 24 [.int .i64 w, .int .i64 h, .slice a d.length c] := by
    rw [hz, hB]; exact ((Lin.new W 24 [.int .i64 w, .int .i64 h, .slice a d.length c]).later (Later.new _ _)).later (Later.new _ _)
  have lC : Lin z.w C 24 [.int .i64 0, .int .i64 0, .slice none 0 0] := by
    rw [hz, hC, hB]
    have h9 := Lin.new ((W.alloc (.cells #[.int .i64 w, .int .i64 h, .slice a d.length c] 24)).alloc (.cells #[.int .i64 w, .int .i64 h, .slice a2 q.length c2] 24)) 24 [.int .i64 0, .int .i64 0, .slice none 0 0]
    rw [World.size_alloc, World.size_alloc] at h9
    exact h9
  have hCW : W.heap.size ≤ C := by omega
  rw [← hz, ← hB, ← hC]
  replace hd := hd.later z
  replace hq := hq.later z
  have S := UpS.mk lB lC
  clear hz lB lC hB hC
  refine (Upon_callsF w h w h _ _ d q _ hd hq).mono ?_
  rintro e w' ⟨zv, x, rfl, rfl, hZ, hF1⟩
  rw [HU.out.2] at hZ
  rw [HU.out.1]
  have hZl := hZ.1
  obtain ⟨ax, cx, rfl⟩ := hZ.form
  have hCX : ∀ b o s, ax = some ⟨b, o, s⟩ → Z.length ≠ 0 → b ≠ C := fun b o s e h0 => by
    subst e
    have := hF1 b o s _ _ rfl h0
    have := S.c.lt
    omega
  clear hF1
  replace S := S.later x
  have b0 := S.b.cell (k := 0) rfl
  have b1 := S.b.cell (k := 1) rfl
  have bl := S.b.lt
  obtain ⟨E, hE⟩ : ∃ E, E = x.w.heap.size := ⟨_, rfl⟩
  obtain ⟨V, hV⟩ : ∃ V : Later z.w, V.w = x.w.alloc (.cells #[.int .i64 w, .int .i64 h, .slice ax Z.length cx] 24) := ⟨x.step (Later.new _ _), rfl⟩
  have lE : Lin V.w E 24 [.int .i64 w, .int .i64 h, .slice ax Z.length cx] := by rw [hV, hE]; exact Lin.new x.w 24 [.int .i64 w, .int .i64 h, .slice ax Z.length cx]
  have hEC : E ≠ C := by have := S.c.lt; omega
  have lC : Lin V.w C 24 [.int .i64 0, .int .i64 0, .slice none 0 0] := by rw [hV]; exact S.c.later (Later.new _ _)
  replace hZ : Ints V.w (.slice ax Z.length cx) Z := by rw [hV]; exact hZ.later (Later.new _ _)
  clear S
  go_wp2_with fail
  rw [← hV, ← hE]
  clear hV hE b0 b1 bl x
  refine wp_region_held (S := fun w' => Lin w' E 24 [.int .i64 w, .int .i64 h, .slice ax Z.length cx]) (by kernel_rfl) ?_
  have lE1 := lE.later (Later.draw V.w)
  refine wpAnyH_take (i := 0) (v := .agg #[.int .i64 w, .int .i64 h, .slice ax Z.length cx]) rfl (by kernel_rfl) (by kernel_rfl) (by kernel_rfl) (fun _ _ _ h => h) (.inl ⟨by rfl, fun w' hw' => exec_load3 rfl rfl (fun w => by kernel_rfl) (fun w => by kernel_rfl) hw'⟩) lE1 ?_
  simp only [List.getElem_toArray, List.getElem_cons_zero, Act.put, List.setIfInBounds_toArray, List.set]
  refine wpAnyH_take (i := 1) (v := .int .i64 0) rfl (by kernel_rfl) (by kernel_rfl) (by kernel_rfl) (fun _ _ _ h => h) (Yields.yieldsIf (.inl ⟨by rfl, fun w => by rfl⟩)) lE1 ?_
  simp only [List.getElem_toArray, List.getElem_cons_zero, Act.put, List.setIfInBounds_toArray, List.set]
  refine wpAnyH_take (i := 2) (v := .bool true) rfl (by kernel_rfl) (by kernel_rfl) (by kernel_rfl) (fun _ _ _ h => h) (Yields.yieldsIf (.inl ⟨by rfl, fun w => by rfl⟩)) lE1 ?_
  simp only [List.getElem_toArray, List.getElem_cons_zero, Act.put, List.setIfInBounds_toArray, List.set]
  refine wpAnyH_take (i := 3) (v := .bool true) rfl (by kernel_rfl) (by kernel_rfl) (by kernel_rfl) (fun _ _ _ h => h) (Yields.yieldsIf (.inl ⟨by rfl, fun w => by rfl⟩)) lE1 ?_
  simp only [List.getElem_toArray, List.getElem_cons_zero, Act.put, List.setIfInBounds_toArray, List.set]
  refine wpAnyH_take (i := 4) (v := .agg #[.int .i64 w, .int .i64 h, .slice ax Z.length cx]) rfl (by kernel_rfl) (by kernel_rfl) (by kernel_rfl) (fun _ _ _ h => h) (.inl ⟨by rfl, fun w' hw' => exec_load3 rfl rfl (fun w => by kernel_rfl) (fun w => by kernel_rfl) hw'⟩) lE1 ?_
  simp only [List.getElem_toArray, List.getElem_cons_zero, Act.put, List.setIfInBounds_toArray, List.set]
  refine wpAnyH_all (rs := [5]) (by kernel_rfl) (by simp) (fun i hi => ?_)
  obtain rfl : i = 5 := by simpa using hi
  clear hi
  refine wpOp_some rfl (by rfl) (fun K hK => ?_)
  simp only [List.getElem_toArray, List.getElem_cons_succ, List.getElem_cons_zero]
  go_wp2_with fail
  refine (refCheckPlate_calls w h _ Z _ (hZ.later (Later.draw V.w))).mono ?_
  rintro e w' ⟨rfl, y1, rfl⟩
  rw [HVZ.out]
  have lE2 := lE1.later y1
  refine hK _ _ ⟨lE2, ?_⟩
  clear hK K
  refine wpAnyH_take (i := 6) (v := .bool true) rfl (by kernel_rfl) (by kernel_rfl) (by kernel_rfl) (fun _ _ _ h => h) (Yields.yieldsIf (.inl ⟨by rfl, fun w => by rfl⟩)) lE2 ?_
  simp only [List.getElem_toArray, List.getElem_cons_zero, Act.put, List.setIfInBounds_toArray, List.set]
  refine wpAnyH_take (i := 7) (v := .bool true) rfl (by kernel_rfl) (by kernel_rfl) (by kernel_rfl) (fun _ _ _ h => h) (Yields.yieldsIf (.inl ⟨by rfl, fun w => by rfl⟩)) lE2 ?_
  simp only [List.getElem_toArray, List.getElem_cons_zero, Act.put, List.setIfInBounds_toArray, List.set]
  refine wpAnyH_take (i := 8) (v := .bool true) rfl (by kernel_rfl) (by kernel_rfl) (by kernel_rfl) (fun _ _ _ h => h) (Yields.yieldsIf (.inl ⟨by rfl, fun w => by rfl⟩)) lE2 ?_
  simp only [List.getElem_toArray, List.getElem_cons_zero, Act.put, List.setIfInBounds_toArray, List.set]
  refine wpAnyH_take (i := 9) (v := .slice ax Z.length cx) rfl (by kernel_rfl) (by kernel_rfl) (by kernel_rfl) (fun _ _ _ h => h) (Yields.yieldsIf (.inl ⟨by rfl, fun w => by rfl⟩)) lE2 ?_
  simp only [List.getElem_toArray, List.getElem_cons_zero, Act.put, List.setIfInBounds_toArray, List.set]
  refine wpAnyH_all (rs := [10]) (by kernel_rfl) (by simp) (fun i hi => ?_)
  obtain rfl : i = 10 := by simpa using hi
  clear hi
  refine wpOp_some rfl (by rfl) (fun K hK => ?_)
  simp only [List.getElem_toArray, List.getElem_cons_succ, List.getElem_cons_zero]
  go_wp2_with fail
  refine (IsFlat_calls _ Z _ ((hZ.later (Later.draw V.w)).later y1)).mono ?_
  rintro e w' ⟨rfl, rfl⟩
  rw [HFZ.out]
  refine hK _ _ ⟨lE2, ?_⟩
  clear hK K
  refine wpAnyH_take (i := 11) (v := .bool true) rfl (by kernel_rfl) (by kernel_rfl) (by kernel_rfl) (fun _ _ _ h => h) (Yields.yieldsIf (.inl ⟨by rfl, fun w => by rfl⟩)) lE2 ?_
  simp only [List.getElem_toArray, List.getElem_cons_zero, Act.put, List.setIfInBounds_toArray, List.set]
  refine wpAnyH_all (rs := [12]) (by kernel_rfl) (by simp) (fun i hi => ?_)
  obtain rfl : i = 12 := by simpa using hi
  clear hi
  refine wpOp_some rfl (by rfl) (fun K hK => ?_)
  simp only [List.getElem_toArray, List.getElem_cons_succ, List.getElem_cons_zero]
  have l5 := (lC.later (Later.draw V.w)).later y1
  have hB5 := ((z.step V).step ((Later.draw V.w).step y1)).le
  have hZ5 := (hZ.later (Later.draw V.w)).later y1
  have c0 := l5.cell (k := 0) rfl
  have c1 := l5.cell (k := 1) rfl
  have c2 := l5.cell (k := 2) rfl
  have f0 := l5.frozen 0
  have f1 := l5.frozen 1
  have f2 := l5.frozen 2
  have cl := l5.lt
  have HB3 := Lib.hid (((hB5.setCell (p := ⟨C, 0, none⟩) hCW (.int .i64 w)).setCell (p := ⟨C, 1, none⟩) hCW (.int .i64 h)).setCell (p := ⟨C, 2, none⟩) hCW (.slice ax Z.length cx))
  have HL3 := Lib.hid (((l5.set 0 (.int .i64 w)).set 1 (.int .i64 h)).set 2 (.slice ax Z.length cx))
  have HX3 := Lib.hid (ints_other (ints_other (ints_other hZ5 hCX 0 (.int .i64 w)) hCX 1 (.int .i64 h)) hCX 2 (.slice ax Z.length cx))
  have HE3 := Lib.hid (((lE2.other (b := C) (k := 0) hEC (.int .i64 w)).other (b := C) (k := 1) hEC (.int .i64 h)).other (b := C) (k := 2) hEC (.slice ax Z.length cx))
  clear l5 hB5 hZ5 lE lC hZ lE1 lE2
  go_wp2_with fail
  refine ⟨HE3.out, ?_⟩
  refine wpAnyH_all (rs := [13]) (by kernel_rfl) (by simp) (fun i hi => ?_)
  obtain rfl : i = 13 := by simpa using hi
  clear hi
  refine wpOp_some rfl (by rfl) (fun K hK => ?_)
  simp only [List.getElem_toArray, List.getElem_cons_succ, List.getElem_cons_zero]
  go_wp2_with fail
  refine ⟨HE3.out, ?_⟩
  clear c0 c1 c2 f0 f1 f2 cl
  refine wpAnyH_done (by kernel_rfl) ?_ _
  go_wp2
  refine bodyPost_ret (results_agg3_1 (t := 4) (u := 5) rfl _ _ _ rfl (fun w => by kernel_rfl) (fun w => by kernel_rfl) (x := .int .i64 w) (y := .int .i64 h) (z := .slice ax Z.length cx) (HL3.out.cell rfl) (HL3.out.cell rfl) (HL3.out.cell rfl)) rfl ?_
  exact ⟨_, ⟨_, HB3.out⟩, rfl, rfl, HX3.out⟩

end Go.Proofs.Ytbjmfhlkmklmmaa
