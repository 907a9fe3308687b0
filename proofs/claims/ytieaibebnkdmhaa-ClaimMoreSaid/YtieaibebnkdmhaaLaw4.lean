import Derived.Test.YtieaibebnkdmhaaLaw3
namespace Go.Proofs.Ytieaibebnkdmhaa
open Go.RowKit

theorem results_tmp4 {fn : Func} {t u v x : Tmp} (h : fn.results = #[.tmp t, .tmp u, .tmp v, .tmp x]) (tmps : Array Value) (P : Program) (w : World) :
    (results fn tmps).run P w = .ok (.tuple #[tmps.getD t undef, tmps.getD u undef, tmps.getD v undef, tmps.getD x undef]) w := by simp [results, h]
def anyTo (all : List (List Int)) (t : List Int) (k : Nat) : Bool := (all.take k).any fun m => eqI m t
theorem anyTo_succ (all : List (List Int)) (t : List Int) (k : Nat) (h : k < all.length) : anyTo all t (k + 1) = (anyTo all t k || eqI (row all k) t) := by
  rw [anyTo, List.take_succ_eq_append_getElem h, List.any_append, anyTo, row_eq h]; simp
theorem anyTo_end (all : List (List Int)) (t : List Int) (k : Nat) (h : all.length ≤ k) : anyTo all t k = decide (t ∈ all) := by
  rw [anyTo, List.take_of_length_le h, Bool.eq_iff_iff, List.any_eq_true, decide_eq_true_iff]
  constructor
  · rintro ⟨m, hm, e⟩; rw [eqI_iff] at e; subst e; exact hm
  · intro h; exact ⟨t, h, (eqI_iff t t).2 rfl⟩
def Told (ns ss : List (List Int)) (w : World) (e : Ending) (w' : World) : Prop :=
  ∃ av fv lv, ∃ x : Later w, e = .returned (.tuple #[av, fv, lv, .bool true]) ∧ w' = x.w ∧ Rows2 x.w av (allOf ns ss) ∧ Ints x.w fv (claimsF (tabOf ns ss) ns) ∧ Ints x.w lv (lastF ns ss)

set_option maxRecDepth 100000 in
set_option maxHeartbeats 4000000 in
theorem told_calls (nv sv : Value) (ns ss : List (List Int)) (w : World) (hn : Rows2 w nv ns) (hs : Rows2 w sv ss) (hv : vbook ns ss = 0) :
    Calls Try.prog 40 #[.agg #[nv, sv]] w (Told ns ss w) := by
  have cA := fun (W : World) (hn : Rows2 W nv ns) (hs : Rows2 W sv ss) => All_calls nv sv ns ss W hn hs
  have cF := fun (W : World) (hn : Rows2 W nv ns) (hs : Rows2 W sv ss) => First_calls nv sv ns ss W hn hs
  have cL := fun (W : World) (hn : Rows2 W nv ns) (hs : Rows2 W sv ss) => Last_calls nv sv ns ss W hn hs
  rw [AllR_eq, rAll, if_pos hv, hv] at cA
  rw [FirstR, if_pos hv, hv] at cF
  rw [LastR, if_pos hv, hv] at cL
  have CA := Lib.hid cA
  have CF := Lib.hid cF
  have CL : Hid (∀ (W : World), Rows2 W nv ns → Rows2 W sv ss → Calls Try.prog 27 #[.agg #[nv, sv]] W (GivesL (lastF ns ss) 0 W)) := Lib.hid cL
  clear cA cF cL
  obtain ⟨an, cn, rfl⟩ := hn.form
  obtain ⟨aS, cS, rfl⟩ := hs.form
  have hsF := claims_sett hv
  have hsL := last_sett hv
  have h720 := allOf_720 hv
  have hpos : 0 < (allOf ns ss).length := List.length_pos_of_mem (mem_allOf.2 hsF)
  have hne0 : (((allOf ns ss).length : Int) == 0) = false := beq_eq_false_iff_ne.2 (by omega)
  have hle : ¬ 720 < (allOf ns ss).length := by omega
  have HV := Lib.hid hv
  have HF := Lib.hid (mem_allOf.2 hsF)
  have HL := Lib.hid (mem_allOf.2 hsL)
  clear hsF hsL hv
  go_enter Try.func40, Try.ntmps40
  go_wp2_with fail
  obtain ⟨B, hB⟩ : ∃ B, B = w.heap.size := ⟨_, rfl⟩
  obtain ⟨z, hz⟩ : ∃ z : Later w, z.w = w.alloc (.cells #[.slice an ns.length cn, .slice aS ss.length cS] 24) := ⟨Later.new _ _, rfl⟩
  have c0 : z.w.cell? ⟨B, 0, none⟩ = some (.slice an ns.length cn) := by rw [hz, hB]; simp [go_sem]
  have c1 : z.w.cell? ⟨B, 1, none⟩ = some (.slice aS ss.length cS) := by rw [hz, hB]; simp [go_sem]
  have hBz : B < z.w.heap.size := by rw [hz, hB]; simp [go_sem]
  have HZ : Hid (z.w.heap.size = B + 1) := Lib.hid (by rw [hz, hB]; simp)
  rw [← hz, ← hB]
  replace hn := hn.later z
  replace hs := hs.later z
  clear hz hB
  refine (CA.out z.w hn hs).mono ?_
  rintro e w' ⟨av, x, rfl, rfl, hA⟩
  go_wp2_with fail
  refine (CF.out x.w (hn.later x) (hs.later x)).mono ?_
  rintro e w' ⟨fv, y, rfl, rfl, hF⟩
  replace hA := hA.later y
  obtain ⟨q, hq⟩ : ∃ q : Later z.w, y.w = q.w := ⟨x.step y, rfl⟩
  rw [hq] at hA hF ⊢
  clear hq y x
  go_wp2_with fail
  refine (CL.out q.w (hn.later q) (hs.later q)).mono ?_
  rintro e w' ⟨lv, y, rfl, rfl, hLs⟩
  replace hA := hA.later y
  replace hF := hF.later y
  obtain ⟨x, hq⟩ : ∃ x : Later z.w, y.w = x.w := ⟨q.step y, rfl⟩
  rw [hq] at hA hF hLs ⊢
  clear hq y q
  obtain ⟨aA, cA, rfl⟩ := hA.form
  go_wp2
  go_loopw [12, 13, 14] (fun f l i wr => ∃ k : Nat, ∃ b1 b2 : Bool, ∃ y : Later x.w, wr = y.w ∧ k ≤ (allOf ns ss).length ∧ i = .int .i64 k ∧ f = .bool b1 ∧ l = .bool b2 ∧ Hid (b1 = anyTo (allOf ns ss) (claimsF (tabOf ns ss) ns) k) ∧ Hid (b2 = anyTo (allOf ns ss) (lastF ns ss) k)) (fun _ _ i _ => (allOf ns ss).length - (intOf i).toNat)
  case atStart => exact ⟨0, false, false, Later.self _, rfl, Nat.zero_le _, rfl, rfl, rfl, by simp [Hid, anyTo], by simp [Hid, anyTo]⟩
  case round =>
    obtain ⟨k, b1, b2, y, rfl, hk, rfl, rfl, rfl, hb1, hb2⟩ := hrel
    by_cases hlt : k < (allOf ns ss).length
    · obtain ⟨bl, ol, cl', fl, e, hcpl, hbl, hcl⟩ := hA.at hlt
      cases e
      obtain ⟨gl0, hrow⟩ := hcl k hlt
      obtain ⟨ar, nr, cr, efr⟩ : ∃ a n c, fl k = .slice a n c := by obtain ⟨a, c, e⟩ := hrow.form; exact ⟨a, _, c, e⟩
      rw [efr] at gl0 hrow
      have hrs := Lib.hid (mem_allOf.1 (row_mem hlt))
      have gl := (y.cell hbl).trans gl0
      have sl : bl < y.w.heap.size := Nat.lt_of_lt_of_le hbl y.size
      have gB0 : y.w.cell? ⟨B, 0, none⟩ = some (.slice an ns.length cn) := ((x.step y).cell hBz).trans c0
      have gB1 : y.w.cell? ⟨B, 1, none⟩ = some (.slice aS ss.length cS) := ((x.step y).cell hBz).trans c1
      have sB : B < y.w.heap.size := Nat.lt_of_lt_of_le hBz (x.step y).size
      have hP := fun (u : Later y.w) => refCheckMatching_calls _ _ _ ns ss (row (allOf ns ss) k) u.w (((hn.later x).later y).later u) (((hs.later x).later y).later u) ((hrow.later y).later u)
      rw [vmatch_zero.2 ⟨HV.out, hrs.out.1⟩] at hP
      have HP := Lib.hid hP
      have hI1 := fun (u : Later y.w) => Ints_calls _ _ (row (allOf ns ss) k) (claimsF (tabOf ns ss) ns) u.w ((hrow.later y).later u) ((hF.later y).later u)
      have hI2 := fun (u : Later y.w) => Ints_calls _ _ (row (allOf ns ss) k) (lastF ns ss) u.w ((hrow.later y).later u) ((hLs.later y).later u)
      have HI1 := Lib.hid hI1
      have HI2 := Lib.hid hI2
      have hs1 := Lib.hid (anyTo_succ (allOf ns ss) (claimsF (tabOf ns ss) ns) k hlt)
      have hs2 := Lib.hid (anyTo_succ (allOf ns ss) (lastF ns ss) k hlt)
      clear hcl efr hP hI1 hI2
      go_wp2
      refine region_later_lit (by kernel_rfl) (by kernel_rfl) ?_
      repeat (first | go_big_quiet_step (first
           | (go_at_call 20; exact Later.quiet _ (HP.out _))))
      refine wpQuiet_nil ?_
      intro u
      have glu := (u.cell sl).trans gl
      have slu : bl < u.w.heap.size := Nat.lt_of_lt_of_le sl u.size
      cases b1
      · go_wp2_with fail
        refine (HI1.out u).mono ?_
        rintro e w' ⟨rfl, v, rfl⟩
        cases b2
        · go_wp2_with fail
          refine (HI2.out (u.step v)).mono ?_
          rintro e w' ⟨rfl, v2, rfl⟩
          go_wp2
          go_roundw
          case rel => exact ⟨k + 1, _, _, ((y.step u).step v).step v2, rfl, by omega, by go_num, rfl, rfl, by unfold Hid; rw [hs1.out, ← hb1.out, Bool.false_or], by unfold Hid; rw [hs2.out, ← hb2.out, Bool.false_or]⟩
          case measure => simp [intOf]; omega
        · go_wp2
          go_roundw
          case rel => exact ⟨k + 1, _, _, (y.step u).step v, rfl, by omega, by go_num, rfl, rfl, by unfold Hid; rw [hs1.out, ← hb1.out, Bool.false_or], by unfold Hid; rw [hs2.out, ← hb2.out, Bool.true_or]⟩
          case measure => simp [intOf]; omega
      · cases b2
        · go_wp2_with fail
          refine (HI2.out u).mono ?_
          rintro e w' ⟨rfl, v2, rfl⟩
          go_wp2
          go_roundw
          case rel => exact ⟨k + 1, _, _, (y.step u).step v2, rfl, by omega, by go_num, rfl, rfl, by unfold Hid; rw [hs1.out, ← hb1.out, Bool.true_or], by unfold Hid; rw [hs2.out, ← hb2.out, Bool.false_or]⟩
          case measure => simp [intOf]; omega
        · go_wp2
          go_roundw
          case rel => exact ⟨k + 1, _, _, y.step u, rfl, by omega, by go_num, rfl, rfl, by unfold Hid; rw [hs1.out, ← hb1.out, Bool.true_or], by unfold Hid; rw [hs2.out, ← hb2.out, Bool.true_or]⟩
          case measure => simp [intOf]; omega
    · have e1 : b1 = true := by rw [hb1.out, anyTo_end _ _ _ (by omega)]; exact decide_eq_true HF.out
      have e2 : b2 = true := by rw [hb2.out, anyTo_end _ _ _ (by omega)]; exact decide_eq_true HL.out
      subst e1 e2
      go_wp2
      try simp only [Exit.inBlock, Exit.then]
      refine bodyPost_ret (results_tmp4 rfl _ _ _) rfl ?_
      exact ⟨_, _, _, (z.step x).step y, rfl, rfl, hA.later y, hF.later y, hLs.later y⟩
end Go.Proofs.Ytieaibebnkdmhaa
