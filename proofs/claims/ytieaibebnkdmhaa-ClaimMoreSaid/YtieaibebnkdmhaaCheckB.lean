import Derived.Test.YtieaibebnkdmhaaCheckA
import Derived.Test.YtieaibebnkdmhaaMix2

namespace Go.Proofs.Ytieaibebnkdmhaa
open Go.RowKit
/-- which books are valid -/
def vbook (ns ss : List (List Int)) : Int :=
  if [(ns.length : Int)].any (outB 1 6) || [(ss.length : Int)].any (outB 1 6) then 6
  else if ns.any (strayB ss.length) || ss.any (strayB ns.length) then 3
  else if ns.any twc || ss.any twc then 11 else 0

set_option maxRecDepth 100000 in
set_option maxHeartbeats 1000000 in
theorem CheckBook_calls (nv sv : Value) (ns ss : List (List Int)) (w : World) (hn : Rows2 w nv ns) (hs : Rows2 w sv ss) :
    Calls Try.prog 23 #[.agg #[nv, sv]] w (Gives (.int .i64 (vbook ns ss)) w) := by
  have hln := hn.1
  have hls := hs.1
  obtain ⟨an, cn, rfl⟩ := hn.form
  obtain ⟨aS, cS, rfl⟩ := hs.form
  go_enter Try.func23, Try.ntmps23
  have hn0 := hn.later (Later.new _ (.cells #[.slice an ns.length cn, .slice aS ss.length cS] 24))
  have hs0 := hs.later (Later.new _ (.cells #[.slice an ns.length cn, .slice aS ss.length cS] 24))
  cases h1 : [(ns.length : Int)].any (outB 1 6)
  rotate_left
  · have hv := Lib.hid (show vbook ns ss = 6 by simp only [vbook, h1, Bool.true_or, if_true])
    go_wp2_with (go_at_call 60; (with_reducible refine (within_calls _ [(ns.length : Int)] 1 6 _ ?_).mono ?_); (exact Ints.lit _ [(ns.length : Int)] _ (by simp) rfl rfl (by simp)); rintro e w' ⟨rfl, x, rfl⟩)
    go_ret
    exact ⟨ret_int hv.out.symm, ((Later.new _ _).step (Later.new _ _)).step x, rfl⟩
  · go_wp2_with fail
    refine (within_calls _ [(ns.length : Int)] 1 6 _ ?_).mono ?_
    · exact Ints.lit _ [(ns.length : Int)] _ (by simp) rfl rfl (by simp)
    rintro e w' ⟨rfl, x, rfl⟩; obtain ⟨y, hy⟩ : ∃ q, Later.step (Later.new _ _) x = q := ⟨_, rfl⟩; rw [show (x.w) = y.w from by rw [← hy]; rfl]; clear hy x
    cases h2 : [(ss.length : Int)].any (outB 1 6)
    rotate_left
    · have hv := Lib.hid (show vbook ns ss = 6 by simp only [vbook, h1, h2, Bool.or_true, if_true])
      go_wp2_with (go_at_call 60; (with_reducible refine (within_calls _ [(ss.length : Int)] 1 6 _ ?_).mono ?_); (exact Ints.lit _ [(ss.length : Int)] _ (by simp) rfl rfl (by simp)); rintro e w' ⟨rfl, x, rfl⟩)
      go_ret
      exact ⟨ret_int hv.out.symm, (((Later.new _ _).step y).step (Later.new _ _)).step x, rfl⟩
    · go_wp2_with fail
      refine (within_calls _ [(ss.length : Int)] 1 6 _ ?_).mono ?_
      · exact Ints.lit _ [(ss.length : Int)] _ (by simp) rfl rfl (by simp)
      rintro e w' ⟨rfl, x, rfl⟩; obtain ⟨z, hy⟩ : ∃ q, Later.step (Later.step y (Later.new _ _)) x = q := ⟨_, rfl⟩; rw [show (x.w) = z.w from by rw [← hy]; rfl]; clear hy x
      go_wp2_with fail
      have hnz := hn0.later z
      have hsz := hs0.later z
      cases h3 : ns.any (strayB ss.length)
      rotate_left
      · have hv := Lib.hid (show vbook ns ss = 3 by simp only [vbook, h1, h2, h3, Bool.or_self, Bool.false_eq_true, if_false, Bool.true_or, if_true])
        refine Mix.region_mixL (Mix.kinds [] [6, 7, 15, 16] []) (by kernel_rfl) (by kernel_rfl) ?_
        repeat ((with_reducible refine Mix.atCons ?_); first | refine Mix.skipU (by rfl) rfl (by rfl) ?_ | (refine Mix.val rfl rfl (by rfl) (fun K hK => ?_); go_big_quiet_op; refine hK _ ?_; clear hK K))
        refine Mix.loud rfl (by rfl) (fun x1 K hK => ?_)
        go_wp2_with fail
        refine (mkStray_calls (ss.length : Int) _).mono ?_
        rintro e w' ⟨b1, x2, rfl, rfl, hb1, hcb1⟩
        refine hK _ _ ?_
        clear hK K
        repeat ((with_reducible refine Mix.atCons ?_); first | refine Mix.skipU (by rfl) rfl (by rfl) ?_ | (refine Mix.val rfl rfl (by rfl) (fun K hK => ?_); go_big_quiet_op; refine hK _ ?_; clear hK K))
        refine Mix.loud rfl (by rfl) (fun x3 K hK => ?_)
        go_wp2_with fail
        refine (ContainsFunc_stray _ ns (ss.length : Int) b1 _ (((hnz.later x1).later x2).later x3) (by have := x3.size; omega) (by omega) (by omega) ((x3.cell hb1).trans hcb1)).mono ?_
        rintro e w' ⟨rfl, x4, rfl⟩
        simp only [h3]
        refine hK _ _ ?_
        clear hK K
        repeat ((with_reducible refine Mix.atCons ?_); first | refine Mix.skipU (by rfl) rfl (by rfl) ?_ | (refine Mix.val rfl rfl (by rfl) (fun K hK => ?_); go_big_quiet_op; refine hK _ ?_; clear hK K))
        refine Mix.done (fun x5 => ?_)
        go_wp2
        go_ret
        exact ⟨ret_int hv.out.symm, (((((Later.new _ _).step z).step x1).step x2).step x3).step x4 |>.step x5, rfl⟩
      · cases h4 : ss.any (strayB ns.length)
        rotate_left
        · have hv := Lib.hid (show vbook ns ss = 3 by simp only [vbook, h1, h2, h3, h4, Bool.or_self, Bool.false_eq_true, if_false, Bool.or_true, if_true])
          refine Mix.region_mixL (Mix.kinds [] [6, 7, 15, 16] []) (by kernel_rfl) (by kernel_rfl) ?_
          repeat ((with_reducible refine Mix.atCons ?_); first | refine Mix.skipU (by rfl) rfl (by rfl) ?_ | (refine Mix.val rfl rfl (by rfl) (fun K hK => ?_); go_big_quiet_op; refine hK _ ?_; clear hK K))
          refine Mix.loud rfl (by rfl) (fun x1 K hK => ?_)
          go_wp2_with fail
          refine (mkStray_calls (ss.length : Int) _).mono ?_
          rintro e w' ⟨b1, x2, rfl, rfl, hb1, hcb1⟩
          refine hK _ _ ?_
          clear hK K
          repeat ((with_reducible refine Mix.atCons ?_); first | refine Mix.skipU (by rfl) rfl (by rfl) ?_ | (refine Mix.val rfl rfl (by rfl) (fun K hK => ?_); go_big_quiet_op; refine hK _ ?_; clear hK K))
          refine Mix.loud rfl (by rfl) (fun x3 K hK => ?_)
          go_wp2_with fail
          refine (ContainsFunc_stray _ ns (ss.length : Int) b1 _ (((hnz.later x1).later x2).later x3) (by have := x3.size; omega) (by omega) (by omega) ((x3.cell hb1).trans hcb1)).mono ?_
          rintro e w' ⟨rfl, x4, rfl⟩
          simp only [h3]
          refine hK _ _ ?_
          clear hK K
          repeat ((with_reducible refine Mix.atCons ?_); first | refine Mix.skipU (by rfl) rfl (by rfl) ?_ | (refine Mix.val rfl rfl (by rfl) (fun K hK => ?_); go_big_quiet_op; refine hK _ ?_; clear hK K))
          repeat ((with_reducible refine Mix.atCons ?_); first | refine Mix.skipU (by rfl) rfl (by rfl) ?_ | (refine Mix.val rfl rfl (by rfl) (fun K hK => ?_); go_big_quiet_op; refine hK _ ?_; clear hK K))
          refine Mix.loud rfl (by rfl) (fun x5 K hK => ?_)
          go_wp2_with fail
          refine (mkStray_calls (ns.length : Int) _).mono ?_
          rintro e w' ⟨b2, x6, rfl, rfl, hb2, hcb2⟩
          refine hK _ _ ?_
          clear hK K
          repeat ((with_reducible refine Mix.atCons ?_); first | refine Mix.skipU (by rfl) rfl (by rfl) ?_ | (refine Mix.val rfl rfl (by rfl) (fun K hK => ?_); go_big_quiet_op; refine hK _ ?_; clear hK K))
          refine Mix.loud rfl (by rfl) (fun x7 K hK => ?_)
          go_wp2_with fail
          refine (ContainsFunc_stray _ ss (ns.length : Int) b2 _ (((((((hsz.later x1).later x2).later x3).later x4).later x5).later x6).later x7) (by have := x7.size; omega) (by omega) (by omega) ((x7.cell hb2).trans hcb2)).mono ?_
          rintro e w' ⟨rfl, x8, rfl⟩
          simp only [h4]
          refine hK _ _ ?_
          clear hK K
          repeat ((with_reducible refine Mix.atCons ?_); first | refine Mix.skipU (by rfl) rfl (by rfl) ?_ | (refine Mix.val rfl rfl (by rfl) (fun K hK => ?_); go_big_quiet_op; refine hK _ ?_; clear hK K))
          refine Mix.done (fun x9 => ?_)
          go_wp2
          go_ret
          exact ⟨ret_int hv.out.symm, (((((((((Later.new _ _).step z).step x1).step x2).step x3).step x4).step x5).step x6).step x7).step x8 |>.step x9, rfl⟩
        · refine Mix.region_mixL (Mix.kinds [] [6, 7, 15, 16] []) (by kernel_rfl) (by kernel_rfl) ?_
          repeat ((with_reducible refine Mix.atCons ?_); first | refine Mix.skipU (by rfl) rfl (by rfl) ?_ | (refine Mix.val rfl rfl (by rfl) (fun K hK => ?_); go_big_quiet_op; refine hK _ ?_; clear hK K))
          refine Mix.loud rfl (by rfl) (fun x1 K hK => ?_)
          go_wp2_with fail
          refine (mkStray_calls (ss.length : Int) _).mono ?_
          rintro e w' ⟨b1, x2, rfl, rfl, hb1, hcb1⟩
          refine hK _ _ ?_
          clear hK K
          repeat ((with_reducible refine Mix.atCons ?_); first | refine Mix.skipU (by rfl) rfl (by rfl) ?_ | (refine Mix.val rfl rfl (by rfl) (fun K hK => ?_); go_big_quiet_op; refine hK _ ?_; clear hK K))
          refine Mix.loud rfl (by rfl) (fun x3 K hK => ?_)
          go_wp2_with fail
          refine (ContainsFunc_stray _ ns (ss.length : Int) b1 _ (((hnz.later x1).later x2).later x3) (by have := x3.size; omega) (by omega) (by omega) ((x3.cell hb1).trans hcb1)).mono ?_
          rintro e w' ⟨rfl, x4, rfl⟩
          simp only [h3]
          refine hK _ _ ?_
          clear hK K
          repeat ((with_reducible refine Mix.atCons ?_); first | refine Mix.skipU (by rfl) rfl (by rfl) ?_ | (refine Mix.val rfl rfl (by rfl) (fun K hK => ?_); go_big_quiet_op; refine hK _ ?_; clear hK K))
          repeat ((with_reducible refine Mix.atCons ?_); first | refine Mix.skipU (by rfl) rfl (by rfl) ?_ | (refine Mix.val rfl rfl (by rfl) (fun K hK => ?_); go_big_quiet_op; refine hK _ ?_; clear hK K))
          refine Mix.loud rfl (by rfl) (fun x5 K hK => ?_)
          go_wp2_with fail
          refine (mkStray_calls (ns.length : Int) _).mono ?_
          rintro e w' ⟨b2, x6, rfl, rfl, hb2, hcb2⟩
          refine hK _ _ ?_
          clear hK K
          repeat ((with_reducible refine Mix.atCons ?_); first | refine Mix.skipU (by rfl) rfl (by rfl) ?_ | (refine Mix.val rfl rfl (by rfl) (fun K hK => ?_); go_big_quiet_op; refine hK _ ?_; clear hK K))
          refine Mix.loud rfl (by rfl) (fun x7 K hK => ?_)
          go_wp2_with fail
          refine (ContainsFunc_stray _ ss (ns.length : Int) b2 _ (((((((hsz.later x1).later x2).later x3).later x4).later x5).later x6).later x7) (by have := x7.size; omega) (by omega) (by omega) ((x7.cell hb2).trans hcb2)).mono ?_
          rintro e w' ⟨rfl, x8, rfl⟩
          simp only [h4]
          refine hK _ _ ?_
          clear hK K
          repeat ((with_reducible refine Mix.atCons ?_); first | refine Mix.skipU (by rfl) rfl (by rfl) ?_ | (refine Mix.val rfl rfl (by rfl) (fun K hK => ?_); go_big_quiet_op; refine hK _ ?_; clear hK K))
          refine Mix.done (fun x9 => ?_)
          obtain ⟨q, hq⟩ : ∃ q : Later (w.alloc (.cells #[.slice an ns.length cn, .slice aS ss.length cS] 24)), x9.w = q.w := ⟨((((((((z.step x1).step x2).step x3).step x4).step x5).step x6).step x7).step x8).step x9, rfl⟩
          rw [hq]
          clear hq x9 hnz hsz
          have hnq := hn0.later q
          have hsq := hs0.later q
          cases h5 : ns.any twc
          rotate_left
          · have hv := Lib.hid (show vbook ns ss = 11 by simp only [vbook, h1, h2, h3, h4, h5, Bool.or_self, Bool.false_eq_true, if_false, Bool.true_or, if_true])
            go_wp2_with (go_at_call 61; (with_reducible refine (ContainsFunc_twice _ ns _ hnq).mono ?_); rintro e w' ⟨rfl, r, rfl⟩; simp only [h5])
            go_ret
            exact ⟨ret_int hv.out.symm, ((Later.new _ _).step q).step r, rfl⟩
          · go_wp2_with fail
            refine (ContainsFunc_twice _ ns _ hnq).mono ?_
            rintro e w' ⟨rfl, r, rfl⟩
            simp only [h5]
            cases h6 : ss.any twc
            rotate_left
            · have hv := Lib.hid (show vbook ns ss = 11 by simp only [vbook, h1, h2, h3, h4, h5, h6, Bool.or_self, Bool.false_eq_true, if_false, Bool.or_true, if_true])
              go_wp2_with (go_at_call 61; (with_reducible refine (ContainsFunc_twice _ ss _ (hsq.later r)).mono ?_); rintro e w' ⟨rfl, r2, rfl⟩; simp only [h6])
              go_ret
              exact ⟨ret_int hv.out.symm, (((Later.new _ _).step q).step r).step r2, rfl⟩
            · have hv := Lib.hid (show vbook ns ss = 0 by simp only [vbook, h1, h2, h3, h4, h5, h6, Bool.or_self, Bool.false_eq_true, if_false])
              go_wp2_with (go_at_call 61; (with_reducible refine (ContainsFunc_twice _ ss _ (hsq.later r)).mono ?_); rintro e w' ⟨rfl, r2, rfl⟩; simp only [h6])
              go_ret
              exact ⟨ret_int hv.out.symm, (((Later.new _ _).step q).step r).step r2, rfl⟩
end Go.Proofs.Ytieaibebnkdmhaa
