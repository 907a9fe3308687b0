import Derived.Test.YtdhdpbnlhnodjaaMidS
import Derived.Test.YtdhdpbnlhnodjaaLodS
/-  NameMiddle: before; what yields a value in a region that draws. -/
namespace Go.Proofs.Ytdhdpbnlhnodjaa
open Go.RowKit
namespace Mix
section
variable {P : Program} {ops : Array Oper} {W0 : World} {cls : Nat → Cls} {Q : Act → World → Prop} {i : Nat} {rest : List Oper} {a : Act} {w : World} {o : Oper}
/-- an operation that yields one value in every world behind the first -/
theorem valY (hc : cls i = .val) (hw : Region.wanted o (yielded ops a.tmps) = true) (v : Value) (hv : ∀ w', (execOp a.eval o).run P w' = .ok (.value v) w') (h : GoodL P ops W0 cls Q (i + 1) rest (a.put o.dst v) w) : GoodL P ops W0 cls Q i (o :: rest) a w :=
  .inr (.inl ⟨fun _ => hc, v, .inl ⟨hw, fun w' _ => hv w'⟩, h⟩)
end
end Mix
theorem bef_step {xs ys : List Int} {k : Nat} (h1 : k < xs.length) (h2 : k < ys.length) : befF (xs.drop k) (ys.drop k) = if nth xs k = nth ys k then befF (xs.drop (k + 1)) (ys.drop (k + 1)) else decide (nth xs k < nth ys k) := by
  rw [List.drop_eq_getElem_cons h1, List.drop_eq_getElem_cons h2, befF, nth_eq h1, nth_eq h2]
set_option maxRecDepth 100000 in
set_option maxHeartbeats 4000000 in
theorem before_calls (av bv : Value) (xs ys : List Int) (W : World) (hx : Ints W av xs) (hy : Ints W bv ys) (hl : xs.length = ys.length) :
    Calls Try.prog 45 #[av, bv] W (Gives (.bool (befF xs ys)) W) := by
  have S : Ins W [] := Ins.nil _
  obtain ⟨a1, n1, c1, rfl⟩ : ∃ a n c, av = .slice a n c := by obtain ⟨a, c, e⟩ := hx.form; exact ⟨a, _, c, e⟩
  have HN1 := Lib.hid (show n1 = xs.length by obtain ⟨a, c, e⟩ := hx.form; cases e; rfl)
  have S := S.cons hx
  clear hx
  obtain ⟨a2, n2, c2, rfl⟩ : ∃ a n c, bv = .slice a n c := by obtain ⟨a, c, e⟩ := hy.form; exact ⟨a, _, c, e⟩
  have HN2 := Lib.hid (show n2 = ys.length by obtain ⟨a, c, e⟩ := hy.form; cases e; rfl)
  have S := S.cons hy
  clear hy
  obtain rfl : n1 = n2 := by rw [HN1.out, HN2.out]; exact hl
  have hn := (S.at (v := .slice a1 n1 c1) (xs := xs) (by simp)).1
  rw [← HN1.out] at hn
  go_enter Try.func45, Try.ntmps45
  go_wp2
  go_loopw [5] (fun i0 wr => ∃ (k : Nat) (u : Later W), wr = u.w ∧ k ≤ n1 ∧ i0 = .int .i64 k ∧ Hid (befF xs ys = befF (xs.drop k) (ys.drop k))) (fun i0 _ => n1 - (intOf i0).toNat)
  case atStart => exact ⟨0, Later.self _, rfl, Nat.zero_le _, rfl, Lib.hid rfl⟩
  obtain ⟨k, u, rfl, hk, rfl, hJ⟩ := hrel
  replace S := S.later u
  by_cases hlt : k < n1
  · have hk1 : k < xs.length := by rw [← HN1.out]; exact hlt
    have hk2 : k < ys.length := by rw [← HN2.out]; exact hlt
    have hst := bef_step hk1 hk2
    obtain ⟨ba, oa, ka, e, hka, hba, hga⟩ := (S.at (v := .slice a1 n1 c1) (xs := xs) (by simp)).at (k := k) (hk1)
    injection e with e1 e2 e3
    subst e1 e3
    have qa := hga k (hk1)
    clear hga e2
    obtain ⟨x, hx⟩ : ∃ v, nth xs k = v := ⟨_, rfl⟩
    rw [hx] at qa
    obtain ⟨bb, ob, kb, e, hkb, hbb, hgb⟩ := (S.at (v := .slice a2 n1 c2) (xs := ys) (by simp)).at (k := k) (hk2)
    injection e with e1 e2 e3
    subst e1 e3
    have qb := hgb k (hk2)
    clear hgb e2
    obtain ⟨y, hy⟩ : ∃ v, nth ys k = v := ⟨_, rfl⟩
    rw [hy] at qb
    rw [hx, hy] at hst
    have HX := Lib.hid hx
    have HY := Lib.hid hy
    clear hx hy
    by_cases hxy : x = y
    · rw [if_pos hxy] at hst
      have hne : (x != y) = false := by simp [hxy]
      have HST := Lib.hid (hJ.out.trans hst)
      clear hst hxy
      go_wp2
      refine Mix.region_mixL (Mix.kinds [] [] []) (by kernel_rfl) (by kernel_rfl) ?_
      repeat ((with_reducible refine Mix.atCons ?_); first | refine Mix.skipU (by rfl) rfl (by rfl) ?_ | (refine Mix.val rfl rfl (by rfl) (fun K hK => ?_); go_big_quiet_op; refine hK _ ?_; clear hK K) | (refine Mix.skip (by rfl) ?_; go_frame))
      refine Mix.done (fun x1 => ?_)
      replace S := (S.later x1)
      obtain ⟨Y1, hZ⟩ : ∃ Z : Later W, Z.w = x1.w := ⟨u.step (x1), rfl⟩
      rw [← hZ] at S ⊢
      clear hZ
      go_wp2
      go_roundw
      case rel => exact ⟨k + 1, Y1, rfl, by omega, by go_num, HST⟩
      case measure => simp [intOf]; omega
    · rw [if_neg hxy] at hst
      have hne : (x != y) = true := by simp [hxy]
      have HST := Lib.hid (hJ.out.trans hst)
      clear hst hxy
      go_wp2
      refine Mix.region_mixL (Mix.kinds [] [] []) (by kernel_rfl) (by kernel_rfl) ?_
      repeat ((with_reducible refine Mix.atCons ?_); first | refine Mix.skipU (by rfl) rfl (by rfl) ?_ | (refine Mix.val rfl rfl (by rfl) (fun K hK => ?_); go_big_quiet_op; refine hK _ ?_; clear hK K) | (refine Mix.skip (by rfl) ?_; go_frame))
      refine Mix.done (fun x1 => ?_)
      replace S := (S.later x1)
      obtain ⟨Y1, hZ⟩ : ∃ Z : Later W, Z.w = x1.w := ⟨u.step (x1), rfl⟩
      rw [← hZ] at S ⊢
      clear hZ
      obtain ⟨bc, oc, kc, ec, -, hbc, hgc⟩ := (S.at (v := .slice (some ⟨ba, oa, none⟩) n1 c1) (xs := xs) (by simp)).at (k := k) (hk1)
      injection ec with e1 e2 e3
      injection e1 with e1
      injection e1 with e4 e5
      subst e4 e5 e3
      have qc := hgc k (hk1)
      clear hgc e2
      obtain ⟨bd, od, kd, ed, -, hbd, hgd⟩ := (S.at (v := .slice (some ⟨bb, ob, none⟩) n1 c2) (xs := ys) (by simp)).at (k := k) (hk2)
      injection ed with e1 e2 e3
      injection e1 with e1
      injection e1 with e4 e5
      subst e4 e5 e3
      have qd := hgd k (hk2)
      clear hgd e2
      rw [HX.out] at qc
      rw [HY.out] at qd
      go_wp2
      refine Mix.region_mixL (Mix.kinds [] [] []) (by kernel_rfl) (by kernel_rfl) ?_
      repeat ((with_reducible refine Mix.atCons ?_); first | refine Mix.skipU (by rfl) rfl (by rfl) ?_ | (refine Mix.val rfl rfl (by rfl) (fun K hK => ?_); go_big_quiet_op; refine hK _ ?_; clear hK K) | (refine Mix.skip (by rfl) ?_; go_frame))
      refine Mix.done (fun x1 => ?_)
      replace S := (S.later x1)
      obtain ⟨Y2, hZ⟩ : ∃ Z : Later W, Z.w = x1.w := ⟨Y1.step (x1), rfl⟩
      rw [← hZ] at S ⊢
      clear hZ
      go_wp2
      go_ret
      exact ⟨ret_bool HST.out.symm, Y2, rfl⟩
  obtain rfl : n1 = k := by omega
  have HST := Lib.hid (show befF xs ys = false by rw [hJ.out, List.drop_eq_nil_of_le (by rw [HN1.out]; exact Nat.le_refl _)]; rfl)
  go_wp2
  go_ret
  exact ⟨ret_bool HST.out.symm, u, rfl⟩
end Go.Proofs.Ytdhdpbnlhnodjaa
