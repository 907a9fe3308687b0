import Derived.Test.YtdhdpbnlhnodjaaKIter
import Derived.WalkMore
/-  The program: way. -/
namespace Go.Proofs.Ytdhdpbnlhnodjaa
open Go.RowKit
open Sat (at0 Mk Path R)

theorem one_mem {α : Type} {p q : α} {P : α → Prop} (h : P p) : q ∈ [p] → P q := fun hq => by
  have e : q = p := by simpa using hq
  rw [e]; exact h
theorem cl_one {L : Sat.Lay} {N : List Nat} {p z : Nat} : Sat.Cl L N [p] z ↔ R L N p z :=
  ⟨fun ⟨_, hb, h⟩ => one_mem (P := fun b => R L N b z → R L N p z) (fun h => h) hb h, fun h => ⟨p, by simp, h⟩⟩
def lenOf : Value → Nat
  | .slice _ n _ => n
  | _ => 0
def natV (l : List Nat) : List Int := l.map fun (k : Nat) => (k : Int)
/-- what 'way' returns -/
def WayR (L : Sat.Lay) (N : List Nat) (p z : Nat) (W : World) (e : Ending) (w' : World) : Prop :=
  ∃ (v : Value) (x : Later W), e = .returned v ∧ w' = x.w ∧ ((¬ R L N p z ∧ v = .slice none 0 0) ∨ ∃ o : List Nat, IntsM W.heap.size x.w v (natV o) ∧ Path L N (p :: o) ∧ (p :: o).getLast? = some z ∧ o.length ≤ 19)
set_option maxRecDepth 100000 in
set_option maxHeartbeats 4000000 in
theorem way_calls (L : Sat.Lay) (N : List Nat) (n lo b : Nat) (hN10 : ∀ k ∈ N, k < 10) (hNl : N.length ≤ 10) (p z : Nat) (hp : p / 2 ∈ N) (hz : z / 2 ∈ N) (W : World) (hD : Dk L N n lo W b) :
    Calls Try.prog 84 #[.pointer (some ⟨b, 0, none⟩), .int .i64 (p : Int), .int .i64 (z : Int)] W (WayR L N p z W) := by
  have hp20 : p < 20 := by have := hN10 _ hp; omega
  have hz20 : z < 20 := by have := hN10 _ hz; omega
  have HRC := Lib.hid (fun (V : Later W) (v : Value) hv => reach_calls L N n lo b hN10 hNl [p] (fun _ hq => one_mem (P := fun q => q / 2 ∈ N) hp hq) (by simp) V.w (hD.later V) v hv)
  clear hD
  go_enter Try.func84, Try.ntmps84
  go_wp2_with fail
  have hI := Ints.lit W [(p : Int)] 3 (b := W.heap.size) (arr := #[.int .i64 (p : Int)]) (n := 1) rfl rfl rfl (by simp)
  refine (HRC.out (Later.new W _) _ hI).mono ?_
  rintro e w' ⟨X, ord, x, rfl, rfl, hR⟩
  obtain ⟨V, hV⟩ : ∃ q : Later W, x.w = q.w := ⟨(Later.new W _).step x, rfl⟩
  rw [hV]
  have hlX := hR.mk1.len
  have HR := Lib.hid hR
  clear hV hI x hR HRC
  have HZ := Lib.hid (HR.out.mk1.mem z hz20)
  obtain ⟨v, hv0⟩ : ∃ v, nth X z = v := ⟨_, rfl⟩
  have HV := Lib.hid hv0
  clear hv0
  by_cases hz0 : v = 0
  · subst hz0
    have HNR := Lib.hid (show ¬ R L N p z from fun h => (HR.out.iff hz20).2 (cl_one.2 h) HV.out)
    go_wp2_with (refine wpList_store_marks rfl _ _ rfl rfl X rfl hlX (by simp) ?_; rintro w1 hA1 ⟨x1, rfl⟩; go_frame; have c1 := hA1.cell (k := z) (by rw [hlX]; exact hz20); rw [HV.out] at c1; have lM := hA1.lt)
    go_ret
    exact ⟨_, V.step x1, rfl, rfl, .inl ⟨HNR.out, rfl⟩⟩
  have dz : (v == 0) = false := by simpa using hz0
  have hzo : z ∈ ord := HZ.out.1 (by rw [show at0 X z = nth X z from rfl, HV.out]; exact hz0)
  obtain ⟨i0, hi0, hz1, hw0⟩ := Sat.Way.start (L := L) (N := N) (a := p) hzo
  have HW0 := Lib.hid (show ∃ hw : Sat.Way L N p z ord [] i0, ord[i0]'hw.hi = z from ⟨hw0, hz1⟩)
  have HON := Lib.hid HR.out.mk1.ord_le
  clear hzo HZ hz0 hi0 hz1 hw0
  go_wp2_with (refine wpList_store_marks rfl _ _ rfl rfl X rfl hlX (by simp) ?_; rintro w1 hA1 ⟨x1, rfl⟩; go_frame; have c1 := hA1.cell (k := z) (by rw [hlX]; exact hz20); rw [HV.out] at c1; have lM := hA1.lt)
  obtain ⟨Mb, hMb⟩ : ∃ m, V.w.heap.size = m := ⟨_, rfl⟩
  obtain ⟨U, hU⟩ : ∃ q : Later W, x1.w = q.w := ⟨V.step x1, rfl⟩
  rw [hMb] at hA1 ⊢
  rw [hU] at hA1 ⊢
  clear c1 lM
  clear hU hMb x1 V dz HV
  go_loopw [9, 8] (fun pv ov wr => ∃ (o : List Nat) (i q : Nat) (x : Later W), wr = x.w ∧ pv = .int .i64 (q : Int) ∧ Arr x.w Mb X ∧ IntsM W.heap.size x.w ov (natV o) ∧ Hid (∃ hw : Sat.Way L N p z ord o i, ord[i]'hw.hi = q)) (fun _ ov _ => 20 - lenOf ov)
  case atStart => exact ⟨[], i0, z, U, rfl, rfl, hA1, IntsM.nil _ _, HW0⟩
  case round =>
    clear hA1 HW0 U
    obtain ⟨o, i, q, x, rfl, rfl, hA, hO, HW⟩ := hrel
    obtain ⟨ao, lo', co, rfl⟩ := hO.form'
    have HLO := Lib.hid (show lo' = o.length by obtain ⟨a, c, e⟩ := hO.form; cases e; simp [natV])
    have hq20 : q < 20 := by
      obtain ⟨hw, e⟩ := HW.out
      rw [← e]; exact HR.out.mk1.lt _ (List.getElem_mem hw.hi)
    have hol : lo' ≤ 19 := by
      obtain ⟨hw, _⟩ := HW.out
      have h1 := hw.len
      have h2 := HON.out
      rw [HLO.out]; omega
    by_cases hq : q = p
    · have HQ := Lib.hid hq
      have dq : ((q : Int) != (p : Int)) = false := by simp [hq]
      have HREV := Lib.hid (Reverse_calls W.heap.size lo' co ao (natV o) x.w hO (by simp [natV]; rw [← HLO.out]; omega))
      have HBW := Lib.hid (fun (w' : World) (hg : x.w.grownBy w' (Value.slice ao lo' co).ownBlock) => hO.below hg x.size)
      clear hq hA hO
      go_wp2_with fail
      refine HREV.out.mono ?_
      rintro e w' ⟨⟨r, rfl⟩, hO2, hg⟩
      obtain ⟨Z, hZ⟩ : ∃ Z : Later W, Z.w = w' := ⟨⟨w', x.le.trans (HBW.out _ hg)⟩, rfl⟩
      rw [← hZ] at hO2 ⊢
      clear hZ hg HBW HREV
      go_wp2
      go_ret
      refine ⟨_, Z, rfl, rfl, .inr ⟨o.reverse, ?_, ?_, ?_, by rw [List.length_reverse, ← HLO.out]; exact hol⟩⟩
      · rw [show natV o.reverse = (natV o).reverse by simp [natV]]; exact hO2
      · obtain ⟨hw, e⟩ := HW.out
        have h1 := hw.path
        rw [e, HQ.out] at h1; exact h1
      · obtain ⟨hw, e⟩ := HW.out
        have h1 := hw.last
        rw [e, HQ.out] at h1; exact h1
    · have dq : ((q : Int) != (p : Int)) = true := by simp; omega
      obtain ⟨j, r, HWJ, hrv⟩ : ∃ j r, Hid (∃ hw : Sat.Way L N p z ord (o ++ [q]) j, ord[j]'hw.hi = r) ∧ nth X q = (r : Int) + 1 := by
        obtain ⟨hw, e⟩ := HW.out
        obtain ⟨j, _, hj, h1, h2⟩ := hw.back HR.out.mk1 (by rw [e]; exact hq)
        rw [e] at h1 h2
        exact ⟨j, ord[j], ⟨h2, rfl⟩, h1⟩
      have hr20 : r < 20 := by
        obtain ⟨hw, e⟩ := HWJ.out
        rw [← e]; exact HR.out.mk1.lt _ (List.getElem_mem hw.hi)
      have hy1 := Ints.lit x.w [(q : Int)] 3 (b := x.w.heap.size) (arr := #[.int .i64 (q : Int)]) (n := 1) rfl rfl rfl (by simp)
      obtain ⟨a', n', c', qq, hrun, hI⟩ := app_capped (x.w.alloc (.cells #[.int .i64 (q : Int)] 3)) ao lo' co (natV o) ((hO.ints (by simp [natV]; rw [← HLO.out]; omega)).later (Later.new _ _)) _ (q : Int) hy1 (by omega) 23
      have hcap : lo' ≤ co := by have := hO.cap; simp [natV] at this; rw [HLO.out]; exact this
      obtain ⟨Z, hZ⟩ : ∃ Z : Later W, Z.w = qq.w := ⟨(x.step (Later.new _ _)).step qq, rfl⟩
      have hAZ := (hA.later (Later.new x.w (.cells #[.int .i64 (q : Int)] 3))).later qq
      have hIZ : IntsM W.heap.size qq.w (.slice a' n' c') (natV (o ++ [q])) := by
        rw [show natV (o ++ [q]) = natV o ++ [(q : Int)] by simp [natV]]
        exact hI.mono (by have := x.size; simp; omega)
      have cX := hAZ.cell (k := q) (by rw [hlX]; exact hq20)
      rw [hrv] at cX
      have lX := hAZ.lt
      have HR1 := Lib.hid hrun
      have HNL := Lib.hid (show n' = o.length + 1 by obtain ⟨a, c, e⟩ := hI.form; cases e; simp [natV])
      clear hrun hI hrv hA hO
      go_wp2_with ((with_reducible show wpList _ _ _ (⟨some 34, _, _, _, _, _⟩ :: _) _ _); refine Lib.wpList_append_run_sl _ rfl _ _ 23 rfl _ _ rfl rfl HR1.out ?_)
      refine ⟨⟨o ++ [q], j, r, Z, hZ.symm, rfl, by rw [hZ]; exact hAZ, by rw [hZ]; exact hIZ, HWJ⟩, ?_⟩
      have h1 := HNL.out
      have h2 := HLO.out
      simp only [lenOf]
      omega

end Go.Proofs.Ytdhdpbnlhnodjaa

/-  The program: chain. -/
namespace Go.Proofs.Ytdhdpbnlhnodjaa
open Go.RowKit
open Sat (Path R)

theorem eql_some (a : Addr) (n c : Nat) (w : World) : (binOp .eql 23 (.slice (some a) n c) (.slice none 0 0)).run Try.prog w = .ok (.bool false) w := by kernel_rfl
theorem eql_none (w : World) : (binOp .eql 23 (.slice none 0 0) (.slice none 0 0)).run Try.prog w = .ok (.bool true) w := by kernel_rfl
theorem neq_some (a : Addr) (n c : Nat) (w : World) : (binOp .neq 23 (.slice (some a) n c) (.slice none 0 0)).run Try.prog w = .ok (.bool true) w := by kernel_rfl
theorem neq_none (w : World) : (binOp .neq 23 (.slice none 0 0) (.slice none 0 0)).run Try.prog w = .ok (.bool false) w := by kernel_rfl
theorem IntsM.lit (w : World) (y : Int) {lo : Nat} (hlo : lo ≤ w.heap.size) : IntsM lo (w.alloc (.cells #[.int .i64 y] 3)) (.slice (some ⟨w.heap.size, 0, none⟩) 1 1) [y] :=
  ⟨rfl, .inr ⟨w.heap.size, 1, #[.int .i64 y], rfl, hlo, World.alloc_heap_new _ _, Nat.le_refl _, by simp [maxLen], rfl, rfl⟩⟩
theorem natV_len (l : List Nat) : (natV l).length = l.length := by simp [natV]
theorem natV_app (l m : List Nat) : natV (l ++ m) = natV l ++ natV m := by simp [natV]
/-- what 'chain' returns -/
def ChainR (L : Sat.Lay) (N : List Nat) (W : World) (e : Ending) (w' : World) : Prop :=
  ∃ (v : Value) (x : Later W), e = .returned v ∧ w' = x.w ∧ ((Sat.NoChain L N ∧ v = .slice none 0 0) ∨ ∃ (l : List Nat) (a : Addr) (n c : Nat), v = .slice (some a) n c ∧ Ints x.w v (natV l) ∧ Sat.IsChain L N l)
theorem way_some {p z : Nat} {o : List Nat} (hne : z ≠ p) (h : (p :: o).getLast? = some z) : 0 < o.length := by
  cases o with
  | nil => simp at h; exact absurd h.symm hne
  | cons _ _ => simp
set_option maxRecDepth 100000 in
set_option maxHeartbeats 4000000 in
theorem chain_calls (L : Sat.Lay) (N : List Nat) (n lo b : Nat) (hN10 : ∀ k ∈ N, k < 10) (hNl : N.length ≤ 10) (W : World) (hD : Dk L N n lo W b) :
    Calls Try.prog 65 #[.pointer (some ⟨b, 0, none⟩)] W (ChainR L N W) := by
  have HDk := Lib.hid hD
  obtain ⟨mm, mv, cv, nv, M, cov, hB, hNs, -, -⟩ := hD
  have b24 := hB.c24
  have bl := hB.lt
  obtain ⟨an, ln, cn, rfl⟩ : ∃ a n c, nv = .slice a n c := by obtain ⟨a, c, e⟩ := hNs.form; exact ⟨a, _, c, e⟩
  have HLN := Lib.hid (show ln = N.length by obtain ⟨a, c, e⟩ := hNs.form; cases e; simp)
  have hln : ln ≤ 10 := by rw [HLN.out]; exact hNl
  clear hB
  have he0 := eql_none
  have he1 := eql_some
  go_enter Try.func65, Try.ntmps65
  go_wp2
  go_step3
  go_wp2
  go_step3
  go_wp2
  clear b24 bl
  go_loopw [14] (fun i wr => ∃ (k : Nat) (x : Later W), wr = x.w ∧ k ≤ ln ∧ i = .int .i64 k ∧ Hid (∀ q ∈ N.take k, ¬ (R L N (2 * q) (2 * q + 1) ∧ R L N (2 * q + 1) (2 * q)))) (fun i _ => ln - (intOf i).toNat)
  case atStart => exact ⟨0, Later.self _, rfl, Nat.zero_le _, rfl, Lib.hid (fun q hq => absurd hq (by simp))⟩
  case round =>
    obtain ⟨k, x, rfl, hk, rfl, HNC⟩ := hrel
    by_cases hlt : k < ln
    · have hkN : k < N.length := by rw [← HLN.out]; exact hlt
      obtain ⟨bm, om, km, e, hkm, hbm, hgm⟩ := hNs.at (k := k) (by rw [List.length_map]; exact hkN)
      injection e with e1 e2 e3
      subst e1
      have m1 := (x.cell hbm).trans (hgm k (by rw [List.length_map]; exact hkN))
      have ml := Nat.lt_of_lt_of_le hbm x.size
      obtain ⟨q, hq⟩ : ∃ q, N[k] = q := ⟨_, rfl⟩
      have hqN : q ∈ N := by rw [← hq]; exact List.getElem_mem hkN
      have hq10 := hN10 q hqN
      rw [show nth (N.map fun (k : Nat) => (k : Int)) k = (q : Int) by rw [nth_eq (by rw [List.length_map]; exact hkN)]; simp [hq]] at m1
      have HTK := Lib.hid (show N.take (k + 1) = N.take k ++ [q] by rw [List.take_succ_eq_append_getElem hkN, hq])
      have hNext : ¬ (R L N (2 * q) (2 * q + 1) ∧ R L N (2 * q + 1) (2 * q)) → ∀ r ∈ N.take (k + 1), ¬ (R L N (2 * r) (2 * r + 1) ∧ R L N (2 * r + 1) (2 * r)) := fun h r hr => by
        rw [HTK.out] at hr
        rcases List.mem_append.1 hr with hr | hr
        · exact HNC.out r hr
        · have e : r = q := by simpa using hr
          rw [e]; exact h
      have HNX := Lib.hid hNext
      obtain ⟨P, hP⟩ : ∃ P, 2 * q = P := ⟨_, rfl⟩
      have eP : 2 * (q : Int) = (P : Int) := by omega
      obtain ⟨Q, hQ⟩ : ∃ Q, Sat.mate P = Q := ⟨_, rfl⟩
      have HPQ := Lib.hid (show Q = 2 * q + 1 by rw [← hQ, ← hP, Sat.mate_two])
      have hPN : P / 2 ∈ N := by rw [← hP, Nat.mul_div_cancel_left _ (by decide)]; exact hqN
      have hQN : Q / 2 ∈ N := by rw [← hQ, Sat.mate_div]; exact hPN
      have hP20 : P < 20 := by omega
      have HP := Lib.hid hP
      have HQ := Lib.hid hQ
      have HEP := Lib.hid eP
      have hmt := fun V => mate_calls P (by omega) V
      rw [hQ] at hmt
      have HM := Lib.hid hmt
      clear hgm hkm e2 e3 hq hNext hP hQ eP hmt
      have w1 := Lib.hid (fun V : Later W => way_calls L N n lo b hN10 hNl P Q hPN hQN V.w (HDk.out.later V))
      have w2 := Lib.hid (fun V : Later W => way_calls L N n lo b hN10 hNl Q P hQN hPN V.w (HDk.out.later V))
      go_wp2_with fail
      rw [HEP.out]
      refine (HM.out _).mono ?_
      rintro e w' ⟨rfl, rfl⟩
      clear m1 ml
      go_wp2_with fail
      refine (w1.out x).mono ?_
      rintro e w' ⟨v1, y, rfl, rfl, hv1⟩
      rcases hv1 with ⟨hno, rfl⟩ | ⟨o1, hO1, hp1, hz1, hl1⟩
      · have HX := Lib.hid (HNX.out (fun h => hno (by rw [← HP.out, HPQ.out]; exact h.1)))
        go_wp2
        go_roundw
        case rel => exact ⟨k + 1, x.step y, rfl, by omega, by go_num, HX⟩
        case measure => simp [intOf]; omega
      · obtain ⟨a1, n1, c1, rfl⟩ := hO1.form'
        have HL1 := Lib.hid (show n1 = o1.length by obtain ⟨a, c, e⟩ := hO1.form; cases e; rw [natV_len])
        obtain ⟨g1, rfl⟩ := hO1.own (by rw [natV_len]; exact way_some (by rw [← HQ.out]; exact Sat.mate_ne P) hz1)
        have HO1 := Lib.hid (hO1.mono x.size)
        have H1 := Lib.hid (And.intro hp1 (And.intro hz1 hl1))
        obtain ⟨V, hV⟩ : ∃ q : Later W, y.w = q.w := ⟨x.step y, rfl⟩
        rw [hV] at HO1 ⊢
        clear hO1 hp1 hz1 hl1 hV y
        go_wp2_with fail
        refine (HM.out _).mono ?_
        rintro e w' ⟨rfl, rfl⟩
        go_wp2_with fail
        refine (w2.out V).mono ?_
        rintro e w' ⟨v2, y, rfl, rfl, hv2⟩
        rcases hv2 with ⟨hno, rfl⟩ | ⟨o2, hO2, hp2, hz2, hl2⟩
        · have HX := Lib.hid (HNX.out (fun h => hno (by rw [← HP.out, HPQ.out]; exact h.2)))
          go_wp2
          go_roundw
          case rel => exact ⟨k + 1, V.step y, rfl, by omega, by go_num, HX⟩
          case measure => simp [intOf]; omega
        · obtain ⟨a2, n2, c2, rfl⟩ := hO2.form'
          obtain ⟨g2, rfl⟩ := hO2.own (by rw [natV_len]; exact way_some (by rw [← HQ.out]; exact (Sat.mate_ne P).symm) hz2)
          have HO2 := Lib.hid (hO2.mono V.size)
          have HCH := Lib.hid (Sat.chain_of hPN H1.out.1 (by rw [HQ.out]; exact H1.out.2.1) (by rw [HQ.out]; exact hp2) (by rw [HQ.out]; exact hz2) H1.out.2.2 hl2)
          obtain ⟨Z, hZ⟩ : ∃ q : Later W, y.w = q.w := ⟨V.step y, rfl⟩
          have hO1 := HO1.out.later y
          rw [hZ] at HO2 hO1 ⊢
          have h2l := hl2
          have h1l := H1.out.2.2
          clear hO2 hp2 hz2 hl2 hZ y HO1 H1
          have hA := IntsM.lit Z.w (P : Int) (lo := Z.w.heap.size) (Nat.le_refl _)
          obtain ⟨v3, q3, hr3, hA3, -⟩ := app_ints_stepM (W := Z.w) (Later.new Z.w (.cells #[.int .i64 (P : Int)] 3)).le hA ((hO1.ints (by rw [natV_len]; omega)).later (Later.new _ _)) (by rw [natV_len]; simp; omega) 23
          obtain ⟨a3, n3, c3, rfl⟩ := hA3.form'
          obtain ⟨v4, q4, hr4, hA4, -⟩ := app_ints_stepM (W := Z.w) q3.le hA3 ((HO2.out.ints (by rw [natV_len]; omega)).later q3) (by rw [natV_len]; simp [natV_len]; omega) 23
          obtain ⟨a4, n4, c4, rfl⟩ := hA4.form'
          obtain ⟨g4, rfl⟩ := hA4.own (by simp)
          have HR3 := Lib.hid hr3
          have HR4 := Lib.hid hr4
          have HI4 := Lib.hid (show Ints q4.w (.slice (some ⟨g4, 0, none⟩) n4 c4) (natV (P :: o1 ++ o2)) by
            have h9 := hA4.ints (by simp [natV_len]; omega)
            rw [show natV (P :: o1 ++ o2) = [(P : Int)] ++ natV o1 ++ natV o2 by simp [natV]]
            exact h9)
          clear hA hr3 hA3 hr4 hA4 hO1 HO2
          go_wp2_with (first | (with_reducible show wpList _ _ _ (⟨some 37, _, _, _, _, _⟩ :: _) _ _); refine Lib.wpList_append_run_sl _ rfl _ _ 23 rfl _ _ rfl rfl HR3.out ?_ | (with_reducible show wpList _ _ _ (⟨some 40, _, _, _, _, _⟩ :: _) _ _); refine Lib.wpList_append_run_sl _ rfl _ _ 23 rfl _ _ rfl rfl HR4.out ?_)
          go_ret
          exact ⟨_, Z.step q4, rfl, rfl, .inr ⟨_, _, _, _, rfl, HI4.out, HCH.out⟩⟩
    · obtain rfl : ln = k := by omega
      have HF := Lib.hid (show Sat.NoChain L N from fun q hq => HNC.out q (by rw [HLN.out, List.take_length]; exact hq))
      go_wp2
      go_ret
      exact ⟨_, x, rfl, rfl, .inl ⟨HF.out, rfl⟩⟩

end Go.Proofs.Ytdhdpbnlhnodjaa

/-  The program: agree; the library's Clone. -/
namespace Go.Proofs.Ytdhdpbnlhnodjaa
open Go.RowKit
open Sat (at0 Mk)

theorem Mk.pos {L : Sat.Lay} {N B : List Nat} {X : List Int} {ord : List Nat} (h : Mk L N B 20 X ord) {q : Nat} (hq : q < 20) : 0 ≤ nth X q := by
  show 0 ≤ at0 X q
  by_cases hm : q ∈ ord
  · obtain ⟨i, hi, rfl⟩ := List.mem_iff_getElem.1 hm
    rcases h.par i hi with ⟨_, e⟩ | ⟨j, hj, e, _⟩ <;> rw [e] <;> omega
  · have : at0 X q = 0 := Classical.byContradiction fun h0 => hm ((h.mem q hq).1 h0)
    omega
theorem Rch.gt {L : Sat.Lay} {N T : List Nat} {X : List Int} {ord : List Nat} (h : Rch L N T X ord) {q : Nat} (hq : q < 20) : 0 < nth X q ↔ Sat.Cl L N T q := by
  rw [← h.iff hq]
  have := Mk.pos h.mk1 hq
  omega
noncomputable def agreeB (L : Sat.Lay) (N T : List Nat) : Bool := @decide (Sat.Agree L N T) (Classical.propDecidable _)
theorem agreeB_iff {L : Sat.Lay} {N T : List Nat} : agreeB L N T = true ↔ Sat.Agree L N T := by rw [agreeB]; exact @decide_eq_true_iff _ (Classical.propDecidable _)
theorem agreeB_true {L : Sat.Lay} {N T : List Nat} (h : Sat.Agree L N T) : agreeB L N T = true := agreeB_iff.2 h
theorem agreeB_false {L : Sat.Lay} {N T : List Nat} (h : ¬ Sat.Agree L N T) : agreeB L N T = false := by
  cases e : agreeB L N T
  · rfl
  · exact absurd (agreeB_iff.1 e) h
set_option maxRecDepth 100000 in
set_option maxHeartbeats 4000000 in
theorem agree_calls (L : Sat.Lay) (N : List Nat) (n lo b : Nat) (hN10 : ∀ k ∈ N, k < 10) (hNl : N.length ≤ 10) (T : List Nat) (hT : ∀ p ∈ T, p / 2 ∈ N) (hTl : T.length ≤ 1000) (W : World) (hD : Dk L N n lo W b) (uv : Value) (hu : Ints W uv (natV T)) :
    Calls Try.prog 80 #[.pointer (some ⟨b, 0, none⟩), uv] W (Gives (.bool (agreeB L N T)) W) := by
  have HRC := Lib.hid (reach_calls L N n lo b hN10 hNl T hT hTl W hD uv hu)
  obtain ⟨au, lu, cu, rfl⟩ : ∃ a n c, uv = .slice a n c := by obtain ⟨a, c, e⟩ := hu.form; exact ⟨a, _, c, e⟩
  obtain ⟨mm, mv, cv, nv, M, cov, hB, hNs, -, -⟩ := hD
  obtain ⟨an, ln, cn, rfl⟩ : ∃ a n c, nv = .slice a n c := by obtain ⟨a, c, e⟩ := hNs.form; exact ⟨a, _, c, e⟩
  have HLN := Lib.hid (show ln = N.length by obtain ⟨a, c, e⟩ := hNs.form; cases e; simp)
  have hln : ln ≤ 10 := by rw [HLN.out]; exact hNl
  have HB := Lib.hid hB
  obtain ⟨R, hR⟩ : ∃ R, agreeB L N T = R := ⟨_, rfl⟩
  have HRES := Lib.hid hR
  rw [hR]
  clear hB hR
  go_enter Try.func80, Try.ntmps80
  go_wp2_with fail
  refine HRC.out.mono ?_
  rintro e w' ⟨X, ord, V, rfl, rfl, hR⟩
  have hlX := hR.mk1.len
  have HR := Lib.hid hR
  clear hR HRC
  go_wp2_with (refine wpList_store_marks rfl _ _ rfl rfl X rfl hlX (by simp) ?_; rintro w1 hA1 ⟨x1, rfl⟩; go_frame; have b24 := ((V.step x1).cell (HB.out).lt).trans (HB.out).c24; have bl := Nat.lt_of_lt_of_le (HB.out).lt (V.step x1).size; rw [Later.step_w] at b24 bl)
  obtain ⟨Mb, hMb⟩ : ∃ m, V.w.heap.size = m := ⟨_, rfl⟩
  obtain ⟨U, hU⟩ : ∃ q : Later W, x1.w = q.w := ⟨V.step x1, rfl⟩
  rw [hMb] at hA1 ⊢
  rw [hU] at hA1 ⊢
  clear b24 bl hU hMb x1 V
  go_loopw [16] (fun i wr => ∃ (k : Nat) (x : Later U.w), wr = x.w ∧ k ≤ ln ∧ i = .int .i64 k ∧ Hid (∀ q ∈ N.take k, ¬ (Sat.Cl L N T (2 * q) ∧ Sat.Cl L N T (2 * q + 1)))) (fun i _ => ln - (intOf i).toNat)
  case atStart => exact ⟨0, Later.self _, rfl, Nat.zero_le _, rfl, Lib.hid (fun q hq => absurd hq (by simp))⟩
  case round =>
    obtain ⟨k, x, rfl, hk, rfl, HNC⟩ := hrel
    by_cases hlt : k < ln
    · have hkN : k < N.length := by rw [← HLN.out]; exact hlt
      obtain ⟨bm, om, km, e, hkm, hbm, hgm⟩ := hNs.at (k := k) (by rw [List.length_map]; exact hkN)
      injection e with e1 e2 e3
      subst e1
      have m1 := ((U.step x).cell hbm).trans (hgm k (by rw [List.length_map]; exact hkN))
      have ml := Nat.lt_of_lt_of_le hbm (U.step x).size
      obtain ⟨q, hq⟩ : ∃ q, N[k] = q := ⟨_, rfl⟩
      have hqN : q ∈ N := by rw [← hq]; exact List.getElem_mem hkN
      have hq10 := hN10 q hqN
      rw [show nth (N.map fun (k : Nat) => (k : Int)) k = (q : Int) by rw [nth_eq (by rw [List.length_map]; exact hkN)]; simp [hq]] at m1
      have HTK := Lib.hid (show N.take (k + 1) = N.take k ++ [q] by rw [List.take_succ_eq_append_getElem hkN, hq])
      rw [Later.step_w] at m1 ml
      obtain ⟨P, hP⟩ : ∃ P, 2 * q = P := ⟨_, rfl⟩
      have eP : 2 * (q : Int) = (P : Int) := by omega
      have hP20 : P + 1 < 20 := by omega
      have c1 := (hA1.later x).cell (k := P) (by rw [hlX]; omega)
      have c2 := (hA1.later x).cell (k := P + 1) (by rw [hlX]; omega)
      have lM := (hA1.later x).lt
      have HC1 := Lib.hid (HR.out.gt (q := P) (by omega))
      have HC2 := Lib.hid (HR.out.gt (q := P + 1) (by omega))
      obtain ⟨y1, hy1⟩ : ∃ y, nth X P = y := ⟨_, rfl⟩
      obtain ⟨y2, hy2⟩ : ∃ y, nth X (P + 1) = y := ⟨_, rfl⟩
      rw [hy1] at c1 HC1
      rw [hy2] at c2 HC2
      have HP := Lib.hid hP
      have HQN := Lib.hid hqN
      clear hgm hkm e2 e3 hq hP hy1 hy2
      by_cases hb : 0 < y1 ∧ 0 < y2
      · obtain ⟨h1, h2⟩ := hb
        have d1 := decide_eq_true h1
        have d2 := decide_eq_true h2
        have HF := Lib.hid (show R = false by
          rw [← HRES.out]
          refine agreeB_false fun ha => ha q HQN.out ?_
          rw [HP.out]
          exact ⟨HC1.out.1 h1, HC2.out.1 h2⟩)
        go_wp2
        go_ret
        exact ⟨ret_bool HF.out.symm, U.step x, rfl⟩
      · have HX := Lib.hid (show ∀ r ∈ N.take (k + 1), ¬ (Sat.Cl L N T (2 * r) ∧ Sat.Cl L N T (2 * r + 1)) from fun r hr => by
          rw [HTK.out] at hr
          rcases List.mem_append.1 hr with hr | hr
          · exact HNC.out r hr
          · have e : r = q := by simpa using hr
            rw [e, HP.out]
            exact fun h => hb ⟨HC1.out.2 h.1, HC2.out.2 h.2⟩)
        by_cases h1 : 0 < y1
        · have d1 := decide_eq_true h1
          have d2 : decide (0 < y2) = false := decide_eq_false fun h => hb ⟨h1, h⟩
          clear hb
          go_wp2
          go_roundw
          case rel => exact ⟨k + 1, x, rfl, by omega, by go_num, HX⟩
          case measure => simp [intOf]; omega
        · have d1 := decide_eq_false h1
          clear hb
          go_wp2
          go_roundw
          case rel => exact ⟨k + 1, x, rfl, by omega, by go_num, HX⟩
          case measure => simp [intOf]; omega
    · obtain rfl : ln = k := by omega
      have HF := Lib.hid (show R = true by rw [← HRES.out]; exact agreeB_true (fun q hq => HNC.out q (by rw [HLN.out, List.take_length]; exact hq)))
      go_wp2
      go_ret
      exact ⟨ret_bool HF.out.symm, U.step x, rfl⟩

/-- slices.Clone -/
def CloneR (W : World) (xs : List Int) (e : Ending) (w' : World) : Prop := ∃ (v' : Value) (x : Later W), e = .returned v' ∧ w' = x.w ∧ IntsM W.heap.size x.w v' xs
set_option maxRecDepth 100000 in
set_option maxHeartbeats 1000000 in
theorem Clone_calls (W : World) (v : Value) (xs : List Int) (hx : Ints W v xs) (hv : v = .slice none 0 0 ∨ ∃ a n c, v = .slice (some a) n c) (hl : xs.length ≤ 1000) : Calls Try.prog 79 #[v] W (CloneR W xs) := by
  have he0 := eql_none
  have he1 := eql_some
  rcases hv with rfl | ⟨a, n, c, rfl⟩
  · have HX := Lib.hid (show xs = [] by obtain ⟨a, c, e⟩ := hx.form; injection e with e1 e2; exact List.eq_nil_of_length_eq_zero e2.symm)
    go_enter Try.func79, Try.ntmps79
    go_wp2
    go_ret
    exact ⟨_, Later.self _, rfl, rfl, by rw [HX.out]; exact IntsM.nil _ _⟩
  · obtain ⟨a', n', c', q, hrun, hI⟩ := app_emptyM (IntsM.empty W rfl (Nat.le_refl _)) (hx.later (Later.new _ _)) (by simp) (by omega) 23
    have HR := Lib.hid hrun
    have HI := Lib.hid hI
    clear hrun hI
    go_enter Try.func79, Try.ntmps79
    go_wp2_with ((with_reducible show wpList _ _ _ (⟨some 7, _, _, _, _, _⟩ :: _) _ _); refine Lib.wpList_append_run_sl _ rfl _ _ 23 rfl _ _ rfl rfl HR.out ?_)
    go_ret
    exact ⟨_, (Later.new _ _).step q, rfl, rfl, HI.out⟩

end Go.Proofs.Ytdhdpbnlhnodjaa
