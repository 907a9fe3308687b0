import Derived.Test.YtdhdpbnlhnodjaaKFind
import Derived.Test.YtdhdpbnlhnodjaaKRefG
/-  The program: Kind. -/
namespace Go.Proofs.Ytdhdpbnlhnodjaa
open Go.RowKit
open Sat (plc rightP setL One)

theorem settL_rightP {n : Nat} {mn : List (Nat × Nat)} {cn : List Nat} (hS : Shn n mn cn) (ps : List Nat) : rightP mn cn ps = Sat.okF hS.lay [] ps := by
  rw [show hS.lay = Sat.layS mn cn hS.ne from rfl, Sat.okF_rightP]
/-- how many settings use a place -/
theorem cntK_settL {n : Nat} {mn : List (Nat × Nat)} {cn N : List Nat} (_ : Shn n mn cn) (hN : Nms n N) {p : Nat} (hp : p < 2 * n) :
    cntK (settL n mn cn N) (p : Int) = (((Sat.sidesL N.length).filter fun bs => rightP mn cn (plc N bs)).filter fun bs => decide (p ∈ plc N bs)).length := by
  rw [cntK, settL, List.filter_map, List.length_map]
  congr 1
  refine List.filter_congr fun bs hb => ?_
  have hb1 := (List.mem_filter.1 hb).1
  exact sideB_nat (Sat.plc_one hN.nodup (Sat.mem_sidesL.1 hb1).2) hp
theorem cntK_zero {n : Nat} {mn : List (Nat × Nat)} {cn N : List Nat} (hS : Shn n mn cn) (hN : Nms n N) {p : Nat} (hp : p < 2 * n) : cntK (settL n mn cn N) (p : Int) = 0 ↔ ¬ Sat.Can hS.lay N [p] := by
  rw [cntK_settL hS hN hp, List.length_eq_zero_iff, List.filter_eq_nil_iff, Sat.can_sides hN.nodup]
  constructor
  · rintro h ⟨bs, h1, h2, h3⟩
    exact h bs (List.mem_filter.2 ⟨h1, by rw [settL_rightP hS]; exact h2⟩) (decide_eq_true (h3 p (by simp)))
  · intro h bs hb hd
    obtain ⟨h1, h2⟩ := List.mem_filter.1 hb
    rw [settL_rightP hS] at h2
    exact h ⟨bs, h1, h2, fun q hq => one_mem (P := fun q => q ∈ plc N bs) (of_decide_eq_true hd) hq⟩
theorem cntK_all {n : Nat} {mn : List (Nat × Nat)} {cn N : List Nat} (hS : Shn n mn cn) (hN : Nms n N) {p : Nat} (hp : p < 2 * n) (hpN : p / 2 ∈ N) : cntK (settL n mn cn N) (p : Int) = (settL n mn cn N).length ↔ ¬ Sat.Can hS.lay N [Sat.mate p] := by
  rw [cntK_settL hS hN hp, settL, List.length_map, List.length_filter_eq_length_iff, Sat.can_sides hN.nodup]
  have key : ∀ bs, bs ∈ Sat.sidesL N.length → rightP mn cn (plc N bs) = true → (p ∈ plc N bs ↔ ¬ Sat.mate p ∈ plc N bs) := fun bs h1 h2 => by
    rw [settL_rightP hS] at h2
    have h3 := ((Sat.plc_right hN.nodup h1).1 h2).mate hpN
    constructor
    · intro h4 h5
      rw [decide_eq_true h4, decide_eq_true h5] at h3; cases h3
    · intro h4
      rw [decide_eq_false h4] at h3
      exact of_decide_eq_true (by simpa using h3.symm)
  constructor
  · rintro h ⟨bs, h1, h2, h3⟩
    have h4 := h bs (List.mem_filter.2 ⟨h1, by rw [settL_rightP hS]; exact h2⟩)
    exact (key bs h1 (by rw [settL_rightP hS]; exact h2)).1 (of_decide_eq_true h4) (h3 _ (by simp))
  · intro h bs hb
    obtain ⟨h1, h2⟩ := List.mem_filter.1 hb
    refine decide_eq_true ((key bs h1 h2).2 fun h5 => h ⟨bs, h1, by rw [← settL_rightP hS]; exact h2, fun q hq => one_mem (P := fun q => q ∈ plc N bs) h5 hq⟩)
theorem kind_never {n : Nat} {mn : List (Nat × Nat)} {cn N : List Nat} (hS : Shn n mn cn) (hN : Nms n N) {p : Nat} (hp : p < 2 * n) (h0 : settL n mn cn N ≠ []) (h : ¬ Sat.Can hS.lay N [p]) : cntV (settL n mn cn N) (p : Int) = 0 := by
  rw [cntV, if_neg h0, kindV, (cntK_zero hS hN hp).2 h, if_neg, if_pos rfl]
  exact fun e => h0 (List.eq_nil_of_length_eq_zero e.symm)
theorem kind_always {n : Nat} {mn : List (Nat × Nat)} {cn N : List Nat} (hS : Shn n mn cn) (hN : Nms n N) {p : Nat} (hp : p < 2 * n) (hpN : p / 2 ∈ N) (h0 : settL n mn cn N ≠ []) (h : ¬ Sat.Can hS.lay N [Sat.mate p]) : cntV (settL n mn cn N) (p : Int) = 2 := by
  rw [cntV, if_neg h0, kindV, if_pos ((cntK_all hS hN hp hpN).2 h)]
theorem kind_may {n : Nat} {mn : List (Nat × Nat)} {cn N : List Nat} (hS : Shn n mn cn) (hN : Nms n N) {p : Nat} (hp : p < 2 * n) (hpN : p / 2 ∈ N) (h0 : settL n mn cn N ≠ []) (h : Sat.Can hS.lay N [p]) (h' : Sat.Can hS.lay N [Sat.mate p]) : cntV (settL n mn cn N) (p : Int) = 1 := by
  rw [cntV, if_neg h0, kindV, if_neg, if_neg]
  · exact fun e => (cntK_zero hS hN hp).1 e h
  · exact fun e => (cntK_all hS hN hp hpN).1 e h'
theorem ret_nums {k l : IntKind} {a b c d : Int} (h1 : a = b) (h2 : c = d) : Ending.returned (.tuple #[.int k a, .int l c]) = .returned (.tuple #[.int k b, .int l d]) := by rw [h1, h2]
theorem outB_isPl (n p : Int) : outB 0 (2 * n - 1) p = !isPl n p := by
  rw [outB, isPl, Bool.eq_iff_iff]; simp; omega
theorem FirstS.can {L : Sat.Lay} {N use bs : List Nat} (hN : N.Nodup) (h : FirstS L N use bs) : Sat.Can L N use := by
  obtain ⟨h1, h2, h3⟩ := h
  rw [← Sat.firstS_head] at h3
  have hm := List.mem_filter.1 (List.mem_of_mem_head? (Option.mem_def.2 h3))
  have h4 := hm.2
  rw [Bool.and_eq_true, List.all_eq_true] at h4
  exact (Sat.can_sides hN).2 ⟨bs, h1, h2, fun p hp => List.contains_iff_mem.1 (h4.2 p hp)⟩
set_option maxRecDepth 100000 in
set_option maxHeartbeats 4000000 in
theorem Kind_calls (n : Nat) (mv cv nv : Value) (p : Int) (mn : List (Nat × Nat)) (cn N : List Nat) (hS : Shn n mn cn) (hN : Nms n N) (W : World) (hs : Sht W mv cv (mn.map prI) (cn.map fun (c : Nat) => (c : Int))) (hx : Ints W nv (N.map fun (k : Nat) => (k : Int))) :
    Calls Try.prog 27 #[.agg #[.int .i64 n, mv, cv], nv, .int .i64 p] W (Gives (.tuple #[.int .i64 (kindN n (N.map fun (k : Nat) => (k : Int)) p (settL n mn cn N)), .int .i64 (kindE n (N.map fun (k : Nat) => (k : Int)) p (settL n mn cn N))]) W) := by
  have HT := Lib.hid (fun (W : World) (mv cv nv : Value) hs hx => named_good n mv cv nv mn cn N hS hN W hs hx)
  have HFI := Lib.hid (fun (lo b : Nat) (U : World) hD use hU hUd hUl uv hu hv => first_calls hS.lay N n lo b hS.n1 hS.n10 hN.lt hN.nodup (Nat.le_trans hN.len hS.n10) use hU hUd hUl U hD uv hu hv)
  have HNO := Lib.hid (settL_nil (cn := cn) hS hN.nodup)
  have HYES := Lib.hid (fun h => (settL_can (cn := cn) hS hN.nodup).2 h)
  have HK0 := Lib.hid (fun (q : Nat) (hq : q < 2 * n) => kind_never hS hN hq)
  have HK2 := Lib.hid (fun (q : Nat) (hq : q < 2 * n) => kind_always hS hN hq)
  have HK1 := Lib.hid (fun (q : Nat) (hq : q < 2 * n) => kind_may hS hN hq)
  have h10 := hS.n10
  have h1n := hS.n1
  have HND := Lib.hid hN.nodup
  obtain ⟨KN, hKN⟩ : ∃ r, kindN n (N.map fun (k : Nat) => (k : Int)) p (settL n mn cn N) = r := ⟨_, rfl⟩
  obtain ⟨KE, hKE⟩ : ∃ r, kindE n (N.map fun (k : Nat) => (k : Int)) p (settL n mn cn N) = r := ⟨_, rfl⟩
  have HKN := Lib.hid hKN
  have HKE := Lib.hid hKE
  rw [hKN, hKE]
  clear hKN hKE
  obtain ⟨SS, hSS⟩ : ∃ S, settL n mn cn N = S := ⟨_, rfl⟩
  rw [hSS] at HNO HYES HK0 HK1 HK2 HKN HKE
  clear hSS
  obtain ⟨L, hL⟩ : ∃ L, hS.lay = L := ⟨_, rfl⟩
  rw [hL] at HT HFI HNO HYES HK0 HK1 HK2
  clear hL
  obtain ⟨ms, hms⟩ : ∃ ms, mn.map prI = ms := ⟨_, rfl⟩
  obtain ⟨cs, hcs⟩ : ∃ cs, (cn.map fun (c : Nat) => (c : Int)) = cs := ⟨_, rfl⟩
  rw [hms, hcs] at hs HT
  clear hms hcs
  obtain ⟨ax, lx, cx, rfl⟩ : ∃ a n c, nv = .slice a n c := by obtain ⟨a, c, e⟩ := hx.form; exact ⟨a, _, c, e⟩
  obtain ⟨am, lm, cm, rfl⟩ : ∃ a n c, mv = .slice a n c := by obtain ⟨a, c, e⟩ := hs.m.form; exact ⟨a, _, c, e⟩
  obtain ⟨ac, lc, cc, rfl⟩ : ∃ a n c, cv = .slice a n c := by obtain ⟨a, c, e⟩ := hs.c.form; exact ⟨a, _, c, e⟩
  have HLM := Lib.hid (show lm = ms.length by obtain ⟨a, c, e⟩ := hs.m.form; cases e; rfl)
  have HLC := Lib.hid (show lc = cs.length by obtain ⟨a, c, e⟩ := hs.c.form; cases e; rfl)
  have he0 := eql_none
  have he1 := eql_some
  go_enter Try.func27, Try.ntmps27
  go_wp2_with fail
  obtain ⟨B, hB⟩ : ∃ B, B = W.heap.size := ⟨_, rfl⟩
  obtain ⟨z, hz⟩ : ∃ z : Later W, z.w = W.alloc (.cells #[.int .i64 n, .slice am lm cm, .slice ac lc cc] 25) := ⟨Later.new _ _, rfl⟩
  have c0 : z.w.cell? ⟨B, 0, none⟩ = some (.int .i64 n) := by rw [hz, hB]; simp [go_sem]
  have c1 : z.w.cell? ⟨B, 1, none⟩ = some (.slice am lm cm) := by rw [hz, hB]; simp [go_sem]
  have c2 : z.w.cell? ⟨B, 2, none⟩ = some (.slice ac lc cc) := by rw [hz, hB]; simp [go_sem]
  have hBz : B < z.w.heap.size := by rw [hz, hB]; simp [go_sem]
  rw [← hz, ← hB]
  replace hs := hs.later z
  replace hx := hx.later z
  clear hz hB
  refine (HT.out _ _ _ _ hs hx).mono ?_
  rintro e w' ⟨b, x, rfl, rfl, hD⟩
  have HD := Lib.hid hD
  clear hD
  have g0 : x.w.cell? ⟨B, 0, none⟩ = some (.int .i64 n) := (x.cell hBz).trans c0
  have gB : B < x.w.heap.size := Nat.lt_of_lt_of_le hBz x.size
  have hI := Ints.lit x.w [p] 3 (b := x.w.heap.size) (arr := #[.int .i64 p]) (n := 1) rfl rfl rfl (by simp)
  have hwc := within_calls _ [p] 0 (2 * (n : Int) - 1) _ hI
  rw [one_any, outB_isPl, Bool.not_not] at hwc
  have HX := Lib.hid hx
  cases hpl : isPl n p
  · rw [hpl] at hwc
    have H1 := Lib.hid (show KN = 0 by rw [← HKN.out, kindN, kindB, hpl]; rfl)
    have H2 := Lib.hid (show KE = 3 by rw [← HKE.out, kindE, kindB, hpl]; rfl)
    clear hpl hx
    go_wp2_with fail
    refine hwc.mono ?_
    rintro e w' ⟨rfl, y, rfl⟩
    go_wp2
    go_ret2
    exact ⟨ret_nums H1.out.symm H2.out.symm, ((z.step x).step (Later.new _ _)).step y, rfl⟩
  rw [hpl] at hwc
  have HPL := Lib.hid hpl
  rw [isPl, Bool.and_eq_true, decide_eq_true_iff, decide_eq_true_iff] at hpl
  obtain ⟨q, rfl⟩ := Int.eq_ofNat_of_zero_le hpl.1
  have hq2 : q < 2 * n := by omega
  have HCO := Lib.hid (fun V : Later x.w => Contains_calls _ _ ((q : Int) / 2) V.w ((HX.out.later x).later V))
  obtain ⟨h, hh⟩ : ∃ h, q / 2 = h := ⟨_, rfl⟩
  have eh : (q : Int) / 2 = (h : Int) := by omega
  rw [eh, hasB_nat] at HCO
  have HKB := Lib.hid (show kindB n (N.map fun (k : Nat) => (k : Int)) (q : Int) = N.contains h by rw [kindB, HPL.out, Bool.true_and, eh, hasB_nat])
  have HH := Lib.hid hh
  have HEH := Lib.hid eh
  clear hpl hh eh hx
  cases hc : N.contains h
  · rw [hc] at HCO
    have H1 := Lib.hid (show KN = 0 by rw [← HKN.out, kindN, HKB.out, hc]; rfl)
    have H2 := Lib.hid (show KE = 3 by rw [← HKE.out, kindE, HKB.out, hc]; rfl)
    clear hc
    go_wp2_with fail
    refine hwc.mono ?_
    clear hwc hI
    rintro e w' ⟨rfl, y, rfl⟩
    go_wp2_with fail
    rw [HEH.out]
    refine (HCO.out ((Later.new _ _).step y)).mono ?_
    rintro e w' ⟨rfl, rfl⟩
    go_wp2
    go_ret2
    exact ⟨ret_nums H1.out.symm H2.out.symm, ((z.step x).step (Later.new _ _)).step y, rfl⟩
  rw [hc] at HCO
  have H1 := Lib.hid (show KN = cntV SS (q : Int) by rw [← HKN.out, kindN, HKB.out, hc]; rfl)
  have H2 := Lib.hid (show KE = setE SS by rw [← HKE.out, kindE, HKB.out, hc]; rfl)
  have hqN : q / 2 ∈ N := by rw [HH.out]; exact List.contains_iff_mem.1 hc
  have HQN := Lib.hid hqN
  clear hc HKN HKE HKB HPL hqN
  have hmt := Lib.hid (fun V => mate_calls q (by omega) V)
  have HMN := Lib.hid (show Sat.mate q / 2 ∈ N by rw [Sat.mate_div]; exact HQN.out)
  obtain ⟨m, hm⟩ : ∃ m, Sat.mate q = m := ⟨_, rfl⟩
  rw [hm] at hmt HMN
  have HM := Lib.hid hm
  clear hm
  go_wp2_with fail
  refine hwc.mono ?_
  clear hwc hI
  rintro e w' ⟨rfl, y, rfl⟩
  obtain ⟨V, hV⟩ : ∃ V : Later x.w, y.w = V.w := ⟨(Later.new _ _).step y, rfl⟩
  rw [hV]
  clear hV y
  go_wp2_with fail
  rw [HEH.out]
  refine (HCO.out V).mono ?_
  rintro e w' ⟨rfl, rfl⟩
  clear g0 gB HCO
  go_wp2_with fail
  refine (HFI.out _ b V.w (HD.out.later V) [] (fun q hq => absurd hq (by simp)) List.nodup_nil (by simp) _ (Ints.nil none 0) (.inl rfl)).mono ?_
  rintro e w' ⟨v, y, rfl, rfl, hv⟩
  rcases hv with ⟨hno, rfl⟩ | ⟨bs, a, mm, c, hF, rfl, -⟩
  · have HE := Lib.hid (HNO.out hno)
    have H3 := Lib.hid (show KN = 0 by rw [H1.out, HE.out]; rfl)
    have H4 := Lib.hid (show KE = 18 by rw [H2.out, HE.out]; rfl)
    clear hno
    go_wp2
    go_ret2
    exact ⟨ret_nums H3.out.symm H4.out.symm, ((z.step x).step V).step y, rfl⟩
  have HNE := Lib.hid (HYES.out (hF.can HND.out))
  have H4 := Lib.hid (show KE = 0 by rw [H2.out, setE_ne HNE.out])
  obtain ⟨U, hU⟩ : ∃ q : Later x.w, y.w = q.w := ⟨V.step y, rfl⟩
  rw [hU]
  clear hU hF y V
  go_wp2_with fail
  have hI1 := Ints.lit U.w [(q : Int)] 3 (b := U.w.heap.size) (arr := #[.int .i64 (q : Int)]) (n := 1) rfl rfl rfl (by simp)
  refine (HFI.out _ b _ (HD.out.later (U.step (Later.new _ _))) [q] (fun r hr => one_mem (P := fun r => r / 2 ∈ N) HQN.out hr) (List.nodup_cons.2 ⟨List.not_mem_nil, List.nodup_nil⟩) (by simp) _ hI1 (.inr ⟨_, _, _, rfl⟩)).mono ?_
  clear hI1
  rintro e w' ⟨v, y, rfl, rfl, hv⟩
  rcases hv with ⟨hno, rfl⟩ | ⟨bs, a2, mm2, c2, hF, rfl, -⟩
  · have H3 := Lib.hid (show KN = 0 by rw [H1.out, HK0.out q hq2 HNE.out hno])
    clear hno
    go_wp2
    go_ret2
    exact ⟨ret_nums H3.out.symm H4.out.symm, (((z.step x).step U).step (Later.new _ _)).step y, rfl⟩
  have HC1 := Lib.hid (hF.can HND.out)
  obtain ⟨V, hV⟩ : ∃ q : Later x.w, y.w = q.w := ⟨(U.step (Later.new _ _)).step y, rfl⟩
  rw [hV]
  clear hV hF y
  go_wp2_with fail
  refine (hmt.out _).mono ?_
  rintro e w' ⟨rfl, rfl⟩
  go_wp2_with fail
  have hI1 := Ints.lit V.w [(m : Int)] 3 (b := V.w.heap.size) (arr := #[.int .i64 (m : Int)]) (n := 1) rfl rfl rfl (by simp)
  refine (HFI.out _ b _ (HD.out.later (V.step (Later.new _ _))) [m] (fun r hr => one_mem (P := fun r => r / 2 ∈ N) HMN.out hr) (List.nodup_cons.2 ⟨List.not_mem_nil, List.nodup_nil⟩) (by simp) _ hI1 (.inr ⟨_, _, _, rfl⟩)).mono ?_
  clear hI1
  rintro e w' ⟨v, y, rfl, rfl, hv⟩
  rcases hv with ⟨hno, rfl⟩ | ⟨bs, a3, mm3, c3, hF, rfl, -⟩
  · have H3 := Lib.hid (show KN = 2 by rw [H1.out, HK2.out q hq2 HQN.out HNE.out (by rw [HM.out]; exact hno)])
    clear hno
    go_wp2
    go_ret2
    exact ⟨ret_nums H3.out.symm H4.out.symm, (((z.step x).step V).step (Later.new _ _)).step y, rfl⟩
  · have H3 := Lib.hid (show KN = 1 by rw [H1.out, HK1.out q hq2 HQN.out HNE.out HC1.out (by rw [HM.out]; exact hF.can HND.out)])
    clear hF
    go_wp2
    go_ret2
    exact ⟨ret_nums H3.out.symm H4.out.symm, (((z.step x).step V).step (Later.new _ _)).step y, rfl⟩

end Go.Proofs.Ytdhdpbnlhnodjaa

/-  The program: CheckChain. -/
namespace Go.Proofs.Ytdhdpbnlhnodjaa
open Go.RowKit

theorem Ints.tl {W : World} {b o n c : Nat} {xs : List Int} (h : Ints W (.slice (some ⟨b, o, none⟩) n c) xs) (h1 : 1 ≤ n) : Ints W (.slice (some ⟨b, o + 1, none⟩) (n - 1) (c - 1)) xs.tail := by
  have hn : n = xs.length := by obtain ⟨a, c, e⟩ := h.form; cases e; rfl
  subst hn
  obtain ⟨b', o', c', e, hcp, hb, hc⟩ := h.at (k := 0) (by omega)
  cases e
  refine ⟨by have := h.1; simp; omega, ?_⟩
  by_cases h0 : xs.length = 1
  · left
    exact ⟨List.eq_nil_of_length_eq_zero (by simp; omega), _, _, by rw [h0]⟩
  · right
    refine ⟨_, _, _, by rw [List.length_tail], by simp; omega, hb, fun k hk => ?_⟩
    rw [List.length_tail] at hk
    rw [show o + 1 + k = o + (k + 1) by omega, hc (k + 1) (by omega), nth_eq (by omega), nth_eq (by simp; omega)]
    simp
set_option maxHeartbeats 2000000 in
theorem chk1_calls (n : Nat) (h1 : 1 ≤ n) (h10 : n ≤ 10) (c1 c2 : Nat) (xv : Value) (xs : List Int) (p : Int) (W : World) (q1 : W.cell? ⟨c1, 0, none⟩ = some (.int .i64 n)) (q2 : W.cell? ⟨c2, 0, none⟩ = some xv) (hx : Ints W xv xs) :
    Calls Try.prog 66 #[.int .i64 p, .pointer (some ⟨c1, 0, none⟩), .pointer (some ⟨c2, 0, none⟩)] W (Gives (.bool (straK n xs p)) W) := by
  have l1 := World.block_lt_of_cell? _ _ q1
  have l2 := World.block_lt_of_cell? _ _ q2
  simp only [] at l1 l2
  obtain ⟨ax, lx, cx, rfl⟩ : ∃ a n c, xv = .slice a n c := by obtain ⟨a, c, e⟩ := hx.form; exact ⟨a, _, c, e⟩
  have hI := Ints.lit W [p] 3 (b := W.heap.size) (arr := #[.int .i64 p]) (n := 1) rfl rfl rfl (by simp)
  have hwc := within_calls _ [p] 0 (2 * (n : Int) - 1) _ hI
  rw [one_any, outB_isPl, Bool.not_not] at hwc
  have HX := Lib.hid hx
  cases hpl : isPl n p
  · rw [hpl] at hwc
    rw [show straK n xs p = true by rw [straK, kindB, hpl]; rfl]
    clear hpl hx
    go_enter Try.func66, Try.ntmps66
    go_wp2_with fail
    refine hwc.mono ?_
    rintro e w' ⟨rfl, y, rfl⟩
    go_wp2
    go_ret
    exact ⟨rfl, (Later.new _ _).step y, rfl⟩
  rw [hpl] at hwc
  have HPL := Lib.hid hpl
  rw [isPl, Bool.and_eq_true, decide_eq_true_iff, decide_eq_true_iff] at hpl
  obtain ⟨q, rfl⟩ := Int.eq_ofNat_of_zero_le hpl.1
  have hq2 : q < 2 * n := by omega
  have HCO := Lib.hid (fun V : Later W => Contains_calls _ _ ((q : Int) / 2) V.w (HX.out.later V))
  rw [show straK n xs (q : Int) = !hasB xs ((q : Int) / 2) by rw [straK, kindB, HPL.out]; rfl]
  obtain ⟨h, hh⟩ : ∃ h, q / 2 = h := ⟨_, rfl⟩
  have eh : (q : Int) / 2 = (h : Int) := by omega
  rw [eh] at HCO ⊢
  have HEH := Lib.hid eh
  obtain ⟨r, hr⟩ : ∃ r, hasB xs (h : Int) = r := ⟨_, rfl⟩
  rw [hr] at HCO ⊢
  clear hpl hh eh hx hr
  go_enter Try.func66, Try.ntmps66
  go_wp2_with fail
  refine hwc.mono ?_
  clear hwc hI
  rintro e w' ⟨rfl, y, rfl⟩
  have q2' := (y.cell (Nat.lt_of_lt_of_le l2 (Later.new W (.cells #[.int .i64 (q : Int)] 3)).size)).trans (((Later.new W (.cells #[.int .i64 (q : Int)] 3)).cell l2).trans q2)
  have l2' := Nat.lt_of_lt_of_le (Nat.lt_of_lt_of_le l2 (Later.new W (.cells #[.int .i64 (q : Int)] 3)).size) y.size
  obtain ⟨V, hV⟩ : ∃ V : Later W, y.w = V.w := ⟨(Later.new _ _).step y, rfl⟩
  rw [hV] at q2' l2' ⊢
  clear hV y q1 q2
  go_wp2_with fail
  rw [HEH.out]
  refine (HCO.out V).mono ?_
  rintro e w' ⟨rfl, rfl⟩
  go_wp2
  go_ret
  exact ⟨rfl, V, rfl⟩

set_option maxHeartbeats 1000000 in
theorem IndexFunc_stra (v : Value) (c1 c2 : Nat) (xs : List Int) (p : Int → Bool) (w : World) (hx : Ints w v xs) (H : Hid (∀ (x : Later w) (a : Int), Calls Try.prog 66 #[.int .i64 a, .pointer (some ⟨c1, 0, none⟩), .pointer (some ⟨c2, 0, none⟩)] x.w (Gives (.bool (p a)) x.w))) :
    Calls Try.prog 85 #[v, .func (.func 66) #[] #[.pointer (some ⟨c1, 0, none⟩), .pointer (some ⟨c2, 0, none⟩)]] w (Gives (.int .i64 (idxF p xs 0)) w) := by
  have hl := hx.1
  obtain ⟨av, lv, cv, rfl⟩ : ∃ a n c, v = .slice a n c := by obtain ⟨a, c, e⟩ := hx.form; exact ⟨a, _, c, e⟩
  have HL := Lib.hid (show lv = xs.length by obtain ⟨a, c, e⟩ := hx.form; cases e; rfl)
  have hl2 : lv ≤ 9007199254740992 := by rw [HL.out]; exact hl
  go_enter Try.func85, Try.ntmps85
  go_wp2
  go_loopw [8] (fun i wr => ∃ k : Nat, ∃ x : Later w, wr = x.w ∧ k ≤ lv ∧ i = .int .i64 k ∧ Hid (idxF p xs 0 = idxF p (xs.drop k) k)) (fun i _ => lv - (intOf i).toNat)
  case atStart => exact ⟨0, Later.self _, rfl, Nat.zero_le _, rfl, rfl⟩
  case round =>
    obtain ⟨k, x, rfl, hk, rfl, hp⟩ := hrel
    by_cases hlt : k < lv
    · obtain ⟨bm, om, km, e, hkm, hbm, hgm⟩ := hx.at (k := k) (by rw [← HL.out]; exact hlt)
      injection e with e1 e2 e3
      subst e1
      have m1 := (x.cell hbm).trans (hgm k (by rw [← HL.out]; exact hlt))
      have ml := Nat.lt_of_lt_of_le hbm x.size
      have hs := Lib.hid (idxF_at p xs k (by rw [← HL.out]; exact hlt))
      obtain ⟨a, ha⟩ : ∃ a, nth xs k = a := ⟨_, rfl⟩
      rw [ha] at m1 hs
      have hcall := H.out x a
      obtain ⟨r, hr⟩ : ∃ r, p a = r := ⟨_, rfl⟩
      rw [hr] at hcall
      have HR := Lib.hid hr
      clear hgm hkm e2 e3 ha hr
      cases r
      · go_wp2_with (go_at_call 66; refine (Later.quiet x hcall).mono ?_; rintro e w' ⟨rfl, x, rfl⟩)
        go_roundw
        case rel => exact ⟨k + 1, _, rfl, by omega, by go_num, by unfold Hid; rw [hp.out, hs.out, if_neg (by rw [HR.out]; simp)]⟩
        case measure => simp [intOf]; omega
      · go_wp2_with (go_at_call 66; refine (Later.quiet x hcall).mono ?_; rintro e w' ⟨rfl, x, rfl⟩)
        go_ret
        exact ⟨ret_int (by rw [hp.out, hs.out, if_pos HR.out]), _, rfl⟩
    · have hs := Lib.hid (idxF_end p xs k (by rw [← HL.out]; omega))
      go_wp2
      go_ret
      exact ⟨ret_int (by rw [hp.out, hs.out]), x, rfl⟩
set_option maxHeartbeats 400000 in
theorem ContainsFunc_stra (v : Value) (c1 c2 : Nat) (xs : List Int) (p : Int → Bool) (w : World) (hx : Ints w v xs) (H : Hid (∀ (x : Later w) (a : Int), Calls Try.prog 66 #[.int .i64 a, .pointer (some ⟨c1, 0, none⟩), .pointer (some ⟨c2, 0, none⟩)] x.w (Gives (.bool (p a)) x.w))) :
    Calls Try.prog 67 #[v, .func (.func 66) #[] #[.pointer (some ⟨c1, 0, none⟩), .pointer (some ⟨c2, 0, none⟩)]] w (Gives (.bool (xs.any p)) w) := by
  have h := Lib.hid (idxF_any p xs)
  go_enter Try.func67, Try.ntmps67
  go_wp2_with (go_at_call 85; refine (IndexFunc_stra _ c1 c2 xs p _ hx H).mono ?_; rintro e w' ⟨rfl, x, rfl⟩)
  go_ret
  exact ⟨ret_bool h.out, x, rfl⟩

set_option maxRecDepth 100000 in
set_option maxHeartbeats 4000000 in
theorem CheckChain_bad (n : Int) (mv cv nv lv : Value) (ch : List Int) (ms : List (Int × Int)) (cs xs : List Int) (W : World) (hs : Sht W mv cv ms cs) (hx : Ints W nv xs) (hc : Ints W lv ch) (hv : nameE n ms cs xs ≠ 0) :
    Calls Try.prog 31 #[.agg #[.int .i64 n, mv, cv], nv, lv] W (Gives (.int .i64 (nameE n ms cs xs)) W) := by
  have hvb : (nameE n ms cs xs != 0) = true := by simpa using hv
  have HV := Lib.hid hv
  clear hv
  obtain ⟨ax, lx, cx, rfl⟩ : ∃ a n c, nv = .slice a n c := by obtain ⟨a, c, e⟩ := hx.form; exact ⟨a, _, c, e⟩
  obtain ⟨al, ll, cl, rfl⟩ : ∃ a n c, lv = .slice a n c := by obtain ⟨a, c, e⟩ := hc.form; exact ⟨a, _, c, e⟩
  
  obtain ⟨am, lm, cm, rfl⟩ : ∃ a n c, mv = .slice a n c := by obtain ⟨a, c, e⟩ := hs.m.form; exact ⟨a, _, c, e⟩
  obtain ⟨ac, lc, cc, rfl⟩ : ∃ a n c, cv = .slice a n c := by obtain ⟨a, c, e⟩ := hs.c.form; exact ⟨a, _, c, e⟩
  have HLM := Lib.hid (show lm = ms.length by obtain ⟨a, c, e⟩ := hs.m.form; cases e; rfl)
  have HLC := Lib.hid (show lc = cs.length by obtain ⟨a, c, e⟩ := hs.c.form; cases e; rfl)
  go_enter Try.func31, Try.ntmps31
  go_wp2_with fail
  refine (named_fail n _ _ _ ms cs xs _ ((hs.later (Later.new _ _)).later (Later.new _ _)) ((hx.later (Later.new _ _)).later (Later.new _ _)) HV.out).mono ?_
  rintro e w' ⟨rfl, x, rfl⟩
  go_wp2
  go_ret
  exact ⟨rfl, ((Later.new _ _).step (Later.new _ _)).step x, rfl⟩

set_option maxRecDepth 100000 in
set_option maxHeartbeats 4000000 in
theorem CheckChain_calls (n : Nat) (mv cv nv lv : Value) (ch : List Int) (mn : List (Nat × Nat)) (cn N : List Nat) (hS : Shn n mn cn) (hN : Nms n N) (W : World) (hs : Sht W mv cv (mn.map prI) (cn.map fun (c : Nat) => (c : Int))) (hx : Ints W nv (N.map fun (k : Nat) => (k : Int))) (hc : Ints W lv ch) :
    Calls Try.prog 31 #[.agg #[.int .i64 n, mv, cv], nv, lv] W (Gives (.int .i64 (chainE hS.lay n (N.map fun (k : Nat) => (k : Int)) ch)) W) := by
  have HT := Lib.hid (fun (W : World) (mv cv nv : Value) hs hx => named_good n mv cv nv mn cn N hS hN W hs hx)
  have h10 := hS.n10
  have h1n := hS.n1
  obtain ⟨L, hL⟩ : ∃ L, hS.lay = L := ⟨_, rfl⟩
  rw [hL] at HT ⊢
  clear hL
  obtain ⟨ms, hms⟩ : ∃ ms, mn.map prI = ms := ⟨_, rfl⟩
  obtain ⟨cs, hcs⟩ : ∃ cs, (cn.map fun (c : Nat) => (c : Int)) = cs := ⟨_, rfl⟩
  rw [hms, hcs] at hs HT
  clear hms hcs
  obtain ⟨E, hE⟩ : ∃ E, chainE L n (N.map fun (k : Nat) => (k : Int)) ch = E := ⟨_, rfl⟩
  have HE := Lib.hid hE
  rw [hE]
  clear hE
  obtain ⟨ax, lx, cx, rfl⟩ : ∃ a n c, nv = .slice a n c := by obtain ⟨a, c, e⟩ := hx.form; exact ⟨a, _, c, e⟩
  obtain ⟨al, ll, cl, rfl⟩ : ∃ a n c, lv = .slice a n c := by obtain ⟨a, c, e⟩ := hc.form; exact ⟨a, _, c, e⟩
  
  have HLH := Lib.hid (show ll = ch.length by obtain ⟨a, c, e⟩ := hc.form; cases e; rfl)
  have hll := hc.1
  rw [← HLH.out] at hll
  obtain ⟨am, lm, cm, rfl⟩ : ∃ a n c, mv = .slice a n c := by obtain ⟨a, c, e⟩ := hs.m.form; exact ⟨a, _, c, e⟩
  obtain ⟨ac, lc, cc, rfl⟩ : ∃ a n c, cv = .slice a n c := by obtain ⟨a, c, e⟩ := hs.c.form; exact ⟨a, _, c, e⟩
  have HLM := Lib.hid (show lm = ms.length by obtain ⟨a, c, e⟩ := hs.m.form; cases e; rfl)
  have HLC := Lib.hid (show lc = cs.length by obtain ⟨a, c, e⟩ := hs.c.form; cases e; rfl)
  have l3 : ∀ z : Later W, W.heap.size < z.w.heap.size → True := fun _ _ => trivial
  clear l3
  go_enter Try.func31, Try.ntmps31
  go_wp2_with fail
  obtain ⟨B, hB⟩ : ∃ B, B = W.heap.size := ⟨_, rfl⟩
  obtain ⟨z, hz⟩ : ∃ z : Later W, z.w = (W.alloc (.cells #[.int .i64 n, .slice am lm cm, .slice ac lc cc] 25)).alloc (.cells #[.slice ax lx cx] 23) := ⟨(Later.new _ _).step (Later.new _ _), rfl⟩
  have c0 : z.w.cell? ⟨B, 0, none⟩ = some (.int .i64 n) := by rw [hz, hB]; simp [go_sem]
  have c3 : z.w.cell? ⟨B + 1, 0, none⟩ = some (.slice ax lx cx) := by rw [hz, hB]; simp [go_sem]
  have hBz : B + 1 < z.w.heap.size := by rw [hz, hB]; simp [go_sem]
  rw [← hz, ← hB]
  clear hz hB
  refine (HT.out _ _ _ _ (hs.later z) (hx.later z)).mono ?_
  rintro e w' ⟨b, x, rfl, rfl, hD⟩
  obtain ⟨lo, hlo⟩ : ∃ l, z.w.heap.size = l := ⟨_, rfl⟩
  rw [hlo] at hD
  have HD := Lib.hid hD
  clear hlo
  replace hx := (hx.later z).later x
  replace hc := (hc.later z).later x
  have g0 := (x.cell (show B < z.w.heap.size by omega)).trans c0
  have g3 := (x.cell hBz).trans c3
  have gB := Nat.lt_of_lt_of_le hBz x.size
  obtain ⟨V, hV⟩ : ∃ V : Later W, x.w = V.w := ⟨z.step x, rfl⟩
  rw [hV] at HD hx hc g0 g3 gB ⊢
  clear hD hV x c0 c3 hBz hs z
  have hI := Ints.lit V.w [(ll : Int)] 3 (b := V.w.heap.size) (arr := #[.int .i64 (ll : Int)]) (n := 1) rfl rfl rfl (by simp)
  have hwc := within_calls _ [(ll : Int)] 3 50 _ hI
  rw [one_any] at hwc
  cases hlo : outB 3 50 (ll : Int)
  rotate_left
  · rw [hlo] at hwc
    have HV := Lib.hid (show E = 6 by
      rw [outB, Bool.or_eq_true, decide_eq_true_iff, decide_eq_true_iff] at hlo
      rw [← HE.out, chainE, if_pos (by rw [← HLH.out]; omega)])
    clear hlo
    go_wp2_with fail
    refine hwc.mono ?_
    rintro e w' ⟨rfl, y, rfl⟩
    go_wp2
    go_ret
    exact ⟨ret_int HV.out.symm, (V.step (Later.new _ _)).step y, rfl⟩
  rw [hlo] at hwc
  have hl3 : 3 ≤ ll ∧ ll ≤ 50 := by
    rw [outB, Bool.or_eq_false_iff, decide_eq_false_iff_not, decide_eq_false_iff_not] at hlo; omega
  have HE1 := Lib.hid (show (if ch.any (straK n (N.map fun (k : Nat) => (k : Int))) = true then 3 else if (pthB L ch && endB ch) = true then 0 else 14) = E by rw [← HE.out]; unfold chainE; rw [if_neg (show ¬ (ch.length < 3 ∨ 50 < ch.length) by rw [← HLH.out]; omega)])
  have HCF := Lib.hid (fun X : Later V.w => ContainsFunc_stra (.slice al ll cl) B (B + 1) ch (straK n (N.map fun (k : Nat) => (k : Int))) X.w (hc.later X) (Lib.hid fun (Y : Later X.w) a =>
    chk1_calls n h1n h10 B (B + 1) (.slice ax lx cx) _ a Y.w ((Y.cell (Nat.lt_of_lt_of_le (show B < V.w.heap.size by omega) X.size)).trans ((X.cell (show B < V.w.heap.size by omega)).trans g0)) ((Y.cell (Nat.lt_of_lt_of_le gB X.size)).trans ((X.cell gB).trans g3)) ((hx.later X).later Y)))
  clear hlo HE
  obtain ⟨hl3, hl50⟩ := hl3
  obtain ⟨bm, om, km, e, hkm, hbm, hgm⟩ := hc.at (k := 0) (by rw [← HLH.out]; omega)
  injection e with e1 e2 e3
  subst e1 e3
  rw [← HLH.out] at hgm hkm
  have HGM := Lib.hid hgm
  have htl := hc.tl (by omega)
  clear e2 hgm
  cases han : ch.any (straK n (N.map fun (k : Nat) => (k : Int)))
  rotate_left
  · rw [han] at HCF
    have HV := Lib.hid (show E = 3 by rw [← HE1.out, if_pos han])
    clear han
    go_wp2_with fail
    refine hwc.mono ?_
    clear hwc
    rintro e w' ⟨rfl, y, rfl⟩
    obtain ⟨U, hU⟩ : ∃ U : Later V.w, y.w = U.w := ⟨(Later.new _ _).step y, rfl⟩
    rw [hU]
    clear hU y
    go_wp2_with fail
    refine (HCF.out U).mono ?_
    rintro e w' ⟨rfl, y, rfl⟩
    go_wp2
    go_ret
    exact ⟨ret_int HV.out.symm, (V.step U).step y, rfl⟩
  rw [han] at HCF
  have HE2 := Lib.hid (show (if (pthB L ch && endB ch) = true then 0 else 14) = E by rw [← HE1.out, han]; rfl)
  have HNAT := Lib.hid (show ∀ j, j < ll → ∃ P : Nat, nth ch j = P ∧ P < 20 ∧ P / 2 ∈ N from fun j hj => by
    have h := any_get (d := 0) han (k := j) (by rw [← HLH.out]; exact hj)
    rw [show ch.getD j 0 = nth ch j from rfl, straK, kindB, Bool.not_eq_false', Bool.and_eq_true, isPl, Bool.and_eq_true, decide_eq_true_iff, decide_eq_true_iff] at h
    obtain ⟨P, e⟩ := Int.eq_ofNat_of_zero_le h.1.1
    refine ⟨P, e, by omega, ?_⟩
    have h2 := h.2
    rw [e, show (P : Int) / 2 = ((P / 2 : Nat) : Int) by omega, hasB_nat] at h2
    exact List.contains_iff_mem.1 h2)
  clear han HE1
  go_wp2_with fail
  refine hwc.mono ?_
  clear hwc hI
  rintro e w' ⟨rfl, y, rfl⟩
  obtain ⟨U, hU⟩ : ∃ U : Later V.w, y.w = U.w := ⟨(Later.new _ _).step y, rfl⟩
  rw [hU]
  clear hU y
  go_wp2_with fail
  refine (HCF.out U).mono ?_
  clear HCF
  rintro e w' ⟨rfl, y, rfl⟩
  obtain ⟨X, hX⟩ : ∃ X : Later V.w, y.w = X.w := ⟨U.step y, rfl⟩
  rw [hX]
  clear hX y U
  have hk1 : ¬ cl = 1 := by omega
  go_wp2
  obtain ⟨M, hM⟩ : ∃ M, ll - 1 = M := ⟨_, rfl⟩
  rw [hM]
  have HM := Lib.hid (show M + 1 = ll by omega)
  have hMl : M < ll := by omega
  have hM50 : M ≤ 50 := by omega
  clear hk1 hM g0 g3
  have HN10 := Lib.hid (show ∀ k ∈ N, k < 10 from fun k hk => Nat.lt_of_lt_of_le (hN.lt k hk) h10)
  go_loopw [36] (fun i wr => ∃ (k : Nat) (u : Later V.w), wr = u.w ∧ k ≤ M ∧ i = .int .i64 k ∧ Hid (∀ j, j < k → stpB L ch j = true)) (fun i _ => M - (intOf i).toNat)
  case atStart => exact ⟨0, X, rfl, Nat.zero_le _, rfl, fun j hj => absurd hj (Nat.not_lt_zero _)⟩
  case round =>
    clear X
    obtain ⟨k, u, rfl, hk, rfl, hP⟩ := hrel
    by_cases hlt : k < M
    · have m0 := (u.cell hbm).trans (HGM.out k (by omega))
      have m1 := (u.cell hbm).trans (HGM.out (k + 1) (by omega))
      rw [show om + (k + 1) = om + 1 + k by omega] at m1
      have ml := Nat.lt_of_lt_of_le hbm u.size
      obtain ⟨P, hP1, hP20, hPN⟩ := HNAT.out k (by omega)
      obtain ⟨Q, hQ1, hQ20, hQN⟩ := HNAT.out (k + 1) (by omega)
      rw [hP1] at m0
      rw [hQ1] at m1
      have hcall := leads_calls L N n lo u.w b (HD.out.later u) P Q hPN hQN hP20 hQ20
      obtain ⟨r, hr⟩ : ∃ r, Sat.lead L P Q = r := ⟨_, rfl⟩
      rw [hr] at hcall
      have HSB := Lib.hid (show stpB L ch k = r by rw [stpB, hP1, hQ1, Int.toNat_natCast, Int.toNat_natCast, hr])
      have HCALL := Lib.hid hcall
      clear hP1 hQ1 hr hcall
      cases r
      · have HV := Lib.hid (show E = 14 by rw [← HE2.out, pthB_no (k := k) (by rw [← HLH.out]; omega) HSB.out]; rfl)
        go_wp2_with fail
        refine HCALL.out.mono ?_
        rintro e w' ⟨rfl, y, rfl⟩
        go_wp2
        go_ret
        exact ⟨ret_int HV.out.symm, (V.step u).step y, rfl⟩
      · have HX := Lib.hid (show ∀ j, j < k + 1 → stpB L ch j = true from fun j hj => by
          by_cases e : j = k
          · rw [e]; exact HSB.out
          · exact hP.out j (by omega))
        go_wp2_with fail
        refine HCALL.out.mono ?_
        rintro e w' ⟨rfl, y, rfl⟩
        go_wp2
        go_roundw
        case rel => exact ⟨k + 1, u.step y, rfl, by omega, by go_num, HX⟩
        case measure => simp [intOf]; omega
    · obtain rfl : M = k := by omega
      have HPT := Lib.hid (pthB_yes (L := L) (ch := ch) fun j hj => hP.out j (by have := HLH.out; have := HM.out; omega))
      have m0 := (u.cell hbm).trans (HGM.out 0 (by omega))
      rw [Nat.add_zero] at m0
      have m1 := (u.cell hbm).trans (HGM.out M hMl)
      have ml := Nat.lt_of_lt_of_le hbm u.size
      obtain ⟨P, hP1, hP20, -⟩ := HNAT.out 0 (by omega)
      obtain ⟨v, hv⟩ : ∃ v, nth ch M = v := ⟨_, rfl⟩
      rw [hP1] at m0
      rw [hv] at m1
      have HEND := Lib.hid (show endB ch = (v == (P : Int) && hasB ch (Sat.mate P : Nat)) by rw [endB, ← HLH.out, show ll - 1 = M by have := HM.out; omega, hv, hP1, Int.toNat_natCast])
      have eM : (ll : Int) - 1 = (M : Int) := by have := HM.out; omega
      clear hP1 hv hP
      by_cases he : v = P
      · subst he
        have hmt := Lib.hid (fun W => mate_calls P (by omega) W)
        obtain ⟨bb, hb⟩ : ∃ b, hasB ch (Sat.mate P : Nat) = b := ⟨_, rfl⟩
        have hhas := Lib.hid (fun (V : Later u.w) => Contains_calls (.slice (some ⟨bm, om, none⟩) ll cl) ch (Sat.mate P : Nat) V.w ((hc.later u).later V))
        rw [hb] at hhas HEND
        cases bb
        · have HV := Lib.hid (show E = 14 by rw [← HE2.out, HEND.out]; simp)
          clear hb
          go_wp2
          refine region_later_lit (by kernel_rfl) (by kernel_rfl) ?_
          repeat (first | go_big_quiet_step (first
               | (go_at_call 64; (with_reducible exact Later.quiet_same _ (hmt.out _)))
               | (go_at_call 63; (with_reducible exact Later.quiet_same _ (hhas.out _)))))
          refine wpQuiet_nil ?_
          intro y
          go_wp2
          go_ret
          exact ⟨ret_int HV.out.symm, (V.step u).step y, rfl⟩
        · have HV := Lib.hid (show E = 0 by rw [← HE2.out, HEND.out, HPT.out]; simp)
          clear hb
          go_wp2
          refine region_later_lit (by kernel_rfl) (by kernel_rfl) ?_
          repeat (first | go_big_quiet_step (first
               | (go_at_call 64; (with_reducible exact Later.quiet_same _ (hmt.out _)))
               | (go_at_call 63; (with_reducible exact Later.quiet_same _ (hhas.out _)))))
          refine wpQuiet_nil ?_
          intro y
          go_wp2
          go_ret
          exact ⟨ret_int HV.out.symm, (V.step u).step y, rfl⟩
      · have hvb : (v != (P : Int)) = true := by simpa using he
        have HV := Lib.hid (show E = 14 by rw [← HE2.out, HEND.out, show (v == (P : Int)) = false by simpa using he]; simp)
        go_wp2
        refine region_later_lit (by kernel_rfl) (by kernel_rfl) ?_
        repeat (first | go_big_quiet_step (first
             | (fail)))
        refine wpQuiet_nil ?_
        intro y
        go_wp2
        go_ret
        exact ⟨ret_int HV.out.symm, (V.step u).step y, rfl⟩

end Go.Proofs.Ytdhdpbnlhnodjaa

/-  The program: brightest, Brightest, Why. -/
namespace Go.Proofs.Ytdhdpbnlhnodjaa
open Go.RowKit
open Sat (brightF)

open Classical in
/-- the names for which a chain says why the last of the first k is none of the brightest -/
noncomputable def whyF (L : Sat.Lay) : Nat → Option (List Nat)
  | 0 => none
  | k + 1 => if Sat.Can L (brightF L k ++ [k]) [] then none else some (brightF L k ++ [k])
def WhyV (o : Option (List Nat)) (w : World) (v : Value) : Prop := (o = none ∧ v = .slice none 0 0) ∨ ∃ (l : List Nat) (a : Addr) (m c : Nat), o = some l ∧ v = .slice (some a) m c ∧ Ints w v (natV l)
theorem WhyV.later {o : Option (List Nat)} {w : World} {v : Value} (h : WhyV o w v) (x : Later w) : WhyV o x.w v := by
  rcases h with h | ⟨l, a, m, c, h1, h2, h3⟩
  · exact .inl h
  · exact .inr ⟨l, a, m, c, h1, h2, h3.later x⟩
theorem WhyV.form {o : Option (List Nat)} {w : World} {v : Value} (h : WhyV o w v) : ∃ a m c, v = .slice a m c := by
  rcases h with ⟨_, h⟩ | ⟨l, a, m, c, h1, h2, h3⟩
  · exact ⟨_, _, _, h⟩
  · exact ⟨_, _, _, h2⟩
theorem whyF_yes {L : Sat.Lay} {k : Nat} (h : Sat.Can L (brightF L k ++ [k]) []) : whyF L (k + 1) = none ∧ brightF L (k + 1) = brightF L k ++ [k] := by
  rw [whyF, brightF, if_pos h, if_pos h]; exact ⟨rfl, rfl⟩
theorem whyF_no {L : Sat.Lay} {k : Nat} (h : ¬ Sat.Can L (brightF L k ++ [k]) []) : whyF L (k + 1) = some (brightF L k ++ [k]) ∧ brightF L (k + 1) = brightF L k := by
  rw [whyF, brightF, if_neg h, if_neg h]; exact ⟨rfl, rfl⟩
def BrtR (L : Sat.Lay) (k : Nat) (W : World) (e : Ending) (w' : World) : Prop :=
  ∃ (ov wv : Value) (x : Later W), e = .returned (.tuple #[ov, wv]) ∧ w' = x.w ∧ Ints x.w ov (natV (brightF L k)) ∧ WhyV (whyF L k) x.w wv
set_option maxRecDepth 100000 in
set_option maxHeartbeats 4000000 in
theorem brightest_calls (n : Nat) (mv cv : Value) (last : Nat) (hl : last < n) (mn : List (Nat × Nat)) (cn : List Nat) (hS : Shn n mn cn) (W : World) (hs : Sht W mv cv (mn.map prI) (cn.map fun (c : Nat) => (c : Int))) :
    Calls Try.prog 70 #[.agg #[.int .i64 n, mv, cv], .int .i64 (last : Int)] W (BrtR hS.lay (last + 1) W) := by
  have HT := Lib.hid (fun (W : World) (mv cv : Value) hs => newDesk_calls n mv cv mn cn hS W hs)
  have h10 := hS.n10
  have HKEY := Lib.hid (meetsT_keys (B := 20) (ms := mn.map prI) fun q hq => by
    obtain ⟨r, hr, rfl⟩ := List.mem_map.1 hq
    have := hS.mr r hr
    simp only [prI]
    omega)
  have HKP := Lib.hid (fun (U : World) (u : Later U) (b m : Nat) (mv cv ov nv : Value) (xs : List Int) hD hx hov => keep_calls U u b m n mv cv ov nv (meetsT (mn.map prI)) (coverA (cn.map fun (c : Nat) => (c : Int))) xs hD hx hov HKEY.out)
  have HDK := Lib.hid (fun (N : List Nat) (lo : Nat) (U : World) (b m : Nat) (mv cv nv : Value) h hN => DeskB.dk_keep (lo := lo) (U := U) (b := b) (m := m) (mv := mv) (cv := cv) (nv := nv) hS (N := N) h hN)
  have HCH := Lib.hid (fun (N : List Nat) (hN : Nms n N) (lo b : Nat) (U : World) hD => chain_calls hS.lay N n lo b (fun k hk => Nat.lt_of_lt_of_le (hN.lt k hk) hS.n10) (Nat.le_trans hN.len hS.n10) U hD)
  obtain ⟨L, hL⟩ : ∃ L, hS.lay = L := ⟨_, rfl⟩
  rw [hL] at HDK HCH ⊢
  obtain ⟨ms, hms⟩ : ∃ ms, mn.map prI = ms := ⟨_, rfl⟩
  obtain ⟨cs, hcs⟩ : ∃ cs, (cn.map fun (c : Nat) => (c : Int)) = cs := ⟨_, rfl⟩
  rw [hms, hcs] at hs HT HKP HDK
  clear hms hcs hL HKEY
  obtain ⟨am, lm, cm, rfl⟩ : ∃ a n c, mv = .slice a n c := by obtain ⟨a, c, e⟩ := hs.m.form; exact ⟨a, _, c, e⟩
  obtain ⟨ac, lc, cc, rfl⟩ : ∃ a n c, cv = .slice a n c := by obtain ⟨a, c, e⟩ := hs.c.form; exact ⟨a, _, c, e⟩
  have HLM := Lib.hid (show lm = ms.length by obtain ⟨a, c, e⟩ := hs.m.form; cases e; rfl)
  have HLC := Lib.hid (show lc = cs.length by obtain ⟨a, c, e⟩ := hs.c.form; cases e; rfl)
  have he0 := eql_none
  have he1 := eql_some
  obtain ⟨K, hK⟩ : ∃ K, last + 1 = K := ⟨_, rfl⟩
  have eK : (last : Int) + 1 = (K : Int) := by omega
  have hKn : K ≤ n := by omega
  rw [hK]
  clear hK
  go_enter Try.func70, Try.ntmps70
  go_wp2_with fail
  obtain ⟨B, hB⟩ : ∃ B, B = W.heap.size := ⟨_, rfl⟩
  obtain ⟨z, hz⟩ : ∃ z : Later W, z.w = W.alloc (.cells #[.int .i64 n, .slice am lm cm, .slice ac lc cc] 25) := ⟨Later.new _ _, rfl⟩
  have c0 : z.w.cell? ⟨B, 0, none⟩ = some (.int .i64 n) := by rw [hz, hB]; simp [go_sem]
  have c1 : z.w.cell? ⟨B, 1, none⟩ = some (.slice am lm cm) := by rw [hz, hB]; simp [go_sem]
  have c2 : z.w.cell? ⟨B, 2, none⟩ = some (.slice ac lc cc) := by rw [hz, hB]; simp [go_sem]
  have hBz : B < z.w.heap.size := by rw [hz, hB]; simp [go_sem]
  rw [← hz, ← hB]
  replace hs := hs.later z
  
  clear hz hB
  clear eK
  go_loopw [13, 6, 7] (fun i ov wv wr => ∃ (k : Nat) (x : Later z.w), wr = x.w ∧ k ≤ K ∧ i = .int .i64 k ∧ IntsM W.heap.size x.w ov (natV (brightF L k)) ∧ WhyV (whyF L k) x.w wv) (fun i _ _ _ => K - (intOf i).toNat)
  case atStart => exact ⟨0, Later.self _, rfl, Nat.zero_le _, rfl, IntsM.nil _ _, .inl ⟨rfl, rfl⟩⟩
  case round =>
    obtain ⟨k, x, rfl, hk, rfl, hO, hW⟩ := hrel
    obtain ⟨ao, no, co, rfl⟩ := hO.form'
    obtain ⟨aw, nw, cw, rfl⟩ := hW.form
    have HNO := Lib.hid (show no = (brightF L k).length by obtain ⟨a, c, e⟩ := hO.form; cases e; rw [natV_len])
    have hno : no ≤ k := by rw [HNO.out]; exact bright_len L k
    by_cases hlt : k < K
    · have hcap : no ≤ co := by have := hO.cap; rw [natV_len] at this; rw [HNO.out]; exact this
      have hy1 := Ints.lit x.w [(k : Int)] 3 (b := x.w.heap.size) (arr := #[.int .i64 (k : Int)]) (n := 1) rfl rfl rfl (by simp)
      obtain ⟨a', n', c', q, hrun, hI⟩ := app_capped (x.w.alloc (.cells #[.int .i64 (k : Int)] 3)) ao no co _ ((hO.ints (by rw [natV_len, ← HNO.out]; omega)).later (Later.new _ _)) _ (k : Int) hy1 (by omega) 23
      obtain ⟨Z, hZ⟩ : ∃ Z : Later z.w, Z.w = q.w := ⟨(x.step (Later.new _ _)).step q, rfl⟩
      have hIZ : IntsM W.heap.size Z.w (.slice a' n' c') (natV (brightF L k ++ [k])) := by
        rw [hZ, natV_app]
        exact hI.mono (by have := (z.step x).size; simp; exact Nat.le_trans this (by rw [Later.step_w]; omega))
      have hOZ : IntsM W.heap.size Z.w (.slice ao no co) (natV (brightF L k)) := by rw [hZ]; exact (hO.later (Later.new x.w (.cells #[.int .i64 (k : Int)] 3))).later q
      obtain ⟨g', rfl⟩ := hIZ.own (by rw [natV_len]; simp)
      rw [← hZ] at hrun
      have hN : Nms n (brightF L k ++ [k]) := bright_nms (by omega)
      have HN := Lib.hid hN
      have HR := Lib.hid hrun
      have g0 : Z.w.cell? ⟨B, 0, none⟩ = some (.int .i64 n) := ((Z).cell hBz).trans c0
      have g1 : Z.w.cell? ⟨B, 1, none⟩ = some (.slice am lm cm) := ((Z).cell hBz).trans c1
      have g2 : Z.w.cell? ⟨B, 2, none⟩ = some (.slice ac lc cc) := ((Z).cell hBz).trans c2
      have gB : B < Z.w.heap.size := Nat.lt_of_lt_of_le hBz (Z).size
      clear hrun hI hy1 hZ hN
      go_wp2_with ((with_reducible show wpList _ _ _ (⟨some 24, _, _, _, _, _⟩ :: _) _ _); refine Lib.wpList_append_run_sl _ rfl _ _ 23 rfl _ _ rfl rfl HR.out ?_)
      have hIz := hIZ.ints (by rw [natV_len]; simp; have := bright_len L k; omega)
      have HIz := Lib.hid hIz
      have hWq := Lib.hid (fun X : Later Z.w => hIz.later X)
      refine (HT.out _ _ _ (hs.later Z)).mono ?_
      clear g0 g1 g2 gB hIz
      rintro e w' ⟨b, m, nv, y, rfl, rfl, hB, hNv⟩
      have hkp := HKP.out Z.w y b m _ _ _ _ _ hB HIz.out (by obtain ⟨a, c, e⟩ := hNv.form; exact ⟨a, _, c, e⟩)
      clear hB hNv
      go_wp2_with fail
      refine hkp.mono ?_
      clear hkp
      rintro e w' ⟨rfl, u, rfl, hB⟩
      have hD := HDK.out (brightF L k ++ [k]) _ _ _ _ _ _ _ hB (hWq.out u)
      have hch := HCH.out _ HN.out _ b u.w hD
      obtain ⟨lo, hlo⟩ : ∃ l, Z.w.heap.size = l := ⟨_, rfl⟩
      clear hB hD hlo
      go_wp2_with fail
      refine hch.mono ?_
      clear hch
      rintro e w' ⟨v, y2, rfl, rfl, hv⟩
      rcases hv with ⟨hnc, rfl⟩ | ⟨l, a2, m2, c2, rfl, -, hch⟩
      · obtain ⟨hw, hb⟩ := whyF_yes (L := L) (k := k) (Sat.can_nil.2 hnc)
        have HO2 := Lib.hid (show IntsM W.heap.size ((Z.step u).step y2).w (.slice (some ⟨g', 0, none⟩) n' c') (natV (brightF L (k + 1))) by rw [hb]; exact (hIZ.later u).later y2)
        have HW2 := Lib.hid (show WhyV (whyF L (k + 1)) ((Z.step u).step y2).w (.slice none 0 0) from .inl ⟨hw, rfl⟩)
        clear hw hb hnc hIZ hOZ hO hW
        go_wp2
        go_roundw
        case rel => exact ⟨k + 1, (Z.step u).step y2, rfl, by omega, by go_num, HO2.out, HW2.out⟩
        case measure => simp [intOf]; omega
      · obtain ⟨hw, hb⟩ := whyF_no (L := L) (k := k) (fun h => hch.none h.noChain)
        have HO2 := Lib.hid (show IntsM W.heap.size ((Z.step u).step y2).w (.slice ao no co) (natV (brightF L (k + 1))) by rw [hb]; exact (hOZ.later u).later y2)
        have HW2 := Lib.hid (show WhyV (whyF L (k + 1)) ((Z.step u).step y2).w (.slice (some ⟨g', 0, none⟩) n' c') from .inr ⟨_, _, _, _, hw, rfl, (HIz.out.later u).later y2⟩)
        clear hw hb hch hIZ hOZ hO hW
        go_wp2
        go_roundw
        case rel => exact ⟨k + 1, (Z.step u).step y2, rfl, by omega, by go_num, HO2.out, HW2.out⟩
        case measure => simp [intOf]; omega
    · obtain rfl : k = K := by omega
      have HI := Lib.hid (hO.ints (by rw [natV_len, ← HNO.out]; omega))
      go_wp2
      go_ret2
      exact ⟨_, _, z.step x, rfl, rfl, HI.out, hW⟩

set_option maxRecDepth 100000 in
set_option maxHeartbeats 4000000 in
theorem Brightest_bad (n : Int) (mv cv : Value) (ms : List (Int × Int)) (cs : List Int) (W : World) (hs : Sht W mv cv ms cs) (hv : vsheet n ms cs ≠ 0) :
    Calls Try.prog 34 #[.agg #[.int .i64 n, mv, cv]] W (Gives (.tuple #[.slice none 0 0, .int .i64 (vsheet n ms cs)]) W) := by
  have hvb : (vsheet n ms cs != 0) = true := by simpa using hv
  have HV := Lib.hid hv
  clear hv
  obtain ⟨am, lm, cm, rfl⟩ : ∃ a n c, mv = .slice a n c := by obtain ⟨a, c, e⟩ := hs.m.form; exact ⟨a, _, c, e⟩
  obtain ⟨ac, lc, cc, rfl⟩ : ∃ a n c, cv = .slice a n c := by obtain ⟨a, c, e⟩ := hs.c.form; exact ⟨a, _, c, e⟩
  have HLM := Lib.hid (show lm = ms.length by obtain ⟨a, c, e⟩ := hs.m.form; cases e; rfl)
  have HLC := Lib.hid (show lc = cs.length by obtain ⟨a, c, e⟩ := hs.c.form; cases e; rfl)
  go_enter Try.func34, Try.ntmps34
  go_wp2_with fail
  obtain ⟨B, hB⟩ : ∃ B, B = W.heap.size := ⟨_, rfl⟩
  obtain ⟨z, hz⟩ : ∃ z : Later W, z.w = W.alloc (.cells #[.int .i64 n, .slice am lm cm, .slice ac lc cc] 25) := ⟨Later.new _ _, rfl⟩
  have c0 : z.w.cell? ⟨B, 0, none⟩ = some (.int .i64 n) := by rw [hz, hB]; simp [go_sem]
  have c1 : z.w.cell? ⟨B, 1, none⟩ = some (.slice am lm cm) := by rw [hz, hB]; simp [go_sem]
  have c2 : z.w.cell? ⟨B, 2, none⟩ = some (.slice ac lc cc) := by rw [hz, hB]; simp [go_sem]
  have hBz : B < z.w.heap.size := by rw [hz, hB]; simp [go_sem]
  rw [← hz, ← hB]
  replace hs := hs.later z
  
  clear hz hB
  refine (open_bad n _ _ ms cs _ hs HV.out).mono ?_
  rintro e w' ⟨rfl, x, rfl⟩
  go_wp2
  go_ret2
  exact ⟨rfl, z.step x, rfl⟩

set_option maxRecDepth 100000 in
set_option maxHeartbeats 4000000 in
theorem Why_bad (n : Int) (mv cv : Value) (one : Int) (ms : List (Int × Int)) (cs : List Int) (W : World) (hs : Sht W mv cv ms cs) (hv : vsheet n ms cs ≠ 0) :
    Calls Try.prog 38 #[.agg #[.int .i64 n, mv, cv], .int .i64 one] W (Gives (.tuple #[.slice none 0 0, .int .i64 (vsheet n ms cs)]) W) := by
  have hvb : (vsheet n ms cs != 0) = true := by simpa using hv
  have HV := Lib.hid hv
  clear hv
  obtain ⟨am, lm, cm, rfl⟩ : ∃ a n c, mv = .slice a n c := by obtain ⟨a, c, e⟩ := hs.m.form; exact ⟨a, _, c, e⟩
  obtain ⟨ac, lc, cc, rfl⟩ : ∃ a n c, cv = .slice a n c := by obtain ⟨a, c, e⟩ := hs.c.form; exact ⟨a, _, c, e⟩
  have HLM := Lib.hid (show lm = ms.length by obtain ⟨a, c, e⟩ := hs.m.form; cases e; rfl)
  have HLC := Lib.hid (show lc = cs.length by obtain ⟨a, c, e⟩ := hs.c.form; cases e; rfl)
  go_enter Try.func38, Try.ntmps38
  go_wp2_with fail
  obtain ⟨B, hB⟩ : ∃ B, B = W.heap.size := ⟨_, rfl⟩
  obtain ⟨z, hz⟩ : ∃ z : Later W, z.w = W.alloc (.cells #[.int .i64 n, .slice am lm cm, .slice ac lc cc] 25) := ⟨Later.new _ _, rfl⟩
  have c0 : z.w.cell? ⟨B, 0, none⟩ = some (.int .i64 n) := by rw [hz, hB]; simp [go_sem]
  have c1 : z.w.cell? ⟨B, 1, none⟩ = some (.slice am lm cm) := by rw [hz, hB]; simp [go_sem]
  have c2 : z.w.cell? ⟨B, 2, none⟩ = some (.slice ac lc cc) := by rw [hz, hB]; simp [go_sem]
  have hBz : B < z.w.heap.size := by rw [hz, hB]; simp [go_sem]
  rw [← hz, ← hB]
  replace hs := hs.later z
  
  clear hz hB
  refine (open_bad n _ _ ms cs _ hs HV.out).mono ?_
  rintro e w' ⟨rfl, x, rfl⟩
  go_wp2
  go_ret2
  exact ⟨rfl, z.step x, rfl⟩

def BrtK (L : Sat.Lay) (n : Nat) (W : World) (e : Ending) (w' : World) : Prop := ∃ v, ∃ x : Later W, e = .returned (.tuple #[v, .int .i64 0]) ∧ w' = x.w ∧ Ints x.w v ((brightF L n).map fun (k : Nat) => (k : Int))

set_option maxRecDepth 100000 in
set_option maxHeartbeats 4000000 in
theorem Brightest_calls (n : Nat) (mv cv : Value) (mn : List (Nat × Nat)) (cn : List Nat) (hS : Shn n mn cn) (W : World) (hs : Sht W mv cv (mn.map prI) (cn.map fun (c : Nat) => (c : Int))) :
    Calls Try.prog 34 #[.agg #[.int .i64 n, mv, cv]] W (BrtK hS.lay n W) := by
  obtain ⟨l, hl⟩ : ∃ l, n - 1 = l := ⟨_, rfl⟩
  have HL := Lib.hid (show l + 1 = n by have := hS.n1; omega)
  have eL : (n : Int) - 1 = (l : Int) := by have := hS.n1; omega
  have HEL := Lib.hid eL
  clear hl eL
  have HT := Lib.hid (fun (W : World) (mv cv : Value) hs => open_calls n mv cv mn cn hS W hs)
  have HBR := Lib.hid (fun (last : Nat) (hl : last < n) (W : World) (mv cv : Value) hs => brightest_calls n mv cv last hl mn cn hS W hs)
  have h10 := hS.n10
  have h1n := hS.n1
  skip
  obtain ⟨ms, hms⟩ : ∃ ms, mn.map prI = ms := ⟨_, rfl⟩
  obtain ⟨cs, hcs⟩ : ∃ cs, (cn.map fun (c : Nat) => (c : Int)) = cs := ⟨_, rfl⟩
  rw [hms, hcs] at hs HT HBR
  clear hms hcs
  obtain ⟨am, lm, cm, rfl⟩ : ∃ a n c, mv = .slice a n c := by obtain ⟨a, c, e⟩ := hs.m.form; exact ⟨a, _, c, e⟩
  obtain ⟨ac, lc, cc, rfl⟩ : ∃ a n c, cv = .slice a n c := by obtain ⟨a, c, e⟩ := hs.c.form; exact ⟨a, _, c, e⟩
  have HLM := Lib.hid (show lm = ms.length by obtain ⟨a, c, e⟩ := hs.m.form; cases e; rfl)
  have HLC := Lib.hid (show lc = cs.length by obtain ⟨a, c, e⟩ := hs.c.form; cases e; rfl)
  have he0 := eql_none
  have he1 := eql_some
  go_enter Try.func34, Try.ntmps34
  go_wp2_with fail
  obtain ⟨B, hB⟩ : ∃ B, B = W.heap.size := ⟨_, rfl⟩
  obtain ⟨z, hz⟩ : ∃ z : Later W, z.w = W.alloc (.cells #[.int .i64 n, .slice am lm cm, .slice ac lc cc] 25) := ⟨Later.new _ _, rfl⟩
  have c0 : z.w.cell? ⟨B, 0, none⟩ = some (.int .i64 n) := by rw [hz, hB]; simp [go_sem]
  have c1 : z.w.cell? ⟨B, 1, none⟩ = some (.slice am lm cm) := by rw [hz, hB]; simp [go_sem]
  have c2 : z.w.cell? ⟨B, 2, none⟩ = some (.slice ac lc cc) := by rw [hz, hB]; simp [go_sem]
  have hBz : B < z.w.heap.size := by rw [hz, hB]; simp [go_sem]
  rw [← hz, ← hB]
  replace hs := hs.later z
  
  clear hz hB
  refine (HT.out _ _ _ hs).mono ?_
  rintro e w' ⟨b, m, nv, x, rfl, rfl, -, -⟩
  have g0 : x.w.cell? ⟨B, 0, none⟩ = some (.int .i64 n) := ((x).cell hBz).trans c0
  have g1 : x.w.cell? ⟨B, 1, none⟩ = some (.slice am lm cm) := ((x).cell hBz).trans c1
  have g2 : x.w.cell? ⟨B, 2, none⟩ = some (.slice ac lc cc) := ((x).cell hBz).trans c2
  have gB : B < x.w.heap.size := Nat.lt_of_lt_of_le hBz (x).size
  go_wp2_with fail
  rw [HEL.out]
  refine (HBR.out l (by have := HL.out; omega) _ _ _ (hs.later x)).mono ?_
  rintro e w' ⟨ov, wv, y, rfl, rfl, hO, -⟩
  obtain ⟨ao, no, co, rfl⟩ : ∃ a n c, ov = .slice a n c := by obtain ⟨a, c, e⟩ := hO.form; exact ⟨a, _, c, e⟩
  have HO := Lib.hid hO
  clear hO
  go_wp2
  go_ret2
  exact ⟨_, (z.step x).step y, rfl, rfl, by have h := HO.out; rw [HL.out] at h; exact h⟩

set_option maxRecDepth 100000 in
set_option maxHeartbeats 4000000 in
theorem Why_out (n : Nat) (mv cv : Value) (one : Int) (ho : one < 0 ∨ n ≤ one) (mn : List (Nat × Nat)) (cn : List Nat) (hS : Shn n mn cn) (W : World) (hs : Sht W mv cv (mn.map prI) (cn.map fun (c : Nat) => (c : Int))) :
    Calls Try.prog 38 #[.agg #[.int .i64 n, mv, cv], .int .i64 one] W (Gives (.tuple #[.slice none 0 0, .int .i64 2]) W) := by
  have HT := Lib.hid (fun (W : World) (mv cv : Value) hs => open_calls n mv cv mn cn hS W hs)
  have HBR := Lib.hid (fun (last : Nat) (hl : last < n) (W : World) (mv cv : Value) hs => brightest_calls n mv cv last hl mn cn hS W hs)
  have h10 := hS.n10
  have h1n := hS.n1
  skip
  obtain ⟨ms, hms⟩ : ∃ ms, mn.map prI = ms := ⟨_, rfl⟩
  obtain ⟨cs, hcs⟩ : ∃ cs, (cn.map fun (c : Nat) => (c : Int)) = cs := ⟨_, rfl⟩
  rw [hms, hcs] at hs HT HBR
  clear hms hcs
  obtain ⟨am, lm, cm, rfl⟩ : ∃ a n c, mv = .slice a n c := by obtain ⟨a, c, e⟩ := hs.m.form; exact ⟨a, _, c, e⟩
  obtain ⟨ac, lc, cc, rfl⟩ : ∃ a n c, cv = .slice a n c := by obtain ⟨a, c, e⟩ := hs.c.form; exact ⟨a, _, c, e⟩
  have HLM := Lib.hid (show lm = ms.length by obtain ⟨a, c, e⟩ := hs.m.form; cases e; rfl)
  have HLC := Lib.hid (show lc = cs.length by obtain ⟨a, c, e⟩ := hs.c.form; cases e; rfl)
  have he0 := eql_none
  have he1 := eql_some
  go_enter Try.func38, Try.ntmps38
  go_wp2_with fail
  obtain ⟨B, hB⟩ : ∃ B, B = W.heap.size := ⟨_, rfl⟩
  obtain ⟨z, hz⟩ : ∃ z : Later W, z.w = W.alloc (.cells #[.int .i64 n, .slice am lm cm, .slice ac lc cc] 25) := ⟨Later.new _ _, rfl⟩
  have c0 : z.w.cell? ⟨B, 0, none⟩ = some (.int .i64 n) := by rw [hz, hB]; simp [go_sem]
  have c1 : z.w.cell? ⟨B, 1, none⟩ = some (.slice am lm cm) := by rw [hz, hB]; simp [go_sem]
  have c2 : z.w.cell? ⟨B, 2, none⟩ = some (.slice ac lc cc) := by rw [hz, hB]; simp [go_sem]
  have hBz : B < z.w.heap.size := by rw [hz, hB]; simp [go_sem]
  rw [← hz, ← hB]
  replace hs := hs.later z
  
  clear hz hB
  refine (HT.out _ _ _ hs).mono ?_
  rintro e w' ⟨b, m, nv, x, rfl, rfl, -, -⟩
  have g0 : x.w.cell? ⟨B, 0, none⟩ = some (.int .i64 n) := ((x).cell hBz).trans c0
  have g1 : x.w.cell? ⟨B, 1, none⟩ = some (.slice am lm cm) := ((x).cell hBz).trans c1
  have g2 : x.w.cell? ⟨B, 2, none⟩ = some (.slice ac lc cc) := ((x).cell hBz).trans c2
  have gB : B < x.w.heap.size := Nat.lt_of_lt_of_le hBz (x).size
  have hI := Ints.lit x.w [one] 3 (b := x.w.heap.size) (arr := #[.int .i64 one]) (n := 1) rfl rfl rfl (by simp)
  have hwc := within_calls _ [one] 0 ((n : Int) - 1) _ hI
  rw [one_any, show outB 0 ((n : Int) - 1) one = true by
    rw [outB, Bool.or_eq_true, decide_eq_true_iff, decide_eq_true_iff]; omega] at hwc
  go_wp2_with fail
  refine hwc.mono ?_
  clear hwc hI g0 g1 g2 gB
  rintro e w' ⟨rfl, y, rfl⟩
  go_wp2
  go_ret2
  exact ⟨rfl, ((z.step x).step (Later.new _ _)).step y, rfl⟩

def WhyR (L : Sat.Lay) (k : Nat) (W : World) (e : Ending) (w' : World) : Prop := ∃ v, ∃ x : Later W, w' = x.w ∧ ((whyF L (k + 1) = none ∧ e = .returned (.tuple #[.slice none 0 0, .int .i64 5]) ∧ v = .slice none 0 0) ∨
  ∃ l : List Nat, whyF L (k + 1) = some (brightF L k ++ [k]) ∧ e = .returned (.tuple #[v, .int .i64 0]) ∧ Ints x.w v (natV l) ∧ Sat.IsChain L (brightF L k ++ [k]) l)
theorem whyF_some {L : Sat.Lay} {k : Nat} {l : List Nat} (h : whyF L (k + 1) = some l) : l = brightF L k ++ [k] ∧ ¬ Sat.Can L (brightF L k ++ [k]) [] := by
  rw [whyF] at h
  split at h
  · cases h
  · rename_i hc; exact ⟨(Option.some.inj h).symm, hc⟩

set_option maxRecDepth 100000 in
set_option maxHeartbeats 4000000 in
theorem Why_calls (n : Nat) (mv cv : Value) (k : Nat) (hk : k < n) (mn : List (Nat × Nat)) (cn : List Nat) (hS : Shn n mn cn) (W : World) (hs : Sht W mv cv (mn.map prI) (cn.map fun (c : Nat) => (c : Int))) :
    Calls Try.prog 38 #[.agg #[.int .i64 n, mv, cv], .int .i64 (k : Int)] W (WhyR hS.lay k W) := by
  have HT := Lib.hid (fun (W : World) (mv cv : Value) hs => open_calls n mv cv mn cn hS W hs)
  have HBR := Lib.hid (fun (last : Nat) (hl : last < n) (W : World) (mv cv : Value) hs => brightest_calls n mv cv last hl mn cn hS W hs)
  have h10 := hS.n10
  have h1n := hS.n1
  have HCN := Lib.hid (fun (W : World) (mv cv nv : Value) hs hx => Chain_calls n mv cv nv mn cn (brightF hS.lay k ++ [k]) hS (bright_nms hk) W hs hx)
  obtain ⟨ms, hms⟩ : ∃ ms, mn.map prI = ms := ⟨_, rfl⟩
  obtain ⟨cs, hcs⟩ : ∃ cs, (cn.map fun (c : Nat) => (c : Int)) = cs := ⟨_, rfl⟩
  rw [hms, hcs] at hs HT HBR HCN
  clear hms hcs
  obtain ⟨am, lm, cm, rfl⟩ : ∃ a n c, mv = .slice a n c := by obtain ⟨a, c, e⟩ := hs.m.form; exact ⟨a, _, c, e⟩
  obtain ⟨ac, lc, cc, rfl⟩ : ∃ a n c, cv = .slice a n c := by obtain ⟨a, c, e⟩ := hs.c.form; exact ⟨a, _, c, e⟩
  have HLM := Lib.hid (show lm = ms.length by obtain ⟨a, c, e⟩ := hs.m.form; cases e; rfl)
  have HLC := Lib.hid (show lc = cs.length by obtain ⟨a, c, e⟩ := hs.c.form; cases e; rfl)
  have he0 := eql_none
  have he1 := eql_some
  go_enter Try.func38, Try.ntmps38
  go_wp2_with fail
  obtain ⟨B, hB⟩ : ∃ B, B = W.heap.size := ⟨_, rfl⟩
  obtain ⟨z, hz⟩ : ∃ z : Later W, z.w = W.alloc (.cells #[.int .i64 n, .slice am lm cm, .slice ac lc cc] 25) := ⟨Later.new _ _, rfl⟩
  have c0 : z.w.cell? ⟨B, 0, none⟩ = some (.int .i64 n) := by rw [hz, hB]; simp [go_sem]
  have c1 : z.w.cell? ⟨B, 1, none⟩ = some (.slice am lm cm) := by rw [hz, hB]; simp [go_sem]
  have c2 : z.w.cell? ⟨B, 2, none⟩ = some (.slice ac lc cc) := by rw [hz, hB]; simp [go_sem]
  have hBz : B < z.w.heap.size := by rw [hz, hB]; simp [go_sem]
  rw [← hz, ← hB]
  replace hs := hs.later z
  
  clear hz hB
  refine (HT.out _ _ _ hs).mono ?_
  rintro e w' ⟨b, m, nv, x, rfl, rfl, -, -⟩
  have g0 : x.w.cell? ⟨B, 0, none⟩ = some (.int .i64 n) := ((x).cell hBz).trans c0
  have g1 : x.w.cell? ⟨B, 1, none⟩ = some (.slice am lm cm) := ((x).cell hBz).trans c1
  have g2 : x.w.cell? ⟨B, 2, none⟩ = some (.slice ac lc cc) := ((x).cell hBz).trans c2
  have gB : B < x.w.heap.size := Nat.lt_of_lt_of_le hBz (x).size
  have hI := Ints.lit x.w [(k : Int)] 3 (b := x.w.heap.size) (arr := #[.int .i64 (k : Int)]) (n := 1) rfl rfl rfl (by simp)
  have hwc := within_calls _ [(k : Int)] 0 ((n : Int) - 1) _ hI
  rw [one_any, show outB 0 ((n : Int) - 1) (k : Int) = false by
    rw [outB, Bool.or_eq_false_iff, decide_eq_false_iff_not, decide_eq_false_iff_not]; omega] at hwc
  go_wp2_with fail
  refine hwc.mono ?_
  clear hwc hI g0 g1 g2 gB
  rintro e w' ⟨rfl, y, rfl⟩
  obtain ⟨V, hV⟩ : ∃ V : Later z.w, y.w = V.w := ⟨(x.step (Later.new _ _)).step y, rfl⟩
  rw [hV]
  clear hV y
  have g0 : V.w.cell? ⟨B, 0, none⟩ = some (.int .i64 n) := ((V).cell hBz).trans c0
  have g1 : V.w.cell? ⟨B, 1, none⟩ = some (.slice am lm cm) := ((V).cell hBz).trans c1
  have g2 : V.w.cell? ⟨B, 2, none⟩ = some (.slice ac lc cc) := ((V).cell hBz).trans c2
  have gB : B < V.w.heap.size := Nat.lt_of_lt_of_le hBz (V).size
  go_wp2_with fail
  refine (HBR.out k hk _ _ _ (hs.later V)).mono ?_
  clear g0 g1 g2 gB
  rintro e w' ⟨ov, wv, y, rfl, rfl, hO, hW⟩
  obtain ⟨ao, no, co, rfl⟩ : ∃ a n c, ov = .slice a n c := by obtain ⟨a, c, e⟩ := hO.form; exact ⟨a, _, c, e⟩
  rcases hW with ⟨hw, rfl⟩ | ⟨l, a, m2, q2, hw, rfl, hL⟩
  · have HW := Lib.hid hw
    clear hw hO
    go_wp2
    go_ret2
    exact ⟨_, (z.step V).step y, rfl, .inl ⟨HW.out, rfl, rfl⟩⟩
  obtain ⟨rfl, hnc⟩ := whyF_some hw
  have HW := Lib.hid hw
  have HC2 := Lib.hid hnc
  obtain ⟨U, hU⟩ : ∃ U : Later z.w, y.w = U.w := ⟨V.step y, rfl⟩
  rw [hU] at hL ⊢
  clear hU hO hw hnc y V
  have g0 : U.w.cell? ⟨B, 0, none⟩ = some (.int .i64 n) := ((U).cell hBz).trans c0
  have g1 : U.w.cell? ⟨B, 1, none⟩ = some (.slice am lm cm) := ((U).cell hBz).trans c1
  have g2 : U.w.cell? ⟨B, 2, none⟩ = some (.slice ac lc cc) := ((U).cell hBz).trans c2
  have gB : B < U.w.heap.size := Nat.lt_of_lt_of_le hBz (U).size
  go_wp2_with fail
  refine (HCN.out _ _ _ _ (hs.later U) hL).mono ?_
  clear g0 g1 g2 gB hL
  rintro e w' ⟨v, y, rfl, (⟨hno, -, -⟩ | ⟨l, rfl, hI, hch⟩)⟩
  · exact absurd (Sat.can_nil.2 hno) HC2.out
  · have HI := Lib.hid (And.intro hI hch)
    clear hI hch
    go_wp2
    go_ret2
    exact ⟨_, (z.step U).step y, rfl, .inr ⟨l, HW.out, rfl, HI.out.1, HI.out.2⟩⟩

end Go.Proofs.Ytdhdpbnlhnodjaa
