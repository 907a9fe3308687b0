import Derived.Test.YtbjmfhlkmklmmaaLawB
/-  list, Flatten and Upon of the program, once more: the slices that they return lie in new blocks. -/
namespace Go.Proofs.Ytbjmfhlkmklmmaa
open Go.RowKit

/-- a slice that is empty or lies at n or beyond -/
def Fresh (n : Nat) (v : Value) : Prop := ∀ b o s m c, v = .slice (some ⟨b, o, s⟩) m c → m ≠ 0 → n ≤ b
theorem Fresh.nil (n : Nat) : Fresh n (.slice none 0 0) := fun _ _ _ _ _ h => nomatch h
theorem Fresh.mono {n m : Nat} {v : Value} (h : Fresh m v) (hn : n ≤ m) : Fresh n v := fun b o s k c e h0 => Nat.le_trans hn (h b o s k c e h0)
theorem run_append_cutF (w : World) (xs : List Int) (n : Nat) (ao : Option Addr) (hx : Ints w (.slice ao n n) xs) (hl : n = xs.length) (b c : Nat) (y : Int) (hb : w.cell? ⟨b, 0, none⟩ = some (.int .i64 y)) (hbig : n ≤ 1000000) (ty : TypeId) :
    ∃ a' n' c', ∃ q : Later w, (Builtin.append_ #[22, 22] ty #[.slice ao n n, .slice (some ⟨b, 0, none⟩) 1 c]).run Try.prog w = .ok (.slice a' n' c') q.w ∧ Ints q.w (.slice a' n' c') (xs ++ [y]) ∧ Fresh w.heap.size (.slice a' n' c') := by
  obtain ⟨c', q, h1, h2⟩ := run_append_cut w xs n ao hx hl b c y hb hbig ty
  exact ⟨_, _, c', q, h1, h2, fun b o s m k e _ => by cases e; exact Nat.le_refl _⟩
set_option maxRecDepth 100000 in
set_option maxHeartbeats 4000000 in
theorem list_callsF (b w h : Nat) (dv : Value) (now bl L : List Int) (W : World) (hb : Blk W b w h dv now bl) (hL : L.length = 36) (h36 : w * h ≤ 36) :
    Calls Try.prog 54 #[.pointer (some ⟨b, 0, none⟩), .agg (aggA L)] W fun e W' => ∃ v, ∃ x : Later W, e = .returned v ∧ W' = x.w ∧ Ints x.w v (L.take (w * h)) ∧ Fresh W.heap.size v := by
  go_enter Try.func54, Try.ntmps54
  go_wp2_with fail
  obtain ⟨s0, hs0⟩ : ∃ s0, s0 = W.heap.size := ⟨_, rfl⟩
  obtain ⟨V, hV⟩ : ∃ V : Later W, V.w = W.alloc (.cells (aggA L) 75) := ⟨Later.new _ _, rfl⟩
  have hA : Arr V.w s0 L := by rw [hV, hs0]; exact World.alloc_heap_new W _
  have hbV := hb.later V
  rw [← hV, ← hs0]
  clear hV hb hs0
  have c0 := hbV.cellW
  have c1 := hbV.cellH
  have lb := hbV.lt
  obtain ⟨N, hN⟩ : ∃ N, N = w * h := ⟨_, rfl⟩
  have eN : IntKind.i64.wrap ((w : Int) * (h : Int)) = (N : Int) := by rw [hN]; exact wrap_size h36
  rw [← hN] at h36
  have HN := Lib.hid hN
  clear hN
  have h36i : (N : Int) ≤ 36 := by omega
  have h36n : ¬ (36 : Int) < N := by omega
  refine region_later_lit (by kernel_rfl) (by kernel_rfl) ?_
  repeat (first | go_big_quiet_step (first
       | (fail)))
  refine wpQuiet_nil ?_
  intro y
  have hAy := hA.kept y.grown (by simp)
  obtain ⟨Y, hY⟩ : ∃ Y : Later W, Y.w = y.w := ⟨V.step y, rfl⟩
  rw [← hY] at hAy ⊢
  clear hY y c0 c1 lb hA hbV
  clear V
  go_wp2
  go_loopw [5, 21] (fun o i wr => ∃ (k : Nat) (x : Later Y.w) (a : Option Addr) (n c : Nat), wr = x.w ∧ k ≤ N ∧ i = .int .i64 k ∧ o = .slice a n c ∧ Ints x.w (.slice a n c) (L.take k) ∧ Fresh W.heap.size (.slice a n c)) (fun _ i _ => N - (intOf i).toNat)
  case atStart => exact ⟨0, Later.self _, none, 0, 0, rfl, Nat.zero_le _, rfl, rfl, Ints.nil _ _, Fresh.nil _⟩
  case round =>
    obtain ⟨k, x, a, n, c, rfl, hk, rfl, rfl, hX, hFr⟩ := hrel
    by_cases hlt : k < N
    · have hAx := hAy.kept x.grown (by simp)
      have c1 : x.w.cell? ⟨s0, k, none⟩ = some (.int .i64 (nth L k)) := by
        have := hAx.range k (.int .i64 (nth L k)) (by simp [nth, show k < L.length by omega])
        rwa [Nat.zero_add] at this
      obtain ⟨hn1, _, hX2, hn2⟩ := hX.cut
      have hLk : (L.take k).length = k := by rw [List.length_take]; omega
      rw [hLk] at hn1
      subst hn1
      have hcap : n ≤ c := by
        rcases Nat.eq_zero_or_pos n with e | e
        · omega
        · exact hn2 e
      obtain ⟨a', n', c', q, hrun, hXn, hF1⟩ := run_append_cutF (x.w.alloc (.cells #[.int .i64 (nth L n)] 2)) (L.take n) n a (by have := hX2.later (Later.new x.w (.cells #[.int .i64 (nth L n)] 2)); exact this) hLk.symm x.w.heap.size 1 (nth L n) (by simp [go_sem]) (by omega) 22
      have HR := Lib.hid hrun
      rw [take_snoc (by omega)] at hXn
      have HX := Lib.hid hXn
      have HF := Lib.hid (hF1.mono (show W.heap.size ≤ _ from Nat.le_trans Y.size (Nat.le_trans x.size (by simp))))
      clear hF1 hFr
      clear hrun hXn hn2 hLk hX hX2
      go_wp2_with (at_builtin; (with_reducible show wpList _ _ _ (⟨some 33, _, _, _, _, _⟩ :: _) _ _); refine Lib.wpList_append_run_sl _ rfl _ _ 22 rfl _ _ rfl rfl HR.out ?_)
      go_roundw
      case rel => exact ⟨n + 1, (x.step (Later.new _ _)).step q, _, _, _, rfl, by omega, by go_num, rfl, HX.out, HF.out⟩
      case measure => simp [intOf]; omega
    · obtain rfl : k = N := by omega
      go_wp2
      go_ret
      exact ⟨_, Y.step x, rfl, rfl, by rw [← HN.out]; exact hX, hFr⟩
/-- it returns two lists and a number; the lists lie in new blocks -/
def GivesLLF (L M : List Int) (err : Int) (W : World) (e : Ending) (W' : World) : Prop := ∃ v u, ∃ x : Later W, e = .returned (.tuple #[v, u, .int .i64 err]) ∧ W' = x.w ∧ Ints x.w v L ∧ Ints x.w u M ∧ Fresh W.heap.size v ∧ Fresh W.heap.size u
def GivesLF (L : List Int) (err : Int) (W : World) (e : Ending) (W' : World) : Prop := ∃ v, ∃ x : Later W, e = .returned (.tuple #[v, .int .i64 err]) ∧ W' = x.w ∧ Ints x.w v L ∧ Fresh W.heap.size v
set_option maxRecDepth 100000 in
set_option maxHeartbeats 2000000 in
theorem Flatten_callsF (w h : Int) (dv : Value) (d : List Int) (W : World) (hd : Ints W dv d) :
    Calls Try.prog 27 #[.agg #[.int .i64 w, .int .i64 h, dv]] W (GivesLLF (flatX w h d) (flatU w h d) (vplate w h d) W) := by
  have hdl := hd.1
  obtain ⟨a, c, rfl⟩ := hd.form
  go_enter Try.func27, Try.ntmps27
  go_wp2_with fail
  obtain ⟨B, hB⟩ : ∃ B, B = W.heap.size := ⟨_, rfl⟩
  obtain ⟨z, hz⟩ : ∃ z : Later W, z.w = W.alloc (.cells #[.int .i64 w, .int .i64 h, .slice a d.length c] 24) := ⟨Later.new _ _, rfl⟩
  have c0 : z.w.cell? ⟨B, 0, none⟩ = some (.int .i64 w) := by rw [hz, hB]; simp [go_sem]
  have c1 : z.w.cell? ⟨B, 1, none⟩ = some (.int .i64 h) := by rw [hz, hB]; simp [go_sem]
  have c2 : z.w.cell? ⟨B, 2, none⟩ = some (.slice a d.length c) := by rw [hz, hB]; simp [go_sem]
  have hBz : B < z.w.heap.size := by rw [hz, hB]; simp [go_sem]
  have HZ : Hid (z.w.heap.size = B + 1) := Lib.hid (by rw [hz, hB]; simp)
  rw [← hz, ← hB]
  replace hd := hd.later z
  clear hz hB
  refine (open_calls w h _ d _ hd).mono ?_
  rintro e w' ⟨v, x, rfl, rfl, hif⟩
  have gB0 : x.w.cell? ⟨B, 0, none⟩ = some (.int .i64 w) := ((x).cell hBz).trans c0
  have gB1 : x.w.cell? ⟨B, 1, none⟩ = some (.int .i64 h) := ((x).cell hBz).trans c1
  have gB2 : x.w.cell? ⟨B, 2, none⟩ = some (.slice a d.length c) := ((x).cell hBz).trans c2
  have sB : B < x.w.heap.size := Nat.lt_of_lt_of_le hBz (x).size
  by_cases hv : vplate w h d = 0
  rotate_left
  · have hE := Lib.hid (show flatX w h d = [] ∧ flatU w h d = [] by rw [flatX, flatU, if_neg hv, if_neg hv]; exact ⟨rfl, rfl⟩)
    rw [if_neg hv] at hif
    subst hif
    have hb2 : (vplate w h d != 0) = true := by simpa using hv
    go_wp2
    try simp only [Exit.inBlock, Exit.then]
    refine bodyPost_ret (results_tmp3 rfl _ _ _) rfl ?_
    exact ⟨.slice none 0 0, .slice none 0 0, z.step x, rfl, rfl, by rw [hE.out.1]; exact Ints.nil _ _, by rw [hE.out.2]; exact Ints.nil _ _, Fresh.nil _, Fresh.nil _⟩
  · have hE := Lib.hid (show flatX w h d = (hamP w.toNat h.toNat d).1 ∧ flatU w h d = (hamP w.toNat h.toNat d).2 by rw [flatX, flatU, if_pos hv, if_pos hv]; exact ⟨rfl, rfl⟩)
    have HV := Lib.hid hv
    rw [if_pos hv] at hif
    obtain ⟨b, rfl, hbz, hbk⟩ := hif
    obtain ⟨wn, hn, rfl, rfl, hs, hl, hlo⟩ := vplate_zero hv
    have hlow := vplate_low hl hlo
    have HL := Lib.hid hl
    have h36 : wn * hn ≤ 36 := Nat.mul_le_mul hs.2.1 hs.2.2.2
    have h1w : 1 ≤ wn * hn := Nat.mul_le_mul hs.1 hs.2.2.1
    clear hl hlo
    rw [hv]
    have hF := Lib.hid (flatten_calls b wn hn _ d (fun _ => 0) x.w hbk hs HL.out (fun j hj => by have := hlow j hj; omega) (fun j hj => by omega))
    clear hv
    go_wp2_with fail
    refine hF.out.mono ?_
    rintro e w' ⟨⟨v, rfl⟩, X, U, hH, hbk2, hbut⟩
    rw [zpad] at hbk2
    have hp := hH.eq
    have e1 := hE.out
    rw [Int.toNat_natCast, Int.toNat_natCast, hp] at e1
    have hXl : X.length = wn * hn := hH.run.2.2.1
    have hUl : U.length = wn * hn := hH.run.2.1
    have HE := Lib.hid e1
    clear hE e1 hp
    obtain ⟨Y, hY⟩ : ∃ Y : Later z.w, w' = Y.w := ⟨⟨w', x.le.trans (hbut.under hbz x.size)⟩, rfl⟩
    rw [hY] at hbk2 ⊢
    have hrn := hbk2.rangeN
    have lb2 := hbk2.lt
    clear hY hF hbut
    go_wp2
    refine Mix.region_mixL (Mix.kinds [] [5, 11] []) (by kernel_rfl) (by kernel_rfl) ?_
    repeat ((with_reducible refine Mix.atCons ?_); first | refine Mix.skipU (by rfl) rfl (by rfl) ?_ | (refine Mix.val rfl rfl (by rfl) (fun K hK => ?_); go_big_quiet_op; refine hK _ ?_; clear hK K))
    with_reducible refine Mix.atCons ?_
    refine Mix.val rfl rfl (by rfl) (fun K hK => ?_)
    refine quiet_load_dents _ rfl b 3 rfl (pad (ofL X)) (pad_len _) (fun w' ⟨x, hx⟩ => by rw [hx]; exact (hbk2.later x).rangeN) ?_
    refine hK _ ?_
    clear hK K
    go_frame
    refine Mix.loud rfl (by rfl) (fun x1 K hK => ?_)
    go_wp2_with fail
    refine (list_callsF b wn hn _ _ _ _ _ (hbk2.later x1) (pad_len _) h36).mono ?_
    rintro e w' ⟨l1, y1, rfl, rfl, hR1, hF1⟩
    rw [take_pad hXl h36] at hR1
    obtain ⟨a1, n1, k1, rfl⟩ : ∃ a n c, l1 = .slice a n c := by obtain ⟨a, c, e⟩ := hR1.form; exact ⟨a, _, c, e⟩
    refine hK _ y1 ?_
    clear hK K
    repeat ((with_reducible refine Mix.atCons ?_); first | refine Mix.skipU (by rfl) rfl (by rfl) ?_ | (refine Mix.val rfl rfl (by rfl) (fun K hK => ?_); go_big_quiet_op; refine hK _ ?_; clear hK K))
    with_reducible refine Mix.atCons ?_
    refine Mix.val rfl rfl (by rfl) (fun K hK => ?_)
    refine quiet_load_dents _ rfl b 39 rfl (pad (ofL U)) (pad_len _) (fun w' ⟨x, hx⟩ => by rw [hx]; exact (hbk2.later x).rangeB) ?_
    refine hK _ ?_
    clear hK K
    go_frame
    refine Mix.loud rfl (by rfl) (fun x2 K hK => ?_)
    go_wp2_with fail
    refine (list_callsF b wn hn _ _ _ _ _ (((hbk2.later x1).later y1).later x2) (pad_len _) h36).mono ?_
    rintro e w' ⟨l2, y2, rfl, rfl, hR2, hF2⟩
    rw [take_pad hUl h36] at hR2
    obtain ⟨a2, n2, k2, rfl⟩ : ∃ a n c, l2 = .slice a n c := by obtain ⟨a, c, e⟩ := hR2.form; exact ⟨a, _, c, e⟩
    refine hK _ y2 ?_
    clear hK K
    repeat ((with_reducible refine Mix.atCons ?_); first | refine Mix.skipU (by rfl) rfl (by rfl) ?_ | (refine Mix.val rfl rfl (by rfl) (fun K hK => ?_); go_big_quiet_op; refine hK _ ?_; clear hK K))
    refine Mix.done (fun x3 => ?_)
    have hR1' := ((hR1.later x2).later y2).later x3
    have hR2' := hR2.later x3
    go_wp2
    try simp only [Exit.inBlock, Exit.then]
    refine bodyPost_ret (results_tmp3 rfl _ _ _) rfl ?_
    exact ⟨_, _, (z.step Y).step ((((x1.step y1).step x2).step y2).step x3), ret_lle HV.out.symm, rfl, by rw [HE.out.1]; exact hR1', by rw [HE.out.2]; exact hR2', hF1.mono (Nat.le_trans z.size (Nat.le_trans Y.size x1.size)), hF2.mono (Nat.le_trans z.size (Nat.le_trans Y.size (Nat.le_trans x1.size (Nat.le_trans y1.size x2.size))))⟩

set_option maxRecDepth 100000 in
set_option maxHeartbeats 2000000 in
theorem Upon_callsF (w h w2 h2 : Int) (dv qv : Value) (d q : List Int) (W : World) (hd : Ints W dv d) (hq : Ints W qv q) :
    Calls Try.prog 36 #[.agg #[.int .i64 w, .int .i64 h, dv], .agg #[.int .i64 w2, .int .i64 h2, qv]] W (GivesLF (uponL w h d w2 h2 q) (uponE w h d w2 h2 q) W) := by
  have hdl := hd.1
  have hql := hq.1
  obtain ⟨a, c, rfl⟩ := hd.form
  obtain ⟨a2, c2, rfl⟩ := hq.form
  go_enter Try.func36, Try.ntmps36
  go_wp2_with fail
  obtain ⟨B, hB⟩ : ∃ B, B = W.heap.size := ⟨_, rfl⟩
  obtain ⟨C, hC⟩ : ∃ C, C = B + 1 := ⟨_, rfl⟩
  obtain ⟨z, hz⟩ : ∃ z : Later W, z.w = (W.alloc (.cells #[.int .i64 w, .int .i64 h, .slice a d.length c] 24)).alloc (.cells #[.int .i64 w2, .int .i64 h2, .slice a2 q.length c2] 24) := ⟨(Later.new _ _).step (Later.new _ _), rfl⟩
  have b0 : z.w.cell? ⟨B, 0, none⟩ = some (.int .i64 w) := by rw [hz, hB]; simp [go_sem]
  have b1 : z.w.cell? ⟨B, 1, none⟩ = some (.int .i64 h) := by rw [hz, hB]; simp [go_sem]
  have b2 : z.w.cell? ⟨B, 2, none⟩ = some (.slice a d.length c) := by rw [hz, hB]; simp [go_sem]
  have k0 : z.w.cell? ⟨C, 0, none⟩ = some (.int .i64 w2) := by rw [hz, hC, hB]; simp [go_sem]
  have k1 : z.w.cell? ⟨C, 1, none⟩ = some (.int .i64 h2) := by rw [hz, hC, hB]; simp [go_sem]
  have k2 : z.w.cell? ⟨C, 2, none⟩ = some (.slice a2 q.length c2) := by rw [hz, hC, hB]; simp [go_sem]
  have hBz : B < z.w.heap.size := by rw [hz, hB]; simp [go_sem] <;> omega
  have hCz : C < z.w.heap.size := by rw [hz, hC, hB]; simp [go_sem]
  rw [← hz, ← hB, ← hC]
  replace hd := (hd.later z)
  replace hq := (hq.later z)
  clear hz hB hC
  refine (open_calls w h _ d _ hd).mono ?_
  rintro e w' ⟨v, x, rfl, rfl, hif⟩
  have gb0 : x.w.cell? ⟨B, 0, none⟩ = some (.int .i64 w) := ((x).cell hBz).trans b0
  have gb1 : x.w.cell? ⟨B, 1, none⟩ = some (.int .i64 h) := ((x).cell hBz).trans b1
  have gb2 : x.w.cell? ⟨B, 2, none⟩ = some (.slice a d.length c) := ((x).cell hBz).trans b2
  have gsB : B < x.w.heap.size := Nat.lt_of_lt_of_le hBz (x).size
  have gk0 : x.w.cell? ⟨C, 0, none⟩ = some (.int .i64 w2) := ((x).cell hCz).trans k0
  have gk1 : x.w.cell? ⟨C, 1, none⟩ = some (.int .i64 h2) := ((x).cell hCz).trans k1
  have gk2 : x.w.cell? ⟨C, 2, none⟩ = some (.slice a2 q.length c2) := ((x).cell hCz).trans k2
  have gsC : C < x.w.heap.size := Nat.lt_of_lt_of_le hCz (x).size
  by_cases hv : vplate w h d = 0
  rotate_left
  · have hE := Lib.hid (show uponE w h d w2 h2 q = vplate w h d by rw [uponE, if_pos hv])
    have hL := Lib.hid (show uponL w h d w2 h2 q = [] by rw [uponL, if_neg (by rw [hE.out]; exact hv)])
    rw [if_neg hv] at hif
    subst hif
    have hb2 : (vplate w h d != 0) = true := by simpa using hv
    go_wp2
    go_ret2
    exact ⟨.slice none 0 0, z.step x, ret_le hE.out.symm, rfl, by rw [hL.out]; exact Ints.nil _ _, Fresh.nil _⟩
  · have HV := Lib.hid hv
    rw [if_pos hv] at hif
    obtain ⟨b, rfl, hbz, hbk⟩ := hif
    rw [hv]
    clear hv
    go_wp2_with fail
    refine (CheckPlate_calls w2 h2 _ q _ (hq.later x)).mono ?_
    rintro e w' ⟨rfl, y, rfl⟩
    have hbk1 := hbk.later y
    obtain ⟨Y, hY⟩ : ∃ Y : Later z.w, Y.w = y.w := ⟨x.step y, rfl⟩
    rw [← hY] at hbk1 ⊢
    clear hY y gb0 gb1 gb2 gk0 gk1 gk2 gsB gsC hbk
    clear x
    have gb0 : Y.w.cell? ⟨B, 0, none⟩ = some (.int .i64 w) := ((Y).cell hBz).trans b0
    have gb1 : Y.w.cell? ⟨B, 1, none⟩ = some (.int .i64 h) := ((Y).cell hBz).trans b1
    have gb2 : Y.w.cell? ⟨B, 2, none⟩ = some (.slice a d.length c) := ((Y).cell hBz).trans b2
    have gsB : B < Y.w.heap.size := Nat.lt_of_lt_of_le hBz (Y).size
    have gk0 : Y.w.cell? ⟨C, 0, none⟩ = some (.int .i64 w2) := ((Y).cell hCz).trans k0
    have gk1 : Y.w.cell? ⟨C, 1, none⟩ = some (.int .i64 h2) := ((Y).cell hCz).trans k1
    have gk2 : Y.w.cell? ⟨C, 2, none⟩ = some (.slice a2 q.length c2) := ((Y).cell hCz).trans k2
    have gsC : C < Y.w.heap.size := Nat.lt_of_lt_of_le hCz (Y).size
    by_cases hv2 : vplate w2 h2 q = 0
    rotate_left
    · have hE := Lib.hid (show uponE w h d w2 h2 q = vplate w2 h2 q by rw [uponE, if_neg (by rw [HV.out]; simp), if_pos hv2])
      have hL := Lib.hid (show uponL w h d w2 h2 q = [] by rw [uponL, if_neg (by rw [hE.out]; exact hv2)])
      have hb2 : (vplate w2 h2 q != 0) = true := by simpa using hv2
      go_wp2
      go_ret2
      exact ⟨.slice none 0 0, z.step Y, ret_le hE.out.symm, rfl, by rw [hL.out]; exact Ints.nil _ _, Fresh.nil _⟩
    · have HV2 := Lib.hid hv2
      rw [hv2]
      clear hv2
      by_cases hw : w = w2
      rotate_left
      · have hE := Lib.hid (show uponE w h d w2 h2 q = 15 by rw [uponE, if_neg (by rw [HV.out]; simp), if_neg (by rw [HV2.out]; simp), if_pos (.inl hw)])
        have hL := Lib.hid (show uponL w h d w2 h2 q = [] by rw [uponL, if_neg (by rw [hE.out]; simp)])
        have hwb : (w != w2) = true := by simpa using hw
        clear hw
        go_wp2
        go_ret2
        exact ⟨.slice none 0 0, z.step Y, ret_le hE.out.symm, rfl, by rw [hL.out]; exact Ints.nil _ _, Fresh.nil _⟩
      · by_cases hh : h = h2
        rotate_left
        · have hE := Lib.hid (show uponE w h d w2 h2 q = 15 by rw [uponE, if_neg (by rw [HV.out]; simp), if_neg (by rw [HV2.out]; simp), if_pos (.inr hh)])
          have hL := Lib.hid (show uponL w h d w2 h2 q = [] by rw [uponL, if_neg (by rw [hE.out]; simp)])
          have hwb : (w != w2) = false := by simpa using hw
          have hhb : (h != h2) = true := by simpa using hh
          clear hh hw
          go_wp2
          go_ret2
          exact ⟨.slice none 0 0, z.step Y, ret_le hE.out.symm, rfl, by rw [hL.out]; exact Ints.nil _ _, Fresh.nil _⟩
        · have hE := Lib.hid (show uponE w h d w2 h2 q = 0 by rw [uponE, if_neg (by rw [HV.out]; simp), if_neg (by rw [HV2.out]; simp), if_neg (by rw [hw, hh]; simp)])
          have hL := Lib.hid (show uponL w h d w2 h2 q = uponF w.toNat h.toNat d q by rw [uponL, if_pos hE.out])
          obtain ⟨wn, hn, rfl, rfl, hs, hl, hlo⟩ := vplate_zero HV.out
          subst hw hh
          obtain ⟨wn', hn', e1, e2, _, hl2, hlo2⟩ := vplate_zero HV2.out
          have hwn : wn' = wn := by omega
          have hhn : hn' = hn := by omega
          subst hwn hhn
          have h36 : wn' * hn' ≤ 36 := Nat.mul_le_mul hs.2.1 hs.2.2.2
          have h1w : 1 ≤ wn' * hn' := Nat.mul_le_mul hs.1 hs.2.2.1
          have hF := Lib.hid (fun (V : World) (dv : Value) (hV : Blk V b wn' hn' dv (pad (ofL (sumL d q))) (pad fun _ => 0)) => flatten_calls b wn' hn' dv (sumL d q) (fun _ => 0) V hV hs (by rw [sumL_len]; exact hl) (sumL_low hl (fun j hj => hlo j (by omega)) (fun j hj => hlo2 j (by omega))) (fun j hj => by omega))
          obtain ⟨bq, oq, kq, e, hkq, hbq, hgq⟩ := hq.at (k := 0) (by omega)
          cases e
          have GQ := Lib.hid hgq
          have hbd1 := Lib.hid (fun j (hj : j < wn' * hn') => (show 0 ≤ ofL d j ∧ ofL d j ≤ 30 from hlo j (by omega)))
          have hbd2 := Lib.hid (fun j (hj : j < wn' * hn') => (show 0 ≤ ofL q j ∧ ofL q j ≤ 30 from hlo2 j (by omega)))
          have HL := Lib.hid hl
          have HL2 := Lib.hid hl2
          rw [show pad (ofL d) = pad (fun j => ofL d j + if j < 0 then ofL q j else 0) from pad_congr fun j _ => by rw [if_neg (Nat.not_lt_zero _)]; omega] at hbk1
          clear hl hl2 hlo hlo2 e1 e2 hgq hq hd
          go_wp2
          go_loopw [39] (fun i wr => ∃ (k : Nat) (V : Later z.w), wr = V.w ∧ k ≤ q.length ∧ i = .int .i64 k ∧ Blk V.w b wn' hn' (.slice a d.length c) (pad fun j => ofL d j + if j < k then ofL q j else 0) (pad fun _ => 0)) (fun i _ => q.length - (intOf i).toNat)
          case atStart => exact ⟨0, Y, rfl, Nat.zero_le _, rfl, hbk1⟩
          case round =>
            obtain ⟨k, V, rfl, hk, rfl, hbk2⟩ := hrel
            clear hbk1
            by_cases hlt : k < q.length
            · have hkN : k < wn' * hn' := by rw [← HL2.out]; exact hlt
              have hk36 : k < 36 := by omega
              have g1 := (V.cell hbq).trans (GQ.out k hlt)
              have l1 := Nat.lt_of_lt_of_le hbq V.size
              rw [nth_ofL] at g1
              have g2 := hbk2.cellN hk36
              have f2 := hbk2.frozen (3 + k)
              rw [nth_ofL, ofL_pad _ hk36, if_neg (Nat.lt_irrefl _), Int.add_zero] at g2
              have lb := hbk2.lt
              have hx1 := hbd1.out k hkN
              have hx2 := hbd2.out k hkN
              have e1 : IntKind.i64.wrap (ofL d k + ofL q k) = ofL d k + ofL q k := IntWalk.i64_in _ (by omega)
              clear hx1 hx2
              go_wp2
              refine Mix.region_mixL (Mix.kinds [] [] [11]) (by kernel_rfl) (by kernel_rfl) ?_
              repeat ((with_reducible refine Mix.atCons ?_); first | refine Mix.skipU (by rfl) rfl (by rfl) ?_ | (refine Mix.val rfl rfl (by rfl) (fun K hK => ?_); go_big_quiet_op; refine hK _ ?_; clear hK K))
              refine Mix.last rfl (by rfl) (fun x1 K hK => ?_)
              have hbx := hbk2.later x1
              have g3 := hbx.cellN hk36
              have f3 := hbx.frozen (3 + k)
              have hst := hbx.setN hk36 (ofL d k + ofL q k)
              rw [show (pad fun j => ofL d j + if j < k then ofL q j else 0).set k (ofL d k + ofL q k) = pad (fun j => ofL d j + if j < k + 1 then ofL q j else 0) from ofL_ext (by rw [List.length_set, pad_len, pad_len]) fun j hj => by
                rw [List.length_set, pad_len] at hj
                rw [ofL_set _ _ _ _ (by rw [pad_len]; exact hk36), ofL_pad _ hj, ofL_pad _ hj]
                by_cases e : j = k
                · subst e; rw [if_pos rfl, if_pos (Nat.lt_succ_self _)]
                · rw [if_neg e]
                  by_cases e2 : j < k
                  · rw [if_pos e2, if_pos (by omega)]
                  · rw [if_neg e2, if_neg (by omega)]] at hst
              clear g2 f2 lb g1 l1 hbx
              go_wp2_with fail
              refine Mix.done (fun y => ?_)
              clear g3 f3
              have hB3 := (V.le.trans (x1.le.mono V.size)).setCell (p := ⟨b, 3 + k, none⟩) hbz (.int .i64 (ofL d k + ofL q k))
              go_wp2
              go_roundw
              case rel => exact ⟨k + 1, ⟨y.w, hB3.trans (y.le.mono hB3.size)⟩, rfl, by omega, by go_num, hst.later y⟩
              case measure => simp [intOf]; omega
            · obtain rfl : k = q.length := by omega
              rw [show (pad fun j => ofL d j + if j < q.length then ofL q j else 0) = pad (ofL (sumL d q)) from pad_congr fun j hj => by
                by_cases e : j < d.length
                · rw [ofL_sumL _ _ e, if_pos (by rw [HL2.out, ← HL.out]; exact e)]
                · rw [if_neg (by rw [HL2.out, ← HL.out]; exact e), show ofL d j = 0 by simp [ofL, List.getElem?_eq_none (show d.length ≤ j by omega)], show ofL (sumL d q) j = 0 by simp [ofL, List.getElem?_eq_none (show (sumL d q).length ≤ j by rw [sumL_len]; omega)]]; rfl] at hbk2
              go_wp2_with fail
              refine (hF.out _ _ hbk2).mono ?_
              rintro e w' ⟨⟨v, rfl⟩, X, U, hH, hbk3, hbut⟩
              have hXl : X.length = wn' * hn' := hH.run.2.2.1
              have hX := Lib.hid (show uponF wn' hn' d q = X by rw [uponF, hH.eq])
              obtain ⟨V2, hV2⟩ : ∃ V2 : Later z.w, w' = V2.w := ⟨⟨w', V.le.trans (hbut.under hbz V.size)⟩, rfl⟩
              rw [hV2] at hbk3 ⊢
              have hrn := hbk3.rangeN
              have lb2 := hbk3.lt
              clear hV2 hF hbut
              go_wp2_with ((with_reducible show wpList _ _ _ (⟨some 62, _, _, _, _, _⟩ :: _) _ _); refine wpList_load_dents rfl _ rfl b 3 rfl (pad (ofL X)) (pad_len _) hrn ?_)
              refine (list_callsF b wn' hn' _ _ _ _ _ hbk3 (pad_len _) h36).mono ?_
              rintro e w' ⟨lv, y, rfl, rfl, hR, hFr⟩
              rw [take_pad hXl h36] at hR
              obtain ⟨al, nl, cl, rfl⟩ : ∃ a n c, lv = .slice a n c := by obtain ⟨a, c, e⟩ := hR.form; exact ⟨a, _, c, e⟩
              go_wp2
              go_ret2
              refine ⟨_, (z.step V2).step y, ret_le hE.out.symm, rfl, ?_, hFr.mono (Nat.le_trans z.size V2.size)⟩
              rw [hL.out, Int.toNat_natCast, Int.toNat_natCast, hX.out]
              exact hR

end Go.Proofs.Ytbjmfhlkmklmmaa
