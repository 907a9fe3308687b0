import Derived.Test.YtdhdpbnlhnodjaaKWk
/-  Names by bits: Some. -/
namespace Go.Proofs.Ytdhdpbnlhnodjaa
open Go.RowKit
/-- the names of a sheet, by bits -/
def bitB (b i : Nat) : Nat := b / 2 ^ i % 2
def someN (n b : Nat) : List Nat := (List.range n).filter fun i => bitB b i == 1
theorem someN_nms (n b : Nat) : Nms n (someN n b) :=
  ⟨List.Pairwise.sublist List.filter_sublist List.pairwise_lt_range, fun _ hk => List.mem_range.1 (List.mem_filter.1 hk).1⟩
theorem someN_mem {n b i : Nat} : i ∈ someN n b ↔ i < n ∧ bitB b i = 1 := by rw [someN, List.mem_filter, List.mem_range, beq_iff_eq]
theorem someN_succ (n b : Nat) : someN (n + 1) b = someN n b ++ if bitB b n = 1 then [n] else [] := by
  rw [someN, List.range_succ, List.filter_append, ← someN]
  congr 1
  by_cases h : bitB b n = 1
  · rw [if_pos h, List.filter_cons_of_pos (by simpa using h)]; rfl
  · rw [if_neg h, List.filter_cons_of_neg (by simpa using h)]; rfl
theorem someN_len (n b : Nat) : (someN n b).length ≤ n := Nat.le_trans (List.length_filter_le _ _) (by simp)
theorem u16_and1 (b : Nat) : bits .and .u16 (b : Int) 1 = (b % 2 : Nat) := by
  have h1 : (BitVec.ofInt 16 1).toNat = 2 ^ 1 - 1 := by decide
  have key : (BitVec.ofInt 16 (b : Int) &&& BitVec.ofInt 16 1).toNat = ((b : Int) % ((2 ^ 16 : Nat) : Int)).toNat % 2 ^ 1 := by
    rw [BitVec.toNat_and, BitVec.toNat_ofInt, h1, Nat.and_two_pow_sub_one_eq_mod]
  show IntKind.u16.wrap ((BitVec.ofInt 16 (b : Int) &&& BitVec.ofInt 16 1).toNat : Nat) = _
  rw [key]
  simp only [IntKind.wrap, IntKind.bits, IntKind.signed]
  simp
  omega
def GivesL (l : List Int) (W : World) (e : Ending) (w' : World) : Prop := ∃ v, ∃ x : Later W, e = .returned v ∧ w' = x.w ∧ Ints x.w v l
set_option maxRecDepth 100000 in
set_option maxHeartbeats 4000000 in
theorem Some_calls (n b : Nat) (mv cv : Value) (ms : List (Int × Int)) (cs : List Int) (hn : n ≤ 10) (W : World) (hs : Sht W mv cv ms cs) :
    Calls Try.prog 41 #[.agg #[.int .i64 (n : Int), mv, cv], .int .u16 (b : Int)] W (GivesL (natV (someN n b)) W) := by
  obtain ⟨am, lm, cm, rfl⟩ : ∃ a n c, mv = .slice a n c := by obtain ⟨a, c, e⟩ := hs.m.form; exact ⟨a, _, c, e⟩
  obtain ⟨ac, lc, cc, rfl⟩ : ∃ a n c, cv = .slice a n c := by obtain ⟨a, c, e⟩ := hs.c.form; exact ⟨a, _, c, e⟩
  have HLM := Lib.hid (show lm = ms.length by obtain ⟨a, c, e⟩ := hs.m.form; cases e; rfl)
  have HLC := Lib.hid (show lc = cs.length by obtain ⟨a, c, e⟩ := hs.c.form; cases e; rfl)
  go_enter Try.func41, Try.ntmps41
  go_wp2_with fail
  obtain ⟨B, hB⟩ : ∃ B, B = W.heap.size := ⟨_, rfl⟩
  obtain ⟨z, hz⟩ : ∃ z : Later W, z.w = W.alloc (.cells #[.int .i64 n, .slice am lm cm, .slice ac lc cc] 25) := ⟨Later.new _ _, rfl⟩
  have c0 : z.w.cell? ⟨B, 0, none⟩ = some (.int .i64 n) := by rw [hz, hB]; simp [go_sem]
  have c1 : z.w.cell? ⟨B, 1, none⟩ = some (.slice am lm cm) := by rw [hz, hB]; simp [go_sem]
  have c2 : z.w.cell? ⟨B, 2, none⟩ = some (.slice ac lc cc) := by rw [hz, hB]; simp [go_sem]
  have hBz : B < z.w.heap.size := by rw [hz, hB]; simp [go_sem]
  rw [← hz, ← hB]
  replace hs := hs.later z
  
  clear hz hB
  go_loopw [5, 6] (fun ov i wr => ∃ (k : Nat) (u : Later z.w), wr = u.w ∧ k ≤ n ∧ i = .int .i64 k ∧ IntsM z.w.heap.size u.w ov (natV (someN k b))) (fun ov i _ => n - (intOf i).toNat)
  case atStart => exact ⟨0, Later.self _, rfl, Nat.zero_le _, rfl, IntsM.nil _ _⟩
  case round =>
    obtain ⟨k, u, rfl, hk, rfl, hO⟩ := hrel
    have g0 : u.w.cell? ⟨B, 0, none⟩ = some (.int .i64 n) := ((u).cell hBz).trans c0
    have g1 : u.w.cell? ⟨B, 1, none⟩ = some (.slice am lm cm) := ((u).cell hBz).trans c1
    have g2 : u.w.cell? ⟨B, 2, none⟩ = some (.slice ac lc cc) := ((u).cell hBz).trans c2
    have gB : B < u.w.heap.size := Nat.lt_of_lt_of_le hBz (u).size
    have hsl := someN_len k b
    obtain ⟨ao, lo, co, rfl⟩ := hO.form'
    by_cases hlt : k < n
    · have hbit : bits .and .u16 ((b : Int) / 2 ^ k) 1 = (bitB b k : Nat) := by rw [show (b : Int) / 2 ^ k = ((b / 2 ^ k : Nat) : Int) by push_cast; rfl, u16_and1]; rfl
      have HB := Lib.hid (show natV (someN (k + 1) b) = natV (someN k b) ++ if bitB b k = 1 then [(k : Int)] else [] by rw [someN_succ]; by_cases h : bitB b k = 1 <;> simp [h, natV])
      obtain ⟨B1, hB1⟩ : ∃ B, bitB b k = B := ⟨_, rfl⟩
      rw [hB1] at hbit HB
      by_cases h1 : B1 = 1
      · rw [if_pos h1] at HB
        subst h1
        obtain ⟨v2, q2, hr2, hA2, -⟩ := app_int_stepM (W := z.w) u.le hO k (by simp [natV]; omega) 23
        obtain ⟨a2, n2, c2', rfl⟩ := hA2.form'
        have HR2 := Lib.hid hr2
        have HA2 := Lib.hid hA2
        clear hr2 hA2 hB1
        go_wp2_with ((with_reducible show wpList _ _ _ (⟨some 21, _, _, _, _, _⟩ :: _) _ _); refine Lib.wpList_append_run_sl _ rfl _ _ 23 rfl _ _ rfl rfl HR2.out ?_)
        go_roundw
        case rel => exact ⟨k + 1, q2, rfl, by omega, by go_num, by rw [HB.out]; exact HA2.out⟩
        case measure => simp [intOf]; omega
      · have h1b : ((B1 : Int) == 1) = false := by simp; omega
        rw [if_neg h1, List.append_nil] at HB
        have HO := Lib.hid hO
        clear hB1 h1 hO
        go_wp2
        go_roundw
        case rel => exact ⟨k + 1, u, rfl, by omega, by go_num, by rw [HB.out]; exact HO.out⟩
        case measure => simp [intOf]; omega
    · obtain rfl : n = k := by omega
      go_wp2
      go_ret
      exact ⟨_, z.step u, rfl, rfl, hO.ints (by simp [natV]; omega)⟩

end Go.Proofs.Ytdhdpbnlhnodjaa

/-  A setting of names by bits: sides. -/
namespace Go.Proofs.Ytdhdpbnlhnodjaa
open Go.RowKit
open Sat (plc setL)
/-- the sides of k names, by bits -/
def lowB (k b : Nat) : List Nat := (List.range k).map (bitB b)
theorem lowB_len (k b : Nat) : (lowB k b).length = k := by simp [lowB]
theorem lowB_le (k b : Nat) : ∀ c ∈ lowB k b, c ≤ 1 := fun c hc => by
  obtain ⟨i, _, rfl⟩ := List.mem_map.1 hc
  show _ % 2 ≤ 1
  omega
theorem lowB_get (k b : Nat) {i : Nat} (hi : i < k) : (lowB k b)[i]'(by rw [lowB_len]; exact hi) = bitB b i := by simp [lowB]
def sideL (n : Nat) (N : List Nat) (b : Nat) : List Int := setL n (plc N (lowB N.length b))
theorem low_fill {n : Nat} {N : List Nat} (hN : Nms n N) (b : Nat) {j : Nat} (hj : j < N.length) (hn : N[j] < n) :
    (setL n (plc (N.take j) ((lowB N.length b).take j))).set N[j] ((bitB b j : Nat) : Int) = setL n (plc (N.take (j + 1)) ((lowB N.length b).take (j + 1))) := by
  rw [← setL_fill hN.nodup (lowB_len _ _) (lowB_le _ _) hj hn, lowB_get _ _ hj]
set_option maxRecDepth 100000 in
set_option maxHeartbeats 4000000 in
theorem sides_calls (n b : Nat) (mv cv nv : Value) (ms : List (Int × Int)) (cs : List Int) (N : List Nat) (hN : Nms n N) (hn : n ≤ 10) (hb16 : b ≤ 65535) (W : World) (hs : Sht W mv cv ms cs) (hx : Ints W nv (natV N)) :
    Calls Try.prog 42 #[.agg #[.int .i64 (n : Int), mv, cv], nv, .int .u16 (b : Int)] W (GivesL (sideL n N b) W) := by
  obtain ⟨xs, hxs⟩ : ∃ xs, natV N = xs := ⟨_, rfl⟩
  rw [hxs] at hx
  have HXS := Lib.hid hxs
  clear hxs
  obtain ⟨am, lm, cm, rfl⟩ : ∃ a n c, mv = .slice a n c := by obtain ⟨a, c, e⟩ := hs.m.form; exact ⟨a, _, c, e⟩
  obtain ⟨ac, lc, cc, rfl⟩ : ∃ a n c, cv = .slice a n c := by obtain ⟨a, c, e⟩ := hs.c.form; exact ⟨a, _, c, e⟩
  have HLM := Lib.hid (show lm = ms.length by obtain ⟨a, c, e⟩ := hs.m.form; cases e; rfl)
  have HLC := Lib.hid (show lc = cs.length by obtain ⟨a, c, e⟩ := hs.c.form; cases e; rfl)
  obtain ⟨ax, lx, cx, rfl⟩ : ∃ a n c, nv = .slice a n c := by obtain ⟨a, c, e⟩ := hx.form; exact ⟨a, _, c, e⟩
  have HLX := Lib.hid (show lx = xs.length by obtain ⟨a, c, e⟩ := hx.form; cases e; rfl)
  have HLN := Lib.hid (show lx = N.length by rw [HLX.out, ← HXS.out, natV_len])
  have hl10 : lx ≤ 10 := by rw [HLN.out]; exact Nat.le_trans hN.len hn
  have hmk := run_make_ints n (by omega)
  go_enter Try.func42, Try.ntmps42
  go_wp2_with fail
  obtain ⟨B, hB⟩ : ∃ B, B = W.heap.size := ⟨_, rfl⟩
  obtain ⟨z, hz⟩ : ∃ z : Later W, z.w = W.alloc (.cells #[.int .i64 n, .slice am lm cm, .slice ac lc cc] 25) := ⟨Later.new _ _, rfl⟩
  have c0 : z.w.cell? ⟨B, 0, none⟩ = some (.int .i64 n) := by rw [hz, hB]; simp [go_sem]
  have c1 : z.w.cell? ⟨B, 1, none⟩ = some (.slice am lm cm) := by rw [hz, hB]; simp [go_sem]
  have c2 : z.w.cell? ⟨B, 2, none⟩ = some (.slice ac lc cc) := by rw [hz, hB]; simp [go_sem]
  have hBz : B < z.w.heap.size := by rw [hz, hB]; simp [go_sem]
  have HZ : Hid (z.w.heap.size = B + 1) := Lib.hid (by rw [hz, hB]; simp)
  rw [← hz, ← hB]
  replace hs := hs.later z
  replace hx := hx.later z
  clear hz hB
  obtain ⟨L, hL⟩ : ∃ L, B + 1 = L := ⟨_, rfl⟩
  have hI0 := IntsM.zeros z.w (lo := z.w.heap.size) (n := n) rfl (Nat.le_refl _) (by omega)
  obtain ⟨u0, hu0⟩ : ∃ q : Later z.w, z.w.alloc (.cells (madeCells #[.int .i64 0] n) 3) = q.w := ⟨Later.new _ _, rfl⟩
  rw [hu0] at hI0 ⊢
  rw [HZ.out] at hI0
  rw [hL] at hI0 ⊢
  have HL := Lib.hid (HZ.out.trans hL)
  clear hu0 hL HZ
  go_loopw [8] (fun i wr => ∃ (j : Nat) (y : Later z.w), wr = y.w ∧ j ≤ n ∧ i = .int .i64 j ∧ IntsM L y.w (.slice (some ⟨L, 0, none⟩) n n) (List.replicate j (-1) ++ List.replicate (n - j) 0)) (fun i _ => n - (intOf i).toNat)
  case atStart => exact ⟨0, u0, rfl, Nat.zero_le _, rfl, by simpa using hI0⟩
  case round =>
    clear hI0
    obtain ⟨j, y, rfl, hj, rfl, hI⟩ := hrel
    have g0 : y.w.cell? ⟨B, 0, none⟩ = some (.int .i64 n) := ((y).cell hBz).trans c0
    have g1 : y.w.cell? ⟨B, 1, none⟩ = some (.slice am lm cm) := ((y).cell hBz).trans c1
    have g2 : y.w.cell? ⟨B, 2, none⟩ = some (.slice ac lc cc) := ((y).cell hBz).trans c2
    have gB : B < y.w.heap.size := Nat.lt_of_lt_of_le hBz (y).size
    by_cases hjn : j < n
    · obtain ⟨g, e1, -, -, hgl, -, hfz, hcl, hI2, hgr⟩ := hI.set (k := j) (by simp; omega) (-1)
      obtain rfl : g = L := (Addr.some_block e1).symm
      clear e1
      obtain ⟨ov, hov⟩ : ∃ v, nth (List.replicate j (-1) ++ List.replicate (n - j) 0) j = v := ⟨_, rfl⟩
      rw [hov] at hcl
      have HGR := Lib.hid hgr
      clear hov hgr
      go_wp2
      go_roundw
      case rel =>
        obtain ⟨q, hq⟩ := IntsM.stepB y HL.out hI HGR.out
        rw [rep_set _ _ hjn, hq] at hI2
        exact ⟨j + 1, q, hq, by omega, by go_num, hI2⟩
      case measure => simp [intOf]; omega
    · obtain rfl : n = j := by omega
      replace hI : IntsM L y.w (.slice (some ⟨L, 0, none⟩) n n) (setL n (plc (N.take 0) ((lowB N.length b).take 0))) := by
        have e : (List.replicate n (-1 : Int) ++ List.replicate (n - n) 0) = setL n (plc (N.take 0) ((lowB N.length b).take 0)) := by rw [Nat.sub_self]; simp [plc, Sat.setL_nil]
        rw [← e]; exact hI
      clear hj
      go_wp2
      clear g0 g1 g2 gB
      go_loopw [9] (fun i wr => ∃ (j : Nat) (y : Later z.w), wr = y.w ∧ j ≤ lx ∧ i = .int .i64 j ∧ IntsM L y.w (.slice (some ⟨L, 0, none⟩) n n) (setL n (plc (N.take j) ((lowB N.length b).take j)))) (fun i _ => lx - (intOf i).toNat)
      case atStart => exact ⟨0, y, rfl, Nat.zero_le _, rfl, hI⟩
      case round =>
        clear hI y
        obtain ⟨j, y, rfl, hj, rfl, hI⟩ := hrel
        by_cases hjn : j < lx
        · obtain ⟨bm, om, km, e, hkm, hbm, hgm⟩ := hx.at (k := j) (by rw [← HLX.out]; exact hjn)
          injection e with e1 e2 e3
          subst e1
          have hjN : j < N.length := by rw [← HLN.out]; exact hjn
          have m1 := (y.cell hbm).trans (hgm j (by rw [← HLX.out]; exact hjn))
          have ml := Nat.lt_of_lt_of_le hbm y.size
          rw [← HXS.out, nth_natV hjN] at m1
          have hnj := hN.lt _ (List.getElem_mem hjN)
          have hfl := Lib.hid (low_fill hN b hjN hnj)
          obtain ⟨q, hq⟩ : ∃ q, N[j] = q := ⟨_, rfl⟩
          rw [hq] at m1 hnj
          have HQ := Lib.hid hq
          clear hgm hkm e2 e3 hq
          have hbit : bits .and .i64 ((b : Int) / 2 ^ j) 1 = (bitB b j : Nat) := by
            rw [i64_and1, bitB, show (b : Int) / 2 ^ j = ((b / 2 ^ j : Nat) : Int) by push_cast; rfl]; omega
          have hcv : IntKind.i64.wrap ((b : Int) / 2 ^ j) = (b : Int) / 2 ^ j := by
            have h1 : b / 2 ^ j ≤ b := Nat.div_le_self _ _
            rw [show (b : Int) / 2 ^ j = ((b / 2 ^ j : Nat) : Int) by push_cast; rfl]
            generalize b / 2 ^ j = Q at h1 ⊢
            rw [IntKind.wrap_i64]
            omega
          go_wp2
          refine Mix.region_mixL (Mix.kinds [] [] [11]) (by kernel_rfl) (by kernel_rfl) ?_
          repeat ((with_reducible refine Mix.atCons ?_); first | refine Mix.skipU (by rfl) rfl (by rfl) ?_ | (refine Mix.val rfl rfl (by rfl) (fun K hK => ?_); go_big_quiet_op; refine hK _ ?_; clear hK K) | (refine Mix.skip (by rfl) ?_; go_frame))
          refine Mix.last rfl (by rfl) (fun x1 K hK => ?_)
          obtain ⟨g, e1, -, -, hgl, -, hfz, hcl, hI2, hgr⟩ := (hI.later x1).set (k := q) (by rw [Sat.setL_len]; exact hnj) (bitB b j : Nat)
          obtain rfl : g = L := (Addr.some_block e1).symm
          clear e1
          obtain ⟨ov, hov⟩ : ∃ v, nth (setL n (plc (N.take j) ((lowB N.length b).take j))) q = v := ⟨_, rfl⟩
          rw [hov] at hcl
          have HGR := Lib.hid hgr
          clear hov hgr
          go_wp2_with fail
          refine Mix.done (fun x2 => ?_)
          go_wp2
          go_roundw
          case rel =>
            obtain ⟨q2, hq2⟩ := IntsM.stepB (y.step x1) HL.out (hI.later x1) HGR.out
            have e : (setL n (plc (N.take j) ((lowB N.length b).take j))).set q (bitB b j : Nat) = setL n (plc (N.take (j + 1)) ((lowB N.length b).take (j + 1))) := by
              rw [← HQ.out]; exact hfl.out
            rw [e] at hI2
            exact ⟨j + 1, ⟨x2.w, (show Below z.w.heap.size z.w _ from hq2 ▸ q2.le).trans (x2.le.mono (show Below z.w.heap.size z.w _ from hq2 ▸ q2.le).size)⟩, rfl, by omega, by go_num, hI2.later x2⟩
          case measure => simp [intOf]; omega
        · obtain rfl : lx = j := by omega
          go_wp2
          go_ret
          refine ⟨_, z.step y, rfl, rfl, ?_⟩
          have e : (setL n (plc (N.take lx) ((lowB N.length b).take lx))) = sideL n N b := by rw [sideL, HLN.out, List.take_length, List.take_of_length_le (by rw [lowB_len]; exact Nat.le_refl _)]
          rw [← e]
          exact hI.ints (by rw [Sat.setL_len]; omega)

end Go.Proofs.Ytdhdpbnlhnodjaa

/-  Plain law for the statements over a valid sheet: settings by bits, and what their errors are. -/
namespace Go.Proofs.Ytdhdpbnlhnodjaa
open Go.RowKit
open Sat (plc setL rightP One at0 IsChain)

theorem natV_eq (N : List Nat) : natV N = N.map fun (k : Nat) => (k : Int) := rfl
/-- sides of names: bits, one for each -/
structure Bs (N bs : List Nat) : Prop where
  len : bs.length = N.length
  le : ∀ b ∈ bs, b ≤ 1
theorem lowB_bs (N : List Nat) (b : Nat) : Bs N (lowB N.length b) := ⟨lowB_len _ _, lowB_le _ _⟩
section
variable {n : Nat} {mn : List (Nat × Nat)} {cn N bs : List Nat}
theorem setL_outB (ps : List Nat) : (setL n ps).any (outB (-1) 1) = false := by
  rw [List.any_eq_false]
  intro x hx
  obtain ⟨i, _, rfl⟩ := List.mem_map.1 hx
  simp only [outB]
  split
  · decide
  · split <;> decide
theorem side_E (hS : Shn n mn cn) (hN : Nms n N) (hb : Bs N bs) : settE n (mn.map prI) (cn.map fun (c : Nat) => (c : Int)) (setL n (plc N bs)) = if rightP mn cn (plc N bs) = true then 0 else 18 := by
  rw [settE, if_neg (by rw [hS.v]; simp), if_neg (by rw [Sat.setL_len]; simp), setL_outB, if_neg (by simp), rightI_nat hS (Sat.plc_one hN.nodup hb.le)]
theorem side_ge (_ : Nms n N) (hb : Bs N bs) {i : Nat} (hi : i < n) : 0 ≤ nth (setL n (plc N bs)) i ↔ i ∈ N := by
  rw [nth_at0, Sat.at0_setL _ hi]
  have key : (2 * i ∈ plc N bs ∨ 2 * i + 1 ∈ plc N bs) ↔ i ∈ N := by
    constructor
    · rintro (h | h) <;> obtain ⟨j, hj, hj2, e⟩ := Sat.plc_mem.1 h <;>
      · have := hb.le _ (List.getElem_mem hj2)
        have e2 : N[j] = i := by omega
        rw [← e2]; exact List.getElem_mem hj
    · intro h
      obtain ⟨j, hj, e⟩ := List.mem_iff_getElem.1 h
      have hj2 : j < bs.length := by rw [hb.len]; exact hj
      have h1 := hb.le _ (List.getElem_mem hj2)
      have hm : 2 * N[j] + bs[j] ∈ plc N bs := Sat.plc_mem.2 ⟨j, hj, hj2, rfl⟩
      rw [e] at hm
      by_cases h0 : bs[j] = 0
      · rw [h0] at hm; exact .inl hm
      · rw [show bs[j] = 1 by omega] at hm; exact .inr hm
  rw [← key]
  split
  · rename_i h; exact ⟨fun _ => .inl h, fun _ => by decide⟩
  · rename_i h
    split
    · rename_i h2; exact ⟨fun _ => .inr h2, fun _ => by decide⟩
    · rename_i h2; exact ⟨fun h3 => absurd h3 (by decide), fun h3 => absurd h3 (by simp [h, h2])⟩
theorem cnt_range (n : Nat) (N : List Nat) (hN : Nms n N) (P : Nat → Bool) (hP : ∀ i, i < n → (P i = true ↔ i ∈ N)) : ((List.range n).filter P).length = N.length := by
  have h1 : ∀ l : List Nat, (∀ i ∈ l, i < n) → l.filter P = l.filter fun i => decide (i ∈ N) := fun l hl => List.filter_congr fun i hi => by
    rw [Bool.eq_iff_iff, decide_eq_true_iff]; exact hP i (hl i hi)
  rw [h1 _ fun i hi => List.mem_range.1 hi]
  have p : ((List.range n).filter fun i => decide (i ∈ N)).Perm N := by
    refine (List.perm_ext_iff_of_nodup (List.nodup_range.filter _) hN.nodup).2 fun a => ?_
    rw [List.mem_filter, List.mem_range, decide_eq_true_iff]
    exact ⟨fun h => h.2, fun h => ⟨hN.lt a h, h⟩⟩
  exact p.length_eq
theorem cntS_range (st : List Int) : cntS st = ((List.range st.length).filter fun i => decide (0 ≤ nth st i)).length := by
  have e : st = (List.range st.length).map (nth st) := by
    apply List.ext_getElem
    · simp
    · intro i h1 h2; simp [nth_eq h1]
  rw [cntS]
  conv => lhs; rw [e, List.filter_map, List.length_map]
  rfl
theorem side_N (_ : Shn n mn cn) (hN : Nms n N) (hb : Bs N bs) : cntS (setL n (plc N bs)) = N.length := by
  rw [cntS_range, Sat.setL_len]
  exact cnt_range n N hN _ fun i hi => by rw [decide_eq_true_iff]; exact side_ge hN hb hi
theorem side_settN (hS : Shn n mn cn) (hN : Nms n N) (hb : Bs N bs) (h : rightP mn cn (plc N bs) = true) : settN n (mn.map prI) (cn.map fun (c : Nat) => (c : Int)) (setL n (plc N bs)) = N.length := by
  rw [settN, if_pos (by rw [side_E hS hN hb, if_pos h]), side_N hS hN hb]
theorem mem_settL {st : List Int} : st ∈ settL n mn cn N ↔ ∃ bs, Bs N bs ∧ rightP mn cn (plc N bs) = true ∧ st = setL n (plc N bs) := by
  rw [settL, List.mem_map]
  constructor
  · rintro ⟨bs, h, rfl⟩
    obtain ⟨h1, h2⟩ := List.mem_filter.1 h
    obtain ⟨h3, h4⟩ := Sat.mem_sidesL.1 h1
    exact ⟨bs, ⟨h3, h4⟩, h2, rfl⟩
  · rintro ⟨bs, ⟨h3, h4⟩, h2, rfl⟩
    exact ⟨bs, List.mem_filter.2 ⟨Sat.mem_sidesL.2 ⟨h3, h4⟩, h2⟩, rfl⟩
theorem head_good (h0 : settL n mn cn N ≠ []) : ∃ bs, Bs N bs ∧ rightP mn cn (plc N bs) = true ∧ (settL n mn cn N).headD [] = setL n (plc N bs) := by
  cases h : settL n mn cn N with
  | nil => exact absurd h h0
  | cons a l =>
    obtain ⟨bs, h1, h2, h3⟩ := mem_settL.1 (show a ∈ settL n mn cn N by rw [h]; simp)
    exact ⟨bs, h1, h2, h3⟩
theorem right_ne (hb : Bs N bs) (h : rightP mn cn (plc N bs) = true) : settL n mn cn N ≠ [] := fun e => by
  have := (mem_settL (n := n)).2 ⟨bs, hb, h, rfl⟩
  rw [e] at this; cases this
theorem setEI_nat (hS : Shn n mn cn) (hN : Nms n N) : setEI n (mn.map prI) (cn.map fun (c : Nat) => (c : Int)) (natV N) = setE (settL n mn cn N) := by
  rw [setEI, natV, if_pos (nameE_nat hS hN), settI_eq]
theorem setVI_nat (hS : Shn n mn cn) (hN : Nms n N) : setVI n (mn.map prI) (cn.map fun (c : Nat) => (c : Int)) (natV N) = (settL n mn cn N).headD [] := by
  rw [setVI, natV, if_pos (nameE_nat hS hN), settI_eq]
theorem chnEI_nat (hS : Shn n mn cn) (hN : Nms n N) : chnEI n (mn.map prI) (cn.map fun (c : Nat) => (c : Int)) (natV N) = chnE (settL n mn cn N) := by
  rw [chnEI, natV, if_pos (nameE_nat hS hN), settI_eq]
theorem cntVI_nat (hS : Shn n mn cn) (hN : Nms n N) : cntVI n (mn.map prI) (cn.map fun (c : Nat) => (c : Int)) (natV N) = (settL n mn cn N).length := by
  rw [cntVI, natV, if_pos (nameE_nat hS hN), settI_eq]
theorem chainEI_nat (hS : Shn n mn cn) (hN : Nms n N) (ch : List Int) : chainEI n (mn.map prI) (cn.map fun (c : Nat) => (c : Int)) (natV N) ch = chainE hS.lay n (natV N) ch := by
  rw [chainEI, natV, if_pos (nameE_nat hS hN), layI_eq hS]
/-- a list that is a chain is one of places -/
theorem chain_nat {L : Sat.Lay} {xs ch : List Int} (h : chainE L n xs ch = 0) : ∃ l : List Nat, ch = natV l := by
  rw [chainE] at h
  by_cases h1 : ch.length < 3 ∨ 50 < ch.length
  · rw [if_pos h1] at h; cases h
  · rw [if_neg h1] at h
    by_cases h2 : ch.any (straK n xs) = true
    · rw [if_pos h2] at h; cases h
    · refine ⟨ch.map Int.toNat, ?_⟩
      rw [natV, List.map_map]
      symm
      rw [List.map_congr_left (g := id) fun p hp => ?_]
      · simp
      · have h3 : straK n xs p = false := by
          cases h4 : straK n xs p
          · rfl
          · exact absurd (List.any_eq_true.2 ⟨p, hp, h4⟩) h2
        rw [straK, Bool.not_eq_false', kindB, isPl, Bool.and_eq_true, Bool.and_eq_true, decide_eq_true_iff] at h3
        exact Int.toNat_of_nonneg h3.1.1
theorem chain_is (hN : Nms n N) {L : Sat.Lay} {ch : List Int} (h : chainE L n (natV N) ch = 0) : ∃ l, ch = natV l ∧ IsChain L N l := by
  obtain ⟨l, rfl⟩ := chain_nat h
  exact ⟨l, rfl, (chainE_nat hN l).1 h⟩
theorem chain_nil (hS : Shn n mn cn) (hN : Nms n N) {ch : List Int} (h : chainEI n (mn.map prI) (cn.map fun (c : Nat) => (c : Int)) (natV N) ch = 0) : settL n mn cn N = [] := by
  rw [chainEI_nat hS hN] at h
  obtain ⟨l, rfl, hc⟩ := chain_is hN h
  exact settL_nil hS hN.nodup fun h2 => hc.none h2.noChain
theorem has_nat (N : List Nat) (i : Nat) : hasB (natV N) (i : Int) = decide (i ∈ N) := by
  rw [natV, hasB_nat, Bool.eq_iff_iff, List.contains_iff_mem, decide_eq_true_iff]
end
end Go.Proofs.Ytdhdpbnlhnodjaa
