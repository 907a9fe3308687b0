import Derived.Test.YtdhdpbnlhnodjaaKWay
import Derived.Test.YtdhdpbnlhnodjaaKPrgF
import Derived.Test.YtdhdpbnlhnodjaaKRefA
import Derived.Laws.IdiomCopy
import Derived.Test.YtdhdpbnlhnodjaaKRefG
/-  The program: find, as 'first' calls it. -/
namespace Go.Proofs.Ytdhdpbnlhnodjaa
open Go.RowKit
set_option maxRecDepth 100000 in
set_option maxHeartbeats 4000000 in
theorem first1_calls (L : Sat.Lay) (N : List Nat) (n lo b : Nat) (hN10 : ∀ k ∈ N, k < 10) (hNl : N.length ≤ 10) (T : List Nat) (hT : ∀ p ∈ T, p / 2 ∈ N) (hTl : T.length ≤ 100) (q s : Nat) (hq : q ∈ N) (hs : s ≤ 1) (W : World) (hD : Dk L N n lo W b) (uv : Value) (hu : Ints W uv (natV T))
    (c2 c5 c7 : Nat) (h2 : W.cell? ⟨c2, 0, none⟩ = some (.pointer (some ⟨b, 0, none⟩))) (h5 : W.cell? ⟨c5, 0, none⟩ = some uv) (h7 : W.cell? ⟨c7, 0, none⟩ = some (.int .i64 (q : Int))) :
    Calls Try.prog 82 #[.int .i64 (s : Int), .pointer (some ⟨c2, 0, none⟩), .pointer (some ⟨c5, 0, none⟩), .pointer (some ⟨c7, 0, none⟩)] W (Gives (.bool (agreeB L N (T ++ [2 * q + s]))) W) := by
  have hq10 := hN10 q hq
  have l2 := World.block_lt_of_cell? _ _ h2
  have l5 := World.block_lt_of_cell? _ _ h5
  have l7 := World.block_lt_of_cell? _ _ h7
  simp only [] at l2 l5 l7
  obtain ⟨au, lu, cu, rfl⟩ : ∃ a n c, uv = .slice a n c := by obtain ⟨a, c, e⟩ := hu.form; exact ⟨a, _, c, e⟩
  have HLU := Lib.hid (show lu = T.length by obtain ⟨a, c, e⟩ := hu.form; cases e; simp [natV])
  have hlu : lu ≤ 100 := by rw [HLU.out]; exact hTl
  have hcu := hu.le_cap
  obtain ⟨P, hP⟩ : ∃ P, 2 * q + s = P := ⟨_, rfl⟩
  have HEP := Lib.hid (show 2 * (q : Int) + (s : Int) = (P : Int) by omega)
  have hPN : P / 2 ∈ N := by rw [← hP, show (2 * q + s) / 2 = q by omega]; exact hq
  rw [hP]
  have HAG := Lib.hid (fun (V : Later W) (v : Value) hv => agree_calls L N n lo b hN10 hNl (T ++ [P]) (fun p hp => by
    rcases List.mem_append.1 hp with hp | hp
    · exact hT p hp
    · have : p = P := by simpa using hp
      rw [this]; exact hPN) (by simp; omega) V.w (hD.later V) v hv)
  obtain ⟨r, hr⟩ : ∃ r, agreeB L N (T ++ [P]) = r := ⟨_, rfl⟩
  rw [hr] at HAG ⊢
  have HU := Lib.hid hu
  clear hP hr hD hu
  go_enter Try.func82, Try.ntmps82
  go_wp2_with fail
  refine Mix.region_mixL (Mix.kinds [] [11, 12, 13] []) (by kernel_rfl) (by kernel_rfl) ?_
  repeat ((with_reducible refine Mix.atCons ?_); first | refine Mix.skipU (by rfl) rfl (by rfl) ?_ | (refine Mix.val rfl rfl (by rfl) (fun K hK => ?_); go_big_quiet_op; refine hK _ ?_; clear hK K) | (refine Mix.skip (by rfl) ?_; go_frame))
  rw [HEP.out]
  refine Mix.loud rfl (by rfl) (fun x1 K1 hK1 => ?_)
  go_wp2_with fail
  refine hK1 _ (Later.new _ _) ?_
  clear hK1 K1
  have hy1 := Ints.lit x1.w [(P : Int)] 3 (b := x1.w.heap.size) (arr := #[.int .i64 P]) (n := 1) rfl rfl rfl (by simp)
  obtain ⟨g1, hg1⟩ : ∃ g, x1.w.heap.size = g := ⟨_, rfl⟩
  obtain ⟨Z1, hZ1⟩ : ∃ q : Later W, (Later.new x1.w (.cells #[.int .i64 P] 3)).w = q.w := ⟨x1.step (Later.new _ _), rfl⟩
  have hZ1' : x1.w.alloc (.cells #[.int .i64 P] 3) = Z1.w := hZ1
  rw [hZ1'] at hy1
  rw [hZ1, hg1]
  rw [hg1] at hy1
  clear hZ1 hZ1' hg1 x1
  repeat ((with_reducible refine Mix.atCons ?_); first | refine Mix.skipU (by rfl) rfl (by rfl) ?_ | (refine Mix.val rfl rfl (by rfl) (fun K hK => ?_); go_big_quiet_op; refine hK _ ?_; clear hK K) | (refine Mix.skip (by rfl) ?_; go_frame))
  refine Mix.loud rfl (by rfl) (fun x2 K2 hK2 => ?_)
  obtain ⟨a', n', c', q2, hrun, hI⟩ := app_capped x2.w au lu cu _ ((HU.out.later Z1).later x2) _ (P : Int) (hy1.later x2) (by omega) 23
  have HI := Lib.hid (show Ints q2.w (.slice a' n' c') (natV (T ++ [P])) by rw [natV_app]; exact hI.ints (by rw [List.length_append, natV_len]; simp; omega))
  clear hI
  refine Lib.wp_append_run_sl _ _ _ 23 rfl _ _ rfl rfl hrun ?_
  refine hK2 _ q2 ?_
  go_frame
  clear hK2 K2 hrun
  obtain ⟨Z2, hZ2⟩ : ∃ q3 : Later W, q2.w = q3.w := ⟨(Z1.step x2).step q2, rfl⟩
  have hI2 := HI.out
  rw [hZ2] at hI2 ⊢
  clear hZ2 HI q2 x2 hy1 Z1
  repeat ((with_reducible refine Mix.atCons ?_); first | refine Mix.skipU (by rfl) rfl (by rfl) ?_ | (refine Mix.val rfl rfl (by rfl) (fun K hK => ?_); go_big_quiet_op; refine hK _ ?_; clear hK K) | (refine Mix.skip (by rfl) ?_; go_frame))
  refine Mix.loud rfl (by rfl) (fun x3 K3 hK3 => ?_)
  go_wp2_with fail
  refine (HAG.out (Z2.step x3) _ (hI2.later x3)).mono ?_
  rintro e w' ⟨rfl, y, rfl⟩
  refine hK3 _ y ?_
  clear hK3 K3
  obtain ⟨Z3, hZ3⟩ : ∃ q3 : Later W, y.w = q3.w := ⟨(Z2.step x3).step y, rfl⟩
  rw [hZ3]
  clear hZ3 y hI2
  clear x3 Z2
  repeat ((with_reducible refine Mix.atCons ?_); first | refine Mix.skipU (by rfl) rfl (by rfl) ?_ | (refine Mix.val rfl rfl (by rfl) (fun K hK => ?_); go_big_quiet_op; refine hK _ ?_; clear hK K) | (refine Mix.skip (by rfl) ?_; go_frame))
  refine Mix.done (fun x4 => ?_)
  go_wp2
  go_ret
  exact ⟨rfl, Z3.step x4, rfl⟩
def FindG (g0 g1 : Bool) (k : Nat) : Prop := (0 < k → g0 = false) ∧ (1 < k → g1 = false)
def findN (g0 g1 : Bool) : Int := if g0 then 0 else if g1 then 1 else 0
set_option maxRecDepth 100000 in
set_option maxHeartbeats 1000000 in
theorem find_calls (W : World) (sv : Value) (hx : Ints W sv [0, 1]) (c2 c5 c7 : Nat) (g0 g1 : Bool) (H0 : Hid (∀ V : Later W, Calls Try.prog 82 #[.int .i64 0, .pointer (some ⟨c2, 0, none⟩), .pointer (some ⟨c5, 0, none⟩), .pointer (some ⟨c7, 0, none⟩)] V.w (Gives (.bool g0) V.w)))
    (H1 : Hid (∀ V : Later W, Calls Try.prog 82 #[.int .i64 1, .pointer (some ⟨c2, 0, none⟩), .pointer (some ⟨c5, 0, none⟩), .pointer (some ⟨c7, 0, none⟩)] V.w (Gives (.bool g1) V.w))) :
    Calls Try.prog 81 #[sv, .func (.func 82) #[] #[.pointer (some ⟨c2, 0, none⟩), .pointer (some ⟨c5, 0, none⟩), .pointer (some ⟨c7, 0, none⟩)]] W (Gives (.tuple #[.int .i64 (findN g0 g1), .bool (g0 || g1)]) W) := by
  obtain ⟨bm, om, km, rfl, hkm, hbm, hgm⟩ := hx.at (k := 0) (by simp)
  have m0 : W.cell? ⟨bm, om, none⟩ = some (.int .i64 0) := hgm 0 (by simp)
  have m1 : W.cell? ⟨bm, om + 1, none⟩ = some (.int .i64 1) := hgm 1 (by simp)
  simp only [List.length_cons, List.length_nil, Nat.zero_add, Nat.reduceAdd] at hkm ⊢
  clear hx hgm
  go_enter Try.func81, Try.ntmps81
  go_wp2
  go_loopw [11] (fun i wr => ∃ (k : Nat) (x : Later W), wr = x.w ∧ k ≤ 2 ∧ i = .int .i64 k ∧ Hid (FindG g0 g1 k)) (fun i _ => 2 - (intOf i).toNat)
  case atStart => exact ⟨0, Later.self _, rfl, by omega, rfl, Lib.hid (show FindG g0 g1 0 from ⟨fun h => absurd h (by omega), fun h => absurd h (by omega)⟩)⟩
  case round =>
    obtain ⟨k, x, rfl, hk, rfl, HG⟩ := hrel
    have lb := Nat.lt_of_lt_of_le hbm x.size
    obtain rfl | rfl | rfl : k = 0 ∨ k = 1 ∨ k = 2 := by omega
    · have q0 := (x.cell hbm).trans m0
      have hc := H0.out x
      cases g0
      · go_wp2_with (go_at_call 82; refine hc.mono ?_; rintro e w' ⟨rfl, y, rfl⟩)
        go_roundw
        case rel => exact ⟨1, x.step y, rfl, by omega, by go_num, Lib.hid (show FindG false g1 1 from ⟨fun _ => rfl, fun h => absurd h (by omega)⟩)⟩
        case measure => simp [intOf]
      · go_wp2_with (go_at_call 82; refine hc.mono ?_; rintro e w' ⟨rfl, y, rfl⟩)
        go_ret2
        exact ⟨rfl, x.step y, rfl⟩
    · have q1 := (x.cell hbm).trans m1
      have hc := H1.out x
      obtain rfl := HG.out.1 (by omega)
      clear HG
      cases g1
      · go_wp2_with (go_at_call 82; refine hc.mono ?_; rintro e w' ⟨rfl, y, rfl⟩)
        go_roundw
        case rel => exact ⟨2, x.step y, rfl, by omega, by go_num, Lib.hid (show FindG false false 2 from ⟨fun _ => rfl, fun _ => rfl⟩)⟩
        case measure => simp [intOf]
      · go_wp2_with (go_at_call 82; refine hc.mono ?_; rintro e w' ⟨rfl, y, rfl⟩)
        go_ret2
        exact ⟨rfl, x.step y, rfl⟩
    · obtain rfl := HG.out.1 (by omega)
      obtain rfl := HG.out.2 (by omega)
      clear HG
      go_wp2
      go_ret2
      exact ⟨rfl, x, rfl⟩

end Go.Proofs.Ytdhdpbnlhnodjaa

/-  The first setting, step by step; no program in sight but the names of what it reckons. -/
namespace Go.Proofs.Ytdhdpbnlhnodjaa
open Sat (Greedy Agree okF plc sidesL setL One)

theorem one_place (n : Nat) (c : Nat) (hc : c ≤ 1) : (2 * n + c) / 2 = n := by omega
theorem plc_side {N cs : List Nat} (hN : N.Nodup) (hcs : cs ∈ sidesL N.length) {j b : Nat} (hj : j < N.length) (hb : b ≤ 1) (h : 2 * N[j] + b ∈ plc N cs) (hjc : j < cs.length) : cs[j] = b := by
  obtain ⟨i, hi, hi2, e⟩ := Sat.plc_mem.1 h
  have h1 := (Sat.mem_sidesL.1 hcs).2 _ (List.getElem_mem hi2)
  have e2 : N[i] = N[j] := by omega
  have := (List.getElem_inj hN).1 e2
  subst this
  omega
theorem greedy_in {L : Sat.Lay} {N use bs used : List Nat} {j b : Nat} (hN : N.Nodup) (g : Greedy L N use j bs used) (hj : j < N.length) (hb : b ≤ 1) (h : 2 * N[j] + b ∈ used) : Greedy L N use (j + 1) (bs ++ [b]) used :=
  g.next hj hb g.can (fun _ hp => .inl hp) (fun _ hp => hp) h fun cs hcs _ _ hu hjc => by rw [plc_side hN hcs hj hb (hu _ h) hjc]; exact Nat.le_refl _
theorem can_inN {L : Sat.Lay} {N T : List Nat} (h : Sat.Can L N T) {p : Nat} (hp : p ∈ T) : p / 2 ∈ N := by
  obtain ⟨u, hu, ht⟩ := h
  exact hu.only p (ht p hp)
theorem can_one {L : Sat.Lay} {N T : List Nat} (h : Sat.Can L N T) : One T := fun p hp hm => by
  obtain ⟨u, hu, ht⟩ := h
  have h1 := hu.mate (hu.only p (ht p hp))
  rw [ht p hp, ht _ hm] at h1
  cases h1
theorem agree_snoc {L : Sat.Lay} {N T : List Nat} {p : Nat} : Agree L N (T ++ [p]) ↔ Agree L N (p :: T) :=
  ⟨fun h => h.perm (by simp [or_comm]), fun h => h.perm (by simp [or_comm])⟩
/-- neither side is used: the first that leads to no contrary -/
theorem greedy_new {L : Sat.Lay} {N use bs used : List Nat} {j : Nat} (hN : N.Nodup) (g : Greedy L N use j bs used) (hj : j < N.length) :
    ∃ s : Nat, s ≤ 1 ∧ findN (agreeB L N (used ++ [2 * N[j] + 0])) (agreeB L N (used ++ [2 * N[j] + 1])) = s ∧ Greedy L N use (j + 1) (bs ++ [s]) (used ++ [2 * N[j] + s]) := by
  have hq : N[j] ∈ N := List.getElem_mem hj
  have hin : ∀ p ∈ used, p / 2 ∈ N := fun p hp => can_inN g.can hp
  have key : ∀ s, s ≤ 1 → Agree L N (used ++ [2 * N[j] + s]) → (∀ cs ∈ sidesL N.length, okF L [] (plc N cs) = true → (∀ p ∈ use, p ∈ plc N cs) → (∀ p ∈ used, p ∈ plc N cs) → ∀ (h : j < cs.length), s ≤ cs[j]) → Greedy L N use (j + 1) (bs ++ [s]) (used ++ [2 * N[j] + s]) := fun s hs ha hm => by
    refine g.next hj hs (Sat.can_of g.can.noChain (fun p hp => ?_) ha) (fun p hp => ?_) (fun p hp => by simp [hp]) (by simp) hm
    · rcases List.mem_append.1 hp with hp | hp
      · exact hin p hp
      · have : p = 2 * N[j] + s := by simpa using hp
        rw [this, one_place _ _ hs]; exact hq
    · simpa using hp
  by_cases h0 : Agree L N (used ++ [2 * N[j] + 0])
  · exact ⟨0, by omega, by rw [findN, agreeB_true h0]; rfl, key 0 (by omega) h0 fun _ _ _ _ _ _ => Nat.zero_le _⟩
  · have h1 : Agree L N (used ++ [2 * N[j] + 1]) := by
      rw [agree_snoc]
      rw [agree_snoc] at h0
      rcases Sat.extend g.can.noChain hin g.can.agree (p := 2 * N[j]) (by rw [(Sat.half _).1]; exact hq) with h | h
      · exact absurd h h0
      · rw [Sat.mate_two] at h; exact h
    refine ⟨1, by omega, by rw [findN, agreeB_false h0, agreeB_true h1]; rfl, key 1 (by omega) h1 fun cs hcs ho _ hu hjc => ?_⟩
    refine Nat.one_le_iff_ne_zero.2 fun e => h0 ?_
    refine ((Sat.can_sides hN).2 ⟨cs, hcs, ho, fun p hp => ?_⟩).agree
    rcases List.mem_append.1 hp with hp | hp
    · exact hu p hp
    · have : p = 2 * N[j] + 0 := by simpa using hp
      rw [this]
      exact Sat.plc_mem.2 ⟨j, hj, hjc, by rw [e]⟩
/-- the setting of the places that are used -/
theorem setL_mem {n : Nat} {ps qs : List Nat} (h : ∀ p, p ∈ ps ↔ p ∈ qs) : setL n ps = setL n qs := by
  unfold setL
  exact List.map_congr_left fun i _ => by simp only [h]
theorem setL_next {n : Nat} {used : List Nat} (h1 : One used) (hd : used.Nodup) {j : Nat} (hj : j < used.length) (hlt : used[j] / 2 < n) : (setL n (used.take j)).set (used[j] / 2) ((used[j] % 2 : Nat) : Int) = setL n (used.take (j + 1)) := by
  rw [List.take_succ_eq_append_getElem hj]
  refine Sat.setL_add hlt (fun hm => ?_) (fun hm => h1 _ (List.getElem_mem hj) (List.mem_of_mem_take hm))
  obtain ⟨i, hi, e⟩ := List.mem_iff_getElem.1 hm
  rw [List.length_take] at hi
  simp only [List.getElem_take] at e
  have := (List.getElem_inj hd).1 e
  omega
/-- what 'first' comes to -/
def FirstS (L : Sat.Lay) (N use bs : List Nat) : Prop := bs ∈ sidesL N.length ∧ okF L [] (plc N bs) = true ∧ Sat.firstS N.length (fun cs => okF L [] (plc N cs) && use.all fun p => (plc N cs).contains p) = some bs
end Go.Proofs.Ytdhdpbnlhnodjaa

/-  The program: first. -/
namespace Go.Proofs.Ytdhdpbnlhnodjaa
open Go.RowKit Go.Shelf
open Sat (Greedy plc setL)

/-- what 'first' returns -/
def FirstR (L : Sat.Lay) (N use : List Nat) (n : Nat) (W : World) (e : Ending) (w' : World) : Prop :=
  ∃ (v : Value) (x : Later W), e = .returned v ∧ w' = x.w ∧ ((¬ Sat.Can L N use ∧ v = .slice none 0 0) ∨ ∃ (bs : List Nat) (a : Addr) (m c : Nat), FirstS L N use bs ∧ v = .slice (some a) m c ∧ Ints x.w v (setL n (plc N bs)))
/-- what stands while sides are taken -/
structure FstW (W U : World) (b c2 c5 : Nat) (uv : Value) (used : List Nat) : Prop where
  bel : Below W.heap.size W U
  d : Boxed U c2 65 (.pointer (some ⟨b, 0, none⟩))
  u : Boxed U c5 23 uv
  own : IntsM W.heap.size U uv (natV used)
  lo : W.heap.size ≤ c5
theorem FstW.later {W U : World} {b c2 c5 : Nat} {uv : Value} {used : List Nat} (h : FstW W U b c2 c5 uv used) (x : Later U) : FstW W x.w b c2 c5 uv used :=
  ⟨h.bel.trans (x.le.mono h.bel.size), h.d.kept x.grown (by simp), h.u.kept x.grown (by simp), h.own.later x, h.lo⟩
theorem FstW.x {W U : World} {b c2 c5 : Nat} {uv : Value} {used : List Nat} (h : FstW W U b c2 c5 uv used) : ∃ x : Later W, x.w = U := ⟨⟨U, h.bel⟩, rfl⟩
/-- an append, and its store -/
theorem FstW.app {W U : World} {b c2 c5 : Nat} {uv : Value} {used : List Nat} (h : FstW W U b c2 c5 uv used) (hne : c2 ≠ c5) (p : Nat) (hl : used.length ≤ 1000) :
    ∃ (a : Option Addr) (n c : Nat) (q : World), (Builtin.append_ #[23, 23] 23 #[uv, .slice (some ⟨U.heap.size, 0, none⟩) 1 1]).run Try.prog (U.alloc (.cells #[.int .i64 (p : Int)] 3)) = .ok (.slice a n c) q ∧
      c5 < q.heap.size ∧ q.frozen? ⟨c5, 0, none⟩ = false ∧ q.cell? ⟨c5, 0, none⟩ = some uv ∧ FstW W (q.setCell ⟨c5, 0, none⟩ (.slice a n c)) b c2 c5 (.slice a n c) (used ++ [p]) := by
  obtain ⟨v', q, h1, h2, h3⟩ := app_int_stepM (W := W) h.bel h.own (p : Int) (by rw [natV_len]; omega) 23
  obtain ⟨a, n, c, rfl⟩ := h2.form'
  have hn5 : some c5 ≠ uv.ownBlock := h.u.not_row (by decide) h.own
  have hn2 : some c2 ≠ uv.ownBlock := h.d.not_row (by decide) h.own
  have hu : Boxed q.w c5 23 uv := h.u.kept h3 hn5
  have hd : Boxed q.w c2 65 _ := h.d.kept h3 hn2
  have hn5' := hu.not_row (by decide) h2
  refine ⟨a, n, c, q.w, h1, hu.lt, hu.frozen, hu.cell, ?_⟩
  have hg := grownBy_setCell_at q.w c5 0 (.slice a n c)
  refine ⟨q.le.setCell (p := ⟨c5, 0, none⟩) h.lo _, hd.kept hg (fun e => by cases e; exact hne rfl), hu.set _, ?_, h.lo⟩
  rw [natV_app]
  exact h2.kept hg (.inr (fun e => hn5' e.symm))
set_option maxRecDepth 100000 in
set_option maxHeartbeats 8000000 in
theorem first_calls (L : Sat.Lay) (N : List Nat) (n lo b : Nat) (hn1 : 1 ≤ n) (hn10 : n ≤ 10) (hNn : ∀ k ∈ N, k < n) (hNd : N.Nodup) (hNl : N.length ≤ 10) (use : List Nat) (hU : ∀ p ∈ use, p / 2 ∈ N) (hUd : use.Nodup) (hUl : use.length ≤ 20) (W : World) (hD : Dk L N n lo W b)
    (uv : Value) (hu : Ints W uv (natV use)) (hv : uv = .slice none 0 0 ∨ ∃ a n c, uv = .slice (some a) n c) :
    Calls Try.prog 60 #[.pointer (some ⟨b, 0, none⟩), uv] W (FirstR L N use n W) := by
  have he0 := neq_none
  have he1 := neq_some
  have hN10 : ∀ k ∈ N, k < 10 := fun k hk => by have := hNn k hk; omega
  have HDK := Lib.hid hD
  have HV := Lib.hid hv
  have HUV := Lib.hid hu
  clear hv hD
  have HCH := Lib.hid (fun V : Later W => chain_calls L N n lo b hN10 hNl V.w (HDK.out.later V))
  have HAG := Lib.hid (fun (V : Later W) (T : List Nat) hT hTl v hv => agree_calls L N n lo b hN10 hNl T hT hTl V.w (HDK.out.later V) v hv)
  obtain ⟨au, lu, cu, rfl⟩ : ∃ a n c, uv = .slice a n c := by obtain ⟨a, c, e⟩ := hu.form; exact ⟨a, _, c, e⟩
  clear hu
  go_enter Try.func60, Try.ntmps60
  go_wp2_with fail
  refine (HCH.out (Later.new _ _)).mono ?_
  rintro e w' ⟨cv, x, rfl, rfl, hc⟩
  rcases hc with ⟨hnc, rfl⟩ | ⟨l, a, m, c, rfl, -, hch⟩
  rotate_left
  · have HC := Lib.hid (show ¬ Sat.Can L N use from fun h => hch.none h.noChain)
    go_wp2
    go_ret
    exact ⟨_, (Later.new _ _).step x, rfl, rfl, .inl ⟨HC.out, rfl⟩⟩
  have HNC := Lib.hid hnc
  clear hnc
  have hd0 : Boxed x.w W.heap.size 65 (.pointer (some ⟨b, 0, none⟩)) := (Boxed.new W _ _).kept x.grown (by simp)
  obtain ⟨c2, hc2⟩ : ∃ c, W.heap.size = c := ⟨_, rfl⟩
  obtain ⟨V, hV⟩ : ∃ q : Later W, x.w = q.w := ⟨(Later.new _ _).step x, rfl⟩
  rw [hV] at hd0 ⊢
  have hcl := Clone_calls V.w _ _ (HUV.out.later V) HV.out (by rw [natV_len]; omega)
  rw [hc2] at hd0 ⊢
  have HC2 := Lib.hid hc2
  clear hV x hc2
  go_wp2_with fail
  refine hcl.mono ?_
  clear hcl
  rintro e w' ⟨v1, x, rfl, rfl, hI⟩
  obtain ⟨a1, n1, m1, rfl⟩ := hI.form'
  have hd1 := (hd0.kept x.grown (by simp)).cell
  have l2 := (hd0.kept x.grown (by simp)).lt
  have hF : FstW W (x.w.alloc (.cells #[.slice a1 n1 m1] 23)) b c2 x.w.heap.size (.slice a1 n1 m1) use := by
    refine ⟨(V.step (x.step (Later.new _ _))).le, (hd0.kept x.grown (by simp)).alloc _, Boxed.new _ _ _, (hI.mono V.size).later (Later.new _ _), Nat.le_trans V.size x.size⟩
  clear hI hd0
  go_wp2_with fail
  obtain ⟨c5, hc5⟩ : ∃ c, x.w.heap.size = c := ⟨_, rfl⟩
  obtain ⟨U, hUw⟩ : ∃ q : Later W, x.w.alloc (.cells #[.slice a1 n1 m1] 23) = q.w := ⟨V.step (x.step (Later.new _ _)), rfl⟩
  have hne : c2 ≠ c5 := by rw [← hc5]; exact Nat.ne_of_lt l2
  have hag := HAG.out U use hU (by omega) (.slice a1 n1 m1) (by rw [← hUw]; exact hF.own.ints (by rw [natV_len]; omega))
  rw [hc5, hUw] at hF
  have HNE := Lib.hid hne
  rw [hc5]
  rw [hUw]
  clear hc5 hUw hd1 l2 x V hne
  refine hag.mono ?_
  clear hag
  rintro e w' ⟨rfl, x, rfl⟩
  replace hF := hF.later x
  have d2 := hF.d.cell
  have l2 := hF.d.lt
  obtain ⟨mm, mv, cv, nv, M, cov, hB, hNs, -, -⟩ := HDK.out
  obtain ⟨an, ln, cn, rfl⟩ : ∃ a n c, nv = .slice a n c := by obtain ⟨a, c, e⟩ := hNs.form; exact ⟨a, _, c, e⟩
  have HLN := Lib.hid (show ln = N.length by obtain ⟨a, c, e⟩ := hNs.form; cases e; simp)
  have hln : ln ≤ 10 := by rw [HLN.out]; exact hNl
  obtain ⟨V, hV⟩ : ∃ q : Later W, x.w = q.w := ⟨U.step x, rfl⟩
  rw [hV] at hF d2 l2 ⊢
  have b24 := (V.cell hB.lt).trans hB.c24
  have bl := Nat.lt_of_lt_of_le hB.lt V.size
  have HB := Lib.hid (fun X : Later W => hB.later X)
  clear hV x U hB
  by_cases ha : Sat.Agree L N use
  rotate_left
  · rw [agreeB_false ha]
    have HC := Lib.hid (show ¬ Sat.Can L N use from fun h => ha h.agree)
    clear ha
    go_wp2
    go_ret
    exact ⟨_, V, rfl, rfl, .inl ⟨HC.out, rfl⟩⟩
  rw [agreeB_true ha]
  have HG0 := Lib.hid (show Greedy L N use 0 [] use ∧ use.Nodup ∧ use.length ≤ 20 + 0 from ⟨Greedy.start (Sat.can_of HNC.out hU ha), hUd, by omega⟩)
  clear ha
  go_wp2
  clear b24 bl d2 l2
  go_loopw [28] (fun i wr => ∃ (k : Nat) (used bs : List Nat) (uv : Value), k ≤ ln ∧ i = .int .i64 k ∧ FstW W wr b c2 c5 uv used ∧ Hid (Greedy L N use k bs used ∧ used.Nodup ∧ used.length ≤ 20 + k)) (fun i _ => ln - (intOf i).toNat)
  case atStart => exact ⟨0, use, [], _, Nat.zero_le _, rfl, hF, HG0⟩
  case round =>
    clear hF HG0 V
    obtain ⟨k, used, bs, uv, hk, rfl, hF, HG⟩ := hrel
    obtain ⟨ao, no, co, rfl⟩ := hF.own.form'
    by_cases hlt : k < ln
    · have hkN : k < N.length := by rw [← HLN.out]; exact hlt
      obtain ⟨bm, om, km, e, hkm, hbm, hgm⟩ := hNs.at (k := k) (by rw [List.length_map]; exact hkN)
      injection e with e1 e2 e3
      subst e1
      have m1 := ((Later.mk wr hF.bel).cell hbm).trans (hgm k (by rw [List.length_map]; exact hkN))
      have ml := Nat.lt_of_lt_of_le hbm hF.bel.size
      obtain ⟨q, hq⟩ : ∃ q, N[k] = q := ⟨_, rfl⟩
      have hqN : q ∈ N := by rw [← hq]; exact List.getElem_mem hkN
      have hq10 := hN10 q hqN
      have m1' : wr.cell? ⟨bm, om + k, none⟩ = some (.int .i64 (q : Int)) := by
        rw [← show nth (N.map fun (k : Nat) => (k : Int)) k = (q : Int) by rw [nth_eq (by rw [List.length_map]; exact hkN)]; simp [hq]]
        exact m1
      have HQ := Lib.hid hq
      obtain ⟨P, hP⟩ : ∃ P, 2 * q = P := ⟨_, rfl⟩
      have HP := Lib.hid hP
      have HEP := Lib.hid (show 2 * (q : Int) = (P : Int) by omega)
      have hP20 : P < 20 := by omega
      have hlen : used.length ≤ 30 := by have := HG.out.2.2; omega
      have HCT := Lib.hid (fun (X : Later wr) (y : Nat) => Contains_calls (.slice ao no co) (natV used) (y : Int) X.w ((hF.own.ints (by rw [natV_len]; omega)).later X))
      have d5 := hF.u.cell
      have l5 := hF.u.lt
      clear hgm hkm e2 e3 hq hP m1
      have hF1 := hF.later (Later.new wr (.cells #[.int .i64 (q : Int)] 3))
      have hQ1 : (Later.new wr (.cells #[.int .i64 (q : Int)] 3)).w.cell? ⟨wr.heap.size, 0, none⟩ = some (.int .i64 (q : Int)) := (Boxed.new wr 3 (.int .i64 (q : Int))).cell
      have hQl : wr.heap.size < (Later.new wr (.cells #[.int .i64 (q : Int)] 3)).w.heap.size := (Boxed.new wr 3 (.int .i64 (q : Int))).lt
      cases hA : used.contains P
      · cases hB' : used.contains (P + 1)
        · go_wp2_with fail
          rw [HEP.out]
          refine (HCT.out (Later.new _ _) P).mono ?_
          rintro e w' ⟨rfl, rfl⟩
          rw [show hasB (natV used) (P : Int) = false by rw [natV, hasB_nat]; exact hA]
          obtain ⟨s, hs1, hfn, hG⟩ := greedy_new hNd HG.out.1 hkN
          rw [HQ.out] at hfn hG
          have hnd : (used ++ [2 * q + s]).Nodup := by
            refine List.nodup_append.2 ⟨HG.out.2.1, List.nodup_cons.2 ⟨List.not_mem_nil, List.nodup_nil⟩, fun x hx y hy e => ?_⟩
            have e2 : y = 2 * q + s := by simpa using hy
            have h1 : s = 0 ∨ s = 1 := by omega
            have hP2 := HP.out
            rcases h1 with rfl | rfl
            · rw [List.contains_iff_mem.2 (show P ∈ used by rw [← hP2, show 2 * q = x by omega]; exact hx)] at hA; cases hA
            · rw [List.contains_iff_mem.2 (show P + 1 ∈ used by rw [← hP2, show 2 * q + 1 = x by omega]; exact hx)] at hB'; cases hB'
          have HBG := Lib.hid (show Greedy L N use (k + 1) (bs ++ [s]) (used ++ [2 * q + s]) ∧ (used ++ [2 * q + s]).Nodup ∧ (used ++ [2 * q + s]).length ≤ 20 + (k + 1) from
            ⟨hG, hnd, by rw [List.length_append, List.length_singleton]; have := HG.out.2.2; omega⟩)
          clear hnd
          have hTN : ∀ p ∈ used, p / 2 ∈ N := fun p hp => can_inN HG.out.1.can hp
          have HFC := Lib.hid (fun (X : Later wr) (sv : Value) (hx : Ints X.w sv [0, 1]) (c7 : Nat) (h7 : X.w.cell? ⟨c7, 0, none⟩ = some (.int .i64 (q : Int))) (l7 : c7 < X.w.heap.size) =>
            find_calls X.w sv hx c2 c5 c7 _ _
              (Lib.hid (fun V => first1_calls L N n lo b hN10 hNl used hTN (by omega) q 0 hqN (by omega) V.w (HDK.out.later ((Later.mk wr hF.bel).step (X.step V))) (.slice ao no co) ((hF.own.ints (by rw [natV_len]; omega)).later (X.step V)) c2 c5 c7 ((hF.later (X.step V)).d.cell) ((hF.later (X.step V)).u.cell) ((V.cell l7).trans h7)))
              (Lib.hid (fun V => first1_calls L N n lo b hN10 hNl used hTN (by omega) q 1 hqN (by omega) V.w (HDK.out.later ((Later.mk wr hF.bel).step (X.step V))) (.slice ao no co) ((hF.own.ints (by rw [natV_len]; omega)).later (X.step V)) c2 c5 c7 ((hF.later (X.step V)).d.cell) ((hF.later (X.step V)).u.cell) ((V.cell l7).trans h7))))
          rw [hfn] at HFC
          clear hfn hG
          go_wp2_with fail
          rw [HEP.out, show (P : Int) + 1 = ((P + 1 : Nat) : Int) by omega]
          refine (HCT.out (Later.new _ _) (P + 1)).mono ?_
          rintro e w' ⟨rfl, rfl⟩
          rw [show hasB (natV used) ((P + 1 : Nat) : Int) = false by rw [natV, hasB_nat]; exact hB']
          go_wp2_with fail
          have hX := HFC.out ((Later.new wr (.cells #[.int .i64 (q : Int)] 3)).step (Later.new _ (.cells #[.int .i64 0, .int .i64 1] 3))) _
            (Ints.lit _ [0, 1] 3 (b := wr.heap.size + 1) (arr := #[.int .i64 0, .int .i64 1]) (n := 2) (by simp [Later.new_w]) rfl rfl (by simp)) wr.heap.size (((Later.new _ _).cell hQl).trans hQ1) (Nat.lt_of_lt_of_le hQl (Later.new _ _).size)
          refine hX.mono ?_
          clear hX HFC
          rintro e w' ⟨rfl, y, rfl⟩
          have hF2 := (hF1.later (Later.new _ (.cells #[.int .i64 0, .int .i64 1] 3))).later y
          have hQ2 := (y.cell (Nat.lt_of_lt_of_le hQl (Later.new _ (.cells #[.int .i64 0, .int .i64 1] 3)).size)).trans (((Later.new _ (.cells #[.int .i64 0, .int .i64 1] 3)).cell hQl).trans hQ1)
          have hQl2 := Nat.lt_of_lt_of_le (Nat.lt_of_lt_of_le hQl (Later.new _ (.cells #[.int .i64 0, .int .i64 1] 3)).size) y.size
          obtain ⟨c7, hc7⟩ : ∃ c, wr.heap.size = c := ⟨_, rfl⟩
          obtain ⟨U, hUw⟩ : ∃ U, y.w = U := ⟨_, rfl⟩
          rw [hUw, hc7] at hQ2 hQl2
          rw [hUw] at hF2 ⊢
          rw [hc7]
          clear hUw hc7 y hF hF1 hQ1 hQl d5 l5 m1' ml HCT
          obtain ⟨S, hS⟩ : ∃ S, 2 * q + s = S := ⟨_, rfl⟩
          have eS : 2 * (q : Int) + (s : Int) = (S : Int) := by omega
          rw [hS] at HBG
          obtain ⟨a', n', c', q2, hrun, l5, f5, s5, hF3⟩ := hF2.app HNE.out S (by omega)
          have d5 := hF2.u.cell
          have dl5 := hF2.u.lt
          have HR := Lib.hid hrun
          have HF3 := Lib.hid hF3
          clear hrun hF3 hF2 hS
          go_wp2_with ((with_reducible show wpList _ _ _ (⟨some 55, _, _, _, _, _⟩ :: _) _ _); refine Lib.wpList_append_run_sl _ rfl _ _ 23 rfl _ _ rfl rfl HR.out ?_)
          go_roundw
          case rel => exact ⟨k + 1, _, _, _, by omega, by go_num, HF3.out, HBG⟩
          case measure => simp [intOf]; omega
        · have HBG := Lib.hid (show Greedy L N use (k + 1) (bs ++ [1]) used ∧ used.Nodup ∧ used.length ≤ 20 + (k + 1) from
            ⟨greedy_in hNd HG.out.1 hkN (by omega) (by rw [HQ.out, HP.out]; exact List.contains_iff_mem.1 hB'), HG.out.2.1, by have := HG.out.2.2; omega⟩)
          go_wp2_with fail
          rw [HEP.out]
          refine (HCT.out (Later.new _ _) P).mono ?_
          rintro e w' ⟨rfl, rfl⟩
          rw [show hasB (natV used) (P : Int) = false by rw [natV, hasB_nat]; exact hA]
          go_wp2_with fail
          rw [HEP.out, show (P : Int) + 1 = ((P + 1 : Nat) : Int) by omega]
          refine (HCT.out (Later.new _ _) (P + 1)).mono ?_
          rintro e w' ⟨rfl, rfl⟩
          rw [show hasB (natV used) ((P + 1 : Nat) : Int) = true by rw [natV, hasB_nat]; exact hB']
          go_wp2
          go_roundw
          case rel => exact ⟨k + 1, used, _, _, by omega, by go_num, hF1, HBG⟩
          case measure => simp [intOf]; omega
      · have HBG := Lib.hid (show Greedy L N use (k + 1) (bs ++ [0]) used ∧ used.Nodup ∧ used.length ≤ 20 + (k + 1) from
          ⟨greedy_in hNd HG.out.1 hkN (by omega) (by rw [HQ.out, HP.out]; exact List.contains_iff_mem.1 hA), HG.out.2.1, by have := HG.out.2.2; omega⟩)
        go_wp2_with fail
        rw [HEP.out]
        refine (HCT.out (Later.new _ _) P).mono ?_
        rintro e w' ⟨rfl, rfl⟩
        rw [show hasB (natV used) (P : Int) = true by rw [natV, hasB_nat]; exact hA]
        go_wp2
        go_roundw
        case rel => exact ⟨k + 1, used, _, _, by omega, by go_num, hF1, HBG⟩
        case measure => simp [intOf]; omega
    · obtain rfl : ln = k := by omega
      have hdone := HG.out.1
      rw [HLN.out] at hdone
      obtain ⟨hb1, hb2, hb3, hb4⟩ := hdone.done hNd
      have HFS := Lib.hid (show FirstS L N use bs from ⟨hb1, hb2, hb4⟩)
      have HSL := Lib.hid (setL_mem (n := n) hb3)
      have HONE := Lib.hid (can_one HG.out.1.can)
      have hTn : ∀ p ∈ used, p / 2 < n := fun p hp => hNn _ (can_inN HG.out.1.can hp)
      have HTN := Lib.hid hTn
      have hul : used.length ≤ 30 := by have := HG.out.2.2; omega
      obtain ⟨x, hx⟩ := hF.x
      rw [← hx] at hF ⊢
      have d0 := (HB.out x).c0
      have dl := (HB.out x).lt
      have d2 := hF.d.cell
      have l2 := hF.d.lt
      have hmk := run_make_ints n (by omega)
      clear hdone hb1 hb2 hb3 hb4 hTn hx
      go_wp2
      clear hmk d0 dl d2 l2
      obtain ⟨R, hR⟩ : ∃ R, x.w.heap.size = R := ⟨_, rfl⟩
      have hI0 := IntsM.zeros x.w (lo := x.w.heap.size) (n := n) rfl (Nat.le_refl _) (by omega)
      obtain ⟨u0, hu0⟩ : ∃ q : Later x.w, x.w.alloc (.cells (madeCells #[.int .i64 0] n) 3) = q.w := ⟨Later.new _ _, rfl⟩
      rw [hu0] at hI0 ⊢
      rw [hR] at hI0 ⊢
      have HR := Lib.hid hR
      clear hu0 hR
      go_loopw [65] (fun i wr => ∃ (j : Nat) (y : Later x.w), wr = y.w ∧ j ≤ n ∧ i = .int .i64 j ∧ IntsM R y.w (.slice (some ⟨R, 0, none⟩) n n) (List.replicate j (-1) ++ List.replicate (n - j) 0)) (fun i _ => n - (intOf i).toNat)
      case atStart => exact ⟨0, u0, rfl, Nat.zero_le _, rfl, by simpa using hI0⟩
      case round =>
        clear hI0
        obtain ⟨j, y, rfl, hj, rfl, hI⟩ := hrel
        by_cases hjn : j < n
        · obtain ⟨g, e1, -, -, hgl, -, hfz, hcl, hI2, hgr⟩ := hI.set (k := j) (by simp; omega) (-1)
          obtain rfl : g = R := (Addr.some_block e1).symm
          clear e1
          obtain ⟨ov, hov⟩ : ∃ v, nth (List.replicate j (-1) ++ List.replicate (n - j) 0) j = v := ⟨_, rfl⟩
          rw [hov] at hcl
          have HGR := Lib.hid hgr
          clear hov hgr
          go_wp2
          go_roundw
          case rel =>
            obtain ⟨q, hq⟩ := IntsM.stepB y HR.out hI HGR.out
            rw [rep_set _ _ hjn, hq] at hI2
            exact ⟨j + 1, q, hq, by omega, by go_num, hI2⟩
          case measure => simp [intOf]; omega
        · obtain rfl : n = j := by omega
          replace hI : IntsM R y.w (.slice (some ⟨R, 0, none⟩) n n) (setL n (used.take 0)) := by
            have e : (List.replicate n (-1 : Int) ++ List.replicate (n - n) 0) = setL n (used.take 0) := by rw [Nat.sub_self, List.take_zero, Sat.setL_nil]; simp
            rw [← e]; exact hI
          have d5 := (hF.later y).u.cell
          have l5 := (hF.later y).u.lt
          clear hj hjn
          have HLO := Lib.hid (show no = used.length by obtain ⟨a, c, e⟩ := hF.own.form; cases e; rw [natV_len])
          have hno : no ≤ 30 := by rw [HLO.out]; exact hul
          go_wp2
          clear d5 l5
          go_loopw [74] (fun i wr => ∃ (j : Nat) (y : Later x.w), wr = y.w ∧ j ≤ no ∧ i = .int .i64 j ∧ IntsM R y.w (.slice (some ⟨R, 0, none⟩) n n) (setL n (used.take j))) (fun i _ => no - (intOf i).toNat)
          case atStart => exact ⟨0, y, rfl, Nat.zero_le _, rfl, hI⟩
          case round =>
            clear hI y
            obtain ⟨j, y, rfl, hj, rfl, hI⟩ := hrel
            by_cases hjn : j < no
            · have hju : j < used.length := by rw [← HLO.out]; exact hjn
              obtain ⟨bm, om, km, e, hkm, hbm, hgm⟩ := (hF.own.ints (by rw [natV_len]; omega)).at (k := j) (by rw [natV_len]; exact hju)
              injection e with e1 e2 e3
              subst e1
              obtain ⟨p, hp⟩ : ∃ p, used[j] = p := ⟨_, rfl⟩
              have m1 : y.w.cell? ⟨bm, om + j, none⟩ = some (.int .i64 (p : Int)) := by
                rw [y.cell hbm, hgm j (by rw [natV_len]; exact hju), nth_eq (by rw [natV_len]; exact hju)]; simp [natV, hp]
              have ml := Nat.lt_of_lt_of_le hbm y.size
              have hpn : p / 2 < n := HTN.out p (by rw [← hp]; exact List.getElem_mem hju)
              have HNX := Lib.hid (setL_next (n := n) HONE.out HG.out.2.1 hju (by rw [hp]; exact hpn))
              rw [hp] at HNX
              obtain ⟨h, hh⟩ : ∃ h, p / 2 = h := ⟨_, rfl⟩
              obtain ⟨r, hr⟩ : ∃ r, p % 2 = r := ⟨_, rfl⟩
              have eh : (p : Int) / 2 = (h : Int) := by omega
              have er : (p : Int) % 2 = (r : Int) := by omega
              rw [hh] at hpn HNX
              rw [hr] at HNX
              obtain ⟨g, e1, -, -, hgl, -, hfz, hcl, hI2, hgr⟩ := hI.set (k := h) (by rw [Sat.setL_len]; exact hpn) (r : Int)
              obtain rfl : g = R := (Addr.some_block e1).symm
              obtain ⟨ov, hov⟩ : ∃ v, nth (setL n (used.take j)) h = v := ⟨_, rfl⟩
              rw [hov] at hcl
              have HGR := Lib.hid hgr
              have hp60 : (p : Int) ≤ 1000 := by omega
              clear e1 hgm hkm e2 e3 hp hh hr hov hgr
              go_wp2
              go_roundw
              case rel =>
                obtain ⟨q, hq⟩ := IntsM.stepB y HR.out hI HGR.out
                rw [HNX.out, hq] at hI2
                exact ⟨j + 1, q, hq, by omega, by go_num, hI2⟩
              case measure => simp [intOf]; omega
            · obtain rfl : no = j := by omega
              have HE := Lib.hid (show Ints y.w (.slice (some ⟨R, 0, none⟩) n n) (setL n (plc N bs)) by
                rw [← HSL.out]
                have h9 := hI.ints (by rw [Sat.setL_len]; omega)
                rw [HLO.out, List.take_length] at h9
                exact h9)
              go_wp2
              go_ret
              exact ⟨_, x.step y, rfl, rfl, .inr ⟨bs, _, _, _, HFS.out, rfl, HE.out⟩⟩

end Go.Proofs.Ytdhdpbnlhnodjaa

/-  The program: Set, Chain, Kind. -/
namespace Go.Proofs.Ytdhdpbnlhnodjaa
open Go.RowKit
open Sat (plc rightP)

theorem copy_ints (w : World) (g : Nat) (l : List Int) (a : Option Addr) (n c : Nat) (ty : TypeId) (hn : n = l.length) (hg : w.heap[g]? = some (.cells (madeCells #[.int .i64 0] n) 3)) (hl : Ints w (.slice a n c) l) :
    ∃ V : World, (Builtin.copy_ #[23, 23] ty #[.slice (some ⟨g, 0, none⟩) n n, .slice a n c]).run Try.prog w = .ok (goInt n) V ∧ Below g w V ∧ Ints V (.slice (some ⟨g, 0, none⟩) n n) l := by
  subst hn
  by_cases h0 : l.length = 0
  · refine ⟨w, ?_, Below.refl _ _, ?_⟩
    · rw [h0]; exact run_copy_none (P := Try.prog) w _ _ ty 3 _ _ 0 0 0 _ Try.underlying23 (by kernel_rfl) rfl
    · have : l = [] := List.eq_nil_of_length_eq_zero h0
      subst this
      exact Ints.nil _ _
  · obtain ⟨bl, ol, cl, e, hcl, hbl, hgl⟩ := hl.at (k := 0) (by omega)
    cases e
    have hsz : (madeCells #[Value.int .i64 0] l.length).size = l.length := by simp [madeCells]
    have hr := run_copy_row (P := Try.prog) w 23 23 ty 3 g 0 l.length l.length ⟨bl, ol, none⟩ l.length c _ _ (l.map (Value.int .i64)) Try.underlying23 (by kernel_rfl) hg (by rw [List.length_map]; exact (Nat.min_self _).symm)
      (fun j v hj => by
        rw [List.getElem?_map] at hj
        obtain ⟨y, hy, rfl⟩ := Option.map_eq_some_iff.1 hj
        have hjl := (List.getElem?_eq_some_iff.1 hy).1
        have := hgl j hjl
        rw [nth_eq hjl, (List.getElem?_eq_some_iff.1 hy).2] at this
        rw [Addr.add_lit]
        exact this) (by rw [hsz, List.length_map]; omega) (fun v hv => by obtain ⟨y, _, rfl⟩ := List.mem_map.1 hv; rfl)
    rw [List.length_map, List.take_zero, List.nil_append, Nat.zero_add, List.drop_of_length_le (by rw [Array.length_toList, hsz]; exact Nat.le_refl _), List.append_nil] at hr
    have hh := setRow_heap w g _ (l.map (Value.int .i64)).toArray 3 (0, 0) hg
    refine ⟨_, hr, ⟨rfl, rfl, rfl, by simp [World.setRow], fun k hk => setRow_other w g k _ (by omega)⟩, hl.1, .inr ⟨g, 0, l.length, rfl, Nat.le_refl _, (Array.getElem?_eq_some_iff.1 hh).1, fun k hk => ?_⟩⟩
    simp only [World.cell?, hh, Nat.zero_add]
    simp [nth_eq hk, hk]

/-- the first right setting is the first of all -/
theorem firstS_settL {n : Nat} {mn : List (Nat × Nat)} {cn N : List Nat} (hS : Shn n mn cn) {bs : List Nat} (h : FirstS hS.lay N [] bs) : ∃ tl, settL n mn cn N = Sat.setL n (plc N bs) :: tl := by
  obtain ⟨h1, h2, h3⟩ := h
  rw [← Sat.firstS_head] at h3
  have e : (fun cs => Sat.okF hS.lay [] (plc N cs) && ([] : List Nat).all fun p => (plc N cs).contains p) = fun cs => rightP mn cn (plc N cs) := by
    funext cs
    rw [List.all_nil, Bool.and_true, show hS.lay = Sat.layS mn cn hS.ne from rfl, Sat.okF_rightP]
  rw [e] at h3
  obtain ⟨tl, ht⟩ := List.head?_eq_some_iff.1 h3
  exact ⟨tl.map fun bs => Sat.setL n (plc N bs), by rw [settL, ht]; rfl⟩
theorem settL_nil {n : Nat} {mn : List (Nat × Nat)} {cn N : List Nat} (hS : Shn n mn cn) (hN : N.Nodup) (h : ¬ Sat.Can hS.lay N []) : settL n mn cn N = [] := Classical.byContradiction fun e => h ((settL_can hS hN).1 e)
def SetR (n : Nat) (mn : List (Nat × Nat)) (cn N : List Nat) (W : World) (e : Ending) (w' : World) : Prop :=
  ∃ v, ∃ x : Later W, e = .returned (.tuple #[v, .int .i64 (setE (settL n mn cn N))]) ∧ w' = x.w ∧ Ints x.w v ((settL n mn cn N).headD [])
/-- Chain: the error, or a chain -/
def ChainK (L : Sat.Lay) (N : List Nat) (W : World) (e : Ending) (w' : World) : Prop :=
  ∃ v, ∃ x : Later W, w' = x.w ∧ ((Sat.NoChain L N ∧ e = .returned (.tuple #[.slice none 0 0, .int .i64 5]) ∧ v = .slice none 0 0) ∨ ∃ l : List Nat, e = .returned (.tuple #[v, .int .i64 0]) ∧ Ints x.w v (natV l) ∧ Sat.IsChain L N l)
set_option maxRecDepth 100000 in
set_option maxHeartbeats 2000000 in
theorem Set_bad (n : Int) (mv cv nv : Value) (ms : List (Int × Int)) (cs xs : List Int) (W : World) (hs : Sht W mv cv ms cs) (hx : Ints W nv xs) (hv : nameE n ms cs xs ≠ 0) :
    Calls Try.prog 22 #[.agg #[.int .i64 n, mv, cv], nv] W (Gives (.tuple #[.slice none 0 0, .int .i64 (nameE n ms cs xs)]) W) := by
  have hvb : (nameE n ms cs xs != 0) = true := by simpa using hv
  have HV := Lib.hid hv
  clear hv
  obtain ⟨ax, lx, cx, rfl⟩ : ∃ a n c, nv = .slice a n c := by obtain ⟨a, c, e⟩ := hx.form; exact ⟨a, _, c, e⟩
  obtain ⟨am, lm, cm, rfl⟩ : ∃ a n c, mv = .slice a n c := by obtain ⟨a, c, e⟩ := hs.m.form; exact ⟨a, _, c, e⟩
  obtain ⟨ac, lc, cc, rfl⟩ : ∃ a n c, cv = .slice a n c := by obtain ⟨a, c, e⟩ := hs.c.form; exact ⟨a, _, c, e⟩
  have HLM := Lib.hid (show lm = ms.length by obtain ⟨a, c, e⟩ := hs.m.form; cases e; rfl)
  have HLC := Lib.hid (show lc = cs.length by obtain ⟨a, c, e⟩ := hs.c.form; cases e; rfl)
  go_enter Try.func22, Try.ntmps22
  go_wp2_with fail
  obtain ⟨B, hB⟩ : ∃ B, B = W.heap.size := ⟨_, rfl⟩
  obtain ⟨z, hz⟩ : ∃ z : Later W, z.w = W.alloc (.cells #[.int .i64 n, .slice am lm cm, .slice ac lc cc] 25) := ⟨Later.new _ _, rfl⟩
  have c0 : z.w.cell? ⟨B, 0, none⟩ = some (.int .i64 n) := by rw [hz, hB]; simp [go_sem]
  have c1 : z.w.cell? ⟨B, 1, none⟩ = some (.slice am lm cm) := by rw [hz, hB]; simp [go_sem]
  have c2 : z.w.cell? ⟨B, 2, none⟩ = some (.slice ac lc cc) := by rw [hz, hB]; simp [go_sem]
  have hBz : B < z.w.heap.size := by rw [hz, hB]; simp [go_sem]
  rw [← hz, ← hB]
  replace hs := hs.later z
  replace hx := hx.later z
  clear hz hB
  refine (named_fail n _ _ _ ms cs xs _ hs hx HV.out).mono ?_
  rintro e w' ⟨rfl, x, rfl⟩
  go_wp2
  go_ret2
  exact ⟨rfl, z.step x, rfl⟩

set_option maxRecDepth 100000 in
set_option maxHeartbeats 2000000 in
theorem Chain_bad (n : Int) (mv cv nv : Value) (ms : List (Int × Int)) (cs xs : List Int) (W : World) (hs : Sht W mv cv ms cs) (hx : Ints W nv xs) (hv : nameE n ms cs xs ≠ 0) :
    Calls Try.prog 29 #[.agg #[.int .i64 n, mv, cv], nv] W (Gives (.tuple #[.slice none 0 0, .int .i64 (nameE n ms cs xs)]) W) := by
  have hvb : (nameE n ms cs xs != 0) = true := by simpa using hv
  have HV := Lib.hid hv
  clear hv
  obtain ⟨ax, lx, cx, rfl⟩ : ∃ a n c, nv = .slice a n c := by obtain ⟨a, c, e⟩ := hx.form; exact ⟨a, _, c, e⟩
  obtain ⟨am, lm, cm, rfl⟩ : ∃ a n c, mv = .slice a n c := by obtain ⟨a, c, e⟩ := hs.m.form; exact ⟨a, _, c, e⟩
  obtain ⟨ac, lc, cc, rfl⟩ : ∃ a n c, cv = .slice a n c := by obtain ⟨a, c, e⟩ := hs.c.form; exact ⟨a, _, c, e⟩
  have HLM := Lib.hid (show lm = ms.length by obtain ⟨a, c, e⟩ := hs.m.form; cases e; rfl)
  have HLC := Lib.hid (show lc = cs.length by obtain ⟨a, c, e⟩ := hs.c.form; cases e; rfl)
  go_enter Try.func29, Try.ntmps29
  go_wp2_with fail
  obtain ⟨B, hB⟩ : ∃ B, B = W.heap.size := ⟨_, rfl⟩
  obtain ⟨z, hz⟩ : ∃ z : Later W, z.w = W.alloc (.cells #[.int .i64 n, .slice am lm cm, .slice ac lc cc] 25) := ⟨Later.new _ _, rfl⟩
  have c0 : z.w.cell? ⟨B, 0, none⟩ = some (.int .i64 n) := by rw [hz, hB]; simp [go_sem]
  have c1 : z.w.cell? ⟨B, 1, none⟩ = some (.slice am lm cm) := by rw [hz, hB]; simp [go_sem]
  have c2 : z.w.cell? ⟨B, 2, none⟩ = some (.slice ac lc cc) := by rw [hz, hB]; simp [go_sem]
  have hBz : B < z.w.heap.size := by rw [hz, hB]; simp [go_sem]
  rw [← hz, ← hB]
  replace hs := hs.later z
  replace hx := hx.later z
  clear hz hB
  refine (named_fail n _ _ _ ms cs xs _ hs hx HV.out).mono ?_
  rintro e w' ⟨rfl, x, rfl⟩
  go_wp2
  go_ret2
  exact ⟨rfl, z.step x, rfl⟩

set_option maxRecDepth 100000 in
set_option maxHeartbeats 2000000 in
theorem Kind_bad (n : Int) (mv cv nv : Value) (p : Int) (ms : List (Int × Int)) (cs xs : List Int) (W : World) (hs : Sht W mv cv ms cs) (hx : Ints W nv xs) (hv : nameE n ms cs xs ≠ 0) :
    Calls Try.prog 27 #[.agg #[.int .i64 n, mv, cv], nv, .int .i64 p] W (Gives (.tuple #[.int .i64 0, .int .i64 (nameE n ms cs xs)]) W) := by
  have hvb : (nameE n ms cs xs != 0) = true := by simpa using hv
  have HV := Lib.hid hv
  clear hv
  obtain ⟨ax, lx, cx, rfl⟩ : ∃ a n c, nv = .slice a n c := by obtain ⟨a, c, e⟩ := hx.form; exact ⟨a, _, c, e⟩
  obtain ⟨am, lm, cm, rfl⟩ : ∃ a n c, mv = .slice a n c := by obtain ⟨a, c, e⟩ := hs.m.form; exact ⟨a, _, c, e⟩
  obtain ⟨ac, lc, cc, rfl⟩ : ∃ a n c, cv = .slice a n c := by obtain ⟨a, c, e⟩ := hs.c.form; exact ⟨a, _, c, e⟩
  have HLM := Lib.hid (show lm = ms.length by obtain ⟨a, c, e⟩ := hs.m.form; cases e; rfl)
  have HLC := Lib.hid (show lc = cs.length by obtain ⟨a, c, e⟩ := hs.c.form; cases e; rfl)
  go_enter Try.func27, Try.ntmps27
  go_wp2_with fail
  obtain ⟨B, hB⟩ : ∃ B, B = W.heap.size := ⟨_, rfl⟩
  obtain ⟨z, hz⟩ : ∃ z : Later W, z.w = W.alloc (.cells #[.int .i64 n, .slice am lm cm, .slice ac lc cc] 25) := ⟨Later.new _ _, rfl⟩
  have c0 : z.w.cell? ⟨B, 0, none⟩ = some (.int .i64 n) := by rw [hz, hB]; simp [go_sem]
  have c1 : z.w.cell? ⟨B, 1, none⟩ = some (.slice am lm cm) := by rw [hz, hB]; simp [go_sem]
  have c2 : z.w.cell? ⟨B, 2, none⟩ = some (.slice ac lc cc) := by rw [hz, hB]; simp [go_sem]
  have hBz : B < z.w.heap.size := by rw [hz, hB]; simp [go_sem]
  rw [← hz, ← hB]
  replace hs := hs.later z
  replace hx := hx.later z
  clear hz hB
  refine (named_fail n _ _ _ ms cs xs _ hs hx HV.out).mono ?_
  rintro e w' ⟨rfl, x, rfl⟩
  go_wp2
  go_ret2
  exact ⟨rfl, z.step x, rfl⟩

set_option maxRecDepth 100000 in
set_option maxHeartbeats 2000000 in
theorem Set_calls (n : Nat) (mv cv nv : Value) (mn : List (Nat × Nat)) (cn N : List Nat) (hS : Shn n mn cn) (hN : Nms n N) (W : World) (hs : Sht W mv cv (mn.map prI) (cn.map fun (c : Nat) => (c : Int))) (hx : Ints W nv (N.map fun (k : Nat) => (k : Int))) :
    Calls Try.prog 22 #[.agg #[.int .i64 n, mv, cv], nv] W (SetR n mn cn N W) := by
  have HNO := Lib.hid (settL_nil (cn := cn) hS hN.nodup)
  have HYES := Lib.hid (fun (bs : List Nat) h => firstS_settL (N := N) hS (bs := bs) h)
  obtain ⟨SS, hSS⟩ : ∃ S, settL n mn cn N = S := ⟨_, rfl⟩
  have HSS := Lib.hid hSS
  rw [hSS] at HNO HYES
  clear hSS
  have HT := Lib.hid (fun (W : World) (mv cv nv : Value) hs hx => named_good n mv cv nv mn cn N hS hN W hs hx)
  have HFI := Lib.hid (fun (lo b : Nat) (U : World) hD use hU hUd hUl uv hu hv => first_calls hS.lay N n lo b hS.n1 hS.n10 hN.lt hN.nodup (Nat.le_trans hN.len hS.n10) use hU hUd hUl U hD uv hu hv)
  have HCH := Lib.hid (fun (lo b : Nat) (U : World) hD => chain_calls hS.lay N n lo b (fun k hk => Nat.lt_of_lt_of_le (hN.lt k hk) hS.n10) (Nat.le_trans hN.len hS.n10) U hD)
  have h10 := hS.n10
  have h1n := hS.n1
  obtain ⟨ms, hms⟩ : ∃ ms, mn.map prI = ms := ⟨_, rfl⟩
  obtain ⟨cs, hcs⟩ : ∃ cs, (cn.map fun (c : Nat) => (c : Int)) = cs := ⟨_, rfl⟩
  rw [hms, hcs] at hs HT
  clear hms hcs
  obtain ⟨ax, lx, cx, rfl⟩ : ∃ a n c, nv = .slice a n c := by obtain ⟨a, c, e⟩ := hx.form; exact ⟨a, _, c, e⟩
  obtain ⟨am, lm, cm, rfl⟩ : ∃ a n c, mv = .slice a n c := by obtain ⟨a, c, e⟩ := hs.m.form; exact ⟨a, _, c, e⟩
  obtain ⟨ac, lc, cc, rfl⟩ : ∃ a n c, cv = .slice a n c := by obtain ⟨a, c, e⟩ := hs.c.form; exact ⟨a, _, c, e⟩
  have HLM := Lib.hid (show lm = ms.length by obtain ⟨a, c, e⟩ := hs.m.form; cases e; rfl)
  have HLC := Lib.hid (show lc = cs.length by obtain ⟨a, c, e⟩ := hs.c.form; cases e; rfl)
  have he0 := eql_none
  have he1 := eql_some
  go_enter Try.func22, Try.ntmps22
  go_wp2_with fail
  obtain ⟨B, hB⟩ : ∃ B, B = W.heap.size := ⟨_, rfl⟩
  obtain ⟨z, hz⟩ : ∃ z : Later W, z.w = W.alloc (.cells #[.int .i64 n, .slice am lm cm, .slice ac lc cc] 25) := ⟨Later.new _ _, rfl⟩
  have c0 : z.w.cell? ⟨B, 0, none⟩ = some (.int .i64 n) := by rw [hz, hB]; simp [go_sem]
  have c1 : z.w.cell? ⟨B, 1, none⟩ = some (.slice am lm cm) := by rw [hz, hB]; simp [go_sem]
  have c2 : z.w.cell? ⟨B, 2, none⟩ = some (.slice ac lc cc) := by rw [hz, hB]; simp [go_sem]
  have hBz : B < z.w.heap.size := by rw [hz, hB]; simp [go_sem]
  rw [← hz, ← hB]
  replace hs := hs.later z
  replace hx := hx.later z
  clear hz hB
  refine (HT.out _ _ _ _ hs hx).mono ?_
  rintro e w' ⟨b, x, rfl, rfl, hD⟩
  have g0 : x.w.cell? ⟨B, 0, none⟩ = some (.int .i64 n) := (x.cell hBz).trans c0
  have gB : B < x.w.heap.size := Nat.lt_of_lt_of_le hBz x.size
  have HD := Lib.hid hD
  clear hD
  go_wp2_with fail
  refine (HFI.out _ b x.w HD.out [] (fun q hq => absurd hq (by simp)) List.nodup_nil (by simp) _ (Ints.nil none 0) (.inl rfl)).mono ?_
  rintro e w' ⟨v, y, rfl, rfl, hv⟩
  rcases hv with ⟨hno, rfl⟩ | ⟨bs, a, m, c, hF, rfl, hI⟩
  · have HE := Lib.hid (HNO.out hno)
    clear g0 gB
    go_wp2
    go_ret2
    refine ⟨.slice none 0 0, (z.step x).step y, ?_, rfl, ?_⟩
    · rw [HSS.out, HE.out]; rfl
    · rw [HSS.out, HE.out]; exact Ints.nil _ _
  · have HE := Lib.hid (HYES.out bs hF)
    have HML := Lib.hid (show n = (Sat.setL n (plc N bs)).length by rw [Sat.setL_len])
    have hmn : m = n := by obtain ⟨a, c, e⟩ := hI.form; cases e; rw [Sat.setL_len]
    subst hmn
    have d0 := (y.cell gB).trans g0
    have dl := Nat.lt_of_lt_of_le gB y.size
    have hmk := run_make_ints m (by omega)
    obtain ⟨V, hcp, hB, hI2⟩ := copy_ints (y.w.alloc (.cells (madeCells #[.int .i64 0] m) 3)) y.w.heap.size _ (some a) m c 3 HML.out (World.alloc_heap_new _ _) (hI.later (Later.new _ _))
    obtain ⟨Z, hZ⟩ : ∃ Z : Later y.w, Z.w = V := ⟨⟨V, (Later.new y.w _).le.trans hB⟩, rfl⟩
    rw [← hZ] at hcp hI2
    have HI2 := Lib.hid hI2
    have hcp2 := hcp
    clear hB hZ hF hI hI2 g0 gB hcp
    go_wp2
    go_ret2
    obtain ⟨tl, ht⟩ := HE.out
    refine ⟨.slice (some ⟨y.w.heap.size, 0, none⟩) m m, ((z.step x).step y).step Z, ?_, rfl, ?_⟩
    · rw [HSS.out, setE_ne (by rw [ht]; simp)]; rfl
    · rw [HSS.out, ht]; exact HI2.out

set_option maxRecDepth 100000 in
set_option maxHeartbeats 2000000 in
theorem Chain_calls (n : Nat) (mv cv nv : Value) (mn : List (Nat × Nat)) (cn N : List Nat) (hS : Shn n mn cn) (hN : Nms n N) (W : World) (hs : Sht W mv cv (mn.map prI) (cn.map fun (c : Nat) => (c : Int))) (hx : Ints W nv (N.map fun (k : Nat) => (k : Int))) :
    Calls Try.prog 29 #[.agg #[.int .i64 n, mv, cv], nv] W (ChainK hS.lay N W) := by
  have HT := Lib.hid (fun (W : World) (mv cv nv : Value) hs hx => named_good n mv cv nv mn cn N hS hN W hs hx)
  have HFI := Lib.hid (fun (lo b : Nat) (U : World) hD use hU hUd hUl uv hu hv => first_calls hS.lay N n lo b hS.n1 hS.n10 hN.lt hN.nodup (Nat.le_trans hN.len hS.n10) use hU hUd hUl U hD uv hu hv)
  have HCH := Lib.hid (fun (lo b : Nat) (U : World) hD => chain_calls hS.lay N n lo b (fun k hk => Nat.lt_of_lt_of_le (hN.lt k hk) hS.n10) (Nat.le_trans hN.len hS.n10) U hD)
  have h10 := hS.n10
  have h1n := hS.n1
  obtain ⟨ms, hms⟩ : ∃ ms, mn.map prI = ms := ⟨_, rfl⟩
  obtain ⟨cs, hcs⟩ : ∃ cs, (cn.map fun (c : Nat) => (c : Int)) = cs := ⟨_, rfl⟩
  rw [hms, hcs] at hs HT
  clear hms hcs
  obtain ⟨ax, lx, cx, rfl⟩ : ∃ a n c, nv = .slice a n c := by obtain ⟨a, c, e⟩ := hx.form; exact ⟨a, _, c, e⟩
  obtain ⟨am, lm, cm, rfl⟩ : ∃ a n c, mv = .slice a n c := by obtain ⟨a, c, e⟩ := hs.m.form; exact ⟨a, _, c, e⟩
  obtain ⟨ac, lc, cc, rfl⟩ : ∃ a n c, cv = .slice a n c := by obtain ⟨a, c, e⟩ := hs.c.form; exact ⟨a, _, c, e⟩
  have HLM := Lib.hid (show lm = ms.length by obtain ⟨a, c, e⟩ := hs.m.form; cases e; rfl)
  have HLC := Lib.hid (show lc = cs.length by obtain ⟨a, c, e⟩ := hs.c.form; cases e; rfl)
  have he0 := eql_none
  have he1 := eql_some
  go_enter Try.func29, Try.ntmps29
  go_wp2_with fail
  obtain ⟨B, hB⟩ : ∃ B, B = W.heap.size := ⟨_, rfl⟩
  obtain ⟨z, hz⟩ : ∃ z : Later W, z.w = W.alloc (.cells #[.int .i64 n, .slice am lm cm, .slice ac lc cc] 25) := ⟨Later.new _ _, rfl⟩
  have c0 : z.w.cell? ⟨B, 0, none⟩ = some (.int .i64 n) := by rw [hz, hB]; simp [go_sem]
  have c1 : z.w.cell? ⟨B, 1, none⟩ = some (.slice am lm cm) := by rw [hz, hB]; simp [go_sem]
  have c2 : z.w.cell? ⟨B, 2, none⟩ = some (.slice ac lc cc) := by rw [hz, hB]; simp [go_sem]
  have hBz : B < z.w.heap.size := by rw [hz, hB]; simp [go_sem]
  rw [← hz, ← hB]
  replace hs := hs.later z
  replace hx := hx.later z
  clear hz hB
  refine (HT.out _ _ _ _ hs hx).mono ?_
  rintro e w' ⟨b, x, rfl, rfl, hD⟩
  have HD := Lib.hid hD
  clear hD
  clear HFI HT
  go_wp2_with fail
  refine (HCH.out _ b x.w HD.out).mono ?_
  rintro e w' ⟨v, y, rfl, rfl, hv⟩
  rcases hv with ⟨hno, rfl⟩ | ⟨l, a, m, c, rfl, hI, hch⟩
  · have HNO := Lib.hid hno
    clear hno
    go_wp2
    go_ret2
    exact ⟨_, (z.step x).step y, rfl, .inl ⟨HNO.out, rfl, rfl⟩⟩
  · have HC := Lib.hid (And.intro hI hch)
    clear hI hch
    go_wp2
    go_ret2
    exact ⟨_, (z.step x).step y, rfl, .inr ⟨l, rfl, HC.out.1, HC.out.2⟩⟩

end Go.Proofs.Ytdhdpbnlhnodjaa
