import Derived.Test.YtbjmfhlkmklmmaaKUpon
import Derived.Test.YtbjmfhlkmklmmaaKSand
import Derived.Test.YtbjmfhlkmklmmaaKIter
import Derived.WalkMore
import Derived.Laws.IdiomCopy
/-  BurnOf, Burn, Back of the definitions. -/
namespace Go.Proofs.Ytbjmfhlkmklmmaa
open Go.RowKit

theorem leftF_snoc (gone : List Int) (l : List Nat) (x : Nat) : leftF gone (l ++ [x]) = leftF gone l + (1 - ofL gone x) := by
  rw [leftF, List.foldl_append]; rfl
theorem leftF_le (gone : List Int) : ∀ l : List Nat, (∀ x ∈ l, 0 ≤ ofL gone x) → leftF gone l ≤ l.length
  | [], _ => by simp [leftF]
  | x :: l, h => by
    have h1 := leftF_le gone l fun y hy => h y (by simp [hy])
    have h2 := h x (by simp)
    rw [leftF_cons, List.length_cons]; omega
theorem Fire.room {w h : Nat} {d gone out : List Int} (hf : Fire w h d gone out) {i : Nat} (hi : i < w * h) (h0 : ofL gone i = 0) : out.length < w * h := by
  have h1 := Sand.sum_mono (f := ofL gone) (g := fun j => 1 + -(if j = i then (1 : Int) else 0)) (w * h) fun j hj => by
    by_cases e : j = i
    · subst e; rw [h0, if_pos rfl]; omega
    · rw [if_neg e]; have := hf.bits j hj; omega
  rw [Sand.sum_add, Sand.sum_neg, Sand.sum_one _ _ _ hi, sum_const, hf.count] at h1
  omega
/-- the fire has come so far, and nothing before place k burns -/
structure Burnt (w h : Nat) (d gone out : List Int) (k : Nat) : Prop where
  fire : Fire w h d gone out
  rest : burnL w h d = burnF w h d (w * h - out.length) gone out
  none : ∀ j, j < k → burns w h d gone j = false
theorem Burnt.start (w h : Nat) (d : List Int) : Burnt w h d (List.replicate (w * h) 0) [] 0 := ⟨Fire.start w h d, rfl, fun _ h => absurd h (Nat.not_lt_zero _)⟩
theorem Burnt.next {w h : Nat} {d gone out : List Int} {k : Nat} (hb : Burnt w h d gone out k) (h0 : burns w h d gone k = false) : Burnt w h d gone out (k + 1) :=
  ⟨hb.fire, hb.rest, fun j hj => by
    by_cases e : j = k
    · subst e; exact h0
    · exact hb.none j (by omega)⟩
theorem nextB_some {w h : Nat} {d gone : List Int} {k : Nat} (hk : k < w * h) (h0 : ∀ j, j < k → burns w h d gone j = false) (h1 : burns w h d gone k = true) : nextB w h d gone = some k := by
  rw [nextB, List.find?_eq_some_iff_getElem]
  exact ⟨h1, k, by simpa using hk, by simp, fun j hj => by simp [h0 j hj]⟩
theorem nextB_none {w h : Nat} {d gone : List Int} (h0 : ∀ j, j < w * h → burns w h d gone j = false) : nextB w h d gone = none := by
  rw [nextB, List.find?_eq_none]
  intro j hj
  simp [h0 j (List.mem_range.1 hj)]
theorem burns_zero {w h : Nat} {d gone : List Int} {k : Nat} (h1 : burns w h d gone k = true) : ofL gone k = 0 := by
  simp only [burns, Bool.and_eq_true, beq_iff_eq] at h1; exact h1.1
theorem Burnt.step {w h : Nat} (hs : sized w h) {d gone out : List Int} {k : Nat} (hb : Burnt w h d gone out k) (hk : k < w * h) (h1 : burns w h d gone k = true) : Burnt w h d (gone.set k 1) (out ++ [(k : Int)]) 0 := by
  refine ⟨hb.fire.step hs hk h1, ?_, fun _ h => absurd h (Nat.not_lt_zero _)⟩
  have hr := hb.fire.room hk (burns_zero h1)
  rw [hb.rest, show w * h - out.length = (w * h - (out ++ [(k : Int)]).length) + 1 by rw [List.length_append, List.length_singleton]; omega, burnF, nextB_some hk hb.none h1]
theorem Burnt.done {w h : Nat} {d gone out : List Int} {k : Nat} (hb : Burnt w h d gone out k) (hk : w * h ≤ k) : burnL w h d = out := by
  rw [hb.rest]
  cases w * h - out.length with
  | zero => rfl
  | succ f => rw [burnF, nextB_none fun j hj => hb.none j (by omega)]
/-- append(v, y), and the block of a list beside v is not the new one's -/
theorem app_int_at {W wr : World} (hB : Below W.heap.size W wr) {v : Value} {xs : List Int} (hA : IntsM W.heap.size wr v xs) (y : Int) (hbig : xs.length + 1 ≤ 1000000000000) (ty : TypeId) {g : Nat} (hg : g < wr.heap.size) (hne : v.ownBlock ≠ some g) :
    ∃ v', ∃ q : Later W, (Builtin.append_ #[38, 38] ty #[v, .slice (some ⟨wr.heap.size, 0, none⟩) 1 1]).run Try.prog (wr.alloc (.cells #[.int .i64 y] 3)) = .ok v' q.w ∧ IntsM W.heap.size q.w v' (xs ++ [y]) ∧ wr.grownBy q.w v.ownBlock ∧ v'.ownBlock ≠ some g := by
  obtain ⟨v', q, h1, h2, h3⟩ := app_int_stepM hB hA y hbig ty
  refine ⟨v', q, h1, h2, h3, ?_⟩
  obtain ⟨i, hi, hz, hsz, hby⟩ := info_intM
  have hA' := hA.later (Later.new wr (.cells #[.int .i64 y] 3))
  rw [Later.new_w] at hA'
  obtain ⟨v2, w2, k1, _, _, _, k5⟩ := run_append_own_at (wr.alloc (.cells #[.int .i64 y] 3)) W.heap.size 38 ty 3 i (.int .i64 0) 1 8 Try.underlying38 hi hz hsz hby rfl (by decide) v xs.length _ hA' ⟨wr.heap.size, 0, none⟩ 1 1
      [.int .i64 y] rfl (by
        intro j u hj
        cases j with
        | zero => simp at hj; subst hj; simp [go_sem, Addr.add_lit]
        | succ j => simp at hj) (by intro u hu; simp at hu; subst hu; rfl) (by simp only [maxLen]; omega) (by omega) (by have := hB.size; simp; omega)
  obtain ⟨rfl, _⟩ := ok_inj (h1.symm.trans k1)
  rcases k5 with e | e
  · rw [e]; exact hne
  · rw [e]; simp; omega
set_option maxRecDepth 100000 in
set_option maxHeartbeats 4000000 in
theorem BurnOf_calls (w h : Nat) (dv : Value) (d : List Int) (hs : sized w h) (W : World) (hd : Ints W dv d) (hl : d.length = w * h) :
    Calls Try.prog 62 #[.int .i64 w, .int .i64 h, dv] W (GivesM (burnL w h d) W) := by
  have h36 : w * h ≤ 36 := Nat.mul_le_mul hs.2.1 hs.2.2.2
  have h1w : 1 ≤ w * h := Nat.mul_le_mul hs.1 hs.2.2.1
  obtain ⟨bd, od, cd, rfl, hcd, hbd, hgd⟩ := hd.at (k := 0) (by omega)
  obtain ⟨N, hNN⟩ : ∃ N, w * h = N := ⟨_, rfl⟩
  have hlN : d.length = N := by omega
  rw [show Value.slice (some ⟨bd, od, none⟩) d.length cd = .slice (some ⟨bd, od, none⟩) N cd from by rw [hlN]]
  rw [hlN] at hcd
  have HN := Lib.hid hNN
  have HL := Lib.hid hl
  have GD := Lib.hid hgd
  rw [hNN] at h36 h1w
  have HDL := Lib.hid hlN
  clear hNN hl hd hgd hlN
  have hmk : ∀ (w' : World), (Instr.makeSlice 38 (.int .i64 (N : Int)) (.int .i64 (N : Int))).run Try.prog w' = .ok (.slice (some ⟨w'.heap.size, 0, none⟩) N N) (w'.alloc (.cells (madeCells #[.int .i64 0] N) 3)) :=
    fun w' => run_make_row' _ _ _ 8 Try.underlying38 (by kernel_rfl) rfl _ _ _ (by omega) (by omega) w'
  go_enter Try.func62, Try.ntmps62
  go_wp2
  have hG0 : IntsM W.heap.size (W.alloc (.cells (madeCells #[.int .i64 0] N) 3)) (.slice (some ⟨W.heap.size, 0, none⟩) N N) (List.replicate N 0) := by
    have h1 := World.ownsRow_lit (base := W.heap.size) (e := 3) (size := 1) W (madeCells #[.int .i64 0] N) N (Nat.le_refl _) (by simp only [maxLen]; omega) (by simp [madeCells])
    rw [toList_madeCells_one] at h1
    show World.ownsRow _ _ _ _ _ _ _
    simpa using h1
  obtain ⟨Z, hZ⟩ : ∃ Z : Later W, Z.w = W.alloc (.cells (madeCells #[.int .i64 0] N) 3) := ⟨Later.new _ _, rfl⟩
  obtain ⟨G, hG⟩ : ∃ G, G = W.heap.size := ⟨_, rfl⟩
  have hGW : W.heap.size ≤ G := by omega
  rw [← hZ] at hG0 ⊢
  rw [show (Value.slice (some ⟨W.heap.size, 0, none⟩) N N) = .slice (some ⟨G, 0, none⟩) N N from by rw [hG]] at hG0
  rw [← hG]
  have HG := Lib.hid hG
  clear hZ hG hmk
  go_loopg [8, 9] 2000 (fun gk o i wr => ∃ (k : Nat) (g O : List Int) (x : Later W) (a : Option Addr) (n c : Nat), wr = x.w ∧ k ≤ N ∧ i = .int .i64 k ∧ o = .slice a n c ∧ IntsM W.heap.size x.w (.slice a n c) O ∧ (Value.slice a n c).ownBlock ≠ some G ∧ IntsM W.heap.size x.w (.slice (some ⟨G, 0, none⟩) N N) g ∧ Hid (Burnt w h d g O k ∧ ((N : Int) - O.length) * 40 + N - k < gk))
  case atStart =>
    refine ⟨0, _, [], Z, none, 0, 0, rfl, Nat.zero_le _, rfl, rfl, IntsM.nil _ _, by simp [Value.ownBlock], hG0, by rw [← HN.out]; exact Burnt.start w h d, ?_⟩
    simp; omega
  case round =>
    obtain ⟨k, g, O, x, a, n, c, rfl, hk, rfl, rfl, hO, hne, hGs, hI⟩ := hrel
    clear hG0
    have hgl : g.length = N := by rw [hI.out.1.fire.lenG, HN.out]
    have HGL := Lib.hid hgl
    by_cases hlt : k < N
    · have hkN : k < w * h := by rw [HN.out]; exact hlt
      obtain ⟨bg, og, cg, e, hcg, hbg, hgg⟩ := (hGs.ints (by omega)).at (k := k) (by omega)
      rw [hgl] at e
      cases e
      have hgk := hgg k (by omega)
      rw [Nat.zero_add] at hgk
      have hbit := hI.out.1.fire.bits k hkN
      have hgk0 : 0 < gk := by
        have h1 := hI.out.2
        have h2 := hI.out.1.fire.le
        rw [HN.out] at h2
        have h3 : (0 : Int) ≤ ((N : Int) - O.length) * 40 := Int.mul_nonneg (by omega) (by omega)
        omega
      obtain ⟨v, hv⟩ : ∃ v, nth g k = v := ⟨_, rfl⟩
      have hv' : ofL g k = v := hv
      rw [hv'] at hbit
      rw [hv] at hgk
      clear hgl hcg
      rcases hbit with rfl | rfl
      · have hBs := Lib.hid (Beside_calls w h k hs hkN x.w)
        have GG := Lib.hid hgg
        clear hgg
        go_wp2_with fail
        refine hBs.out.mono ?_
        rintro e w' ⟨lv, y, rfl, rfl, hB⟩
        obtain ⟨al, nl, cl, rfl⟩ := hB.form'
        have hlb : (nbI w h k).length = (nb w h k).length := by simp [nbI]
        obtain ⟨al', cl', eL⟩ : ∃ a c, Value.slice al nl cl = .slice a (nb w h k).length c := by obtain ⟨a, c, e⟩ := hB.form; rw [hlb] at e; exact ⟨a, c, e⟩
        cases eL
        have hlen4 := nb_len w h k
        have hnb := Lib.hid (nb_all hs hkN)
        have hBI := hB.ints (by omega)
        have hbits := Lib.hid hI.out.1.fire.bits
        go_wp2
        go_loop [11, 12] (fun s j => ∃ m : Nat, m ≤ (nb w h k).length ∧ j = .int .i64 m ∧ s = .int .i64 (leftF g ((nb w h k).take m))) (fun _ j => (nb w h k).length - (intOf j).toNat)
        case atStart => exact ⟨0, Nat.zero_le _, rfl, rfl⟩
        case round =>
          obtain ⟨m, hm, rfl, rfl⟩ := hrel
          by_cases hml : m < (nb w h k).length
          · obtain ⟨bl, ol, cl', e, hcl, hbl, hgl⟩ := hBI.at (k := m) (by omega)
            rw [hlb] at e
            cases e
            have gl := hgl m (by omega)
            rw [nth_nbI w h k hml] at gl
            obtain ⟨J, hJ⟩ : ∃ J, (nb w h k)[m] = J := ⟨_, rfl⟩
            have hJl : J < w * h := by rw [← hJ]; exact hnb.out.2.1 _ (List.getElem_mem hml)
            have hJN : J < N := by rw [← HN.out]; exact hJl
            have gJ := (y.cell hbg).trans (GG.out J (by rw [HGL.out]; exact hJN))
            rw [Nat.zero_add] at gJ
            have lG := Nat.lt_of_lt_of_le hbg y.size
            have hbJ := hbits.out J hJl
            rw [hJ] at gl
            have htk := leftF_le g ((nb w h k).take m) fun z hz => by have := hbits.out z (hnb.out.2.1 z (List.mem_of_mem_take hz)); omega
            have htn := leftF_nonneg g ((nb w h k).take m) fun z hz => by have := hbits.out z (hnb.out.2.1 z (List.mem_of_mem_take hz)); omega
            rw [List.length_take] at htk
            have e1 : IntKind.i64.wrap (1 - nth g J) = 1 - nth g J := IntWalk.i64_in _ (by rw [nth_ofL]; omega)
            have e2 : IntKind.i64.wrap (leftF g ((nb w h k).take m) + (1 - nth g J)) = leftF g ((nb w h k).take m) + (1 - nth g J) := IntWalk.i64_in _ (by rw [nth_ofL]; omega)
            have hst := Lib.hid (show leftF g ((nb w h k).take (m + 1)) = leftF g ((nb w h k).take m) + (1 - nth g J) by rw [List.take_succ_eq_append_getElem hml, leftF_snoc, hJ]; rfl)
            clear htk htn hbJ hgl
            go_wp2
            go_round
            case rel => exact ⟨m + 1, by omega, by go_num, by rw [hst.out]⟩
            case measure => simp [intOf]; omega
          · obtain rfl : m = (nb w h k).length := by omega
            rw [List.take_length]
            obtain ⟨lf, hlf⟩ : ∃ lf, leftF g (nb w h k) = lf := ⟨_, rfl⟩
            rw [hlf]
            have gd := ((x.step y).cell hbd).trans (GD.out k (by rw [HDL.out]; exact hlt))
            have ld := Nat.lt_of_lt_of_le hbd (x.step y).size
            have hburn : burns w h d g k = decide (lf ≤ ofL d k) := by rw [burns, left, hlf, hv']; simp
            rw [nth_ofL] at gd
            simp only [Later.step_w] at gd ld
            have hHB := Lib.hid hburn
            clear hburn hlf hB hBI
            by_cases hc : lf ≤ ofL d k
            · have hb1 := Lib.hid (hI.out.1.step hs hkN (by rw [hHB.out, decide_eq_true hc]))
              have hO2 := hO.later y
              obtain ⟨g', e2, hz1, hz2, hgs, hnc, fG, gG, hst, hgr⟩ := (hGs.later y).set (k := k) (by rw [HGL.out]; exact hlt) 1
              cases e2
              clear hz1
              have hG3 : G < ((x.step y).w.setCell ⟨G, k, none⟩ (.int .i64 1)).heap.size := by simp; exact Nat.lt_of_lt_of_le hbg y.size
              have hB3 := (x.step y).le.setCell (p := ⟨G, k, none⟩) hGW (.int .i64 1)
              have hO3 := hO2.kept hgr (.inr hne)
              have hfull := hI.out.1.fire.le
              rw [HN.out] at hfull
              obtain ⟨v4, q, hrun, hO4, hg4, hne4⟩ := app_int_at hB3 hO3 (k : Int) (by omega) 38 (g := G) hG3 hne
              obtain ⟨a4, n4, c4, rfl⟩ := hO4.form'
              simp only [Later.step_w] at hrun hst hgr hO3 hg4
              rw [show (y.w.setCell ⟨G, k, none⟩ (.int .i64 1)).heap.size = y.w.heap.size from by simp] at hrun
              have HR := Lib.hid hrun
              have hst4 := hst.kept hg4 (.inr (fun e => hne e.symm))
              have hnew := Lib.hid (show ((N : Int) - ((O ++ [(k : Int)]).length : Nat)) * 40 + N - ((0 : Nat) : Int) < ((gk - 1 : Nat) : Int) by
                have h1 := hI.out.2
                rw [List.length_append, List.length_singleton]
                push_cast
                omega)
              have hfr := fG
              clear hrun hO2 hO3 hg4 hfull hgr
              go_wp2_with (at_builtin; (with_reducible show wpList _ _ _ (⟨some 59, _, _, _, _, _⟩ :: _) _ _); refine Lib.wpList_append_run_sl _ rfl _ _ 38 rfl _ _ rfl rfl HR.out ?_)
              go_roundg (gk - 1)
              case measure => omega
              case rel => exact ⟨0, _, _, q, _, _, _, rfl, Nat.zero_le _, by go_num, rfl, hO4, hne4, hst4, hb1.out, hnew.out⟩
            · have hb1 := Lib.hid (hI.out.1.next (by rw [hHB.out, decide_eq_false hc]))
              have hnew := Lib.hid (show ((N : Int) - O.length) * 40 + N - ((k + 1 : Nat) : Int) < ((gk - 1 : Nat) : Int) by have h1 := hI.out.2; omega)
              go_wp2
              go_roundg (gk - 1)
              case measure => omega
              case rel => exact ⟨k + 1, g, O, x.step y, a, n, c, rfl, by omega, by go_num, rfl, hO.later y, hne, hGs.later y, hb1.out, hnew.out⟩
      · have hb1 := Lib.hid (hI.out.1.next (by rw [burns, hv']; rfl))
        have hnew := Lib.hid (show ((N : Int) - O.length) * 40 + N - ((k + 1 : Nat) : Int) < ((gk - 1 : Nat) : Int) by have h1 := hI.out.2; omega)
        clear hgg
        go_wp2
        go_roundg (gk - 1)
        case measure => omega
        case rel => exact ⟨k + 1, g, O, x, a, n, c, rfl, by omega, by go_num, rfl, hO, hne, hGs, hb1.out, hnew.out⟩
    · have hE := Lib.hid (hI.out.1.done (by rw [HN.out]; omega))
      go_wp2
      go_ret
      exact ⟨_, x, rfl, rfl, by rw [hE.out]; exact hO⟩

end Go.Proofs.Ytbjmfhlkmklmmaa

/-  Burn and Back of the definitions. -/
namespace Go.Proofs.Ytbjmfhlkmklmmaa
open Go.RowKit

def burnE (w h : Int) (d : List Int) : Int := if vplate w h d ≠ 0 then vplate w h d else if flatB d then 0 else 9
def burnK (w h : Int) (d : List Int) : List Int := if burnE w h d = 0 then burnL w.toNat h.toNat d else []
def backB (w h : Int) (d : List Int) : Bool := burnE w h d == 0 && (burnK w h d).length == d.length
theorem burnE_zero {w h : Int} {d : List Int} (h0 : burnE w h d = 0) : vplate w h d = 0 ∧ flatB d = true := by
  unfold burnE at h0
  split at h0
  · exact absurd h0 ‹_›
  · split at h0
    · exact ⟨Classical.byContradiction fun h1 => ‹¬ _› h1, ‹_›⟩
    · cases h0
theorem burnL_len {w h : Nat} (hs : sized w h) (d : List Int) : (burnL w h d).length ≤ w * h := by
  obtain ⟨gone, hf, _⟩ := burnF_end hs (w * h) _ _ (Fire.start w h d) (by simp)
  exact hf.le
set_option maxRecDepth 100000 in
set_option maxHeartbeats 2000000 in
theorem refBurn_calls (w h : Int) (dv : Value) (d : List Int) (W : World) (hd : Ints W dv d) :
    Calls Try.prog 32 #[.agg #[.int .i64 w, .int .i64 h, dv]] W (GivesLE (burnK w h d) (burnE w h d) W) := by
  have hdl := hd.1
  obtain ⟨a, c, rfl⟩ := hd.form
  go_enter Try.func32, Try.ntmps32
  go_wp2_with fail
  obtain ⟨B, hB⟩ : ∃ B, B = W.heap.size := ⟨_, rfl⟩
  obtain ⟨z, hz⟩ : ∃ z : Later W, z.w = W.alloc (.cells #[.int .i64 w, .int .i64 h, .slice a d.length c] 24) := ⟨Later.new _ _, rfl⟩
  have c0 : z.w.cell? ⟨B, 0, none⟩ = some (.int .i64 w) := by rw [hz, hB]; simp [go_sem]
  have c1 : z.w.cell? ⟨B, 1, none⟩ = some (.int .i64 h) := by rw [hz, hB]; simp [go_sem]
  have c2 : z.w.cell? ⟨B, 2, none⟩ = some (.slice a d.length c) := by rw [hz, hB]; simp [go_sem]
  have hBz : B < z.w.heap.size := by rw [hz, hB]; simp [go_sem]
  have HZ : Hid (z.w.heap.size = B + 1) := Lib.hid (by rw [hz, hB]; simp)
  rw [← hz, ← hB]
  replace hd := hd.later z
  clear hz hB
  refine (refCheckPlate_calls w h _ d _ hd).mono ?_
  rintro e w' ⟨rfl, x, rfl⟩
  have gB0 : x.w.cell? ⟨B, 0, none⟩ = some (.int .i64 w) := ((x).cell hBz).trans c0
  have gB1 : x.w.cell? ⟨B, 1, none⟩ = some (.int .i64 h) := ((x).cell hBz).trans c1
  have gB2 : x.w.cell? ⟨B, 2, none⟩ = some (.slice a d.length c) := ((x).cell hBz).trans c2
  have sB : B < x.w.heap.size := Nat.lt_of_lt_of_le hBz (x).size
  by_cases hv : vplate w h d = 0
  rotate_left
  · have hE := Lib.hid (show burnE w h d = vplate w h d by rw [burnE, if_pos hv])
    have hL := Lib.hid (show burnK w h d = [] by rw [burnK, if_neg (by rw [hE.out]; exact hv)])
    have hb2 : (vplate w h d != 0) = true := by simpa using hv
    go_wp2_with fail
    refine (refCheckPlate_calls w h _ d _ (hd.later x)).mono ?_
    rintro e w' ⟨rfl, y, rfl⟩
    go_wp2
    go_ret2
    exact ⟨.slice none 0 0, (z.step x).step y, ret_le hE.out.symm, rfl, by rw [hL.out]; exact Ints.nil _ _⟩
  · have HV := Lib.hid hv
    rw [hv]
    clear hv
    go_wp2_with fail
    refine (IsFlat_calls _ d _ (hd.later x)).mono ?_
    rintro e w' ⟨rfl, rfl⟩
    cases hf : flatB d
    · have hE := Lib.hid (show burnE w h d = 9 by rw [burnE, if_neg (by rw [HV.out]; simp), if_neg (by rw [hf]; simp)])
      have hL := Lib.hid (show burnK w h d = [] by rw [burnK, if_neg (by rw [hE.out]; simp)])
      go_wp2
      go_ret2
      exact ⟨.slice none 0 0, z.step x, ret_le hE.out.symm, rfl, by rw [hL.out]; exact Ints.nil _ _⟩
    · have hE := Lib.hid (show burnE w h d = 0 by rw [burnE, if_neg (by rw [HV.out]; simp), if_pos hf])
      have hL := Lib.hid (show burnK w h d = burnL w.toNat h.toNat d by rw [burnK, if_pos hE.out])
      obtain ⟨wn, hn, rfl, rfl, hs, hl, hlo⟩ := vplate_zero HV.out
      have hF := Lib.hid (fun (V : World) (hV : Ints V (.slice a d.length c) d) => BurnOf_calls wn hn _ d hs V hV hl)
      clear hl hlo
      go_wp2_with fail
      refine (hF.out _ (hd.later x)).mono ?_
      rintro e w' ⟨lv, y, rfl, rfl, hR⟩
      obtain ⟨al, nl, cl, rfl⟩ := hR.form'
      go_wp2
      go_ret2
      refine ⟨_, (z.step x).step y, ret_le hE.out.symm, rfl, ?_⟩
      rw [hL.out, Int.toNat_natCast, Int.toNat_natCast]
      exact hR.ints (Nat.le_trans (burnL_len hs d) (Nat.le_trans (Nat.mul_le_mul hs.2.1 hs.2.2.2) (by omega)))

set_option maxRecDepth 100000 in
set_option maxHeartbeats 2000000 in
theorem refBack_calls (w h : Int) (dv : Value) (d : List Int) (W : World) (hd : Ints W dv d) :
    Calls Try.prog 34 #[.agg #[.int .i64 w, .int .i64 h, dv]] W (Gives (.tuple #[.bool (backB w h d), .int .i64 (burnE w h d)]) W) := by
  have hdl := hd.1
  obtain ⟨a, c, rfl⟩ := hd.form
  go_enter Try.func34, Try.ntmps34
  go_wp2_with fail
  obtain ⟨B, hB⟩ : ∃ B, B = W.heap.size := ⟨_, rfl⟩
  obtain ⟨z, hz⟩ : ∃ z : Later W, z.w = W.alloc (.cells #[.int .i64 w, .int .i64 h, .slice a d.length c] 24) := ⟨Later.new _ _, rfl⟩
  have c0 : z.w.cell? ⟨B, 0, none⟩ = some (.int .i64 w) := by rw [hz, hB]; simp [go_sem]
  have c1 : z.w.cell? ⟨B, 1, none⟩ = some (.int .i64 h) := by rw [hz, hB]; simp [go_sem]
  have c2 : z.w.cell? ⟨B, 2, none⟩ = some (.slice a d.length c) := by rw [hz, hB]; simp [go_sem]
  have hBz : B < z.w.heap.size := by rw [hz, hB]; simp [go_sem]
  have HZ : Hid (z.w.heap.size = B + 1) := Lib.hid (by rw [hz, hB]; simp)
  rw [← hz, ← hB]
  replace hd := hd.later z
  clear hz hB
  refine (refBurn_calls w h _ d _ hd).mono ?_
  rintro e w' ⟨lv, x, rfl, rfl, hX⟩
  obtain ⟨al, cl, rfl⟩ := hX.form
  have gB0 : x.w.cell? ⟨B, 0, none⟩ = some (.int .i64 w) := ((x).cell hBz).trans c0
  have gB1 : x.w.cell? ⟨B, 1, none⟩ = some (.int .i64 h) := ((x).cell hBz).trans c1
  have gB2 : x.w.cell? ⟨B, 2, none⟩ = some (.slice a d.length c) := ((x).cell hBz).trans c2
  have sB : B < x.w.heap.size := Nat.lt_of_lt_of_le hBz (x).size
  have hXl := hX.1
  obtain ⟨E, hE⟩ : ∃ E, burnE w h d = E := ⟨_, rfl⟩
  obtain ⟨n, hn⟩ : ∃ n, (burnK w h d).length = n := ⟨_, rfl⟩
  have hB := Lib.hid (show backB w h d = (E == 0 && n == d.length) by rw [backB, hE, hn])
  rw [hE, hn]
  by_cases h0 : E = 0
  · by_cases h1 : n = d.length
    · subst h0 h1
      go_wp2
      go_ret2
      exact ⟨by rw [hB.out, hE]; simp, z.step x, rfl⟩
    · subst h0
      have h1b : (n == d.length) = false := by simpa using h1
      go_wp2
      go_ret2
      exact ⟨by rw [hB.out, hE]; simp; rw [h1b]; exact beq_false_of_ne (by omega), z.step x, rfl⟩
  · have h0b : (E == 0) = false := by simpa using h0
    go_wp2
    go_ret2
    exact ⟨by rw [hB.out, hE]; simp [h0], z.step x, rfl⟩

end Go.Proofs.Ytbjmfhlkmklmmaa

/-  Whether a place burns: the closure of 'burn'. -/
namespace Go.Proofs.Ytbjmfhlkmklmmaa
open Go.RowKit Go.Shelf
attribute [local go_sem] Oper.semAt_some

/-- what stands while the neighbours of a place are gone over -/
structure LeftW (W U : World) (s0 : Nat) (n : Int) : Prop where
  eq : s0 = W.heap.size
  bel : Below W.heap.size W U
  box : Boxed U s0 2 (.int .i64 n)
theorem LeftW.grown {W U : World} {s0 : Nat} {n : Int} (hh : LeftW W U s0 n) {U' : World} {row : Option Nat} (hg : U.grownBy U' row) (hr : ∀ r, row = some r → s0 ≤ r ∧ ∃ o : Obj, U.heap[r]? = some o ∧ o.isCells = false) : LeftW W U' s0 n := by
  have hne : ∀ c v T k, U.heap[c]? = some (.cells v T k) → some c ≠ row := fun c v T k hc e => by
    obtain ⟨o, ho, hcl⟩ := (hr c e.symm).2
    rw [hc] at ho
    cases ho
    cases hcl
  exact ⟨hh.eq, hh.bel.grown hg hh.bel.size (fun r e => by rw [← hh.eq]; exact (hr r e).1), hh.box.kept hg (hne _ _ _ _ hh.box)⟩
theorem LeftW.later {W U : World} {s0 : Nat} {n : Int} (hh : LeftW W U s0 n) (x : Later U) : LeftW W x.w s0 n := hh.grown x.grown (fun _ h => nomatch h)
def LeftW.out {W U : World} {s0 : Nat} {n : Int} (hh : LeftW W U s0 n) : Later W := ⟨U, hh.bel⟩
theorem LeftW.set {W U : World} {s0 : Nat} {n : Int} (hh : LeftW W U s0 n) (m : Int) : LeftW W (U.setCell ⟨s0, 0, none⟩ (.int .i64 m)) s0 m :=
  ⟨hh.eq, hh.bel.setCell (p := ⟨s0, 0, none⟩) (by rw [hh.eq]; exact Nat.le_refl _) _, hh.box.set _⟩
theorem LeftW.lt {W U : World} {s0 : Nat} {n : Int} (hh : LeftW W U s0 n) : s0 < U.heap.size := hh.box.lt

theorem KpB.setO {Bp Bb b c : Nat} (h1 : Bp ≠ c) (h2 : Bb ≠ c) (h3 : b ≠ c) (W : World) (v : Value) : KpB Bp Bb b W (W.setCell ⟨c, 0, none⟩ v) :=
  ⟨by simp [World.setCell], World.cell?_setCell_other _ _ _ _ (fun e => by injection e with e1 e2; omega), World.cell?_setCell_other _ _ _ _ (fun e => by injection e with e1 e2; omega), World.cell?_setCell_other _ _ _ _ (fun e => by injection e with e1 e2; omega), World.cell?_setCell_other _ _ _ _ (fun e => by injection e with e1 e2; omega)⟩
set_option maxRecDepth 100000 in
set_option maxHeartbeats 2000000 in
theorem burn1_in (F : Fence) (m : Nat) (h77 : F.fn 77) (h68 : F.fn 68) (h74 : F.fn 74) (hro : F.round = none) (hm : 6 ≤ m)
    (P2 P3 b w h i : Nat) (cd : Nat) (ad : Option Addr) (d now bl g : List Int) (v : Int) (G cg : Nat) (hs : sized w h) (hi : i < w * h) (W : World) (hb : Blk W b w h (.slice ad d.length cd) now bl) (hd : Ints W (.slice ad d.length cd) d) (hdl : d.length = w * h)
    (c2 : W.cell? ⟨P2, 0, none⟩ = some (.pointer (some ⟨b, 0, none⟩))) (c3 : W.cell? ⟨P3, 0, none⟩ = some (.slice (some ⟨G, 0, none⟩) g.length cg)) (hgl : g.length = w * h)
    (hg : ∀ k, k < g.length → W.cell? ⟨G, k, none⟩ = some (.int .i64 (nth g k))) (hbit : ∀ k, k < w * h → ofL g k = 0 ∨ ofL g k = 1) (hv : ofL g i = v) :
    CallsIn F m Try.prog 77 #[.int .i64 i, .int .i64 v, .pointer (some ⟨P2, 0, none⟩), .pointer (some ⟨P3, 0, none⟩)] W (Gives (.bool (burns w h d g i)) W) := by
  have hHG := Lib.hid (show 0 < g.length ∧ G < W.heap.size from ⟨by have := Nat.mul_le_mul hs.1 hs.2.2.1; omega, World.block_lt_of_cell? W _ (hg 0 (by have := Nat.mul_le_mul hs.1 hs.2.2.1; omega))⟩)
  have h1 : 1 ≤ m := by omega
  have h36 : w * h ≤ 36 := Nat.mul_le_mul hs.2.1 hs.2.2.2
  have l2 : P2 < W.heap.size := World.block_lt_of_cell? W _ c2
  have l3 : P3 < W.heap.size := World.block_lt_of_cell? W _ c3
  have lb := hb.lt
  refine callsIn_of_wp_marks Try.func77 rfl h77 ?_ hro
  simp only [Try.ntmps77, List.size_toArray, List.length_cons, List.length_nil, Nat.reduceAdd, Nat.reduceSub, Array.replicate_succ, Array.replicate_zero, List.push_toArray, List.append_toArray, List.nil_append, List.cons_append]
  gi_wp2_with (gi_at_call 68; refine (beside_in F (m - 1) h68 hro _ _ _).mono ?_; rintro e w' ⟨rfl, rfl⟩)
  obtain ⟨s0, hs0⟩ : ∃ s0, s0 = W.heap.size := ⟨_, rfl⟩
  obtain ⟨U0, hU0⟩ : ∃ U0, U0 = ((W.alloc (.cells #[.int .i64 0] 2)).alloc (.cells #[.pointer (some ⟨b, 0, none⟩)] 69)).alloc (.cells #[.int .i64 (i : Int)] 3) := ⟨_, rfl⟩
  have hU : LeftW W U0 s0 0 := by
    rw [hU0]
    exact ⟨hs0, ((Later.new W _).step ((Later.new _ _).step (Later.new _ _))).le, by rw [hs0]; exact ((Boxed.new W _ _).alloc _).alloc _⟩
  have k1 : U0.cell? ⟨s0 + 1, 0, none⟩ = some (.pointer (some ⟨b, 0, none⟩)) := by rw [hU0, hs0]; simp [go_sem]
  have k2 : U0.cell? ⟨s0 + 1 + 1, 0, none⟩ = some (.int .i64 i) := by rw [hU0, hs0]; simp [go_sem]
  have k3 : U0.heap.size = s0 + 3 := by rw [hU0, hs0]; simp
  rw [← hU0]
  rw [← hs0]
  have HS0 := Lib.hid hs0
  have lbs : b < s0 := by rw [hs0]; exact lb
  have hbU := hb.later hU.out
  have e0 : hU.out.w = U0 := rfl
  rw [e0] at hbU
  have HGL := Lib.hid hgl
  have HDL := Lib.hid hdl
  have HG := Lib.hid hg
  have HV := Lib.hid hv
  have HBT := Lib.hid hbit
  clear hU0 hs0 hgl hdl hg hv hbit e0
  refine wpIn_rangeFunc_ownG hro h1 (gf := 74) (lb := #[.pointer (some ⟨s0 + 1 + 1, 0, none⟩), .pointer (some ⟨s0 + 1, 0, none⟩)]) rfl h74 (enters_of Try.func74 (by kernel_rfl) rfl)
    (beside_stops F (m - 1) h74 hro (by omega) (s0 + 1 + 1) (s0 + 1) b w h i hs hi U0 k2 k1 hbU.cellW hbU.cellH) (fun h k => h.t k) (KpB.b (by omega) (by omega) (by omega)) (Below.refl _ _) (fun _ => rfl)
    (fun (pre : List (Fin (w * h))) U => LeftW W U s0 (leftF g (pre.map fun y => y.1)) ∧ U0.heap.size ≤ U.heap.size)
    (fun _ _ _ => False)
    ?grw
    (fun _ _ _ _ _ hs _ _ => hs)
    ⟨hU, Nat.le_refl _⟩
    (fun x => { tmps := #[Value.int IntKind.i64 ↑i, Value.int IntKind.i64 v, Value.pointer (some { block := P2, off := 0, spot := none }), Value.pointer (some { block := P3, off := 0, spot := none }), undef, undef, Value.bool false, Value.pointer (some { block := s0, off := 0, spot := none }), .int .i64 (x.1 : Int), Value.pointer (some { block := b, off := 0, spot := none }), Value.int IntKind.i64 ↑i, Value.func (Fn.func 74) #[] #[Value.pointer (some { block := s0 + 1 + 1, off := 0, spot := none }), Value.pointer (some { block := s0 + 1, off := 0, spot := none })], .int .i64 (x.1 : Int), undef, undef, undef, undef, undef, undef, undef, undef, undef, undef, undef, undef, undef, undef, undef, undef, undef, undef, undef, undef, undef], defers := [] }) ?assign ?body ?done ?stop
  case grw =>
    intro pre A B row hs hg hr
    exact And.intro (hs.1.grown hg fun r e => And.intro (by have := (hr r e).1; omega) (hr r e).2) (Nat.le_trans hs.2 hg.size)
  case assign =>
    intro l x U K hK
    gi_wp2
    exact hK
  case body =>
    rintro l pre x U ⟨hh, hUs⟩ hlt
    obtain ⟨j, hjl⟩ := x
    have hUsz : s0 + 3 ≤ U.heap.size := by omega
    have hbg := (hHG.out).2
    have gJ := (hh.out.cell hbg).trans (HG.out j (by rw [HGL.out]; exact hjl))
    have c4 := (hh.out.cell l3).trans c3
    have lG := Nat.lt_of_lt_of_le hbg hh.out.size
    have lP3 := Nat.lt_of_lt_of_le l3 hh.out.size
    have e0 : hh.out.w = U := rfl
    rw [e0] at gJ c4 lG lP3
    clear e0
    have c5 := hh.box.cell
    have l5 := hh.box.lt
    have hbJ := HBT.out j hjl
    have htk := leftF_le g (pre.map fun y => y.1) fun z hz => by
      obtain ⟨y, _, rfl⟩ := List.mem_map.1 hz
      have := HBT.out y.1 y.2
      omega
    have htn := leftF_nonneg g (pre.map fun y => y.1) fun z hz => by
      obtain ⟨y, _, rfl⟩ := List.mem_map.1 hz
      have := HBT.out y.1 y.2
      omega
    rw [List.length_map] at htk
    have hsn := leftF_snoc g (pre.map fun y => y.1) j
    obtain ⟨A, hA⟩ : ∃ A, leftF g (pre.map fun y => y.1) = A := ⟨_, rfl⟩
    rw [hA] at hh htk htn hsn c5
    have e1 : IntKind.i64.wrap (1 - nth g j) = 1 - nth g j := IntWalk.i64_in _ (by rw [nth_ofL]; omega)
    have e2 : IntKind.i64.wrap (A + (1 - nth g j)) = A + (1 - nth g j) := IntWalk.i64_in _ (by rw [nth_ofL]; omega)
    have hjg : j < g.length := by rw [HGL.out]; exact hjl
    clear htk htn hbJ hA
    gi_wp2
    refine Mix.region_mixL_in (Mix.kinds [] [] [7]) (by kernel_rfl) (by kernel_rfl) (by kernel_rfl) ?_
    repeat ((with_reducible refine Mix.atCons ?_); first | refine Mix.skipU (by rfl) rfl (by rfl) ?_ | (refine Mix.val rfl rfl (by rfl) (fun K hK => ?_); go_big_quiet_op; refine hK _ ?_; clear hK K))
    refine Mix.last rfl (by rfl) (fun x K hK => ?_)
    have hHx := hh.later x
    have d1 := hHx.box.cell
    have d3 := hHx.box.frozen
    have hst := hHx.set (A + (1 - nth g j))
    clear hHx c5 c4 gJ lG lP3 l5
    go_wp2_with fail
    refine Mix.done (fun y => ?_)
    have hfin : LeftW W y.w s0 (leftF g ((pre.map fun y => y.1) ++ [j])) := by rw [hsn]; exact hst.later y
    gi_wp2
    refine ⟨((x.keeps _).trans ((KeepsOthers.setCell _ _ _).from _)).trans (y.keeps _), ((KpB.of x ?_ ?_ ?_).t (KpB.setO (by omega) (by omega) (by omega) _ _)).t (KpB.of y ?_ ?_ ?_), ?_⟩
    all_goals first | exact And.intro (by show LeftW W y.w s0 (leftF g ((pre ++ [(⟨j, hjl⟩ : Fin (w * h))]).map fun y => y.1)); rw [List.map_append]; exact hfin) (Nat.le_trans hUs (Nat.le_trans x.size (Nat.le_trans (by simp [World.setCell]) y.size))) | skip
    all_goals (have := hUsz; have := x.size; first | omega | (simp [World.setCell]; omega))
  case done =>
    rintro D ys U hD hys ⟨hh, hUs⟩ hK
    rw [hys] at hh
    have e0 : hh.out.w = U := rfl
    have l2U := Nat.lt_of_lt_of_le l2 hh.out.size
    have c2U := (hh.out.cell l2).trans c2
    have hbUU := hb.later hh.out
    obtain ⟨bd, od, cd', e, hcd, hbd, hgd⟩ := hd.at (k := i) (by rw [HDL.out]; exact hi)
    cases e
    have gd := (hh.out.cell hbd).trans (hgd i (by rw [HDL.out]; exact hi))
    have ld := Nat.lt_of_lt_of_le hbd hh.out.size
    rw [nth_ofL] at gd
    rw [e0] at l2U c2U hbUU gd ld
    have cB := hbUU.cellD
    have lbU := hbUU.lt
    have cL := hh.box.cell
    have lL := hh.box.lt
    have hid : i < d.length := by rw [HDL.out]; exact hi
    obtain ⟨lf, hlf⟩ : ∃ lf, leftF g (nb w h i) = lf := ⟨_, rfl⟩
    rw [hlf] at cL hh
    have hburn := Lib.hid (show burns w h d g i = (v == 0 && decide (lf ≤ ofL d i)) by rw [burns, left, hlf, HV.out])
    clear hgd hlf e0 hbUU
    have hvb := HBT.out i hi
    rw [HV.out] at hvb
    rcases hvb with rfl | rfl
    · by_cases hc : lf ≤ ofL d i
      · gi_wp2
        refine region_later_in hro (by kernel_rfl) (by kernel_rfl) ?_
        repeat (first | gi_big_quiet_step (first
             | (fail)))
        refine wpQuietIn_nil ?_
        intro y
        gi_wp2
        obtain ⟨x, hx⟩ : ∃ x : Later W, y.w.putObj D (.deferred none) = x.w := ⟨⟨_, ((hh.later y).grown (grownBy_putObj' y.w D (.deferred none)) (fun r e => by cases e; exact ⟨by have := hh.lt; omega, _, (y.le.block D (Array.getElem?_eq_some_iff.1 hK).1).trans hK, rfl⟩)).bel⟩, rfl⟩
        refine ⟨by simp, .inl ⟨_, _, rfl, run_takeDeferred ((y.le.block D (Array.getElem?_eq_some_iff.1 hK).1).trans hK), ?_⟩⟩
        rw [hx]
        exact ⟨_, results_tmp (t := 6) rfl _ _ _, And.intro (show Ending.returned (Value.bool true) = .returned (.bool (burns w h d g i)) from ret_bool (by rw [hburn.out]; simp [hc])) ⟨x, rfl⟩⟩
      · gi_wp2
        refine region_later_in hro (by kernel_rfl) (by kernel_rfl) ?_
        repeat (first | gi_big_quiet_step (first
             | (fail)))
        refine wpQuietIn_nil ?_
        intro y
        gi_wp2
        obtain ⟨x, hx⟩ : ∃ x : Later W, y.w.putObj D (.deferred none) = x.w := ⟨⟨_, ((hh.later y).grown (grownBy_putObj' y.w D (.deferred none)) (fun r e => by cases e; exact ⟨by have := hh.lt; omega, _, (y.le.block D (Array.getElem?_eq_some_iff.1 hK).1).trans hK, rfl⟩)).bel⟩, rfl⟩
        refine ⟨by simp, .inl ⟨_, _, rfl, run_takeDeferred ((y.le.block D (Array.getElem?_eq_some_iff.1 hK).1).trans hK), ?_⟩⟩
        rw [hx]
        exact ⟨_, results_tmp (t := 6) rfl _ _ _, And.intro (show Ending.returned (Value.bool (decide (lf ≤ ofL d i))) = .returned (.bool (burns w h d g i)) from ret_bool (by rw [hburn.out]; simp [hc])) ⟨x, rfl⟩⟩
    · gi_wp2
      refine region_later_in hro (by kernel_rfl) (by kernel_rfl) ?_
      repeat (first | gi_big_quiet_step (first
           | (fail)))
      refine wpQuietIn_nil ?_
      intro y
      gi_wp2
      obtain ⟨x, hx⟩ : ∃ x : Later W, y.w.putObj D (.deferred none) = x.w := ⟨⟨_, ((hh.later y).grown (grownBy_putObj' y.w D (.deferred none)) (fun r e => by cases e; exact ⟨by have := hh.lt; omega, _, (y.le.block D (Array.getElem?_eq_some_iff.1 hK).1).trans hK, rfl⟩)).bel⟩, rfl⟩
      refine ⟨by simp, .inl ⟨_, _, rfl, run_takeDeferred ((y.le.block D (Array.getElem?_eq_some_iff.1 hK).1).trans hK), ?_⟩⟩
      rw [hx]
      exact ⟨_, results_tmp (t := 6) rfl _ _ _, And.intro (show Ending.returned (Value.bool false) = .returned (.bool (burns w h d g i)) from ret_bool (by rw [hburn.out]; rfl)) ⟨x, rfl⟩⟩
  case stop =>
    rintro D c pre W _ _ h _
    exact h.elim
end Go.Proofs.Ytbjmfhlkmklmmaa

/-  The first place that burns. -/
namespace Go.Proofs.Ytbjmfhlkmklmmaa
open Go.RowKit

theorem burn1_calls (P2 P3 b w h i : Nat) (cd : Nat) (ad : Option Addr) (d now bl g : List Int) (v : Int) (G cg : Nat) (hs : sized w h) (hi : i < w * h) (W : World) (hb : Blk W b w h (.slice ad d.length cd) now bl) (hd : Ints W (.slice ad d.length cd) d) (hdl : d.length = w * h)
    (c2 : W.cell? ⟨P2, 0, none⟩ = some (.pointer (some ⟨b, 0, none⟩))) (c3 : W.cell? ⟨P3, 0, none⟩ = some (.slice (some ⟨G, 0, none⟩) g.length cg)) (hgl : g.length = w * h)
    (hg : ∀ k, k < g.length → W.cell? ⟨G, k, none⟩ = some (.int .i64 (nth g k))) (hbit : ∀ k, k < w * h → ofL g k = 0 ∨ ofL g k = 1) (hv : ofL g i = v) :
    Calls Try.prog 77 #[.int .i64 i, .int .i64 v, .pointer (some ⟨P2, 0, none⟩), .pointer (some ⟨P3, 0, none⟩)] W (Gives (.bool (burns w h d g i)) W) :=
  (callsIn_wide (n := 6)).1 (burn1_in _ 6 trivial trivial trivial rfl (Nat.le_refl _) P2 P3 b w h i cd ad d now bl g v G cg hs hi W hb hd hdl c2 c3 hgl hg hbit hv)
/-- the first place that burns; -1: none does -/
def nextI (w h : Nat) (d g : List Int) : Int := match nextB w h d g with | some k => (k : Int) | none => -1
set_option maxRecDepth 100000 in
set_option maxHeartbeats 2000000 in
theorem first_calls (P2 P3 b w h : Nat) (cd : Nat) (ad : Option Addr) (d now bl g : List Int) (G cg : Nat) (hs : sized w h) (W : World) (hb : Blk W b w h (.slice ad d.length cd) now bl) (hd : Ints W (.slice ad d.length cd) d) (hdl : d.length = w * h)
    (c2 : W.cell? ⟨P2, 0, none⟩ = some (.pointer (some ⟨b, 0, none⟩))) (c3 : W.cell? ⟨P3, 0, none⟩ = some (.slice (some ⟨G, 0, none⟩) g.length cg)) (hgl : g.length = w * h) (hcg : g.length ≤ cg)
    (hg : ∀ k, k < g.length → W.cell? ⟨G, k, none⟩ = some (.int .i64 (nth g k))) (hbit : ∀ k, k < w * h → ofL g k = 0 ∨ ofL g k = 1) :
    Calls Try.prog 76 #[.slice (some ⟨G, 0, none⟩) g.length cg, .func (.func 77) #[] #[.pointer (some ⟨P2, 0, none⟩), .pointer (some ⟨P3, 0, none⟩)]] W (Gives (.int .i64 (nextI w h d g)) W) := by
  have h36 : w * h ≤ 36 := Nat.mul_le_mul hs.2.1 hs.2.2.2
  have h1w : 1 ≤ w * h := Nat.mul_le_mul hs.1 hs.2.2.1
  have hG0 : G < W.heap.size := World.block_lt_of_cell? W _ (hg 0 (by omega))
  have l2 : P2 < W.heap.size := World.block_lt_of_cell? W _ c2
  have l3 : P3 < W.heap.size := World.block_lt_of_cell? W _ c3
  have HC := Lib.hid (fun (V : Later W) (i : Nat) (hi : i < w * h) (v : Int) (hv : ofL g i = v) => burn1_calls P2 P3 b w h i cd ad d now bl g v G cg hs hi V.w (hb.later V) (hd.later V) hdl ((V.cell l2).trans c2) ((V.cell l3).trans c3) hgl (fun k hk => (V.cell hG0).trans (hg k hk)) hbit hv)
  have HG := Lib.hid hg
  have HN := Lib.hid hgl
  obtain ⟨N, hN⟩ : ∃ N, g.length = N := ⟨_, rfl⟩
  have HN2 := Lib.hid (show w * h = N by omega)
  rw [hN] at HG hcg c3 ⊢
  have hN36 : N ≤ 36 := by omega
  clear hg hb hd hdl c2 c3 hgl hbit hN h36 h1w
  go_enter Try.func76, Try.ntmps76
  go_wp2
  go_loopw [9] (fun i wr => ∃ (k : Nat) (x : Later W), wr = x.w ∧ k ≤ N ∧ i = .int .i64 k ∧ Hid (∀ j, j < k → burns w h d g j = false)) (fun i _ => N - (intOf i).toNat)
  case atStart => exact ⟨0, Later.self _, rfl, Nat.zero_le _, rfl, fun j hj => absurd hj (Nat.not_lt_zero _)⟩
  case round =>
    obtain ⟨k, x, rfl, hk, rfl, hp⟩ := hrel
    by_cases hlt : k < N
    · have hkN : k < w * h := by rw [HN2.out]; exact hlt
      have gk := (x.cell hG0).trans (HG.out k hlt)
      have lG := Nat.lt_of_lt_of_le hG0 x.size
      go_wp2_with fail
      refine (HC.out x k hkN _ rfl).mono ?_
      rintro e w' ⟨rfl, y, rfl⟩
      cases hbk : burns w h d g k
      · have hstep := Lib.hid (show ∀ j, j < k + 1 → burns w h d g j = false from fun j hj => by
          by_cases e : j = k
          · subst e; exact hbk
          · exact hp.out j (by omega))
        clear hbk
        go_wp2
        go_roundw
        case rel => exact ⟨k + 1, x.step y, rfl, by omega, by go_num, hstep⟩
        case measure => simp [intOf]; omega
      · have hE := Lib.hid (show nextI w h d g = (k : Int) by rw [nextI, nextB_some hkN hp.out hbk])
        clear hbk
        go_wp2
        go_ret
        exact ⟨ret_int hE.out.symm, x.step y, rfl⟩
    · have hE := Lib.hid (show nextI w h d g = -1 by rw [nextI, nextB_none fun j hj => hp.out j (by rw [HN2.out] at hj; omega)])
      go_wp2
      go_ret
      exact ⟨ret_int hE.out.symm, x, rfl⟩
end Go.Proofs.Ytbjmfhlkmklmmaa

/-  The places that burn, by the program. -/
namespace Go.Proofs.Ytbjmfhlkmklmmaa
open Go.RowKit Go.Shelf

theorem nextB_get {w h : Nat} {d gone : List Int} {k : Nat} (hn : nextB w h d gone = some k) : k < w * h ∧ burns w h d gone k = true ∧ ∀ j, j < k → burns w h d gone j = false := by
  rw [nextB, List.find?_eq_some_iff_getElem] at hn
  obtain ⟨h1, i, hi, h2, h3⟩ := hn
  simp only [List.length_range] at hi
  rw [List.getElem_range] at h2
  subst h2
  exact ⟨hi, h1, fun j hj => by have := h3 j hj; simpa using this⟩
theorem Burnt.to {w h : Nat} {d gone out : List Int} (hb : Burnt w h d gone out 0) : ∀ k, (∀ j, j < k → burns w h d gone j = false) → Burnt w h d gone out k := fun _ hk => ⟨hb.fire, hb.rest, hk⟩
set_option maxRecDepth 100000 in
set_option maxHeartbeats 4000000 in
theorem burn_calls (b w h : Nat) (cd : Nat) (ad : Option Addr) (d now bl : List Int) (hs : sized w h) (W : World) (hb : Blk W b w h (.slice ad d.length cd) now bl) (hd : Ints W (.slice ad d.length cd) d) (hdl : d.length = w * h) :
    Calls Try.prog 71 #[.pointer (some ⟨b, 0, none⟩)] W (GivesM (burnL w h d) W) := by
  have h36 : w * h ≤ 36 := Nat.mul_le_mul hs.2.1 hs.2.2.2
  have h1w : 1 ≤ w * h := Nat.mul_le_mul hs.1 hs.2.2.1
  obtain ⟨N, hN⟩ : ∃ N, w * h = N := ⟨_, rfl⟩
  have HN := Lib.hid hN
  rw [hN] at h36 h1w
  have hmk : ∀ (w' : World), (Instr.makeSlice 38 (.int .i64 (N : Int)) (.int .i64 (N : Int))).run Try.prog w' = .ok (.slice (some ⟨w'.heap.size, 0, none⟩) N N) (w'.alloc (.cells (madeCells #[.int .i64 0] N) 3)) :=
    fun w' => run_make_row' _ _ _ 8 Try.underlying38 (by kernel_rfl) rfl _ _ _ (by omega) (by omega) w'
  have emul : IntKind.i64.wrap ((w : Int) * (h : Int)) = (N : Int) := by
    rw [show (w : Int) * (h : Int) = ((w * h : Nat) : Int) from (Int.natCast_mul _ _).symm, hN]; exact IntWalk.i64_in _ (by omega)
  clear hN
  go_enter Try.func71, Try.ntmps71
  go_wp2_with fail
  obtain ⟨P, hP⟩ : ∃ P, P = W.heap.size := ⟨_, rfl⟩
  obtain ⟨z, hz⟩ : ∃ z : Later W, z.w = W.alloc (.cells #[.pointer (some ⟨b, 0, none⟩)] 69) := ⟨Later.new _ _, rfl⟩
  have bP : Boxed z.w P 69 (.pointer (some ⟨b, 0, none⟩)) := by rw [hz, hP]; exact Boxed.new _ _ _
  have hbz := hb.later z
  have hWP : W.heap.size ≤ P := by omega
  rw [← hP]
  rw [← hz]
  have HP := Lib.hid hP
  clear hz hP
  have c1 := bP.cell
  have l1 := bP.lt
  have c2 := hbz.cellW
  have c3 := hbz.cellH
  have l2 := hbz.lt
  go_step3
  go_wp2
  refine Mix.region_mixL (Mix.kinds [12] [11] [13]) (by kernel_rfl) (by kernel_rfl) ?_
  repeat ((with_reducible refine Mix.atCons ?_); first | refine Mix.skipU (by rfl) rfl (by rfl) ?_ | (refine Mix.val rfl rfl (by rfl) (fun K hK => ?_); go_big_quiet_op; refine hK _ ?_; clear hK K))
  refine Mix.loud rfl (by rfl) (fun x1 K hK => ?_)
  go_wp2_with fail
  refine hK _ (Later.new _ _) ?_
  clear hK K
  refine Mix.new rfl (by rfl) (fun b => .pointer (some ⟨b, 0, none⟩)) (.cells #[.slice none 0 0] 38) (fun w => by simp [go_sem]) (fun Q x2 hQ hxQ => ?_)
  have hG0 : IntsM W.heap.size (x1.w.alloc (.cells (madeCells #[.int .i64 0] N) 3)) (.slice (some ⟨x1.w.heap.size, 0, none⟩) N N) (List.replicate N 0) := by
    have h1 := World.ownsRow_lit (base := W.heap.size) (e := 3) (size := 1) x1.w (madeCells #[.int .i64 0] N) N (Nat.le_trans z.size x1.size) (by simp only [maxLen]; omega) (by simp [madeCells])
    rw [toList_madeCells_one] at h1
    show World.ownsRow _ _ _ _ _ _ _
    simpa using h1
  have gG := World.alloc_heap_new x1.w (.cells (madeCells #[.int .i64 0] N) 3)
  obtain ⟨G, hG⟩ : ∃ G, G = x1.w.heap.size := ⟨_, rfl⟩
  rw [← hG] at hG0 gG ⊢
  have hGW : W.heap.size ≤ G := by rw [hG]; exact Nat.le_trans z.size x1.size
  have hGP : P < G := by rw [hG]; exact Nat.lt_of_lt_of_le bP.lt x1.size
  have hQG : Q ≠ G := fun e => by
    rw [e, (x2.le.block G (Array.getElem?_eq_some_iff.1 gG).1).trans gG] at hxQ
    cases N with
    | zero => omega
    | succ n => injection hxQ with e1; injection e1 with e2 e3; cases e3
  have hQP : P < Q := Nat.lt_of_lt_of_le bP.lt hQ
  have hWQ : W.heap.size ≤ Q := by omega
  clear hG
  refine Mix.last rfl (by rfl) (fun x3 K hK => ?_)
  have bQ3 : Boxed x3.w Q 38 (.slice none 0 0) := (x3.le.block Q (Array.getElem?_eq_some_iff.1 hxQ).1).trans hxQ
  have hB3 : Below W.heap.size W x3.w := (((z.step x1).step (Later.new _ _)).step (x2.step x3)).le
  have bP3 : Boxed x3.w P 69 (.pointer (some ⟨b, 0, none⟩)) := bP.kept ((x1.step (Later.new _ _)).step (x2.step x3)).grown (by simp)
  have hG3 := hG0.later (x2.step x3)
  rw [Later.step_w] at hG3
  have d1 := bQ3.cell
  have d2 := bQ3.frozen
  have bQ4 := bQ3.set (.slice (some ⟨G, 0, none⟩) N N)
  have bP4 := bP3.kept (grownBy_setCell' x3.w Q (.slice (some ⟨G, 0, none⟩) N N)) (fun e => by cases e; omega)
  have hG4 := hG3.kept (grownBy_setCell' x3.w Q (.slice (some ⟨G, 0, none⟩) N N)) (.inr (fun e => by simp only [Value.ownBlock, Option.some.injEq] at e; omega))
  have hB4 := hB3.setCell (p := ⟨Q, 0, none⟩) hWQ (.slice (some ⟨G, 0, none⟩) N N)
  clear bQ3 bP3 hG3 hB3 hG0 gG
  go_wp2_with fail
  refine Mix.done (fun y => ?_)
  obtain ⟨V, hV⟩ : ∃ V : Later W, V.w = y.w := ⟨⟨y.w, hB4.trans (y.le.mono hB4.size)⟩, rfl⟩
  replace bQ4 : Boxed V.w Q 38 (.slice (some ⟨G, 0, none⟩) N N) := by rw [hV]; exact bQ4.kept y.grown (by simp)
  replace bP4 : Boxed V.w P 69 (.pointer (some ⟨b, 0, none⟩)) := by rw [hV]; exact bP4.kept y.grown (by simp)
  replace hG4 : IntsM W.heap.size V.w (.slice (some ⟨G, 0, none⟩) N N) (List.replicate N 0) := by rw [hV]; exact hG4.later y
  rw [← hV]
  clear hV hB4 d1 d2 hxQ hQ y
  go_wp2
  go_step3
  go_wp2
  have HF := Lib.hid (fun (X : Later W) (g : List Int) (hP : X.w.cell? ⟨P, 0, none⟩ = some (.pointer (some ⟨b, 0, none⟩))) (hQ : X.w.cell? ⟨Q, 0, none⟩ = some (.slice (some ⟨G, 0, none⟩) g.length N)) (hgl : g.length = w * h) (hgN : g.length ≤ N) (hg : ∀ k, k < g.length → X.w.cell? ⟨G, k, none⟩ = some (.int .i64 (nth g k))) (hbit : ∀ k, k < w * h → ofL g k = 0 ∨ ofL g k = 1) => first_calls P Q b w h cd ad d now bl g G N hs X.w (hb.later X) (hd.later X) hdl hP hQ hgl hgN hg hbit)
  clear bP hbz c1 l1 c2 c3 l2 hmk emul hb hd
  go_loopw [4] (fun o wr => ∃ (g O : List Int) (x : Later W) (a : Option Addr) (n c : Nat), wr = x.w ∧ o = .slice a n c ∧ IntsM W.heap.size x.w (.slice a n c) O ∧ (Value.slice a n c).ownBlock ≠ some G ∧ IntsM W.heap.size x.w (.slice (some ⟨G, 0, none⟩) N N) g ∧ Boxed x.w P 69 (.pointer (some ⟨b, 0, none⟩)) ∧ Boxed x.w Q 38 (.slice (some ⟨G, 0, none⟩) N N) ∧ Hid (Burnt w h d g O 0) ∧ n = O.length) (fun o _ => N - (match o with | .slice _ n _ => n | _ => 0))
  case atStart => exact ⟨_, [], V, none, 0, 0, rfl, rfl, IntsM.nil _ _, by simp [Value.ownBlock], hG4, bP4, bQ4, by rw [← HN.out]; exact Burnt.start w h d, rfl⟩
  case round =>
    obtain ⟨g, O, x, a, n, c, rfl, rfl, hO, hne, hGs, bP, bQ, hI, hn⟩ := hrel
    clear hG4 bP4 bQ4
    have hgl : g.length = N := by rw [hI.out.fire.lenG, HN.out]
    have HGL := Lib.hid hgl
    have hHn := Lib.hid hn
    clear hn
    obtain ⟨bg, og, cg, e, hcg, hbg, hgg⟩ := (hGs.ints (by omega)).at (k := 0) (by omega)
    rw [hgl] at e
    cases e
    have hF := Lib.hid (HF.out x g bP.cell (by rw [hgl]; exact bQ.cell) (by rw [hgl, HN.out]) (by omega) (fun k hk => by have := hgg k hk; rw [Nat.zero_add] at this; exact this) hI.out.fire.bits)
    rw [hgl] at hF
    have c1 := bP.cell
    have l1 := bP.lt
    have c2 := bQ.cell
    have l2 := bQ.lt
    clear hgl hgg hcg
    go_wp2_with fail
    refine hF.out.mono ?_
    rintro e w' ⟨rfl, y, rfl⟩
    clear hF
    cases hnx : nextB w h d g with
    | none =>
      have hE := Lib.hid (((hI.out.to (w * h) fun j hj => by have := List.find?_eq_none.1 hnx j (List.mem_range.2 hj); simpa using this)).done (Nat.le_refl _))
      have hni : nextI w h d g = -1 := by rw [nextI, hnx]
      rw [hni]
      clear hni hnx
      go_wp2
      try rw [Exit.noGoto_ret]
      go_ret
      exact ⟨_, x.step y, rfl, rfl, by rw [hE.out]; exact hO.later y⟩
    | some k =>
      have hget := nextB_get hnx
      have hkN : k < N := by rw [← HN.out]; exact hget.1
      have hni : nextI w h d g = (k : Int) := by rw [nextI, hnx]
      rw [hni]
      have hb1 := Lib.hid ((hI.out.to k hget.2.2).step hs hget.1 hget.2.1)
      have hfull := hI.out.fire.room hget.1 (burns_zero hget.2.1)
      rw [HN.out] at hfull
      clear hni hnx hget
      have hGy := hGs.later y
      obtain ⟨g', e2, hz1, hz2, hgs, hnc, fG, gG, hst, hgr⟩ := hGy.set (k := k) (by rw [HGL.out]; exact hkN) 1
      cases e2
      clear hz1
      have hB3 := (x.step y).le.setCell (p := ⟨G, k, none⟩) hGW (.int .i64 1)
      have hO2 := hO.later y
      have hO3 := hO2.kept hgr (.inr hne)
      have bP3 := (bP.kept y.grown (by simp)).kept hgr (fun e => by cases e; omega)
      have bQ3 := (bQ.kept y.grown (by simp)).kept hgr (fun e => by cases e; omega)
      simp only [Later.step_w] at hB3 hst hgr hO3
      have hsz : (y.w.setCell ⟨G, k, none⟩ (.int .i64 1)).heap.size = y.w.heap.size := by simp
      obtain ⟨v4, q, hrun, hO4, hg4, hne4⟩ := app_int_at hB3 hO3 (k : Int) (by omega) 38 (g := G) (by rw [hsz]; exact hgs) hne
      obtain ⟨a4, n4, c4, rfl⟩ := hO4.form'
      have hst4 := hst.kept hg4 (.inr (fun e => hne e.symm))
      have bP4 := bP3.kept hg4 (bP3.not_row (by decide) hO3)
      have bQ4 := bQ3.kept hg4 (bQ3.not_row (by decide) hO3)
      rw [hsz] at hrun
      have HR := Lib.hid hrun
      have hn4 : n4 = (O ++ [(k : Int)]).length := by obtain ⟨a9, c9, e9⟩ := hO4.form; cases e9; rfl
      have hlen := Lib.hid (show N - n4 < N - n by rw [hn4, hHn.out, List.length_append, List.length_singleton]; omega)
      have hHn4 := Lib.hid hn4
      have c3 := (y.cell l2).trans c2
      have l3 := Nat.lt_of_lt_of_le l2 y.size
      have c4' : (y.w.setCell ⟨G, k, none⟩ (.int .i64 1)).heap.size = y.w.heap.size := hsz
      clear hrun hO2 hO3 hg4 hfull hgr bP3 bQ3 hsz hn4 c1 l1 c2 l2 bP bQ
      go_wp2_with (at_builtin; (with_reducible show wpList _ _ _ (⟨some 29, _, _, _, _, _⟩ :: _) _ _); refine Lib.wpList_append_run_sl _ rfl _ _ 38 rfl _ _ rfl rfl HR.out ?_)
      go_roundw
      case rel => exact ⟨_, _, q, _, _, _, rfl, rfl, hO4, hne4, hst4, bP4, bQ4, hb1.out, hHn4.out⟩
      case measure => exact hlen.out

end Go.Proofs.Ytbjmfhlkmklmmaa

/-  burnt, Burn and Back of the program. -/
namespace Go.Proofs.Ytbjmfhlkmklmmaa
open Go.RowKit

theorem copy_ints (w : World) (g : Nat) (l : List Int) (a : Option Addr) (n c : Nat) (ty : TypeId) (hn : n = l.length) (hg : w.heap[g]? = some (.cells (madeCells #[.int .i64 0] n) 3)) (hl : Ints w (.slice a n c) l) :
    ∃ V : World, (Builtin.copy_ #[38, 38] ty #[.slice (some ⟨g, 0, none⟩) n n, .slice a n c]).run Try.prog w = .ok (goInt n) V ∧ Below g w V ∧ Ints V (.slice (some ⟨g, 0, none⟩) n n) l := by
  subst hn
  by_cases h0 : l.length = 0
  · refine ⟨w, ?_, Below.refl _ _, ?_⟩
    · rw [h0]; exact run_copy_none (P := Try.prog) w _ _ ty 3 _ _ 0 0 0 _ Try.underlying38 (by kernel_rfl) rfl
    · have : l = [] := List.eq_nil_of_length_eq_zero h0
      subst this
      exact Ints.nil _ _
  · obtain ⟨bl, ol, cl, e, hcl, hbl, hgl⟩ := hl.at (k := 0) (by omega)
    cases e
    have hsz : (madeCells #[Value.int .i64 0] l.length).size = l.length := by simp [madeCells]
    have hr := run_copy_row (P := Try.prog) w 38 38 ty 3 g 0 l.length l.length ⟨bl, ol, none⟩ l.length c _ _ (l.map (Value.int .i64)) Try.underlying38 (by kernel_rfl) hg (by rw [List.length_map]; exact (Nat.min_self _).symm)
      (fun j v hj => by
        rw [List.getElem?_map] at hj
        obtain ⟨y, hy, rfl⟩ := Option.map_eq_some_iff.1 hj
        have hjl := (List.getElem?_eq_some_iff.1 hy).1
        have := hgl j hjl
        rw [nth_eq hjl, (List.getElem?_eq_some_iff.1 hy).2] at this
        rw [Addr.add_lit]
        exact this) (by rw [hsz, List.length_map]; omega) (fun v hv => by obtain ⟨y, _, rfl⟩ := List.mem_map.1 hv; rfl)
    rw [List.length_map, List.take_zero, List.nil_append, Nat.zero_add, List.drop_of_length_le (by rw [Array.length_toList, hsz]; exact Nat.le_refl _), List.append_nil] at hr
    have hh := setRow_heap w g _ (l.map (Value.int .i64)).toArray 3 (0, 0) hg
    refine ⟨_, hr, ⟨rfl, rfl, rfl, by simp [World.setRow], fun k hk => setRow_other w g k _ (by omega)⟩, hl.1, .inr ⟨g, 0, l.length, rfl, Nat.le_refl _, (Array.getElem?_eq_some_iff.1 hh).1, fun k hk => ?_⟩⟩
    simp only [World.cell?, hh, Nat.zero_add]
    simp [nth_eq hk, hk]
set_option maxRecDepth 100000 in
set_option maxHeartbeats 2000000 in
theorem burnt_calls (w h : Int) (dv : Value) (d : List Int) (W : World) (hd : Ints W dv d) :
    Calls Try.prog 61 #[.agg #[.int .i64 w, .int .i64 h, dv]] W (GivesLE (burnK w h d) (burnE w h d) W) := by

  have hdl := hd.1
  obtain ⟨a, c, rfl⟩ := hd.form
  go_enter Try.func61, Try.ntmps61
  go_wp2_with fail
  obtain ⟨B, hB⟩ : ∃ B, B = W.heap.size := ⟨_, rfl⟩
  obtain ⟨z, hz⟩ : ∃ z : Later W, z.w = W.alloc (.cells #[.int .i64 w, .int .i64 h, .slice a d.length c] 24) := ⟨Later.new _ _, rfl⟩
  have c0 : z.w.cell? ⟨B, 0, none⟩ = some (.int .i64 w) := by rw [hz, hB]; simp [go_sem]
  have c1 : z.w.cell? ⟨B, 1, none⟩ = some (.int .i64 h) := by rw [hz, hB]; simp [go_sem]
  have c2 : z.w.cell? ⟨B, 2, none⟩ = some (.slice a d.length c) := by rw [hz, hB]; simp [go_sem]
  have hBz : B < z.w.heap.size := by rw [hz, hB]; simp [go_sem]
  have HZ : Hid (z.w.heap.size = B + 1) := Lib.hid (by rw [hz, hB]; simp)
  rw [← hz, ← hB]
  replace hd := hd.later z
  clear hz hB
  refine (open_calls w h _ d _ hd).mono ?_
  rintro e w' ⟨v, x, rfl, rfl, hif⟩
  have gB0 : x.w.cell? ⟨B, 0, none⟩ = some (.int .i64 w) := ((x).cell hBz).trans c0
  have gB1 : x.w.cell? ⟨B, 1, none⟩ = some (.int .i64 h) := ((x).cell hBz).trans c1
  have gB2 : x.w.cell? ⟨B, 2, none⟩ = some (.slice a d.length c) := ((x).cell hBz).trans c2
  have sB : B < x.w.heap.size := Nat.lt_of_lt_of_le hBz (x).size
  by_cases hv : vplate w h d = 0
  rotate_left
  · have hE := Lib.hid (show burnE w h d = vplate w h d by rw [burnE, if_pos hv])
    have hL := Lib.hid (show burnK w h d = [] by rw [burnK, if_neg (by rw [hE.out]; exact hv)])
    rw [if_neg hv] at hif
    subst hif
    have hb2 : (vplate w h d != 0) = true := by simpa using hv
    go_wp2
    
    go_ret2
    exact ⟨.slice none 0 0, z.step x, ret_le hE.out.symm, rfl, by rw [hL.out]; exact Ints.nil _ _⟩
  · have HV := Lib.hid hv
    rw [if_pos hv] at hif
    obtain ⟨b, rfl, hbz, hbk⟩ := hif
    obtain ⟨wn, hn, rfl, rfl, hs, hl, hlo⟩ := vplate_zero hv
    have hlow := vplate_low hl hlo
    have HL := Lib.hid hl
    have h36 : wn * hn ≤ 36 := Nat.mul_le_mul hs.2.1 hs.2.2.2
    have h1w : 1 ≤ wn * hn := Nat.mul_le_mul hs.1 hs.2.2.1
    clear hl hlo
    rw [hv]
    have hpos : 0 < d.length := by rw [HL.out]; exact h1w
    have hmx := max_flat hpos
    clear hv
    go_wp2_with fail
    refine (Max_calls _ d _ (hd.later x) hpos).mono ?_
    rintro e w' ⟨rfl, rfl⟩
    obtain ⟨M, hM⟩ : ∃ M, maxK d (d.length - 1) = M := ⟨_, rfl⟩
    rw [hM] at hmx ⊢
    clear hM
    cases hf : flatB d
    · have h3 : 3 < M := of_decide_eq_true (hmx.trans (by rw [hf]; rfl))
      have hE := Lib.hid (show burnE wn hn d = 9 by rw [burnE, if_neg (by rw [HV.out]; simp), if_neg (by rw [hf]; simp)])
      have hL := Lib.hid (show burnK wn hn d = [] by rw [burnK, if_neg (by rw [hE.out]; simp)])
      clear hmx hf
      go_wp2
      go_ret2
      exact ⟨.slice none 0 0, z.step x, ret_le hE.out.symm, rfl, by rw [hL.out]; exact Ints.nil _ _⟩
    · have h3 : ¬ 3 < M := of_decide_eq_false (hmx.trans (by rw [hf]; rfl))
      have hE := Lib.hid (show burnE wn hn d = 0 by rw [burnE, if_neg (by rw [HV.out]; simp), if_pos hf])
      have hL := Lib.hid (show burnK wn hn d = burnL wn hn d by rw [burnK, if_pos hE.out, Int.toNat_natCast, Int.toNat_natCast])
      clear hmx hf
      have hF := Lib.hid (burn_calls b wn hn c a d _ _ hs x.w hbk (hd.later x) HL.out)
      go_wp2_with fail
      refine hF.out.mono ?_
      rintro e w' ⟨lv, y, rfl, rfl, hR⟩
      obtain ⟨al, nl, cl, rfl⟩ := hR.form'
      clear hF
      go_wp2
      go_ret2
      refine ⟨_, (z.step x).step y, ret_le hE.out.symm, rfl, ?_⟩
      rw [hL.out]
      exact hR.ints (Nat.le_trans (burnL_len hs d) (by omega))

set_option maxRecDepth 100000 in
set_option maxHeartbeats 2000000 in
theorem Burn_calls (w h : Int) (dv : Value) (d : List Int) (W : World) (hd : Ints W dv d) :
    Calls Try.prog 31 #[.agg #[.int .i64 w, .int .i64 h, dv]] W (GivesLE (burnK w h d) (burnE w h d) W) := by
  have hdl := hd.1
  obtain ⟨a, c, rfl⟩ := hd.form
  go_enter Try.func31, Try.ntmps31
  go_wp2_with fail
  obtain ⟨B, hB⟩ : ∃ B, B = W.heap.size := ⟨_, rfl⟩
  obtain ⟨z, hz⟩ : ∃ z : Later W, z.w = W.alloc (.cells #[.int .i64 w, .int .i64 h, .slice a d.length c] 24) := ⟨Later.new _ _, rfl⟩
  have c0 : z.w.cell? ⟨B, 0, none⟩ = some (.int .i64 w) := by rw [hz, hB]; simp [go_sem]
  have c1 : z.w.cell? ⟨B, 1, none⟩ = some (.int .i64 h) := by rw [hz, hB]; simp [go_sem]
  have c2 : z.w.cell? ⟨B, 2, none⟩ = some (.slice a d.length c) := by rw [hz, hB]; simp [go_sem]
  have hBz : B < z.w.heap.size := by rw [hz, hB]; simp [go_sem]
  have HZ : Hid (z.w.heap.size = B + 1) := Lib.hid (by rw [hz, hB]; simp)
  rw [← hz, ← hB]
  replace hd := hd.later z
  clear hz hB
  refine (burnt_calls w h _ d _ hd).mono ?_
  rintro e w' ⟨lv, x, rfl, rfl, hX⟩
  obtain ⟨al, cl, rfl⟩ := hX.form
  have gB0 : x.w.cell? ⟨B, 0, none⟩ = some (.int .i64 w) := ((x).cell hBz).trans c0
  have gB1 : x.w.cell? ⟨B, 1, none⟩ = some (.int .i64 h) := ((x).cell hBz).trans c1
  have gB2 : x.w.cell? ⟨B, 2, none⟩ = some (.slice a d.length c) := ((x).cell hBz).trans c2
  have sB : B < x.w.heap.size := Nat.lt_of_lt_of_le hBz (x).size
  have hXl := hX.1
  obtain ⟨E, hE⟩ : ∃ E, burnE w h d = E := ⟨_, rfl⟩
  by_cases h0 : E = 0
  · subst h0
    have hE0 := Lib.hid hE
    have h36 : (burnK w h d).length ≤ 36 := by
      rw [burnK, if_pos hE]
      obtain ⟨wn, hn, rfl, rfl, hs, _, _⟩ := vplate_zero (burnE_zero hE).1
      exact Nat.le_trans (burnL_len hs d) (Nat.mul_le_mul hs.2.1 hs.2.2.2)
    rw [hE]
    obtain ⟨n, hn⟩ : ∃ n, (burnK w h d).length = n := ⟨_, rfl⟩
    rw [hn] at h36 hX ⊢
    have HN := Lib.hid hn
    have hmk : ∀ (w' : World), (Instr.makeSlice 38 (.int .i64 (n : Int)) (.int .i64 (n : Int))).run Try.prog w' = .ok (.slice (some ⟨w'.heap.size, 0, none⟩) n n) (w'.alloc (.cells (madeCells #[.int .i64 0] n) 3)) :=
      fun w' => run_make_row' _ _ _ 8 Try.underlying38 (by kernel_rfl) rfl _ _ _ (by omega) (by omega) w'
    obtain ⟨V, hrun, hB, hV⟩ := copy_ints (x.w.alloc (.cells (madeCells #[.int .i64 0] n) 3)) x.w.heap.size (burnK w h d) al n cl 3 HN.out.symm (World.alloc_heap_new _ _) (hX.later (Later.new _ _))
    have HR := Lib.hid hrun
    clear hE hn hrun hXl
    go_wp2
    rw [HR.out]
    go_wp2
    go_ret2
    exact ⟨_, (z.step x).step ⟨V, (Later.new x.w (.cells (madeCells #[.int .i64 0] n) 3)).le.trans hB⟩, ret_le hE0.out.symm, rfl, hV⟩
  · have h0b : (E != 0) = true := by simpa using h0
    have hL := Lib.hid (show burnK w h d = [] by rw [burnK, if_neg (by rw [hE]; exact h0)])
    have hE0 := Lib.hid hE
    rw [hE]
    clear hE
    go_wp2
    go_ret2
    exact ⟨.slice none 0 0, z.step x, ret_le hE0.out.symm, rfl, by rw [hL.out]; exact Ints.nil _ _⟩

set_option maxRecDepth 100000 in
set_option maxHeartbeats 2000000 in
theorem Back_calls (w h : Int) (dv : Value) (d : List Int) (W : World) (hd : Ints W dv d) :
    Calls Try.prog 33 #[.agg #[.int .i64 w, .int .i64 h, dv]] W (Gives (.tuple #[.bool (backB w h d), .int .i64 (burnE w h d)]) W) := by
  have hdl := hd.1
  obtain ⟨a, c, rfl⟩ := hd.form
  go_enter Try.func33, Try.ntmps33
  go_wp2_with fail
  obtain ⟨B, hB⟩ : ∃ B, B = W.heap.size := ⟨_, rfl⟩
  obtain ⟨z, hz⟩ : ∃ z : Later W, z.w = W.alloc (.cells #[.int .i64 w, .int .i64 h, .slice a d.length c] 24) := ⟨Later.new _ _, rfl⟩
  have c0 : z.w.cell? ⟨B, 0, none⟩ = some (.int .i64 w) := by rw [hz, hB]; simp [go_sem]
  have c1 : z.w.cell? ⟨B, 1, none⟩ = some (.int .i64 h) := by rw [hz, hB]; simp [go_sem]
  have c2 : z.w.cell? ⟨B, 2, none⟩ = some (.slice a d.length c) := by rw [hz, hB]; simp [go_sem]
  have hBz : B < z.w.heap.size := by rw [hz, hB]; simp [go_sem]
  have HZ : Hid (z.w.heap.size = B + 1) := Lib.hid (by rw [hz, hB]; simp)
  rw [← hz, ← hB]
  replace hd := hd.later z
  clear hz hB
  refine (burnt_calls w h _ d _ hd).mono ?_
  rintro e w' ⟨lv, x, rfl, rfl, hX⟩
  obtain ⟨al, cl, rfl⟩ := hX.form
  have gB0 : x.w.cell? ⟨B, 0, none⟩ = some (.int .i64 w) := ((x).cell hBz).trans c0
  have gB1 : x.w.cell? ⟨B, 1, none⟩ = some (.int .i64 h) := ((x).cell hBz).trans c1
  have gB2 : x.w.cell? ⟨B, 2, none⟩ = some (.slice a d.length c) := ((x).cell hBz).trans c2
  have sB : B < x.w.heap.size := Nat.lt_of_lt_of_le hBz (x).size
  have hXl := hX.1
  obtain ⟨E, hE⟩ : ∃ E, burnE w h d = E := ⟨_, rfl⟩
  obtain ⟨n, hn⟩ : ∃ n, (burnK w h d).length = n := ⟨_, rfl⟩
  have hB := Lib.hid (show backB w h d = (E == 0 && n == d.length) by rw [backB, hE, hn])
  rw [hE, hn]
  by_cases h0 : E = 0
  · by_cases h1 : n = d.length
    · subst h0 h1
      go_wp2
      go_ret2
      exact ⟨by rw [hB.out, hE]; simp, z.step x, rfl⟩
    · subst h0
      have h1b : (n == d.length) = false := by simpa using h1
      go_wp2
      go_ret2
      exact ⟨by rw [hB.out, hE]; simp; rw [h1b]; exact beq_false_of_ne (by omega), z.step x, rfl⟩
  · have h0b : (E == 0) = false := by simpa using h0
    go_wp2
    go_ret2
    exact ⟨by rw [hB.out, hE]; simp [h0], z.step x, rfl⟩

end Go.Proofs.Ytbjmfhlkmklmmaa
