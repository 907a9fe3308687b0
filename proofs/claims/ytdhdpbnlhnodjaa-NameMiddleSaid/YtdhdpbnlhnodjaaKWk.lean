import Derived.Test.YtdhdpbnlhnodjaaKAny
/-  Lists of pairs that a call makes by append. -/
namespace Go.Proofs.Ytdhdpbnlhnodjaa
open Go.RowKit Go.Shelf

def flatP (ps : List (Int × Int)) : List Value := ps.flatMap fun m => [.int .i64 m.1, .int .i64 m.2]
theorem flatP_len (ps : List (Int × Int)) : (flatP ps).length = ps.length * 2 := by
  induction ps with
  | nil => rfl
  | cons m ps ih => rw [flatP, List.flatMap_cons, List.length_append, ← flatP, ih]; simp; omega
theorem flatP_app (ps qs : List (Int × Int)) : flatP (ps ++ qs) = flatP ps ++ flatP qs := by simp [flatP]
theorem flatP_get : ∀ (ps : List (Int × Int)) (k : Nat), k < ps.length → (flatP ps)[k * 2]? = some (.int .i64 (pr ps k).1) ∧ (flatP ps)[k * 2 + 1]? = some (.int .i64 (pr ps k).2)
  | [], k, h => absurd h (by simp)
  | m :: ps, 0, _ => by simp [flatP, pr]
  | m :: ps, k + 1, h => by
    have ih := flatP_get ps k (by simpa using h)
    have e : flatP (m :: ps) = [Value.int .i64 m.1, .int .i64 m.2] ++ flatP ps := rfl
    rw [e, show (k + 1) * 2 = k * 2 + 2 by omega, show k * 2 + 2 + 1 = (k * 2 + 1) + 2 by omega, List.getElem?_append_right (by simp), List.getElem?_append_right (by simp)]
    exact ih
theorem flatP_at {ps : List (Int × Int)} {j : Nat} {u : Value} (h : (flatP ps)[j]? = some u) : ∃ k, k < ps.length ∧ ((j = k * 2 ∧ u = .int .i64 (pr ps k).1) ∨ (j = k * 2 + 1 ∧ u = .int .i64 (pr ps k).2)) := by
  have hj := (List.getElem?_eq_some_iff.1 h).1
  rw [flatP_len] at hj
  have hk : j / 2 < ps.length := by omega
  obtain ⟨h1, h2⟩ := flatP_get ps (j / 2) hk
  rcases Nat.mod_two_eq_zero_or_one j with e | e
  · rw [show j / 2 * 2 = j by omega, h] at h1
    exact ⟨_, hk, .inl ⟨by omega, Option.some.inj h1⟩⟩
  · rw [show j / 2 * 2 + 1 = j by omega, h] at h2
    exact ⟨_, hk, .inr ⟨by omega, Option.some.inj h2⟩⟩
theorem flatP_one (ps : List (Int × Int)) : ∀ u ∈ flatP ps, u.oneCell' = true := fun u hu => by
  obtain ⟨j, hj, e⟩ := List.mem_iff_getElem.1 hu
  obtain ⟨k, _, (⟨_, rfl⟩ | ⟨_, rfl⟩)⟩ := flatP_at (List.getElem?_eq_some_iff.2 ⟨hj, e⟩) <;> rfl
theorem info_pair : ∃ i : TypeInfo, Try.prog.info? 55 = some i ∧ i.zero = some (.agg #[.int .i64 0, .int .i64 0]) ∧ i.size = 2 ∧ i.bytes = 16 := by
  have h : (Try.prog.info? 55).map (fun i => (i.zero, i.size, i.bytes)) = some (some (.agg #[.int .i64 0, .int .i64 0]), 2, 16) := by kernel_rfl
  obtain ⟨i, hi, hz⟩ := Option.map_eq_some_iff.1 h
  simp only [Prod.mk.injEq] at hz
  exact ⟨i, hi, hz.1, hz.2.1, hz.2.2⟩
/-- a slice of pairs of one's own -/
def PrsM (lo : Nat) (w : World) (v : Value) (ps : List (Int × Int)) : Prop := w.ownsRow lo 55 2 v ps.length (flatP ps)
theorem PrsM.nil (lo : Nat) (w : World) : PrsM lo w (.slice none 0 0) [] := World.ownsRow_nil _ _ _ _
theorem PrsM.form {lo : Nat} {w : World} {v : Value} {ps : List (Int × Int)} (h : PrsM lo w v ps) : ∃ a c, v = .slice a ps.length c := by
  obtain ⟨_, ⟨rfl, h0⟩ | ⟨g, cap, cur, rfl, _⟩⟩ := h
  · rw [h0]; exact ⟨_, _, rfl⟩
  · exact ⟨_, _, rfl⟩
theorem PrsM.form' {lo : Nat} {w : World} {v : Value} {ps : List (Int × Int)} (h : PrsM lo w v ps) : ∃ a n c, v = .slice a n c := by
  obtain ⟨a, c, e⟩ := h.form; exact ⟨a, _, c, e⟩
theorem PrsM.cap {lo : Nat} {w : World} {a : Option Addr} {n c : Nat} {ps : List (Int × Int)} (h : PrsM lo w (.slice a n c) ps) : ps.length ≤ c := by
  obtain ⟨_, ⟨e, h0⟩ | ⟨g, cap, cur, e, _, _, hn, _⟩⟩ := h
  · rw [h0]; exact Nat.zero_le _
  · cases e; exact hn
theorem PrsM.prs {lo : Nat} {w : World} {v : Value} {ps : List (Int × Int)} (h : PrsM lo w v ps) (hl : ps.length ≤ 9007199254740992) : Prs w v ps := by
  obtain ⟨h1, ⟨rfl, h0⟩ | ⟨g, cap, cur, rfl, _, hg, hnc, hcm, hcs, htk⟩⟩ := h
  · have : ps = [] := List.eq_nil_of_length_eq_zero h0
    subst this
    exact Prs.nil none 0
  · refine ⟨hl, .inr ⟨g, 0, cap, rfl, hnc, (Array.getElem?_eq_some_iff.1 hg).1, fun k hk => ?_⟩⟩
    have key : ∀ j u, (flatP ps)[j]? = some u → j < ps.length * 2 → w.cell? ⟨g, 0 + j, none⟩ = some u := fun j u hj hlt => by
      rw [← htk, List.getElem?_take, if_pos hlt] at hj
      simp only [World.cell?, hg, Nat.zero_add]
      simpa using hj
    obtain ⟨h2, h3⟩ := flatP_get ps k hk
    exact ⟨key _ _ h2 (by omega), by rw [Nat.add_assoc]; exact key _ _ h3 (by omega)⟩
theorem PrsM.kept {lo : Nat} {w w' : World} {v : Value} {ps : List (Int × Int)} (h : PrsM lo w v ps) {r : Option Nat} (hg : w.grownBy w' r) (hne : v.ownBlock = none ∨ v.ownBlock ≠ r) : PrsM lo w' v ps := World.ownsRow.kept h hg hne
theorem PrsM.later {lo : Nat} {w : World} {v : Value} {ps : List (Int × Int)} (h : PrsM lo w v ps) (x : Later w) : PrsM lo x.w v ps :=
  h.kept (r := none) x.grown (by cases hv : v.ownBlock <;> simp)
theorem PrsM.mono {lo lo' : Nat} {w : World} {v : Value} {ps : List (Int × Int)} (h : PrsM lo w v ps) (hl : lo' ≤ lo) : PrsM lo' w v ps := by
  obtain ⟨h1, h2⟩ := h
  refine ⟨h1, h2.imp id ?_⟩
  rintro ⟨g, cap, cur, hv, hg, r⟩
  exact ⟨g, cap, cur, hv, by omega, r⟩
theorem PrsM.below {lo : Nat} {w w' : World} {v : Value} {ps : List (Int × Int)} (h : PrsM lo w v ps) (hg : w.grownBy w' v.ownBlock) (hlo : lo ≤ w.heap.size) : Below lo w w' :=
  (Below.refl lo w).grown hg hlo fun k hk => (World.ownsRow.lt h k hk).1
theorem PrsM.empty (w : World) {lo b : Nat} (hb : b = w.heap.size) (hlo : lo ≤ w.heap.size) : PrsM lo (w.alloc (.cells #[] 55)) (.slice (some ⟨b, 0, none⟩) 0 0) [] := by
  subst hb; exact World.ownsRow_made w #[] 0 hlo (by simp [maxLen]) rfl
theorem PrsM.lit (w : World) {lo b : Nat} (ps : List (Int × Int)) {arr : Array Value} {n : Nat} (hb : b = w.heap.size) (hlo : lo ≤ w.heap.size) (hn : n = ps.length) (ha : arr = (flatP ps).toArray) (hl : ps.length ≤ 1000) : PrsM lo (w.alloc (.cells arr 55)) (.slice (some ⟨b, 0, none⟩) n n) ps := by
  subst hb hn ha
  refine ⟨flatP_len ps, .inr ⟨w.heap.size, ps.length, _, rfl, hlo, World.alloc_heap_new _ _, Nat.le_refl _, by simp only [maxLen]; omega, by simp [flatP_len], ?_⟩⟩
  rw [List.take_of_length_le (by simp [flatP_len])]
theorem src_prs {w : World} {x : Value} {ys : List (Int × Int)} (hx : Prs w x ys) (i : TypeInfo) (hsz : i.size = 2) : Src Try.prog i.size 22 x ys.length (flatP ys) w := by
  obtain ⟨_, ⟨rfl, a, cap, rfl⟩ | ⟨b, off, cap, rfl, hcp, hlt, hc⟩⟩ := hx
  · cases a with
    | none => exact Src.ofNil w (e' := 55) Try.underlying22 cap
    | some ad => exact Src.ofSlice w (e' := 55) Try.underlying22 ad 0 cap [] (by simp) (by simp) (by simp)
  · refine Src.ofSlice w (e' := 55) Try.underlying22 ⟨b, off, none⟩ ys.length cap (flatP ys) (by rw [hsz, flatP_len]) (fun j u hj => ?_) (flatP_one ys)
    obtain ⟨k, hk, (⟨rfl, rfl⟩ | ⟨rfl, rfl⟩)⟩ := flatP_at hj
    · rw [Addr.add_lit]; exact (hc k hk).1
    · rw [Addr.add_lit, show off + (k * 2 + 1) = off + k * 2 + 1 by omega]; exact (hc k hk).2
/-- append(v, x...) -/
theorem run_app_prs (w : World) (lo : Nat) (v x : Value) (ps qs : List (Int × Int)) (hv : PrsM lo w v ps) (hx : Prs w x qs) (hlo : lo ≤ w.heap.size) (hbig : ps.length + qs.length ≤ 1000000000000) (ty : TypeId) :
    ∃ v' w', (Builtin.append_ #[22, 22] ty #[v, x]).run Try.prog w = .ok v' w' ∧ PrsM lo w' v' (ps ++ qs) ∧ w.grownBy w' v.ownBlock := by
  obtain ⟨i, hi, hz, hsz, hby⟩ := info_pair
  have hs := src_prs hx i hsz
  by_cases hy : qs = []
  · subst hy
    obtain ⟨a, c, rfl⟩ := hv.form
    refine ⟨_, w, run_append_nothing w _ _ ty _ i Try.underlying22 hi a ps.length c hv.cap _ hs, ?_, ⟨rfl, rfl, rfl, Nat.le_refl _, fun _ _ _ => rfl⟩⟩
    rw [List.append_nil]; exact hv
  · obtain ⟨b, off, cap, rfl, hcp, hlt, hc⟩ := hx.at (k := 0) (by cases qs with | nil => exact absurd rfl hy | cons _ _ => simp)
    obtain ⟨v', w', hrun, hown2, hg2, _⟩ := run_append_own w lo 22 ty 55 i (.agg #[.int .i64 0, .int .i64 0]) 2 16 Try.underlying22 hi hz hsz hby rfl (by decide) v ps.length _ hv ⟨b, off, none⟩ qs.length cap
      (flatP qs) (flatP_len qs) (by
        intro j u hj
        obtain ⟨k, hk, (⟨rfl, rfl⟩ | ⟨rfl, rfl⟩)⟩ := flatP_at hj
        · rw [Addr.add_lit]; exact (hc k hk).1
        · rw [Addr.add_lit, show off + (k * 2 + 1) = off + k * 2 + 1 by omega]; exact (hc k hk).2) (flatP_one qs) (by simp only [maxLen]; omega) (by omega) hlo
    refine ⟨v', w', hrun, ?_, hg2⟩
    rw [← flatP_app, ← List.length_append] at hown2
    exact hown2
theorem app_prs_step {W wr : World} (hB : Below W.heap.size W wr) {v x : Value} {ps qs : List (Int × Int)} (hA : PrsM W.heap.size wr v ps) (hx : Prs wr x qs) (hbig : ps.length + qs.length ≤ 1000000000000) (ty : TypeId) :
    ∃ v', ∃ q : Later W, (Builtin.append_ #[22, 22] ty #[v, x]).run Try.prog wr = .ok v' q.w ∧ PrsM W.heap.size q.w v' (ps ++ qs) ∧ wr.grownBy q.w v.ownBlock := by
  obtain ⟨v', w', h1, h2, h3⟩ := run_app_prs wr W.heap.size v x ps qs hA hx hB.size hbig ty
  exact ⟨v', ⟨w', hB.trans (hA.below h3 hB.size)⟩, h1, h2, h3⟩
theorem app_pair_step {W wr : World} (hB : Below W.heap.size W wr) {v : Value} {ps : List (Int × Int)} (hA : PrsM W.heap.size wr v ps) (a b : Int) (hbig : ps.length + 1 ≤ 1000000000000) (ty : TypeId) :
    ∃ v', ∃ q : Later W, (Builtin.append_ #[22, 22] ty #[v, .slice (some ⟨wr.heap.size, 0, none⟩) 1 1]).run Try.prog (wr.alloc (.cells #[.int .i64 a, .int .i64 b] 55)) = .ok v' q.w ∧ PrsM W.heap.size q.w v' (ps ++ [(a, b)]) ∧ wr.grownBy q.w v.ownBlock := by
  have hA' := hA.later (Later.new wr (.cells #[.int .i64 a, .int .i64 b] 55))
  rw [Later.new_w] at hA'
  have hx := (PrsM.lit wr (lo := wr.heap.size) [(a, b)] (arr := #[.int .i64 a, .int .i64 b]) (n := 1) rfl (Nat.le_refl _) rfl rfl (by simp)).prs (by simp)
  obtain ⟨v', w', h1, h2, h3⟩ := run_app_prs _ W.heap.size v _ ps [(a, b)] hA' hx (by have := hB.size; simp; omega) (by simpa using hbig) ty
  have hb := hA'.below h3 (by have := hB.size; simp; omega)
  exact ⟨v', ⟨w', ((hB.alloc hB.size _).trans hb)⟩, h1, h2, ⟨h3.os, h3.tape, h3.output, Nat.le_trans (by simp) h3.size, fun k hk hne => (h3.block k (by simp; omega) hne).trans (Below.heap_alloc _ _ k hk)⟩⟩
end Go.Proofs.Ytdhdpbnlhnodjaa

/-  The chapter's sheets. -/
namespace Go.Proofs.Ytdhdpbnlhnodjaa
open Go.RowKit
def exS : List (Int × Int) := [(0, 2), (0, 4), (1, 3), (3, 5)]
def SheetR (more : List (Int × Int)) (W : World) (e : Ending) (w' : World) : Prop := ∃ mv, ∃ x : Later W, e = .returned (.agg #[.int .i64 3, mv, .slice none 0 0]) ∧ w' = x.w ∧ Prs x.w mv (exS ++ more)
set_option maxRecDepth 100000 in
set_option maxHeartbeats 2000000 in
theorem Sheet_calls (v : Value) (more : List (Int × Int)) (hl : more.length ≤ 1000) (W : World) (hx : Prs W v more) : Calls Try.prog 50 #[v] W (SheetR more W) := by
  obtain ⟨av, lv, cv, rfl⟩ : ∃ a n c, v = .slice a n c := by obtain ⟨a, c, e⟩ := hx.form; exact ⟨a, _, c, e⟩
  have hA := PrsM.lit (W.alloc (.cells #[.int .i64 0, .slice none 0 0, .slice none 0 0] 25)) (lo := (W.alloc (.cells #[.int .i64 0, .slice none 0 0, .slice none 0 0] 25)).heap.size) exS (arr := #[.int .i64 0, .int .i64 2, .int .i64 0, .int .i64 4, .int .i64 1, .int .i64 3, .int .i64 3, .int .i64 5]) (n := 4) rfl (Nat.le_refl _) rfl rfl (by decide)
  obtain ⟨v', q, hr, hP, -⟩ := app_prs_step (W := W.alloc (.cells #[.int .i64 0, .slice none 0 0, .slice none 0 0] 25)) (Later.new _ _).le hA ((hx.later (Later.new W _)).later (Later.new _ _)) (by show 4 + _ ≤ _; omega) 22
  obtain ⟨a', n', c', rfl⟩ := hP.form'
  rw [World.size_alloc] at hr
  have HR := Lib.hid hr
  have HP := Lib.hid hP
  have hc0 : q.w.cell? ⟨W.heap.size, 0, none⟩ = some (.int .i64 0) := by rw [q.cell (by simp)]; simp [go_sem]
  have hc1 : q.w.cell? ⟨W.heap.size, 1, none⟩ = some (.slice none 0 0) := by rw [q.cell (by simp)]; simp [go_sem]
  have hc2 : q.w.cell? ⟨W.heap.size, 2, none⟩ = some (.slice none 0 0) := by rw [q.cell (by simp)]; simp [go_sem]
  have hql : W.heap.size < q.w.heap.size := Nat.lt_of_lt_of_le (by simp) q.size
  have hf : ∀ o, q.w.frozen? ⟨W.heap.size, o, none⟩ = false := fun o => by rw [q.frozen (by simp)]; simp [go_sem]
  clear hA hr hP
  go_enter Try.func50, Try.ntmps50
  go_wp2_with ((with_reducible show wpList _ _ _ (⟨some 9, _, _, _, _, _⟩ :: _) _ _); refine Lib.wpList_append_run_sl _ rfl _ _ 22 rfl _ _ rfl rfl HR.out ?_)
  refine bodyPost_ret (v := .agg #[.int .i64 3, .slice a' n' c', .slice none 0 0]) (by simp [results, Try.results50, go_sem]) rfl ?_
  obtain ⟨Z, hZ⟩ : ∃ Z : Later W, Z.w = ((q.w.setCell ⟨W.heap.size, 0, none⟩ (.int .i64 3)).setCell ⟨W.heap.size, 1, none⟩ (.slice a' n' c')).setCell ⟨W.heap.size, 2, none⟩ (.slice none 0 0) := ⟨⟨_, (((((Later.new W _).step q).le.setCell (p := ⟨W.heap.size, 0, none⟩) (Nat.le_refl _) _).setCell (p := ⟨W.heap.size, 1, none⟩) (Nat.le_refl _) _).setCell (p := ⟨W.heap.size, 2, none⟩) (Nat.le_refl _) _)⟩, rfl⟩
  refine ⟨_, Z, rfl, hZ.symm, ?_⟩
  have hne : (Value.slice a' n' c').ownBlock ≠ some W.heap.size := fun e => by
    have h1 := (World.ownsRow.lt HP.out _ e).1
    rw [World.size_alloc] at h1
    omega
  have h9 := ((HP.out.kept (grownBy_setCell_at q.w W.heap.size 0 (.int .i64 3)) (.inr hne)).kept (grownBy_setCell_at _ W.heap.size 1 (.slice a' n' c')) (.inr hne)).kept (grownBy_setCell_at _ W.heap.size 2 (.slice none 0 0)) (.inr hne)
  rw [hZ]
  exact PrsM.prs h9 (by rw [List.length_append]; show 4 + _ ≤ _; omega)

end Go.Proofs.Ytdhdpbnlhnodjaa

/-  The examples of the chapter: what they come to. -/
namespace Go.Proofs.Ytdhdpbnlhnodjaa
open Go.RowKit
open Sat (brightF cntF)

/-- the brightest names, by a reckoning -/
def brightC (L : Sat.Lay) : Nat → List Nat
  | 0 => []
  | k + 1 => if 0 < cntF L (brightC L k ++ [k]) [] then brightC L k ++ [k] else brightC L k
theorem brightF_C (L : Sat.Lay) : ∀ k, brightF L k = brightC L k
  | 0 => rfl
  | k + 1 => by
    rw [brightF, brightC, ← brightF_C L k]
    have h := Sat.can_cnt (L := L) (N := brightF L k ++ [k]) (bright_nms (Nat.lt_succ_self k)).nodup
    by_cases hc : Sat.Can L (brightF L k ++ [k]) []
    · rw [if_pos hc, if_pos (h.1 hc)]
    · rw [if_neg hc, if_neg fun h2 => hc (h.2 h2)]
def exSn : List (Nat × Nat) := [(0, 2), (0, 4), (1, 3), (3, 5)]
def exXn : List (Nat × Nat) := [(0, 2), (0, 4), (1, 3), (3, 5), (1, 2)]
def exX : List (Int × Int) := exS ++ [(1, 2)]
theorem exS_map : exS = exSn.map prI := by decide
theorem exX_map : exX = exXn.map prI := by decide
theorem ex_shS : Shn 3 exSn [] := ⟨by decide, by decide, by decide, by decide, by decide, by decide, by decide⟩
theorem ex_shX : Shn 3 exXn [] := ⟨by decide, by decide, by decide, by decide, by decide, by decide, by decide⟩
theorem ex_vs : vsheet 3 exS [] = 0 ∧ vsheet 3 exX [] = 0 := by decide +kernel
theorem ex_set1 : settN 3 exS [] [1, -1, 0] = 2 ∧ settE 3 exS [] [1, -1, 0] = 0 ∧ settN 3 exS [] [0, 1, 1] = 0 ∧ settE 3 exS [] [0, 1, 1] = 18 := by decide +kernel
theorem ex_set2 : setVI 3 exS [] [0, 1, 2] = [1, 0, 0] ∧ setEI 3 exS [] [0, 1, 2] = 0 ∧ setVI 3 exX [] [0, 1, 2] = [] ∧ setEI 3 exX [] [0, 1, 2] = 18 := by decide +kernel
theorem ex_cnt : cntVI 3 exS [] [0, 1, 2] = 2 ∧ nameE 3 exS [] [0, 1, 2] = 0 := by decide +kernel
theorem ex_kind : kindNI 3 exS [] [0, 1, 2] 1 = 2 ∧ kindEI 3 exS [] [0, 1, 2] 1 = 0 ∧ kindNI 3 exS [] [0, 1, 2] 6 = 0 ∧ kindEI 3 exS [] [0, 1, 2] 6 = 3 := by decide +kernel
theorem ex_chain : chainEI 3 exX [] [0, 1, 2] [0, 3, 4, 1, 2, 0] = 0 ∧ chainEI 3 exS [] [0, 1, 2] [0, 3, 4, 1, 2, 0] = 14 := by decide +kernel
theorem ex_chn : chnEI 3 exX [] [0, 1, 2] = 0 ∧ chnEI 3 exS [] [0, 1, 2] = 5 := by decide +kernel
theorem ex_brtL : brightF ex_shX.lay 3 = [0, 1] ∧ brightF ex_shX.lay 2 = [0, 1] ∧ brightF ex_shX.lay 1 = [0] := by
  rw [brightF_C, brightF_C, brightF_C]; decide +kernel
theorem ex_brt : brtVI 3 exX [] = [0, 1] := by
  rw [brtVI, if_pos ex_vs.2, exX_map, show ([] : List Int) = ([] : List Nat).map fun (c : Nat) => (c : Int) from rfl, layI_eq ex_shX]
  show natV (brightF ex_shX.lay 3) = _
  rw [ex_brtL.1]; rfl
theorem ex_why2 : whyEI 3 exX [] 2 = 0 ∧ whyVI 3 exX [] 2 = [0, 1, 2] := by
  have h0 : ¬ 2 ∈ brightF ex_shX.lay 3 := by rw [ex_brtL.1]; decide
  have h1 := why_in ex_shX (q := 2) (by decide)
  have h2 := why_val ex_shX (q := 2) (by decide) h0
  rw [if_neg h0] at h1
  rw [ex_brtL.2.1] at h2
  rw [exX_map]
  exact ⟨h1, h2⟩
theorem ex_why1 : whyEI 3 exX [] 1 = 5 := by
  have h0 : 1 ∈ brightF ex_shX.lay 3 := by rw [ex_brtL.1]; decide
  have h1 := why_in ex_shX (q := 1) (by decide)
  rw [if_pos h0] at h1
  rw [exX_map]
  exact h1
theorem ex_most : mostVI 3 exX [] = 2 := by decide +kernel
theorem Ints.block {V : World} {b : Nat} {T : TypeId} {xs : List Int} {n : Nat} (h : Lin V b T (xs.map (Value.int .i64))) (hn : n = xs.length ∧ n ≤ 1000000) : Ints V (.slice (some ⟨b, 0, none⟩) n n) xs := by
  obtain ⟨rfl, hn⟩ := hn
  exact ⟨by omega, .inr ⟨b, 0, xs.length, rfl, Nat.le_refl _, h.lt, fun k hk => by rw [Nat.zero_add]; exact h.cell (by simp [nth, hk])⟩⟩
/-- several lists -/
def Ins (V : World) (l : List (Value × List Int)) : Prop := ∀ p ∈ l, Ints V p.1 p.2
theorem Ins.later {V : World} {l : List (Value × List Int)} (h : Ins V l) (y : Later V) : Ins y.w l := fun p hp => (h p hp).later y
theorem Ins.cons {V : World} {l : List (Value × List Int)} (h : Ins V l) {v : Value} {xs : List Int} (hv : Ints V v xs) : Ins V ((v, xs) :: l) := fun p hp => by
  rcases List.mem_cons.1 hp with rfl | hp
  · exact hv
  · exact h p hp
theorem Ins.nil (V : World) : Ins V [] := fun p hp => absurd hp (by simp)
theorem Ins.at {V : World} {l : List (Value × List Int)} (h : Ins V l) {v : Value} {xs : List Int} (hm : (v, xs) ∈ l) : Ints V v xs := h _ hm
theorem Sht.nil {V : World} {mv : Value} {ms : List (Int × Int)} (h : Prs V mv ms) : Sht V mv (.slice none 0 0) ms [] := ⟨h, Ints.nil _ _⟩
theorem quiet_w {W : World} (Y : Later W) : ∃ y : Later Y.w, y.w = Y.w := ⟨Later.self _, rfl⟩
end Go.Proofs.Ytdhdpbnlhnodjaa

/-  Works. -/
namespace Go.Proofs.Ytdhdpbnlhnodjaa
open Go.RowKit
set_option maxRecDepth 100000 in
set_option maxHeartbeats 8000000 in
theorem Works_calls (W : World) : Calls Try.prog 17 #[] W (Gives (.bool true) W) := by
  go_enter Try.func17, Try.ntmps17

  have S : Ins W [] := Ins.nil _
  go_wp2_with fail
  refine (Sheet_calls _ [] (by decide) _ (Prs.nil none 0)).mono ?_
  rintro e w' ⟨mv, y, rfl, rfl, hR⟩
  obtain ⟨am1, lm1, cm1, rfl⟩ : ∃ a n c, mv = .slice a n c := by obtain ⟨a, c, e⟩ := hR.form; exact ⟨a, _, c, e⟩
  have hS1 : Sht y.w (.slice am1 lm1 cm1) (.slice none 0 0) exS [] := Sht.nil hR
  clear hR
  replace S := S.later y
  obtain ⟨Y1, hZ⟩ : ∃ Z : Later W, Z.w = y.w := ⟨y, rfl⟩
  rw [← hZ] at S hS1 ⊢
  clear hZ
  clear y
  go_wp2_with fail
  have hq := (PrsM.lit Y1.w (lo := Y1.w.heap.size) [(1, 2)] (arr := #[.int .i64 1, .int .i64 2]) (n := 1) rfl (Nat.le_refl _) rfl rfl (by decide)).prs (by decide)
  replace S := S.later (Later.new _ (.cells #[.int .i64 1, .int .i64 2] 55))
  rw [Later.new_w] at S
  replace hS1 := hS1.later (Later.new _ (.cells #[.int .i64 1, .int .i64 2] 55))
  rw [Later.new_w] at hS1
  obtain ⟨Y2, hZ⟩ : ∃ Z : Later W, Z.w = Y1.w.alloc (.cells #[.int .i64 1, .int .i64 2] 55) := ⟨Y1.step (Later.new _ _), rfl⟩
  rw [← hZ] at S hS1 hq ⊢
  clear hZ
  obtain ⟨LB, hb⟩ : ∃ b, b = Y1.w.heap.size := ⟨_, rfl⟩
  rw [← hb] at hq ⊢
  clear hb
  refine (Sheet_calls _ [(1, 2)] (by decide) _ (by exact hq)).mono ?_
  rintro e w' ⟨mv, y, rfl, rfl, hR⟩
  obtain ⟨am2, lm2, cm2, rfl⟩ : ∃ a n c, mv = .slice a n c := by obtain ⟨a, c, e⟩ := hR.form; exact ⟨a, _, c, e⟩
  have hS2 : Sht y.w (.slice am2 lm2 cm2) (.slice none 0 0) exX [] := Sht.nil hR
  clear hR
  replace hS1 := hS1.later y
  replace S := S.later y
  obtain ⟨Y3, hZ⟩ : ∃ Z : Later W, Z.w = y.w := ⟨Y2.step (y), rfl⟩
  rw [← hZ] at S hS1 hS2 ⊢
  clear hZ
  clear y
  clear hq
  go_wp2_with fail
  obtain ⟨B4, hb⟩ : ∃ b, b = Y3.w.heap.size := ⟨_, rfl⟩
  have l4 : Lin (Y3.w.alloc (.cells #[.int .i64 3, .slice am1 lm1 cm1, .slice none 0 0] 25)) B4 25 [.int .i64 3, .slice am1 lm1 cm1, .slice none 0 0] := by rw [hb]; exact Lin.new _ _ [.int .i64 3, .slice am1 lm1 cm1, .slice none 0 0]
  replace S := S.later (Later.new _ (.cells #[.int .i64 3, .slice am1 lm1 cm1, .slice none 0 0] 25))
  rw [Later.new_w] at S
  replace hS1 := hS1.later (Later.new _ (.cells #[.int .i64 3, .slice am1 lm1 cm1, .slice none 0 0] 25))
  rw [Later.new_w] at hS1
  replace hS2 := hS2.later (Later.new _ (.cells #[.int .i64 3, .slice am1 lm1 cm1, .slice none 0 0] 25))
  rw [Later.new_w] at hS2
  have hsz : (Y3.w.alloc (.cells #[.int .i64 3, .slice am1 lm1 cm1, .slice none 0 0] 25)).heap.size = B4 + 1 := by rw [hb]; simp
  obtain ⟨Y5, hZ⟩ : ∃ Z : Later W, Z.w = Y3.w.alloc (.cells #[.int .i64 3, .slice am1 lm1 cm1, .slice none 0 0] 25) := ⟨Y3.step (Later.new _ _), rfl⟩
  rw [← hZ] at S hsz hS1 hS2 l4 ⊢
  clear hZ
  rw [← hb]
  clear hb
  rw [← hsz]
  clear hsz
  obtain ⟨B6, hb⟩ : ∃ b, b = Y5.w.heap.size := ⟨_, rfl⟩
  have l6 : Lin (Y5.w.alloc (.cells #[.int .i64 3, .slice am2 lm2 cm2, .slice none 0 0] 25)) B6 25 [.int .i64 3, .slice am2 lm2 cm2, .slice none 0 0] := by rw [hb]; exact Lin.new _ _ [.int .i64 3, .slice am2 lm2 cm2, .slice none 0 0]
  replace S := S.later (Later.new _ (.cells #[.int .i64 3, .slice am2 lm2 cm2, .slice none 0 0] 25))
  rw [Later.new_w] at S
  replace hS1 := hS1.later (Later.new _ (.cells #[.int .i64 3, .slice am2 lm2 cm2, .slice none 0 0] 25))
  rw [Later.new_w] at hS1
  replace hS2 := hS2.later (Later.new _ (.cells #[.int .i64 3, .slice am2 lm2 cm2, .slice none 0 0] 25))
  rw [Later.new_w] at hS2
  replace l4 := l4.later (Later.new _ (.cells #[.int .i64 3, .slice am2 lm2 cm2, .slice none 0 0] 25))
  rw [Later.new_w] at l4
  have hsz : (Y5.w.alloc (.cells #[.int .i64 3, .slice am2 lm2 cm2, .slice none 0 0] 25)).heap.size = B6 + 1 := by rw [hb]; simp
  obtain ⟨Y7, hZ⟩ : ∃ Z : Later W, Z.w = Y5.w.alloc (.cells #[.int .i64 3, .slice am2 lm2 cm2, .slice none 0 0] 25) := ⟨Y5.step (Later.new _ _), rfl⟩
  rw [← hZ] at S hsz hS1 hS2 l4 l6 ⊢
  clear hZ
  rw [← hb]
  clear hb
  rw [← hsz]
  clear hsz
  obtain ⟨L8, hb⟩ : ∃ b, b = Y7.w.heap.size := ⟨_, rfl⟩
  replace S : Ins (Y7.w.alloc (.cells #[.int .i64 0, .int .i64 1, .int .i64 2] 3)) [(.slice (some ⟨L8, 0, none⟩) 3 3, [0, 1, 2])] := (S.later (Later.new _ _)).cons (Ints.lit _ [0, 1, 2] 3 hb rfl rfl (by decide))
  replace hS1 := hS1.later (Later.new _ (.cells #[.int .i64 0, .int .i64 1, .int .i64 2] 3))
  rw [Later.new_w] at hS1
  replace hS2 := hS2.later (Later.new _ (.cells #[.int .i64 0, .int .i64 1, .int .i64 2] 3))
  rw [Later.new_w] at hS2
  replace l4 := l4.later (Later.new _ (.cells #[.int .i64 0, .int .i64 1, .int .i64 2] 3))
  rw [Later.new_w] at l4
  replace l6 := l6.later (Later.new _ (.cells #[.int .i64 0, .int .i64 1, .int .i64 2] 3))
  rw [Later.new_w] at l6
  obtain ⟨Y9, hZ⟩ : ∃ Z : Later W, Z.w = Y7.w.alloc (.cells #[.int .i64 0, .int .i64 1, .int .i64 2] 3) := ⟨Y7.step (Later.new _ _), rfl⟩
  rw [← hZ] at S hS1 hS2 l4 l6 ⊢
  clear hZ
  rw [← hb]
  clear hb
  refine (of_calls _ _ _ _).mono ?_
  rintro e w' ⟨rfl, hw⟩
  rw [hw]
  clear hw w'
  have q0_0 := l4.cell (k := 0) rfl
  have q0_1 := l4.cell (k := 1) rfl
  have q0_2 := l4.cell (k := 2) rfl
  have q0_l := l4.lt
  go_wp2
  refine Mix.region_mixL (Mix.kinds [1] [2, 3] []) (by kernel_rfl) (by kernel_rfl) ?_
  repeat ((with_reducible refine Mix.atCons ?_); first | refine Mix.skipU (by rfl) rfl (by rfl) ?_ | (refine Mix.val rfl rfl (by rfl) (fun K hK => ?_); go_big_quiet_op; refine hK _ ?_; clear hK K) | (refine Mix.skip (by rfl) ?_; go_frame))
  refine Mix.new rfl (by rfl) (fun b => .slice (some ⟨b, 0, none⟩) 3 3) (.cells #[.int .i64 1, .int .i64 (-1), .int .i64 0] 3) (fun w => by simp [go_sem]) (fun N1 x1 _ hx1 => ?_)
  have hn1 : Ints x1.w (.slice (some ⟨N1, 0, none⟩) 3 3) [1, -1, 0] := Ints.block (T := 3) (xs := [1, -1, 0]) hx1 (by decide)
  refine Mix.loud rfl (by rfl) (fun x2 K hK => ?_)
  go_wp2_with fail
  refine (of_calls _ _ _ _).mono ?_
  rintro e w' ⟨rfl, hw⟩
  rw [hw]
  refine hK _ (Later.self _) ?_
  clear hK K hw w'
  simp only [Later.self_w]
  refine Mix.loud rfl (by rfl) (fun x3 K hK => ?_)
  go_wp2_with fail
  refine (CheckSetting_any 3 _ _ exS [] _ (((hS1.later x1).later x2).later x3) _ [1, -1, 0] ((hn1.later x2).later x3)).mono ?_
  rintro e w' ⟨rfl, y3, rfl⟩
  rw [ex_set1.1, ex_set1.2.1]
  refine hK _ y3 ?_
  clear hK K
  try go_frame
  repeat ((with_reducible refine Mix.atCons ?_); first | refine Mix.skipU (by rfl) rfl (by rfl) ?_ | (refine Mix.val rfl rfl (by rfl) (fun K hK => ?_); go_big_quiet_op; refine hK _ ?_; clear hK K) | (refine Mix.skip (by rfl) ?_; go_frame))
  refine Mix.done (fun x4 => ?_)
  clear q0_0 q0_1 q0_2 q0_l
  replace hS1 := (((((hS1.later x1).later x2).later x3).later y3).later x4)
  replace hS2 := (((((hS2.later x1).later x2).later x3).later y3).later x4)
  replace l4 := (((((l4.later x1).later x2).later x3).later y3).later x4)
  replace l6 := (((((l6.later x1).later x2).later x3).later y3).later x4)
  replace S := (((((S.later x1).later x2).later x3).later y3).later x4)
  obtain ⟨Y10, hZ⟩ : ∃ Z : Later W, Z.w = x4.w := ⟨Y9.step (x1.step (x2.step (x3.step (y3.step (x4))))), rfl⟩
  rw [← hZ] at S hS1 hS2 l4 l6 ⊢
  clear hZ
  have q0_0 := l4.cell (k := 0) rfl
  have q0_1 := l4.cell (k := 1) rfl
  have q0_2 := l4.cell (k := 2) rfl
  have q0_l := l4.lt
  go_wp2
  refine Mix.region_mixL (Mix.kinds [1] [2, 3] []) (by kernel_rfl) (by kernel_rfl) ?_
  repeat ((with_reducible refine Mix.atCons ?_); first | refine Mix.skipU (by rfl) rfl (by rfl) ?_ | (refine Mix.val rfl rfl (by rfl) (fun K hK => ?_); go_big_quiet_op; refine hK _ ?_; clear hK K) | (refine Mix.skip (by rfl) ?_; go_frame))
  refine Mix.new rfl (by rfl) (fun b => .slice (some ⟨b, 0, none⟩) 3 3) (.cells #[.int .i64 0, .int .i64 1, .int .i64 1] 3) (fun w => by simp [go_sem]) (fun N1 x1 _ hx1 => ?_)
  have hn1 : Ints x1.w (.slice (some ⟨N1, 0, none⟩) 3 3) [0, 1, 1] := Ints.block (T := 3) (xs := [0, 1, 1]) hx1 (by decide)
  refine Mix.loud rfl (by rfl) (fun x2 K hK => ?_)
  go_wp2_with fail
  refine (of_calls _ _ _ _).mono ?_
  rintro e w' ⟨rfl, hw⟩
  rw [hw]
  refine hK _ (Later.self _) ?_
  clear hK K hw w'
  simp only [Later.self_w]
  refine Mix.loud rfl (by rfl) (fun x3 K hK => ?_)
  go_wp2_with fail
  refine (CheckSetting_any 3 _ _ exS [] _ (((hS1.later x1).later x2).later x3) _ [0, 1, 1] ((hn1.later x2).later x3)).mono ?_
  rintro e w' ⟨rfl, y3, rfl⟩
  rw [ex_set1.2.2.1, ex_set1.2.2.2]
  refine hK _ y3 ?_
  clear hK K
  try go_frame
  repeat ((with_reducible refine Mix.atCons ?_); first | refine Mix.skipU (by rfl) rfl (by rfl) ?_ | (refine Mix.val rfl rfl (by rfl) (fun K hK => ?_); go_big_quiet_op; refine hK _ ?_; clear hK K) | (refine Mix.skip (by rfl) ?_; go_frame))
  refine Mix.done (fun x4 => ?_)
  clear q0_0 q0_1 q0_2 q0_l
  replace hS1 := (((((hS1.later x1).later x2).later x3).later y3).later x4)
  replace hS2 := (((((hS2.later x1).later x2).later x3).later y3).later x4)
  replace l4 := (((((l4.later x1).later x2).later x3).later y3).later x4)
  replace l6 := (((((l6.later x1).later x2).later x3).later y3).later x4)
  replace S := (((((S.later x1).later x2).later x3).later y3).later x4)
  obtain ⟨Y11, hZ⟩ : ∃ Z : Later W, Z.w = x4.w := ⟨Y10.step (x1.step (x2.step (x3.step (y3.step (x4))))), rfl⟩
  rw [← hZ] at S hS1 hS2 l4 l6 ⊢
  clear hZ
  have q0_0 := l4.cell (k := 0) rfl
  have q0_1 := l4.cell (k := 1) rfl
  have q0_2 := l4.cell (k := 2) rfl
  have q0_l := l4.lt
  go_wp2_with fail
  clear q0_0 q0_1 q0_2 q0_l
  refine (Set_any 3 _ _ _ exS [] [0, 1, 2] _ hS1 (S.at (v := .slice (some ⟨L8, 0, none⟩) 3 3) (xs := [0, 1, 2]) (by simp))).mono ?_
  rintro e w' ⟨v, y, rfl, rfl, hR⟩
  rw [ex_set2.1] at hR
  rw [ex_set2.2.1]
  replace hS1 := hS1.later y
  replace hS2 := hS2.later y
  replace l4 := l4.later y
  replace l6 := l6.later y
  replace S := S.later y
  obtain ⟨a12, n12, c12, rfl⟩ : ∃ a n c, v = .slice a n c := by obtain ⟨a, c, e⟩ := hR.form; exact ⟨a, _, c, e⟩
  replace S := S.cons hR
  obtain ⟨Y13, hZ⟩ : ∃ Z : Later W, Z.w = y.w := ⟨Y11.step (y), rfl⟩
  rw [← hZ] at S hS1 hS2 l4 l6 ⊢
  clear hZ
  clear y hR
  have q0_0 := l6.cell (k := 0) rfl
  have q0_1 := l6.cell (k := 1) rfl
  have q0_2 := l6.cell (k := 2) rfl
  have q0_l := l6.lt
  go_wp2_with fail
  clear q0_0 q0_1 q0_2 q0_l
  refine (Set_any 3 _ _ _ exX [] [0, 1, 2] _ hS2 (S.at (v := .slice (some ⟨L8, 0, none⟩) 3 3) (xs := [0, 1, 2]) (by simp))).mono ?_
  rintro e w' ⟨v, y, rfl, rfl, -⟩
  rw [ex_set2.2.2.2]
  replace hS1 := hS1.later y
  replace hS2 := hS2.later y
  replace l4 := l4.later y
  replace l6 := l6.later y
  replace S := S.later y
  obtain ⟨Y14, hZ⟩ : ∃ Z : Later W, Z.w = y.w := ⟨Y13.step (y), rfl⟩
  rw [← hZ] at S hS1 hS2 l4 l6 ⊢
  clear hZ
  clear y
  have q0_0 := l4.cell (k := 0) rfl
  have q0_1 := l4.cell (k := 1) rfl
  have q0_2 := l4.cell (k := 2) rfl
  have q0_l := l4.lt
  go_wp2_with fail
  clear q0_0 q0_1 q0_2 q0_l
  refine (Count_any 3 _ _ _ exS [] [0, 1, 2] _ hS1 (S.at (v := .slice (some ⟨L8, 0, none⟩) 3 3) (xs := [0, 1, 2]) (by simp))).mono ?_
  rintro e w' ⟨rfl, y, rfl⟩
  rw [ex_cnt.1, ex_cnt.2]
  replace hS1 := hS1.later y
  replace hS2 := hS2.later y
  replace l4 := l4.later y
  replace l6 := l6.later y
  replace S := S.later y
  obtain ⟨Y15, hZ⟩ : ∃ Z : Later W, Z.w = y.w := ⟨Y14.step (y), rfl⟩
  rw [← hZ] at S hS1 hS2 l4 l6 ⊢
  clear hZ
  clear y
  have q0_0 := l4.cell (k := 0) rfl
  have q0_1 := l4.cell (k := 1) rfl
  have q0_2 := l4.cell (k := 2) rfl
  have q0_l := l4.lt
  go_wp2_with fail
  clear q0_0 q0_1 q0_2 q0_l
  refine (Kind_any 3 _ _ _ exS [] [0, 1, 2] _ hS1 (S.at (v := .slice (some ⟨L8, 0, none⟩) 3 3) (xs := [0, 1, 2]) (by simp)) 1).mono ?_
  rintro e w' ⟨rfl, y, rfl⟩
  rw [ex_kind.1, ex_kind.2.1]
  replace hS1 := hS1.later y
  replace hS2 := hS2.later y
  replace l4 := l4.later y
  replace l6 := l6.later y
  replace S := S.later y
  obtain ⟨Y16, hZ⟩ : ∃ Z : Later W, Z.w = y.w := ⟨Y15.step (y), rfl⟩
  rw [← hZ] at S hS1 hS2 l4 l6 ⊢
  clear hZ
  clear y
  have q0_0 := l4.cell (k := 0) rfl
  have q0_1 := l4.cell (k := 1) rfl
  have q0_2 := l4.cell (k := 2) rfl
  have q0_l := l4.lt
  go_wp2_with fail
  clear q0_0 q0_1 q0_2 q0_l
  refine (Kind_any 3 _ _ _ exS [] [0, 1, 2] _ hS1 (S.at (v := .slice (some ⟨L8, 0, none⟩) 3 3) (xs := [0, 1, 2]) (by simp)) 6).mono ?_
  rintro e w' ⟨rfl, y, rfl⟩
  rw [ex_kind.2.2.1, ex_kind.2.2.2]
  replace hS1 := hS1.later y
  replace hS2 := hS2.later y
  replace l4 := l4.later y
  replace l6 := l6.later y
  replace S := S.later y
  obtain ⟨Y17, hZ⟩ : ∃ Z : Later W, Z.w = y.w := ⟨Y16.step (y), rfl⟩
  rw [← hZ] at S hS1 hS2 l4 l6 ⊢
  clear hZ
  clear y
  have q0_0 := l4.cell (k := 0) rfl
  have q0_1 := l4.cell (k := 1) rfl
  have q0_2 := l4.cell (k := 2) rfl
  have q0_l := l4.lt
  have q1_0 := l6.cell (k := 0) rfl
  have q1_1 := l6.cell (k := 1) rfl
  have q1_2 := l6.cell (k := 2) rfl
  have q1_l := l6.lt
  go_wp2
  refine Mix.region_mixL (Mix.kinds [2, 7] [3, 4, 8, 9] []) (by kernel_rfl) (by kernel_rfl) ?_
  repeat ((with_reducible refine Mix.atCons ?_); first | refine Mix.skipU (by rfl) rfl (by rfl) ?_ | (refine Mix.val rfl rfl (by rfl) (fun K hK => ?_); go_big_quiet_op; refine hK _ ?_; clear hK K) | (refine Mix.skip (by rfl) ?_; go_frame))
  refine Mix.new rfl (by rfl) (fun b => .slice (some ⟨b, 0, none⟩) 6 6) (.cells #[.int .i64 0, .int .i64 3, .int .i64 4, .int .i64 1, .int .i64 2, .int .i64 0] 3) (fun w => by simp [go_sem]) (fun N1 x1 _ hx1 => ?_)
  have hn1 : Ints x1.w (.slice (some ⟨N1, 0, none⟩) 6 6) [0, 3, 4, 1, 2, 0] := Ints.block (T := 3) (xs := [0, 3, 4, 1, 2, 0]) hx1 (by decide)
  refine Mix.loud rfl (by rfl) (fun x2 K hK => ?_)
  go_wp2_with fail
  refine (of_calls _ _ _ _).mono ?_
  rintro e w' ⟨rfl, hw⟩
  rw [hw]
  refine hK _ (Later.self _) ?_
  clear hK K hw w'
  simp only [Later.self_w]
  refine Mix.loud rfl (by rfl) (fun x3 K hK => ?_)
  go_wp2_with fail
  refine (CheckChain_any 3 _ _ _ exX [] [0, 1, 2] _ (((hS2.later x1).later x2).later x3) ((((S.at (v := .slice (some ⟨L8, 0, none⟩) 3 3) (xs := [0, 1, 2]) (by simp)).later x1).later x2).later x3) _ [0, 3, 4, 1, 2, 0] ((hn1.later x2).later x3)).mono ?_
  rintro e w' ⟨rfl, y3, rfl⟩
  rw [ex_chain.1]
  refine hK _ y3 ?_
  clear hK K
  try go_frame
  repeat ((with_reducible refine Mix.atCons ?_); first | refine Mix.skipU (by rfl) rfl (by rfl) ?_ | (refine Mix.val rfl rfl (by rfl) (fun K hK => ?_); go_big_quiet_op; refine hK _ ?_; clear hK K) | (refine Mix.skip (by rfl) ?_; go_frame))
  refine Mix.new rfl (by rfl) (fun b => .slice (some ⟨b, 0, none⟩) 6 6) (.cells #[.int .i64 0, .int .i64 3, .int .i64 4, .int .i64 1, .int .i64 2, .int .i64 0] 3) (fun w => by simp [go_sem]) (fun N4 x4 _ hx4 => ?_)
  have hn4 : Ints x4.w (.slice (some ⟨N4, 0, none⟩) 6 6) [0, 3, 4, 1, 2, 0] := Ints.block (T := 3) (xs := [0, 3, 4, 1, 2, 0]) hx4 (by decide)
  refine Mix.loud rfl (by rfl) (fun x5 K hK => ?_)
  go_wp2_with fail
  refine (of_calls _ _ _ _).mono ?_
  rintro e w' ⟨rfl, hw⟩
  rw [hw]
  refine hK _ (Later.self _) ?_
  clear hK K hw w'
  simp only [Later.self_w]
  refine Mix.loud rfl (by rfl) (fun x6 K hK => ?_)
  go_wp2_with fail
  refine (CheckChain_any 3 _ _ _ exS [] [0, 1, 2] _ (((((((hS1.later x1).later x2).later x3).later y3).later x4).later x5).later x6) ((((((((S.at (v := .slice (some ⟨L8, 0, none⟩) 3 3) (xs := [0, 1, 2]) (by simp)).later x1).later x2).later x3).later y3).later x4).later x5).later x6) _ [0, 3, 4, 1, 2, 0] ((hn4.later x5).later x6)).mono ?_
  rintro e w' ⟨rfl, y6, rfl⟩
  rw [ex_chain.2]
  refine hK _ y6 ?_
  clear hK K
  try go_frame
  repeat ((with_reducible refine Mix.atCons ?_); first | refine Mix.skipU (by rfl) rfl (by rfl) ?_ | (refine Mix.val rfl rfl (by rfl) (fun K hK => ?_); go_big_quiet_op; refine hK _ ?_; clear hK K) | (refine Mix.skip (by rfl) ?_; go_frame))
  refine Mix.done (fun x7 => ?_)
  clear q0_0 q0_1 q0_2 q0_l
  clear q1_0 q1_1 q1_2 q1_l
  replace hS1 := (((((((((hS1.later x1).later x2).later x3).later y3).later x4).later x5).later x6).later y6).later x7)
  replace hS2 := (((((((((hS2.later x1).later x2).later x3).later y3).later x4).later x5).later x6).later y6).later x7)
  replace l4 := (((((((((l4.later x1).later x2).later x3).later y3).later x4).later x5).later x6).later y6).later x7)
  replace l6 := (((((((((l6.later x1).later x2).later x3).later y3).later x4).later x5).later x6).later y6).later x7)
  replace S := (((((((((S.later x1).later x2).later x3).later y3).later x4).later x5).later x6).later y6).later x7)
  obtain ⟨Y18, hZ⟩ : ∃ Z : Later W, Z.w = x7.w := ⟨Y17.step (x1.step (x2.step (x3.step (y3.step (x4.step (x5.step (x6.step (y6.step (x7))))))))), rfl⟩
  rw [← hZ] at S hS1 hS2 l4 l6 ⊢
  clear hZ
  have q0_0 := l6.cell (k := 0) rfl
  have q0_1 := l6.cell (k := 1) rfl
  have q0_2 := l6.cell (k := 2) rfl
  have q0_l := l6.lt
  go_wp2_with fail
  clear q0_0 q0_1 q0_2 q0_l
  refine (Chain_any 3 _ _ _ exX [] [0, 1, 2] _ hS2 (S.at (v := .slice (some ⟨L8, 0, none⟩) 3 3) (xs := [0, 1, 2]) (by simp))).mono ?_
  rintro e w' ⟨v, y, lc, rfl, rfl, hR, hC, -⟩
  have HCX := Lib.hid (hC ex_chn.1).1
  clear hC
  rw [ex_chn.1]
  replace hS1 := hS1.later y
  replace hS2 := hS2.later y
  replace l4 := l4.later y
  replace l6 := l6.later y
  replace S := S.later y
  obtain ⟨a19, n19, c19, rfl⟩ : ∃ a n c, v = .slice a n c := by obtain ⟨a, c, e⟩ := hR.form; exact ⟨a, _, c, e⟩
  replace S := S.cons hR
  obtain ⟨Y20, hZ⟩ : ∃ Z : Later W, Z.w = y.w := ⟨Y18.step (y), rfl⟩
  rw [← hZ] at S hS1 hS2 l4 l6 ⊢
  clear hZ
  clear y hR
  have q0_0 := l4.cell (k := 0) rfl
  have q0_1 := l4.cell (k := 1) rfl
  have q0_2 := l4.cell (k := 2) rfl
  have q0_l := l4.lt
  go_wp2_with fail
  clear q0_0 q0_1 q0_2 q0_l
  refine (Chain_any 3 _ _ _ exS [] [0, 1, 2] _ hS1 (S.at (v := .slice (some ⟨L8, 0, none⟩) 3 3) (xs := [0, 1, 2]) (by simp))).mono ?_
  rintro e w' ⟨v, y, lq, rfl, rfl, -, -, -⟩
  rw [ex_chn.2]
  clear lq
  replace hS1 := hS1.later y
  replace hS2 := hS2.later y
  replace l4 := l4.later y
  replace l6 := l6.later y
  replace S := S.later y
  obtain ⟨Y21, hZ⟩ : ∃ Z : Later W, Z.w = y.w := ⟨Y20.step (y), rfl⟩
  rw [← hZ] at S hS1 hS2 l4 l6 ⊢
  clear hZ
  clear y
  have q0_0 := l6.cell (k := 0) rfl
  have q0_1 := l6.cell (k := 1) rfl
  have q0_2 := l6.cell (k := 2) rfl
  have q0_l := l6.lt
  go_wp2_with fail
  clear q0_0 q0_1 q0_2 q0_l
  refine (Brightest_any 3 _ _  exX []  _ hS2).mono ?_
  rintro e w' ⟨v, y, rfl, rfl, hR⟩
  rw [ex_brt] at hR
  rw [ex_vs.2]
  replace hS1 := hS1.later y
  replace hS2 := hS2.later y
  replace l4 := l4.later y
  replace l6 := l6.later y
  replace S := S.later y
  obtain ⟨a22, n22, c22, rfl⟩ : ∃ a n c, v = .slice a n c := by obtain ⟨a, c, e⟩ := hR.form; exact ⟨a, _, c, e⟩
  replace S := S.cons hR
  obtain ⟨Y23, hZ⟩ : ∃ Z : Later W, Z.w = y.w := ⟨Y21.step (y), rfl⟩
  rw [← hZ] at S hS1 hS2 l4 l6 ⊢
  clear hZ
  clear y hR
  have q0_0 := l6.cell (k := 0) rfl
  have q0_1 := l6.cell (k := 1) rfl
  have q0_2 := l6.cell (k := 2) rfl
  have q0_l := l6.lt
  go_wp2_with fail
  clear q0_0 q0_1 q0_2 q0_l
  refine (Why_any 3 _ _ exX [] _ hS2 2).mono ?_
  rintro e w' ⟨v, y, lw, rfl, rfl, hR, hC, -⟩
  have HWX := Lib.hid (hC ex_why2.1).1
  rw [ex_why2.2] at HWX
  clear hC
  rw [ex_why2.1]
  replace hS1 := hS1.later y
  replace hS2 := hS2.later y
  replace l4 := l4.later y
  replace l6 := l6.later y
  replace S := S.later y
  obtain ⟨a24, n24, c24, rfl⟩ : ∃ a n c, v = .slice a n c := by obtain ⟨a, c, e⟩ := hR.form; exact ⟨a, _, c, e⟩
  replace S := S.cons hR
  obtain ⟨Y25, hZ⟩ : ∃ Z : Later W, Z.w = y.w := ⟨Y23.step (y), rfl⟩
  rw [← hZ] at S hS1 hS2 l4 l6 ⊢
  clear hZ
  clear y hR
  have q0_0 := l6.cell (k := 0) rfl
  have q0_1 := l6.cell (k := 1) rfl
  have q0_2 := l6.cell (k := 2) rfl
  have q0_l := l6.lt
  go_wp2_with fail
  clear q0_0 q0_1 q0_2 q0_l
  refine (Why_any 3 _ _ exX [] _ hS2 1).mono ?_
  rintro e w' ⟨v, y, lq, rfl, rfl, -, -, -⟩
  rw [ex_why1]
  clear lq
  replace hS1 := hS1.later y
  replace hS2 := hS2.later y
  replace l4 := l4.later y
  replace l6 := l6.later y
  replace S := S.later y
  obtain ⟨Y26, hZ⟩ : ∃ Z : Later W, Z.w = y.w := ⟨Y25.step (y), rfl⟩
  rw [← hZ] at S hS1 hS2 l4 l6 ⊢
  clear hZ
  clear y
  have q0_0 := l6.cell (k := 0) rfl
  have q0_1 := l6.cell (k := 1) rfl
  have q0_2 := l6.cell (k := 2) rfl
  have q0_l := l6.lt
  go_wp2_with fail
  clear q0_0 q0_1 q0_2 q0_l
  refine (Most_any 3 _ _  exX []  _ hS2).mono ?_
  rintro e w' ⟨rfl, y, rfl⟩
  rw [ex_most, ex_vs.2]
  replace hS1 := hS1.later y
  replace hS2 := hS2.later y
  replace l4 := l4.later y
  replace l6 := l6.later y
  replace S := S.later y
  obtain ⟨Y27, hZ⟩ : ∃ Z : Later W, Z.w = y.w := ⟨Y26.step (y), rfl⟩
  rw [← hZ] at S hS1 hS2 l4 l6 ⊢
  clear hZ
  clear y
  go_wp2_with fail
  obtain ⟨L28, hb⟩ : ∃ b, b = Y27.w.heap.size := ⟨_, rfl⟩
  replace S : Ins (Y27.w.alloc (.cells #[.int .i64 1, .int .i64 0, .int .i64 0] 3)) [(.slice (some ⟨L28, 0, none⟩) 3 3, [1, 0, 0]), (.slice a24 n24 c24, lw), (.slice a22 n22 c22, [0, 1]), (.slice a19 n19 c19, lc), (.slice a12 n12 c12, [1, 0, 0]), (.slice (some ⟨L8, 0, none⟩) 3 3, [0, 1, 2])] := (S.later (Later.new _ _)).cons (Ints.lit _ [1, 0, 0] 3 hb rfl rfl (by decide))
  replace hS1 := hS1.later (Later.new _ (.cells #[.int .i64 1, .int .i64 0, .int .i64 0] 3))
  rw [Later.new_w] at hS1
  replace hS2 := hS2.later (Later.new _ (.cells #[.int .i64 1, .int .i64 0, .int .i64 0] 3))
  rw [Later.new_w] at hS2
  replace l4 := l4.later (Later.new _ (.cells #[.int .i64 1, .int .i64 0, .int .i64 0] 3))
  rw [Later.new_w] at l4
  replace l6 := l6.later (Later.new _ (.cells #[.int .i64 1, .int .i64 0, .int .i64 0] 3))
  rw [Later.new_w] at l6
  obtain ⟨Y29, hZ⟩ : ∃ Z : Later W, Z.w = Y27.w.alloc (.cells #[.int .i64 1, .int .i64 0, .int .i64 0] 3) := ⟨Y27.step (Later.new _ _), rfl⟩
  rw [← hZ] at S hS1 hS2 l4 l6 ⊢
  clear hZ
  rw [← hb]
  clear hb
  refine (of_calls _ _ _ _).mono ?_
  rintro e w' ⟨rfl, hw⟩
  rw [hw]
  clear hw w'
  go_wp2_with fail
  refine (IntsEq_calls _ _ [1, 0, 0] [1, 0, 0] _ (S.at (v := .slice a12 n12 c12) (xs := [1, 0, 0]) (by simp)) (S.at (v := .slice (some ⟨L28, 0, none⟩) 3 3) (xs := [1, 0, 0]) (by simp))).mono ?_
  rintro e w' ⟨rfl, y, rfl⟩
  rw [eqI_self]
  replace hS1 := hS1.later y
  replace hS2 := hS2.later y
  replace l4 := l4.later y
  replace l6 := l6.later y
  replace S := S.later y
  obtain ⟨Y30, hZ⟩ : ∃ Z : Later W, Z.w = y.w := ⟨Y29.step (y), rfl⟩
  rw [← hZ] at S hS1 hS2 l4 l6 ⊢
  clear hZ
  clear y
  have q0_0 := l6.cell (k := 0) rfl
  have q0_1 := l6.cell (k := 1) rfl
  have q0_2 := l6.cell (k := 2) rfl
  have q0_l := l6.lt
  go_wp2_with fail
  clear q0_0 q0_1 q0_2 q0_l
  refine (refCheckChain_any 3 _ _ _ exX [] [0, 1, 2] _ hS2 (S.at (v := .slice (some ⟨L8, 0, none⟩) 3 3) (xs := [0, 1, 2]) (by simp)) _ lc (S.at (v := .slice a19 n19 c19) (xs := lc) (by simp))).mono ?_
  rintro e w' ⟨rfl, y, rfl⟩
  rw [HCX.out]
  replace hS1 := hS1.later y
  replace hS2 := hS2.later y
  replace l4 := l4.later y
  replace l6 := l6.later y
  replace S := S.later y
  obtain ⟨Y31, hZ⟩ : ∃ Z : Later W, Z.w = y.w := ⟨Y30.step (y), rfl⟩
  rw [← hZ] at S hS1 hS2 l4 l6 ⊢
  clear hZ
  clear y
  go_wp2_with fail
  obtain ⟨L32, hb⟩ : ∃ b, b = Y31.w.heap.size := ⟨_, rfl⟩
  replace S : Ins (Y31.w.alloc (.cells #[.int .i64 0, .int .i64 1] 3)) [(.slice (some ⟨L32, 0, none⟩) 2 2, [0, 1]), (.slice (some ⟨L28, 0, none⟩) 3 3, [1, 0, 0]), (.slice a24 n24 c24, lw), (.slice a22 n22 c22, [0, 1]), (.slice a19 n19 c19, lc), (.slice a12 n12 c12, [1, 0, 0]), (.slice (some ⟨L8, 0, none⟩) 3 3, [0, 1, 2])] := (S.later (Later.new _ _)).cons (Ints.lit _ [0, 1] 3 hb rfl rfl (by decide))
  replace hS1 := hS1.later (Later.new _ (.cells #[.int .i64 0, .int .i64 1] 3))
  rw [Later.new_w] at hS1
  replace hS2 := hS2.later (Later.new _ (.cells #[.int .i64 0, .int .i64 1] 3))
  rw [Later.new_w] at hS2
  replace l4 := l4.later (Later.new _ (.cells #[.int .i64 0, .int .i64 1] 3))
  rw [Later.new_w] at l4
  replace l6 := l6.later (Later.new _ (.cells #[.int .i64 0, .int .i64 1] 3))
  rw [Later.new_w] at l6
  obtain ⟨Y33, hZ⟩ : ∃ Z : Later W, Z.w = Y31.w.alloc (.cells #[.int .i64 0, .int .i64 1] 3) := ⟨Y31.step (Later.new _ _), rfl⟩
  rw [← hZ] at S hS1 hS2 l4 l6 ⊢
  clear hZ
  rw [← hb]
  clear hb
  refine (of_calls _ _ _ _).mono ?_
  rintro e w' ⟨rfl, hw⟩
  rw [hw]
  clear hw w'
  go_wp2_with fail
  refine (IntsEq_calls _ _ [0, 1] [0, 1] _ (S.at (v := .slice a22 n22 c22) (xs := [0, 1]) (by simp)) (S.at (v := .slice (some ⟨L32, 0, none⟩) 2 2) (xs := [0, 1]) (by simp))).mono ?_
  rintro e w' ⟨rfl, y, rfl⟩
  rw [eqI_self]
  replace hS1 := hS1.later y
  replace hS2 := hS2.later y
  replace l4 := l4.later y
  replace l6 := l6.later y
  replace S := S.later y
  obtain ⟨Y34, hZ⟩ : ∃ Z : Later W, Z.w = y.w := ⟨Y33.step (y), rfl⟩
  rw [← hZ] at S hS1 hS2 l4 l6 ⊢
  clear hZ
  clear y
  have q0_0 := l6.cell (k := 0) rfl
  have q0_1 := l6.cell (k := 1) rfl
  have q0_2 := l6.cell (k := 2) rfl
  have q0_l := l6.lt
  go_wp2_with fail
  clear q0_0 q0_1 q0_2 q0_l
  refine (refCheckChain_any 3 _ _ _ exX [] [0, 1, 2] _ hS2 (S.at (v := .slice (some ⟨L8, 0, none⟩) 3 3) (xs := [0, 1, 2]) (by simp)) _ lw (S.at (v := .slice a24 n24 c24) (xs := lw) (by simp))).mono ?_
  rintro e w' ⟨rfl, y, rfl⟩
  rw [HWX.out]
  replace hS1 := hS1.later y
  replace hS2 := hS2.later y
  replace l4 := l4.later y
  replace l6 := l6.later y
  replace S := S.later y
  obtain ⟨Y35, hZ⟩ : ∃ Z : Later W, Z.w = y.w := ⟨Y34.step (y), rfl⟩
  rw [← hZ] at S hS1 hS2 l4 l6 ⊢
  clear hZ
  clear y
  go_wp2
  go_ret
  exact ⟨rfl, Y35, rfl⟩
end Go.Proofs.Ytdhdpbnlhnodjaa
