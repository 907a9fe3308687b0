import Derived.Test.YtpkgfkeekcgkcaaKC
import Derived.Test.YtpkgfkeekcgkcaaKB
/-  Lists of strings that are made, and stored into; what Back answers. -/
namespace Go.Proofs.Ytpkgfkeekcgkcaa
open Go.RowKit
theorem StrsM.zeros (w : World) {lo b n : Nat} (hb : b = w.heap.size) (hlo : lo ≤ w.heap.size) (hn : n ≤ 1000000) : StrsM lo (w.alloc (.cells (madeCells #[.string ⟨#[]⟩] n) 9)) (.slice (some ⟨b, 0, none⟩) n n) (List.replicate n []) := by
  subst hb
  have h := World.alloc_heap_new w (.cells (madeCells #[.string ⟨#[]⟩] n) 9)
  have hsz : (madeCells #[Value.string ⟨#[]⟩] n).size = n := by simp [madeCells]
  refine ⟨by simp, .inr ⟨w.heap.size, n, _, by rw [List.length_replicate], hlo, h, by simp, by simp only [maxLen]; omega, by rw [hsz]; simp, ?_⟩⟩
  apply List.ext_getElem?
  intro i
  by_cases hi : i < n
  · simp [madeCells, hi, Nat.mod_one, strC]
  · simp [madeCells, hi, Nat.mod_one]
theorem run_make_strs (n : Nat) (hn : n ≤ 1000000) (w : World) : (Instr.makeSlice 23 (.int .i64 (n : Int)) (.int .i64 (n : Int))).run Try.prog w = .ok (.slice (some ⟨w.heap.size, 0, none⟩) n n) (w.alloc (.cells (madeCells #[.string ⟨#[]⟩] n) 9)) :=
  run_make_row' _ _ _ 16 Try.underlying23 (by kernel_rfl) rfl _ _ _ (by omega) (by omega) w
theorem StrsM.set {w : World} {lo n c : Nat} {a : Option Addr} {xs : List (List UInt8)} (h : StrsM lo w (.slice a n c) xs) {k : Nat} (hk : k < xs.length) (y : List UInt8) :
    ∃ g, a = some ⟨g, 0, none⟩ ∧ n = xs.length ∧ lo ≤ g ∧ g < w.heap.size ∧ n ≤ c ∧ w.frozen? ⟨g, k, none⟩ = false ∧ w.cell? ⟨g, k, none⟩ = some (.string ⟨(sat xs k).toArray⟩) ∧ StrsM lo (w.setCell ⟨g, k, none⟩ (.string ⟨y.toArray⟩)) (.slice a n c) (xs.set k y) ∧ w.grownBy (w.setCell ⟨g, k, none⟩ (.string ⟨y.toArray⟩)) (some g) := by
  have hown := h
  rcases h.2 with ⟨e, h0⟩ | ⟨g, cap, cur, e, hb, hg, hnc, hcm, hcs, htk⟩
  · omega
  · cases e
    obtain ⟨hst, hgr⟩ := World.ownsRow.stored (show w.ownsRow lo 9 1 _ _ _ from hown) k (.string ⟨y.toArray⟩)
    refine ⟨g, rfl, rfl, hb, (Array.getElem?_eq_some_iff.1 hg).1, hnc, World.ownsRow.frozenAt (show w.ownsRow lo 9 1 _ _ _ from hown) k, ?_, ?_, hgr⟩
    · rw [World.ownsRow.cellAt (show w.ownsRow lo 9 1 _ _ _ from hown) k (by omega), sat_eq hk]
      simp [hk, strC]
    · show World.ownsRow _ _ _ _ _ _ _
      rw [List.length_set, List.map_set]
      exact hst
/-- a store into the strings of marks of one's own -/
theorem Bm.put {W U : World} {T : Nat} {s0 a0 sv : Value} {a : Option Addr} {n c : Nat} {st : List Int} {ad : List (List UInt8)} (h : Bm W U T s0 a0 sv (.slice a n c) st ad) {k : Nat} (hk : k < ad.length) (y : List UInt8) :
    ∃ g, a = some ⟨g, 0, none⟩ ∧ g < U.heap.size ∧ g ≠ T ∧ n = ad.length ∧ n ≤ c ∧ U.frozen? ⟨g, k, none⟩ = false ∧ U.cell? ⟨g, k, none⟩ = some (.string ⟨(sat ad k).toArray⟩) ∧ Bm W (U.setCell ⟨g, k, none⟩ (.string ⟨y.toArray⟩)) T s0 a0 sv (.slice a n c) st (ad.set k y) := by
  obtain ⟨g, rfl, hn, hlo, hgl, hnc, hf, hc, h2, hgr⟩ := h.a.set hk y
  have hne : (some T : Option Nat) ≠ some g := fun e => h.neA (by rw [e]; rfl)
  have hns : sv.ownBlock = none ∨ sv.ownBlock ≠ some g := own_ne h.s h.a (by decide)
  exact ⟨g, rfl, hgl, fun e => hne (by rw [e]), hn, hnc, hf, hc, ⟨h.le.setCell (p := ⟨g, k, none⟩) hlo _, h.lin.kept hgr hne, World.ownsRow.kept h.s hgr hns, h2, h.lo⟩⟩
/-- marks in a new block, whose strings are made -/
theorem Bm.made {W U : World} {T : Nat} {av : Value} {ad : List (List UInt8)} (hle : Below W.heap.size W U) (ha : StrsM W.heap.size U av ad) (hL : Lin U T 25 [.slice none 0 0, av]) (hlo : W.heap.size ≤ T) : Bm W U T (.slice none 0 0) av (.slice none 0 0) av [] ad :=
  ⟨hle, hL, World.ownsRow_nil _ _ _ _, ha, hlo⟩
/-! ### Back -/
def bkR (a n : Nat) : List Int := (List.range n).map fun q => ((a + q : Nat) : Int)
theorem bkR_succ (a n : Nat) : bkR a (n + 1) = bkR a n ++ [((a + n : Nat) : Int)] := by rw [bkR, List.range_succ, List.map_append]; rfl
theorem bkR_len (a n : Nat) : (bkR a n).length = n := by simp [bkR]
def bkS (st : List Int) (l : List UInt8) (ad : List (List UInt8)) : Nat → List Int
  | 0 => []
  | k + 1 => bkS st l ad k ++ bkR (rd st l ad k).length (sat ad k).length
def bkP (st : List Int) (l : List UInt8) (ad : List (List UInt8)) (k : Nat) : Nat := (rd st l ad k).length + (sat ad k).length
def bkA (st : List Int) (l : List UInt8) (ad : List (List UInt8)) (N : Nat) : Nat → List (List UInt8)
  | 0 => List.replicate (N + 1) []
  | k + 1 => if k < l.length ∧ hasB st k = true then (bkA st l ad N k).set (bkP st l ad k) (sat (bkA st l ad N k) (bkP st l ad k) ++ [bt l k]) else bkA st l ad N k
theorem bkA_len (st : List Int) (l : List UInt8) (ad : List (List UInt8)) (N : Nat) : ∀ k, (bkA st l ad N k).length = N + 1
  | 0 => by simp [bkA]
  | k + 1 => by
    rw [bkA]
    split
    · rw [List.length_set]; exact bkA_len st l ad N k
    · exact bkA_len st l ad N k
theorem rd_len_succ (st : List Int) (l : List UInt8) (ad : List (List UInt8)) (k : Nat) : (rd st l ad (k + 1)).length = bkP st l ad k + (kp st l k).length := by rw [rd, List.length_append, List.length_append, bkP]
theorem rd_mono (st : List Int) (l : List UInt8) (ad : List (List UInt8)) (k m : Nat) : (rd st l ad k).length ≤ (rd st l ad (k + m)).length := by
  induction m with
  | zero => exact Nat.le_refl _
  | succ m ih => rw [← Nat.add_assoc, rd_len_succ, bkP]; omega
theorem bkP_le (st : List Int) (l : List UInt8) (ad : List (List UInt8)) {k n : Nat} (h : k < n) : bkP st l ad k ≤ (rd st l ad n).length := by
  have h1 := rd_mono st l ad (k + 1) (n - (k + 1))
  rw [show k + 1 + (n - (k + 1)) = n by omega, rd_len_succ] at h1
  omega
theorem bkS_len (st : List Int) (l : List UInt8) (ad : List (List UInt8)) : ∀ k, (bkS st l ad k).length ≤ (rd st l ad k).length
  | 0 => Nat.zero_le _
  | k + 1 => by
    have h := bkS_len st l ad k
    rw [rd_len_succ, bkP, bkS, List.length_append, bkR_len]; omega
theorem sat_set {xs : List (List UInt8)} {k : Nat} {y : List UInt8} (hk : k < xs.length) (j : Nat) : sat (xs.set k y) j = if j = k then y else sat xs j := by
  simp only [sat, List.getD_eq_getElem?_getD, List.getElem?_set]
  by_cases h : k = j
  · subst h; simp [hk]
  · rw [if_neg h, if_neg (fun e => h e.symm)]
theorem bkA_sat (st : List Int) (l : List UInt8) (ad : List (List UInt8)) (N : Nat) : ∀ k j, (sat (bkA st l ad N k) j).length ≤ k
  | 0, j => by
    simp only [bkA, sat, List.getD_eq_getElem?_getD, List.getElem?_replicate]
    split <;> simp
  | k + 1, j => by
    have h1 := bkA_sat st l ad N k j
    have h2 := bkA_sat st l ad N k (bkP st l ad k)
    rw [bkA]
    split
    · by_cases hk : bkP st l ad k < (bkA st l ad N k).length
      · rw [sat_set hk]
        split
        · rw [List.length_append]; simp; omega
        · omega
      · rw [List.set_eq_of_length_le (by omega)]; omega
    · omega
def backE (l : List UInt8) (st : List Int) (ad : List (List UInt8)) : Int := if marksE l st ad ≠ 0 then marksE l st ad else txtE (rd st l ad (l.length + 1))
def backS (l : List UInt8) (st : List Int) (ad : List (List UInt8)) : List Int := if backE l st ad = 0 then bkS st l ad (l.length + 1) else []
def backA (l : List UInt8) (st : List Int) (ad : List (List UInt8)) : List (List UInt8) := if backE l st ad = 0 then bkA st l ad (rd st l ad (l.length + 1)).length l.length else []
end Go.Proofs.Ytpkgfkeekcgkcaa

/-  The definitions' Back. -/
namespace Go.Proofs.Ytpkgfkeekcgkcaa
open Go.RowKit
set_option maxRecDepth 100000 in
set_option maxHeartbeats 4000000 in
theorem rBack_calls (l : List UInt8) (sv av : Value) (st : List Int) (ad : List (List UInt8)) (W : World) (hm : Mks W sv av st ad) :
    Calls Try.prog 23 #[.string ⟨l.toArray⟩, .agg #[sv, av]] W (MksG (backS l st ad) (backA l st ad) (backE l st ad) W) := by
  have S : Ins W [] := Ins.nil _
  obtain ⟨sx, ns, cs, rfl⟩ : ∃ a n c, sv = .slice a n c := by obtain ⟨a, c, e⟩ := hm.s.form; exact ⟨a, _, c, e⟩
  obtain ⟨aa, na, ca, rfl⟩ : ∃ a n c, av = .slice a n c := by obtain ⟨a, c, e⟩ := hm.a.form; exact ⟨a, _, c, e⟩
  have HS := Lib.hid (show ns = st.length by obtain ⟨a, c, e⟩ := hm.s.form; cases e; rfl)
  have HA := Lib.hid (show na = ad.length by obtain ⟨a, c, e⟩ := hm.a.form; cases e; rfl)
  have hsl : ns ≤ 9007199254740992 := by rw [HS.out]; exact hm.s.1
  have hal : na ≤ 9007199254740992 := by rw [HA.out]; exact hm.a.1
  obtain ⟨E, hE⟩ : ∃ E, marksE l st ad = E := ⟨_, rfl⟩
  have HE := Lib.hid hE
  by_cases h0 : E = 0
  rotate_left
  · have HR := Lib.hid (show backE l st ad = E ∧ backS l st ad = [] ∧ backA l st ad = [] by
      have h : backE l st ad = E := by rw [backE, hE, if_pos h0]
      rw [backS, backA, h]; exact ⟨rfl, if_neg h0, if_neg h0⟩)
    have hne : (E != 0) = true := by simpa using h0
    clear hE
    go_enter Try.func23, Try.ntmps23
    go_wp2_with fail
    obtain ⟨B1, hb⟩ : ∃ b, b = W.heap.size := ⟨_, rfl⟩
    have l1 : Lin (W.alloc (.cells #[.slice sx ns cs, .slice aa na ca] 25)) B1 25 [.slice sx ns cs, .slice aa na ca] := by rw [hb]; exact Lin.new _ _ [.slice sx ns cs, .slice aa na ca]
    replace S := S.later (Later.new _ (.cells #[.slice sx ns cs, .slice aa na ca] 25))
    rw [Later.new_w] at S
    replace hm := hm.later (Later.new _ (.cells #[.slice sx ns cs, .slice aa na ca] 25))
    rw [Later.new_w] at hm
    have hsz : (W.alloc (.cells #[.slice sx ns cs, .slice aa na ca] 25)).heap.size = B1 + 1 := by rw [hb]; simp
    obtain ⟨Y2, hZ⟩ : ∃ Z : Later W, Z.w = W.alloc (.cells #[.slice sx ns cs, .slice aa na ca] 25) := ⟨Later.new _ _, rfl⟩
    rw [← hZ] at S hsz hm l1 ⊢
    clear hZ
    rw [← hb]
    clear hb
    have hs2 := hsz
    rw [← hsz]
    clear hsz hs2
    obtain ⟨B3, hb⟩ : ∃ b, b = Y2.w.heap.size := ⟨_, rfl⟩
    have hloB3 : W.heap.size ≤ B3 := by rw [hb]; exact Y2.size
    have l3 : Lin (Y2.w.alloc (.cells #[.slice none 0 0, .slice none 0 0] 25)) B3 25 [.slice none 0 0, .slice none 0 0] := by rw [hb]; exact Lin.new _ _ [.slice none 0 0, .slice none 0 0]
    replace S := S.later (Later.new _ (.cells #[.slice none 0 0, .slice none 0 0] 25))
    rw [Later.new_w] at S
    replace hm := hm.later (Later.new _ (.cells #[.slice none 0 0, .slice none 0 0] 25))
    rw [Later.new_w] at hm
    replace l1 := l1.later (Later.new _ (.cells #[.slice none 0 0, .slice none 0 0] 25))
    rw [Later.new_w] at l1
    have hsz : (Y2.w.alloc (.cells #[.slice none 0 0, .slice none 0 0] 25)).heap.size = B3 + 1 := by rw [hb]; simp
    obtain ⟨Y4, hZ⟩ : ∃ Z : Later W, Z.w = Y2.w.alloc (.cells #[.slice none 0 0, .slice none 0 0] 25) := ⟨Y2.step (Later.new _ _), rfl⟩
    rw [← hZ] at S hsz hm l1 l3 ⊢
    clear hZ
    rw [← hb]
    clear hb
    clear hsz
    have q0_0 := l1.cell (k := 0) rfl
    have q0_1 := l1.cell (k := 1) rfl
    have q0_l := l1.lt
    go_wp2_with fail
    clear q0_0 q0_1 q0_l
    refine (rCheckMarks_calls l _ _ st ad _ hm).mono ?_
    rintro e w' ⟨rfl, y, rfl⟩
    rw [HE.out]
    replace hm := hm.later y
    replace l1 := l1.later y
    replace l3 := l3.later y
    replace S := S.later y
    obtain ⟨Y5, hZ⟩ : ∃ Z : Later W, Z.w = y.w := ⟨Y4.step (y), rfl⟩
    rw [← hZ] at S hm l1 l3 ⊢
    clear hZ
    clear y
    have q0_0 := l1.cell (k := 0) rfl
    have q0_1 := l1.cell (k := 1) rfl
    have q0_l := l1.lt
    go_wp2_with fail
    clear q0_0 q0_1 q0_l
    refine (rCheckMarks_calls l _ _ st ad _ hm).mono ?_
    rintro e w' ⟨rfl, y, rfl⟩
    rw [HE.out]
    replace hm := hm.later y
    replace l1 := l1.later y
    replace l3 := l3.later y
    replace S := S.later y
    obtain ⟨Y6, hZ⟩ : ∃ Z : Later W, Z.w = y.w := ⟨Y5.step (y), rfl⟩
    rw [← hZ] at S hm l1 l3 ⊢
    clear hZ
    clear y
    have t0 := l3.cell (k := 0) rfl
    have t1' := l3.cell (k := 1) rfl
    have f0 := l3.frozen 0
    have f1 := l3.frozen 1
    have tl := l3.lt
    go_wp2
    refine bodyPost_ret (v := .tuple #[.agg #[.slice none 0 0, .slice none 0 0], .int .i64 E]) (by simp [results, Try.results23, go_sem, t0, t1']) rfl ?_
    refine ⟨_, _, ⟨_, ((Y6.le.setCell (p := ⟨B3, 0, none⟩) hloB3 (.slice none 0 0)).setCell (p := ⟨B3, 1, none⟩) hloB3 (.slice none 0 0))⟩, by rw [HR.out.1], rfl, by rw [HR.out.2.1, HR.out.2.2]; exact ⟨Ints.nil _ _, Strs.nil _ _⟩⟩
  subst h0
  have hok := marks_ok hE
  obtain ⟨n, hn⟩ : ∃ n, l.length = n := ⟨_, rfl⟩
  have h12 : n ≤ 12 := by rw [← hn]; exact hok.l12
  have HOK := Lib.hid hok
  have HL := Lib.hid hn
  have HAL := Lib.hid (show na = n + 1 by rw [HA.out, hok.al, hn])
  obtain ⟨mk, hmk⟩ : ∃ v, rd st l ad (n + 1) = v := ⟨_, rfl⟩
  have HMK := Lib.hid hmk
  obtain ⟨D, hD⟩ : ∃ D, txtE mk = D := ⟨_, rfl⟩
  have HD := Lib.hid hD
  have hE2 : backE l st ad = D := by rw [backE, hE, if_neg (by simp), hn, hmk, hD]
  have hRO := ReadOf_calls l (.slice sx ns cs) (.slice aa na ca) st ad hok
  rw [hn, hmk] at hRO
  obtain ⟨cv, hcv⟩ : ∃ v, (st.length : Int) + (cn ad (n + 1) : Nat) = v := ⟨_, rfl⟩
  rw [hcv] at hRO
  have HRO := Lib.hid hRO
  clear hok hRO hcv
  by_cases h1 : D = 0
  rotate_left
  · have HR := Lib.hid (show backE l st ad = D ∧ backS l st ad = [] ∧ backA l st ad = [] by rw [backS, backA, hE2, if_neg h1, if_neg h1]; exact ⟨rfl, rfl, rfl⟩)
    have hne : (D != 0) = true := by simpa using h1
    clear hE hD hE2 hn hmk
    go_enter Try.func23, Try.ntmps23
    go_wp2_with fail
    obtain ⟨B1, hb⟩ : ∃ b, b = W.heap.size := ⟨_, rfl⟩
    have l1 : Lin (W.alloc (.cells #[.slice sx ns cs, .slice aa na ca] 25)) B1 25 [.slice sx ns cs, .slice aa na ca] := by rw [hb]; exact Lin.new _ _ [.slice sx ns cs, .slice aa na ca]
    replace S := S.later (Later.new _ (.cells #[.slice sx ns cs, .slice aa na ca] 25))
    rw [Later.new_w] at S
    replace hm := hm.later (Later.new _ (.cells #[.slice sx ns cs, .slice aa na ca] 25))
    rw [Later.new_w] at hm
    have hsz : (W.alloc (.cells #[.slice sx ns cs, .slice aa na ca] 25)).heap.size = B1 + 1 := by rw [hb]; simp
    obtain ⟨Y2, hZ⟩ : ∃ Z : Later W, Z.w = W.alloc (.cells #[.slice sx ns cs, .slice aa na ca] 25) := ⟨Later.new _ _, rfl⟩
    rw [← hZ] at S hsz hm l1 ⊢
    clear hZ
    rw [← hb]
    clear hb
    have hs2 := hsz
    rw [← hsz]
    clear hsz hs2
    obtain ⟨B3, hb⟩ : ∃ b, b = Y2.w.heap.size := ⟨_, rfl⟩
    have hloB3 : W.heap.size ≤ B3 := by rw [hb]; exact Y2.size
    have l3 : Lin (Y2.w.alloc (.cells #[.slice none 0 0, .slice none 0 0] 25)) B3 25 [.slice none 0 0, .slice none 0 0] := by rw [hb]; exact Lin.new _ _ [.slice none 0 0, .slice none 0 0]
    replace S := S.later (Later.new _ (.cells #[.slice none 0 0, .slice none 0 0] 25))
    rw [Later.new_w] at S
    replace hm := hm.later (Later.new _ (.cells #[.slice none 0 0, .slice none 0 0] 25))
    rw [Later.new_w] at hm
    replace l1 := l1.later (Later.new _ (.cells #[.slice none 0 0, .slice none 0 0] 25))
    rw [Later.new_w] at l1
    have hsz : (Y2.w.alloc (.cells #[.slice none 0 0, .slice none 0 0] 25)).heap.size = B3 + 1 := by rw [hb]; simp
    obtain ⟨Y4, hZ⟩ : ∃ Z : Later W, Z.w = Y2.w.alloc (.cells #[.slice none 0 0, .slice none 0 0] 25) := ⟨Y2.step (Later.new _ _), rfl⟩
    rw [← hZ] at S hsz hm l1 l3 ⊢
    clear hZ
    rw [← hb]
    clear hb
    clear hsz
    have q0_0 := l1.cell (k := 0) rfl
    have q0_1 := l1.cell (k := 1) rfl
    have q0_l := l1.lt
    go_wp2_with fail
    clear q0_0 q0_1 q0_l
    refine (rCheckMarks_calls l _ _ st ad _ hm).mono ?_
    rintro e w' ⟨rfl, y, rfl⟩
    rw [HE.out]
    replace hm := hm.later y
    replace l1 := l1.later y
    replace l3 := l3.later y
    replace S := S.later y
    obtain ⟨Y5, hZ⟩ : ∃ Z : Later W, Z.w = y.w := ⟨Y4.step (y), rfl⟩
    rw [← hZ] at S hm l1 l3 ⊢
    clear hZ
    clear y
    have q0_0 := l1.cell (k := 0) rfl
    have q0_1 := l1.cell (k := 1) rfl
    have q0_l := l1.lt
    go_wp2_with fail
    clear q0_0 q0_1 q0_l
    refine (HRO.out _ hm).mono ?_
    rintro e w' ⟨rfl, y, rfl⟩
    replace hm := hm.later y
    replace l1 := l1.later y
    replace l3 := l3.later y
    replace S := S.later y
    obtain ⟨Y6, hZ⟩ : ∃ Z : Later W, Z.w = y.w := ⟨Y5.step (y), rfl⟩
    rw [← hZ] at S hm l1 l3 ⊢
    clear hZ
    clear y
    go_wp2_with fail
    refine (CheckText_calls mk _).mono ?_
    rintro e w' ⟨rfl, hw⟩
    rw [hw, HD.out]
    clear hw w'
    go_wp2_with fail
    refine (CheckText_calls mk _).mono ?_
    rintro e w' ⟨rfl, hw⟩
    rw [hw, HD.out]
    clear hw w'
    have t0 := l3.cell (k := 0) rfl
    have t1' := l3.cell (k := 1) rfl
    have f0 := l3.frozen 0
    have f1 := l3.frozen 1
    have tl := l3.lt
    go_wp2
    refine bodyPost_ret (v := .tuple #[.agg #[.slice none 0 0, .slice none 0 0], .int .i64 D]) (by simp [results, Try.results23, go_sem, t0, t1']) rfl ?_
    refine ⟨_, _, ⟨_, ((Y6.le.setCell (p := ⟨B3, 0, none⟩) hloB3 (.slice none 0 0)).setCell (p := ⟨B3, 1, none⟩) hloB3 (.slice none 0 0))⟩, by rw [HR.out.1], rfl, by rw [HR.out.2.1, HR.out.2.2]; exact ⟨Ints.nil _ _, Strs.nil _ _⟩⟩
  subst h1
  have HR := Lib.hid (show backE l st ad = 0 ∧ backS l st ad = bkS st l ad (n + 1) ∧ backA l st ad = bkA st l ad mk.length n by rw [backS, backA, hE2, if_pos rfl, if_pos rfl, hn, hmk]; exact ⟨rfl, rfl, rfl⟩)
  obtain ⟨N, hN⟩ : ∃ N, mk.length = N := ⟨_, rfl⟩
  have hN12 : N ≤ 12 := by
    by_cases h : 12 < mk.length
    · rw [txtE, if_pos h] at hD; cases hD
    · omega
  have HN := Lib.hid (show (rd st l ad (n + 1)).length = N by rw [hmk, hN])
  have hsm : (⟨mk.toArray⟩ : ByteArray).size = N := by rw [str_size]; exact hN
  rw [hN] at HR
  clear hE hD hE2 hn hmk hN
  obtain ⟨M, hM⟩ : ∃ M, N + 1 = M := ⟨_, rfl⟩
  have hMi : (N : Int) + 1 = (M : Int) := by omega
  go_enter Try.func23, Try.ntmps23
  go_wp2_with fail
  obtain ⟨B1, hb⟩ : ∃ b, b = W.heap.size := ⟨_, rfl⟩
  have l1 : Lin (W.alloc (.cells #[.slice sx ns cs, .slice aa na ca] 25)) B1 25 [.slice sx ns cs, .slice aa na ca] := by rw [hb]; exact Lin.new _ _ [.slice sx ns cs, .slice aa na ca]
  replace S := S.later (Later.new _ (.cells #[.slice sx ns cs, .slice aa na ca] 25))
  rw [Later.new_w] at S
  replace hm := hm.later (Later.new _ (.cells #[.slice sx ns cs, .slice aa na ca] 25))
  rw [Later.new_w] at hm
  have hsz : (W.alloc (.cells #[.slice sx ns cs, .slice aa na ca] 25)).heap.size = B1 + 1 := by rw [hb]; simp
  obtain ⟨Y2, hZ⟩ : ∃ Z : Later W, Z.w = W.alloc (.cells #[.slice sx ns cs, .slice aa na ca] 25) := ⟨Later.new _ _, rfl⟩
  rw [← hZ] at S hsz hm l1 ⊢
  clear hZ
  rw [← hb]
  clear hb
  have hs2 := hsz
  rw [← hsz]
  clear hsz hs2
  obtain ⟨B3, hb⟩ : ∃ b, b = Y2.w.heap.size := ⟨_, rfl⟩
  have hloB3 : W.heap.size ≤ B3 := by rw [hb]; exact Y2.size
  have l3 : Lin (Y2.w.alloc (.cells #[.slice none 0 0, .slice none 0 0] 25)) B3 25 [.slice none 0 0, .slice none 0 0] := by rw [hb]; exact Lin.new _ _ [.slice none 0 0, .slice none 0 0]
  replace S := S.later (Later.new _ (.cells #[.slice none 0 0, .slice none 0 0] 25))
  rw [Later.new_w] at S
  replace hm := hm.later (Later.new _ (.cells #[.slice none 0 0, .slice none 0 0] 25))
  rw [Later.new_w] at hm
  replace l1 := l1.later (Later.new _ (.cells #[.slice none 0 0, .slice none 0 0] 25))
  rw [Later.new_w] at l1
  have hsz : (Y2.w.alloc (.cells #[.slice none 0 0, .slice none 0 0] 25)).heap.size = B3 + 1 := by rw [hb]; simp
  obtain ⟨Y4, hZ⟩ : ∃ Z : Later W, Z.w = Y2.w.alloc (.cells #[.slice none 0 0, .slice none 0 0] 25) := ⟨Y2.step (Later.new _ _), rfl⟩
  rw [← hZ] at S hsz hm l1 l3 ⊢
  clear hZ
  rw [← hb]
  clear hb
  clear hsz
  have q0_0 := l1.cell (k := 0) rfl
  have q0_1 := l1.cell (k := 1) rfl
  have q0_l := l1.lt
  go_wp2_with fail
  clear q0_0 q0_1 q0_l
  refine (rCheckMarks_calls l _ _ st ad _ hm).mono ?_
  rintro e w' ⟨rfl, y, rfl⟩
  rw [HE.out]
  replace hm := hm.later y
  replace l1 := l1.later y
  replace l3 := l3.later y
  replace S := S.later y
  obtain ⟨Y5, hZ⟩ : ∃ Z : Later W, Z.w = y.w := ⟨Y4.step (y), rfl⟩
  rw [← hZ] at S hm l1 l3 ⊢
  clear hZ
  clear y
  have q0_0 := l1.cell (k := 0) rfl
  have q0_1 := l1.cell (k := 1) rfl
  have q0_l := l1.lt
  go_wp2_with fail
  clear q0_0 q0_1 q0_l
  refine (HRO.out _ hm).mono ?_
  rintro e w' ⟨rfl, y, rfl⟩
  replace hm := hm.later y
  replace l1 := l1.later y
  replace l3 := l3.later y
  replace S := S.later y
  obtain ⟨Y6, hZ⟩ : ∃ Z : Later W, Z.w = y.w := ⟨Y5.step (y), rfl⟩
  rw [← hZ] at S hm l1 l3 ⊢
  clear hZ
  clear y
  go_wp2_with fail
  refine (CheckText_calls mk _).mono ?_
  rintro e w' ⟨rfl, hw⟩
  rw [hw, HD.out]
  clear hw w'
  have hmks := run_make_strs M (by omega)
  go_wp2
  clear hmks
  have hRY : B3 < Y6.w.heap.size := l3.lt
  have ha0 := StrsM.zeros Y6.w (lo := Y6.w.heap.size) (n := M) rfl (Nat.le_refl _) (by omega)
  have hT0 : (Y6.w.alloc (.cells (madeCells #[.string ⟨#[]⟩] M) 9)).heap.size = Y6.w.heap.size + 1 := by simp
  obtain ⟨V0, hV0⟩ : ∃ V : Later Y6.w, V.w = (Y6.w.alloc (.cells (madeCells #[.string ⟨#[]⟩] M) 9)).alloc (.cells #[.slice none 0 0, .slice (some ⟨Y6.w.heap.size, 0, none⟩) M M] 25) := ⟨(Later.new _ _).step (Later.new _ _), rfl⟩
  have hbm : Bm Y6.w V0.w (Y6.w.heap.size + 1) (.slice none 0 0) (.slice (some ⟨Y6.w.heap.size, 0, none⟩) M M) (.slice none 0 0) (.slice (some ⟨Y6.w.heap.size, 0, none⟩) M M) [] (List.replicate M []) := Bm.made V0.le (by rw [hV0]; exact ha0.later (Later.new _ _)) (by rw [hV0, ← hT0]; exact Lin.new _ _ _) (Nat.le_succ _)
  rw [← hV0]
  clear hV0 hT0 ha0
  obtain ⟨T, hT⟩ : ∃ T, Y6.w.heap.size + 1 = T := ⟨_, rfl⟩
  rw [hT] at hbm ⊢
  obtain ⟨g, hg⟩ : ∃ g, Y6.w.heap.size = g := ⟨_, rfl⟩
  rw [hg] at hbm ⊢
  have hgT : g ≠ T := by omega
  clear hT hg
  have hsz : (⟨l.toArray⟩ : ByteArray).size = n := by rw [str_size]; exact HL.out
  go_loopw [9, 10] (fun p0 i0 wr => ∃ (k p : Nat) (V : Later Y6.w) (sx' : Value), wr = V.w ∧ k ≤ n ∧ p0 = .int .i64 p ∧ i0 = .int .i64 k ∧ Hid ((rd st l ad k).length = p) ∧ Bm Y6.w V.w T sx' (.slice (some ⟨g, 0, none⟩) M M) sx' (.slice (some ⟨g, 0, none⟩) M M) (bkS st l ad k) (bkA st l ad N k)) (fun _ i0 _ => n - (intOf i0).toNat)
  case atStart => exact ⟨0, 0, V0, _, rfl, Nat.zero_le _, rfl, rfl, Lib.hid rfl, by rw [show bkA st l ad N 0 = List.replicate M [] by rw [bkA, hM]]; exact hbm⟩
  clear hbm
  obtain ⟨k, p, V, sx', rfl, hk, rfl, rfl, HP0, hbm⟩ := hrel
  obtain ⟨a0, n0, c0, rfl⟩ := hbm.s.form'
  obtain ⟨x, hx⟩ : ∃ v, sat ad k = v := ⟨_, rfl⟩
  obtain ⟨C, hC⟩ : ∃ C, x.length = C := ⟨_, rfl⟩
  have hC12 : C ≤ 12 := by rw [← hC, ← hx]; exact HOK.out.sat12 k
  have hP1 := bkP_le st l ad (k := k) (n := n + 1) (by omega)
  rw [bkP, HP0.out, hx, hC, HN.out] at hP1
  have HX := Lib.hid hx
  have HC := Lib.hid (show (sat ad k).length = C by rw [hx, hC])
  have hsx : (⟨x.toArray⟩ : ByteArray).size = C := by rw [str_size]; exact hC
  clear hx hC
  have hd1 : decide ((k : Int) ≤ (n : Int)) = true := decide_eq_true (by omega)
  have hslen : (bkS st l ad k).length ≤ 100 := by
    have := bkS_len st l ad k
    rw [HP0.out] at this
    omega
  go_wp2
  try simp only [hd1]
  clear hd1
  go_loopw [9, 11] (fun p0 i0 wr => ∃ (q p' : Nat) (V : Later Y6.w) (sx' : Value), wr = V.w ∧ q ≤ C ∧ p0 = .int .i64 p' ∧ p' = p + q ∧ i0 = .int .i64 q ∧ Bm Y6.w V.w T sx' (.slice (some ⟨g, 0, none⟩) M M) sx' (.slice (some ⟨g, 0, none⟩) M M) (bkS st l ad k ++ bkR p q) (bkA st l ad N k)) (fun _ i0 _ => C - (intOf i0).toNat)
  case atStart => exact ⟨0, p, V, _, rfl, Nat.zero_le _, rfl, rfl, rfl, by rw [show bkR p 0 = [] from rfl, List.append_nil]; exact hbm⟩
  clear hbm V a0 n0 c0
  obtain ⟨q, p', V, sx', rfl, hq, rfl, hpq, rfl, hbm⟩ := hrel
  obtain ⟨a0, n0, c0, rfl⟩ := hbm.s.form'
  by_cases hlt : q < C
  · replace hm := hm.later V
    replace l1 := l1.later V
    replace l3 := l3.later V
    replace S := S.later V
    have hkna : k < na := by have := HAL.out; omega
    obtain ⟨ba, oa, ka, e, hka, hba, hga⟩ := hm.a.at (k := k) (by rw [← HA.out]; exact hkna)
    injection e with e1 e2 e3
    subst e1 e3
    have qa := hga k (by rw [← HA.out]; exact hkna)
    clear hga e2
    rw [HX.out] at qa
    have HSX := Lib.hid (bkR_succ p q)
    have p_0 := l1.cell (k := 0) rfl
    have p_1 := l1.cell (k := 1) rfl
    have p_l := l1.lt
    have hA := hbm.later (Later.new V.w (.cells #[.int .i64 p'] 3))
    rw [Later.new_w] at hA
    obtain ⟨v6, w6, hr6, hb6⟩ := hA.appS V.w.heap.size 1 _ (by simp [go_sem]; rfl) (by rw [List.length_append, bkR_len]; omega) 22
    obtain ⟨a7, n7, c7, rfl⟩ := hb6.s.form'
    have HR6 := Lib.hid hr6
    clear hr6 hA
    have lT := hbm.lin
    have u0 := lT.cell (k := 0) rfl
    have uT := lT.lt
    have lX8 := hb6.lin
    have v1' := lX8.cell (k := 0) rfl
    have v1f := lX8.frozen 0
    have v1l := lX8.lt
    have HB9 := Lib.hid hb6.setS
    clear lT lX8 hb6 hbm
    have HPQ := Lib.hid hpq
    have hpb : p' ≤ 24 := by omega
    clear hpq
    go_wp2_with ((with_reducible show wpList _ _ _ (⟨some 57, _, _, _, _, _⟩ :: _) _ _); refine Lib.wpList_append_run_sl _ rfl _ _ 22 rfl _ _ rfl rfl HR6.out ?_)
    go_roundw
    case rel => exact ⟨q + 1, p' + 1, ⟨_, HB9.out.le⟩, _, rfl, by omega, by go_num, by rw [HPQ.out]; omega, by go_num, by rw [HSX.out, ← List.append_assoc, ← HPQ.out]; exact HB9.out⟩
    case measure => simp [intOf]; omega
  obtain rfl : q = C := by omega
  replace hm := hm.later V
  replace l1 := l1.later V
  replace l3 := l3.later V
  replace S := S.later V
  have hkna : k < na := by have := HAL.out; omega
  obtain ⟨ba, oa, ka, e, hka, hba, hga⟩ := hm.a.at (k := k) (by rw [← HA.out]; exact hkna)
  injection e with e1 e2 e3
  subst e1 e3
  have qa := hga k (by rw [← HA.out]; exact hkna)
  clear hga e2
  rw [HX.out] at qa
  have hpl := bkP_le st l ad (k := k) (n := n + 1) (by omega)
  rw [bkP, HP0.out, HC.out, ← hpq, HN.out] at hpl
  have HPP := Lib.hid (show bkP st l ad k = p' by rw [bkP, HP0.out, HC.out, hpq])
  have HSX := Lib.hid (show bkS st l ad k ++ bkR p q = bkS st l ad (k + 1) by rw [bkS, HP0.out, HC.out])
  rw [HSX.out] at hbm
  clear hpq hlt
  by_cases hkn : k = n
  · subst hkn
    have p_0 := l1.cell (k := 0) rfl
    have p_1 := l1.cell (k := 1) rfl
    have p_l := l1.lt
    have t0 := l3.cell (k := 0) rfl
    have t1' := l3.cell (k := 1) rfl
    have f0 := l3.frozen 0
    have f1 := l3.frozen 1
    have tl := l3.lt
    have lT := hbm.lin
    have z0 := lT.cell (k := 0) rfl
    have z1 := lT.cell (k := 1) rfl
    have zl := lT.lt
    clear lT
    have hlS := bkS_len st l ad (k + 1)
    rw [HN.out] at hlS
    have hlA := bkA_len st l ad N k
    go_wp2
    refine bodyPost_ret (v := .tuple #[.agg #[.slice a0 n0 c0, .slice (some ⟨g, 0, none⟩) M M], .int .i64 0]) (by simp [results, Try.results23, go_sem, t0, t1']) rfl ?_
    refine ⟨_, _, ⟨_, (((Y6.step V).le.setCell (p := ⟨B3, 0, none⟩) hloB3 (.slice a0 n0 c0)).setCell (p := ⟨B3, 1, none⟩) hloB3 (.slice (some ⟨g, 0, none⟩) M M))⟩, by rw [HR.out.1], rfl, by rw [HR.out.2.1, HR.out.2.2]; exact hbm.past hRY _ _ (by omega) (by omega)⟩
  have hkn : k < n := by omega
  have hkl : k < l.length := by rw [HL.out]; exact hkn
  have hext := ext_bt hkl
  obtain ⟨P, hP⟩ : ∃ P, hasB st k = P := ⟨_, rfl⟩
  have HPB := Lib.hid hP
  cases P
  · have HBA := Lib.hid (show bkA st l ad N (k + 1) = bkA st l ad N k by rw [bkA, if_neg (by rw [hP]; simp)])
    have HRD := Lib.hid (show (rd st l ad (k + 1)).length = p' + 1 by rw [rd_len_succ, kp_no hkl hP, HPP.out]; rfl)
    clear hP
    have p_0 := l1.cell (k := 0) rfl
    have p_1 := l1.cell (k := 1) rfl
    have p_l := l1.lt
    go_wp2_with fail
    refine (Has_calls _ st k _ hm.s).mono ?_
    rintro e w' ⟨rfl, rfl⟩
    rw [HPB.out]
    go_wp2
    go_roundw
    case rel => exact ⟨k + 1, p' + 1, V, _, rfl, by omega, by go_num, by go_num, HRD, by rw [HBA.out]; exact hbm⟩
    case measure => simp [intOf]; omega
  · have HBA := Lib.hid (show bkA st l ad N (k + 1) = (bkA st l ad N k).set p' (sat (bkA st l ad N k) p' ++ [bt l k]) by rw [bkA, if_pos ⟨hkl, hP⟩, HPP.out])
    have HRD := Lib.hid (show (rd st l ad (k + 1)).length = p' by rw [rd_len_succ, kp_yes hP, HPP.out]; rfl)
    clear hP
    have p_0 := l1.cell (k := 0) rfl
    have p_1 := l1.cell (k := 1) rfl
    have p_l := l1.lt
    go_wp2_with fail
    refine (Has_calls _ st k _ hm.s).mono ?_
    rintro e w' ⟨rfl, rfl⟩
    rw [HPB.out]
    have lT := hbm.lin
    have u1 := lT.cell (k := 1) rfl
    have uT := lT.lt
    clear lT
    obtain ⟨y, hy⟩ : ∃ y, sat (bkA st l ad N k) p' = y := ⟨_, rfl⟩
    obtain ⟨g', e1, hgl, -, -, -, -, hcl, -⟩ := hbm.put (k := p') (by rw [bkA_len]; omega) []
    obtain rfl : g = g' := Addr.some_block e1
    clear e1
    rw [hy] at hcl
    have HBY := Lib.hid (show bkA st l ad N (k + 1) = (bkA st l ad N k).set p' (y ++ [bt l k]) by rw [HBA.out, hy])
    have hyl : y.length ≤ 12 := by
      have := bkA_sat st l ad N k p'
      rw [hy] at this
      omega
    have hpM : p' < M := by omega
    go_wp2
    refine Mix.region_mixL (Mix.kinds [] [] [15]) (by kernel_rfl) (by kernel_rfl) ?_
    repeat ((with_reducible refine Mix.atCons ?_); first | refine Mix.skipU (by rfl) rfl (by rfl) ?_ | (refine Mix.val rfl rfl (by rfl) (fun K hK => ?_); go_big_quiet_op; refine hK _ ?_; clear hK K) | (refine Mix.skip (by rfl) ?_; go_frame))
    refine Mix.last rfl (by rfl) (fun x8 K8 hK8 => ?_)
    clear hcl hgl
    have hb8 := hbm.later x8
    obtain ⟨g', e1, hgl, -, -, -, hfz, hcl, hb9⟩ := hb8.put (k := p') (by rw [bkA_len]; omega) (y ++ [bt l k])
    obtain rfl : g = g' := Addr.some_block e1
    clear e1
    have HB9 := Lib.hid hb9
    clear hb8 hbm hb9
    go_wp2_with fail
    refine Mix.done (fun x9 => ?_)
    have hb9 := HB9.out.later x9
    rw [← HBY.out] at hb9
    go_wp2
    go_roundw
    case rel => exact ⟨k + 1, p', ⟨_, hb9.le⟩, _, rfl, by omega, by go_num, by go_num, HRD, hb9⟩
    case measure => simp [intOf]; omega
end Go.Proofs.Ytpkgfkeekcgkcaa

/-  The definitions' Unseen. -/
namespace Go.Proofs.Ytpkgfkeekcgkcaa
open Go.RowKit
/-- a range, and an error -/
def RgG (H E : Int) (W : World) (e : Ending) (w' : World) : Prop := ∃ x : Later W, e = .returned (.tuple #[.agg #[.int .i64 0, .int .i64 H], .int .i64 E]) ∧ w' = x.w
def unsM (one two num den : Int) : Int := min one two * den / num
def argU (one two both : Int) : Prop := one < 0 ∨ 1000 < one ∨ two < 0 ∨ 1000 < two ∨ both < 0 ∨ one < both ∨ two < both
def shareU (num den : Int) : Prop := den < 1 ∨ 1000 < den ∨ num < 1 ∨ den < num
instance (one two both : Int) : Decidable (argU one two both) := by unfold argU; infer_instance
instance (num den : Int) : Decidable (shareU num den) := by unfold shareU; infer_instance
def unsE (one two both num den : Int) : Int := if argU one two both then 2 else if shareU num den then 3 else if unsM one two num den < one + two - both then 14 else 0
def unsH (one two both num den : Int) : Int := if unsE one two both num den = 0 then unsM one two num den - (one + two - both) else 0
theorem uns_arg {one two both num den : Int} (h : argU one two both) : unsE one two both num den = 2 ∧ unsH one two both num den = 0 := by
  have e : unsE one two both num den = 2 := by rw [unsE, if_pos h]
  exact ⟨e, by rw [unsH, e]; rfl⟩
theorem uns_share {one two both num den : Int} (h : ¬ argU one two both) (h2 : shareU num den) : unsE one two both num den = 3 ∧ unsH one two both num den = 0 := by
  have e : unsE one two both num den = 3 := by rw [unsE, if_neg h, if_pos h2]
  exact ⟨e, by rw [unsH, e]; rfl⟩
theorem uns_none {one two both num den : Int} (h : ¬ argU one two both) (h2 : ¬ shareU num den) (h3 : unsM one two num den < one + two - both) : unsE one two both num den = 14 ∧ unsH one two both num den = 0 := by
  have e : unsE one two both num den = 14 := by rw [unsE, if_neg h, if_neg h2, if_pos h3]
  exact ⟨e, by rw [unsH, e]; rfl⟩
theorem uns_some {one two both num den : Int} (h : ¬ argU one two both) (h2 : ¬ shareU num den) (h3 : ¬ unsM one two num den < one + two - both) : unsE one two both num den = 0 ∧ unsH one two both num den = unsM one two num den - (one + two - both) := by
  have e : unsE one two both num den = 0 := by rw [unsE, if_neg h, if_neg h2, if_neg h3]
  exact ⟨e, by rw [unsH, e]; rfl⟩
theorem unsM_iff {one two num den : Int} (hn : 0 < num) (hd : 0 ≤ den) (a : Int) : a ≤ unsM one two num den ↔ a * num ≤ one * den ∧ a * num ≤ two * den := by
  rw [unsM, Int.le_ediv_iff_mul_le hn]
  have h1 : min one two * den = min (one * den) (two * den) := by
    rcases Int.le_total one two with h | h
    · rw [Int.min_eq_left h, Int.min_eq_left (Int.mul_le_mul_of_nonneg_right h hd)]
    · rw [Int.min_eq_right h, Int.min_eq_right (Int.mul_le_mul_of_nonneg_right h hd)]
  rw [h1]; omega
theorem mul_box {x y X Y : Int} (h0 : 0 ≤ x) (h1 : x ≤ X) (h2 : 0 ≤ y) (h3 : y ≤ Y) : 0 ≤ x * y ∧ x * y ≤ X * Y :=
  ⟨Int.mul_nonneg h0 h2, Int.le_trans (Int.mul_le_mul_of_nonneg_right h1 h2) (Int.mul_le_mul_of_nonneg_left h3 (Int.le_trans h0 h1))⟩
theorem unsM_box {one two num den : Int} (h0 : 0 ≤ one) (h2 : one ≤ 1000) (h1 : 0 ≤ two) (hn : 0 < num) (hd : 0 ≤ den) (hd2 : den ≤ 1000) : 0 ≤ unsM one two num den ∧ unsM one two num den ≤ 1000000 := by
  have hm : 0 ≤ min one two * den ∧ min one two * den ≤ 1000 * 1000 := mul_box (by omega) (by omega) hd hd2
  refine ⟨Int.ediv_nonneg hm.1 (by omega), Int.le_trans (Int.ediv_le_self _ hm.1) (by omega)⟩
set_option maxRecDepth 100000 in
set_option maxHeartbeats 4000000 in
theorem rUnseen_calls (one two both num den : Int) (W : World) :
    Calls Try.prog 44 #[.int .i64 one, .int .i64 two, .int .i64 both, .agg #[.int .i64 num, .int .i64 den]] W (RgG (unsH one two both num den) (unsE one two both num den) W) := by
  have S : Ins W [] := Ins.nil _
  by_cases a0 : one < 0
  rotate_left
  by_cases a1 : 1000 < one
  rotate_left
  by_cases a2 : two < 0
  rotate_left
  by_cases a3 : 1000 < two
  rotate_left
  by_cases a4 : both < 0
  rotate_left
  by_cases a5 : one < both
  rotate_left
  by_cases a6 : two < both
  rotate_left
  by_cases b0 : den < 1
  rotate_left
  by_cases b1 : 1000 < den
  rotate_left
  by_cases b2 : num < 1
  rotate_left
  by_cases b3 : den < num
  rotate_left
  · have hA : ¬ argU one two both := by unfold argU; omega
    have hB : ¬ shareU num den := by unfold shareU; omega
    have d0 : decide (one < 0) = false := by simp; omega
    have d1 : decide (1000 < one) = false := by simp; omega
    have d2 : decide (two < 0) = false := by simp; omega
    have d3 : decide (1000 < two) = false := by simp; omega
    have d4 : decide (both < 0) = false := by simp; omega
    have d5 : decide (one < both) = false := by simp; omega
    have d6 : decide (two < both) = false := by simp; omega
    have e0 : decide (den < 1) = false := by simp; omega
    have e1 : decide (1000 < den) = false := by simp; omega
    have e2 : decide (num < 1) = false := by simp; omega
    have e3 : decide (den < num) = false := by simp; omega
    have hn0 : 0 < num := by omega
    have hd0 : 0 ≤ den := by omega
    have hm := unsM_box (num := num) (show 0 ≤ one by omega) (by omega) (show 0 ≤ two by omega) hn0 hd0 (by omega)
    have hiff := unsM_iff (one := one) (two := two) hn0 hd0
    obtain ⟨M, hM⟩ : ∃ M, unsM one two num den = M := ⟨_, rfl⟩
    rw [hM] at hm hiff
    have HM := Lib.hid hM
    obtain ⟨P1, hP1⟩ : ∃ p, one * den = p := ⟨_, rfl⟩
    obtain ⟨P2, hP2⟩ : ∃ p, two * den = p := ⟨_, rfl⟩
    have hb1 := mul_box (x := one) (y := den) (X := 1000) (Y := 1000) (by omega) (by omega) hd0 (by omega)
    have hb2 := mul_box (x := two) (y := den) (X := 1000) (Y := 1000) (by omega) (by omega) hd0 (by omega)
    rw [hP1] at hb1 hiff
    rw [hP2] at hb2 hiff
    have HIFF := Lib.hid hiff
    clear hiff hM
    obtain ⟨f, hf⟩ : ∃ f, one + two - both = f := ⟨_, rfl⟩
    have hfb : 0 ≤ f ∧ f ≤ 2000 := by omega
    have HF := Lib.hid hf
    have HRN := Lib.hid (fun h => uns_none (one := one) (two := two) (both := both) (num := num) (den := den) hA hB h)
    have HRS := Lib.hid (fun h => uns_some (one := one) (two := two) (both := both) (num := num) (den := den) hA hB h)
    rw [HM.out, hf] at HRN HRS
    clear hA hB hn0 hd0
    obtain ⟨hm0, hm1⟩ := hm
    obtain ⟨hp10, hp11⟩ := hb1
    obtain ⟨hp20, hp21⟩ := hb2
    obtain ⟨hf0, hf1⟩ := hfb
    go_enter Try.func44, Try.ntmps44
    go_wp2_with fail
    obtain ⟨B1, hb⟩ : ∃ b, b = W.heap.size := ⟨_, rfl⟩
    have l1 : Lin (W.alloc (.cells #[.int .i64 num, .int .i64 den] 55)) B1 55 [.int .i64 num, .int .i64 den] := by rw [hb]; exact Lin.new _ _ [.int .i64 num, .int .i64 den]
    replace S := S.later (Later.new _ (.cells #[.int .i64 num, .int .i64 den] 55))
    rw [Later.new_w] at S
    have hsz : (W.alloc (.cells #[.int .i64 num, .int .i64 den] 55)).heap.size = B1 + 1 := by rw [hb]; simp
    obtain ⟨Y2, hZ⟩ : ∃ Z : Later W, Z.w = W.alloc (.cells #[.int .i64 num, .int .i64 den] 55) := ⟨Later.new _ _, rfl⟩
    rw [← hZ] at S hsz l1 ⊢
    clear hZ
    rw [← hb]
    clear hb
    have hs2 := hsz
    rw [← hsz]
    clear hsz hs2
    obtain ⟨B3, hb⟩ : ∃ b, b = Y2.w.heap.size := ⟨_, rfl⟩
    have hloB3 : W.heap.size ≤ B3 := by rw [hb]; exact Y2.size
    have l3 : Lin (Y2.w.alloc (.cells #[.int .i64 0, .int .i64 0] 57)) B3 57 [.int .i64 0, .int .i64 0] := by rw [hb]; exact Lin.new _ _ [.int .i64 0, .int .i64 0]
    replace S := S.later (Later.new _ (.cells #[.int .i64 0, .int .i64 0] 57))
    rw [Later.new_w] at S
    replace l1 := l1.later (Later.new _ (.cells #[.int .i64 0, .int .i64 0] 57))
    rw [Later.new_w] at l1
    have hsz : (Y2.w.alloc (.cells #[.int .i64 0, .int .i64 0] 57)).heap.size = B3 + 1 := by rw [hb]; simp
    obtain ⟨Y4, hZ⟩ : ∃ Z : Later W, Z.w = Y2.w.alloc (.cells #[.int .i64 0, .int .i64 0] 57) := ⟨Y2.step (Later.new _ _), rfl⟩
    rw [← hZ] at S hsz l1 l3 ⊢
    clear hZ
    rw [← hb]
    clear hb
    have HSZ := Lib.hid hsz
    clear hsz
    have q_0 := l1.cell (k := 0) rfl
    have q_1 := l1.cell (k := 1) rfl
    have q_l := l1.lt
    have hTn := Lin.new Y4.w 57 [.int .i64 0, .int .i64 0]
    rw [HSZ.out] at hTn
    go_wp2
    obtain ⟨V0, hV0⟩ : ∃ V : Later Y4.w, V.w = Y4.w.alloc (.cells #[.int .i64 0, .int .i64 0] 57) := ⟨Later.new _ _, rfl⟩
    have hln : Lin V0.w (B3 + 1) 57 [.int .i64 0, .int .i64 0] := by rw [hV0]; exact hTn
    rw [← hV0]
    clear hTn hV0
    have hTY : Y4.w.heap.size ≤ B3 + 1 := Nat.le_of_eq HSZ.out
    obtain ⟨T, hT⟩ : ∃ T, B3 + 1 = T := ⟨_, rfl⟩
    rw [hT] at hln hTY ⊢
    clear hT q_0 q_1 q_l
    go_loopw [12, 13] (fun s0 a0 wr => ∃ (k : Nat) (a hi : Int) (V : Later Y4.w), wr = V.w ∧ s0 = .bool (decide (0 < k)) ∧ a0 = .int .i64 a ∧ Hid (a = f + k) ∧ Hid (k = 0 ∨ a ≤ M + 1) ∧ Hid (hi = if k = 0 then 0 else (k : Int) - 1) ∧ Lin V.w T 57 [.int .i64 0, .int .i64 hi]) (fun _ a0 _ => (M + 1 - intOf a0).toNat)
    case atStart => exact ⟨0, f, 0, V0, rfl, rfl, rfl, Lib.hid (by simp), Lib.hid (.inl rfl), Lib.hid rfl, hln⟩
    clear hln V0
    obtain ⟨k, a, hi, V, rfl, rfl, rfl, hA, hB, hH, hln⟩ := hrel
    replace l1 := l1.later V
    replace l3 := l3.later V
    replace S := S.later V
    have ha0 : 0 ≤ a := by have := hA.out; omega
    have ha1 : a ≤ 1000002 := by
      have h1 := hA.out
      have h2 := hB.out
      omega
    obtain ⟨A, hAm⟩ : ∃ A, a * num = A := ⟨_, rfl⟩
    have hAb := mul_box (x := a) (y := num) (X := 1000002) (Y := 1000) ha0 ha1 (by omega) (by omega)
    rw [hAm] at hAb
    obtain ⟨hA0, hA1⟩ := hAb
    have hit := HIFF.out a
    rw [hAm] at hit
    by_cases hlt : a ≤ M
    rotate_left
    by_cases hc1 : A ≤ P1
    rotate_left
    · have x1 : decide (A ≤ P1) = false := decide_eq_false hc1
      have HLT := Lib.hid hlt
      clear hit hlt hc1
      have u0 := hln.cell (k := 0) rfl
      have u1 := hln.cell (k := 1) rfl
      have ul := hln.lt
      by_cases hk0 : 0 < k
      · have x3 : decide (0 < k) = true := by simp; omega
        have HR := Lib.hid (HRS.out (by
          have h1 := hA.out
          have h2 := hB.out
          have h3 := HLT.out
          omega))
        have hhi : hi = M - f := by
          have h1 := hA.out
          have h2 := hB.out
          have h3 := HLT.out
          rw [hH.out, if_neg (by omega)]
          omega
        have HHI := Lib.hid hhi
        clear hhi hk0
        have q_0 := l1.cell (k := 0) rfl
        have q_1 := l1.cell (k := 1) rfl
        have q_l := l1.lt
        have t0 := l3.cell (k := 0) rfl
        have t1' := l3.cell (k := 1) rfl
        have f0 := l3.frozen 0
        have f1 := l3.frozen 1
        have tl := l3.lt
        go_wp2
        refine bodyPost_ret (v := .tuple #[.agg #[.int .i64 0, .int .i64 hi], .int .i64 0]) (by simp [results, Try.results44, go_sem, t0, t1']) rfl ?_
        first | exact ⟨⟨_, ((Y4.step V).le.setCell (p := ⟨B3, 1, none⟩) hloB3 (.int .i64 hi))⟩, by rw [HR.out.1, HR.out.2, HHI.out], rfl⟩ | exact ⟨⟨_, (((Y4.step V).le.setCell (p := ⟨B3, 0, none⟩) hloB3 (.int .i64 0)).setCell (p := ⟨B3, 1, none⟩) hloB3 (.int .i64 hi))⟩, by rw [HR.out.1, HR.out.2, HHI.out], rfl⟩
      · have x3 : decide (0 < k) = false := by simp; omega
        have HR := Lib.hid (HRN.out (by
          have h1 := hA.out
          have h3 := HLT.out
          omega))
        clear hk0
        have q_0 := l1.cell (k := 0) rfl
        have q_1 := l1.cell (k := 1) rfl
        have q_l := l1.lt
        have t0 := l3.cell (k := 0) rfl
        have t1' := l3.cell (k := 1) rfl
        have f0 := l3.frozen 0
        have f1 := l3.frozen 1
        have tl := l3.lt
        go_wp2
        refine bodyPost_ret (v := .tuple #[.agg #[.int .i64 0, .int .i64 0], .int .i64 14]) (by simp [results, Try.results44, go_sem, t0, t1']) rfl ?_
        first | exact ⟨Y4.step V, by rw [HR.out.1, HR.out.2], rfl⟩ | exact ⟨⟨_, (((Y4.step V).le.setCell (p := ⟨B3, 0, none⟩) hloB3 (.int .i64 0)).setCell (p := ⟨B3, 1, none⟩) hloB3 (.int .i64 0))⟩, by rw [HR.out.1, HR.out.2], rfl⟩
    · obtain ⟨hi1, hi2⟩ := hit.1 hlt
      have x1 : decide (A ≤ P1) = true := decide_eq_true hi1
      have x2 : decide (A ≤ P2) = true := decide_eq_true hi2
      have HLT := Lib.hid hlt
      clear hit hlt hi1 hi2
      have hHI : a - f = k := by have := hA.out; omega
      have t0 := hln.cell (k := 0) rfl
      have t1' := hln.cell (k := 1) rfl
      have f1 := hln.frozen 1
      have tl := hln.lt
      have HL2 := Lib.hid (hln.set 1 (.int .i64 k))
      have HBL := Lib.hid (V.le.setCell (p := ⟨T, 1, none⟩) hTY (.int .i64 k))
      have q_0 := l1.cell (k := 0) rfl
      have q_1 := l1.cell (k := 1) rfl
      have q_l := l1.lt
      go_wp2
      go_roundw
      case rel => exact ⟨k + 1, a + 1, k, ⟨_, HBL.out⟩, rfl, by simp, by go_num, Lib.hid (by rw [hA.out]; push_cast; omega), Lib.hid (.inr (by have := HLT.out; omega)), Lib.hid (by simp), HL2.out⟩
      case measure => have := HLT.out; simp [intOf]; omega
    · have x1 : decide (A ≤ P1) = true := decide_eq_true hc1
      have x2 : decide (A ≤ P2) = false := decide_eq_false (fun h => hlt (hit.2 ⟨hc1, h⟩))
      have HLT := Lib.hid hlt
      clear hit hlt hc1
      have u0 := hln.cell (k := 0) rfl
      have u1 := hln.cell (k := 1) rfl
      have ul := hln.lt
      by_cases hk0 : 0 < k
      · have x3 : decide (0 < k) = true := by simp; omega
        have HR := Lib.hid (HRS.out (by
          have h1 := hA.out
          have h2 := hB.out
          have h3 := HLT.out
          omega))
        have hhi : hi = M - f := by
          have h1 := hA.out
          have h2 := hB.out
          have h3 := HLT.out
          rw [hH.out, if_neg (by omega)]
          omega
        have HHI := Lib.hid hhi
        clear hhi hk0
        have q_0 := l1.cell (k := 0) rfl
        have q_1 := l1.cell (k := 1) rfl
        have q_l := l1.lt
        have t0 := l3.cell (k := 0) rfl
        have t1' := l3.cell (k := 1) rfl
        have f0 := l3.frozen 0
        have f1 := l3.frozen 1
        have tl := l3.lt
        go_wp2
        refine bodyPost_ret (v := .tuple #[.agg #[.int .i64 0, .int .i64 hi], .int .i64 0]) (by simp [results, Try.results44, go_sem, t0, t1']) rfl ?_
        first | exact ⟨⟨_, ((Y4.step V).le.setCell (p := ⟨B3, 1, none⟩) hloB3 (.int .i64 hi))⟩, by rw [HR.out.1, HR.out.2, HHI.out], rfl⟩ | exact ⟨⟨_, (((Y4.step V).le.setCell (p := ⟨B3, 0, none⟩) hloB3 (.int .i64 0)).setCell (p := ⟨B3, 1, none⟩) hloB3 (.int .i64 hi))⟩, by rw [HR.out.1, HR.out.2, HHI.out], rfl⟩
      · have x3 : decide (0 < k) = false := by simp; omega
        have HR := Lib.hid (HRN.out (by
          have h1 := hA.out
          have h3 := HLT.out
          omega))
        clear hk0
        have q_0 := l1.cell (k := 0) rfl
        have q_1 := l1.cell (k := 1) rfl
        have q_l := l1.lt
        have t0 := l3.cell (k := 0) rfl
        have t1' := l3.cell (k := 1) rfl
        have f0 := l3.frozen 0
        have f1 := l3.frozen 1
        have tl := l3.lt
        go_wp2
        refine bodyPost_ret (v := .tuple #[.agg #[.int .i64 0, .int .i64 0], .int .i64 14]) (by simp [results, Try.results44, go_sem, t0, t1']) rfl ?_
        first | exact ⟨Y4.step V, by rw [HR.out.1, HR.out.2], rfl⟩ | exact ⟨⟨_, (((Y4.step V).le.setCell (p := ⟨B3, 0, none⟩) hloB3 (.int .i64 0)).setCell (p := ⟨B3, 1, none⟩) hloB3 (.int .i64 0))⟩, by rw [HR.out.1, HR.out.2], rfl⟩
  · have HR := Lib.hid (uns_arg (one := one) (two := two) (both := both) (num := num) (den := den) (by unfold argU; omega))
    have d0 : decide (one < 0) = true := by simp; omega
    clear a0
    go_enter Try.func44, Try.ntmps44
    go_wp2_with fail
    obtain ⟨B1, hb⟩ : ∃ b, b = W.heap.size := ⟨_, rfl⟩
    have l1 : Lin (W.alloc (.cells #[.int .i64 num, .int .i64 den] 55)) B1 55 [.int .i64 num, .int .i64 den] := by rw [hb]; exact Lin.new _ _ [.int .i64 num, .int .i64 den]
    replace S := S.later (Later.new _ (.cells #[.int .i64 num, .int .i64 den] 55))
    rw [Later.new_w] at S
    have hsz : (W.alloc (.cells #[.int .i64 num, .int .i64 den] 55)).heap.size = B1 + 1 := by rw [hb]; simp
    obtain ⟨Y2, hZ⟩ : ∃ Z : Later W, Z.w = W.alloc (.cells #[.int .i64 num, .int .i64 den] 55) := ⟨Later.new _ _, rfl⟩
    rw [← hZ] at S hsz l1 ⊢
    clear hZ
    rw [← hb]
    clear hb
    have hs2 := hsz
    rw [← hsz]
    clear hsz hs2
    obtain ⟨B3, hb⟩ : ∃ b, b = Y2.w.heap.size := ⟨_, rfl⟩
    have hloB3 : W.heap.size ≤ B3 := by rw [hb]; exact Y2.size
    have l3 : Lin (Y2.w.alloc (.cells #[.int .i64 0, .int .i64 0] 57)) B3 57 [.int .i64 0, .int .i64 0] := by rw [hb]; exact Lin.new _ _ [.int .i64 0, .int .i64 0]
    replace S := S.later (Later.new _ (.cells #[.int .i64 0, .int .i64 0] 57))
    rw [Later.new_w] at S
    replace l1 := l1.later (Later.new _ (.cells #[.int .i64 0, .int .i64 0] 57))
    rw [Later.new_w] at l1
    have hsz : (Y2.w.alloc (.cells #[.int .i64 0, .int .i64 0] 57)).heap.size = B3 + 1 := by rw [hb]; simp
    obtain ⟨Y4, hZ⟩ : ∃ Z : Later W, Z.w = Y2.w.alloc (.cells #[.int .i64 0, .int .i64 0] 57) := ⟨Y2.step (Later.new _ _), rfl⟩
    rw [← hZ] at S hsz l1 l3 ⊢
    clear hZ
    rw [← hb]
    clear hb
    have HSZ := Lib.hid hsz
    clear hsz
    have t0 := l3.cell (k := 0) rfl
    have t1' := l3.cell (k := 1) rfl
    have f0 := l3.frozen 0
    have f1 := l3.frozen 1
    have tl := l3.lt
    go_wp2
    refine bodyPost_ret (v := .tuple #[.agg #[.int .i64 0, .int .i64 0], .int .i64 2]) (by simp [results, Try.results44, go_sem, t0, t1']) rfl ?_
    exact ⟨Y4, by rw [HR.out.1, HR.out.2], rfl⟩
  · have HR := Lib.hid (uns_arg (one := one) (two := two) (both := both) (num := num) (den := den) (by unfold argU; omega))
    have d0 : decide (one < 0) = false := by simp; omega
    have d1 : decide (1000 < one) = true := by simp; omega
    clear a0 a1
    go_enter Try.func44, Try.ntmps44
    go_wp2_with fail
    obtain ⟨B1, hb⟩ : ∃ b, b = W.heap.size := ⟨_, rfl⟩
    have l1 : Lin (W.alloc (.cells #[.int .i64 num, .int .i64 den] 55)) B1 55 [.int .i64 num, .int .i64 den] := by rw [hb]; exact Lin.new _ _ [.int .i64 num, .int .i64 den]
    replace S := S.later (Later.new _ (.cells #[.int .i64 num, .int .i64 den] 55))
    rw [Later.new_w] at S
    have hsz : (W.alloc (.cells #[.int .i64 num, .int .i64 den] 55)).heap.size = B1 + 1 := by rw [hb]; simp
    obtain ⟨Y2, hZ⟩ : ∃ Z : Later W, Z.w = W.alloc (.cells #[.int .i64 num, .int .i64 den] 55) := ⟨Later.new _ _, rfl⟩
    rw [← hZ] at S hsz l1 ⊢
    clear hZ
    rw [← hb]
    clear hb
    have hs2 := hsz
    rw [← hsz]
    clear hsz hs2
    obtain ⟨B3, hb⟩ : ∃ b, b = Y2.w.heap.size := ⟨_, rfl⟩
    have hloB3 : W.heap.size ≤ B3 := by rw [hb]; exact Y2.size
    have l3 : Lin (Y2.w.alloc (.cells #[.int .i64 0, .int .i64 0] 57)) B3 57 [.int .i64 0, .int .i64 0] := by rw [hb]; exact Lin.new _ _ [.int .i64 0, .int .i64 0]
    replace S := S.later (Later.new _ (.cells #[.int .i64 0, .int .i64 0] 57))
    rw [Later.new_w] at S
    replace l1 := l1.later (Later.new _ (.cells #[.int .i64 0, .int .i64 0] 57))
    rw [Later.new_w] at l1
    have hsz : (Y2.w.alloc (.cells #[.int .i64 0, .int .i64 0] 57)).heap.size = B3 + 1 := by rw [hb]; simp
    obtain ⟨Y4, hZ⟩ : ∃ Z : Later W, Z.w = Y2.w.alloc (.cells #[.int .i64 0, .int .i64 0] 57) := ⟨Y2.step (Later.new _ _), rfl⟩
    rw [← hZ] at S hsz l1 l3 ⊢
    clear hZ
    rw [← hb]
    clear hb
    have HSZ := Lib.hid hsz
    clear hsz
    have t0 := l3.cell (k := 0) rfl
    have t1' := l3.cell (k := 1) rfl
    have f0 := l3.frozen 0
    have f1 := l3.frozen 1
    have tl := l3.lt
    go_wp2
    refine bodyPost_ret (v := .tuple #[.agg #[.int .i64 0, .int .i64 0], .int .i64 2]) (by simp [results, Try.results44, go_sem, t0, t1']) rfl ?_
    exact ⟨Y4, by rw [HR.out.1, HR.out.2], rfl⟩
  · have HR := Lib.hid (uns_arg (one := one) (two := two) (both := both) (num := num) (den := den) (by unfold argU; omega))
    have d0 : decide (one < 0) = false := by simp; omega
    have d1 : decide (1000 < one) = false := by simp; omega
    have d2 : decide (two < 0) = true := by simp; omega
    clear a0 a1 a2
    go_enter Try.func44, Try.ntmps44
    go_wp2_with fail
    obtain ⟨B1, hb⟩ : ∃ b, b = W.heap.size := ⟨_, rfl⟩
    have l1 : Lin (W.alloc (.cells #[.int .i64 num, .int .i64 den] 55)) B1 55 [.int .i64 num, .int .i64 den] := by rw [hb]; exact Lin.new _ _ [.int .i64 num, .int .i64 den]
    replace S := S.later (Later.new _ (.cells #[.int .i64 num, .int .i64 den] 55))
    rw [Later.new_w] at S
    have hsz : (W.alloc (.cells #[.int .i64 num, .int .i64 den] 55)).heap.size = B1 + 1 := by rw [hb]; simp
    obtain ⟨Y2, hZ⟩ : ∃ Z : Later W, Z.w = W.alloc (.cells #[.int .i64 num, .int .i64 den] 55) := ⟨Later.new _ _, rfl⟩
    rw [← hZ] at S hsz l1 ⊢
    clear hZ
    rw [← hb]
    clear hb
    have hs2 := hsz
    rw [← hsz]
    clear hsz hs2
    obtain ⟨B3, hb⟩ : ∃ b, b = Y2.w.heap.size := ⟨_, rfl⟩
    have hloB3 : W.heap.size ≤ B3 := by rw [hb]; exact Y2.size
    have l3 : Lin (Y2.w.alloc (.cells #[.int .i64 0, .int .i64 0] 57)) B3 57 [.int .i64 0, .int .i64 0] := by rw [hb]; exact Lin.new _ _ [.int .i64 0, .int .i64 0]
    replace S := S.later (Later.new _ (.cells #[.int .i64 0, .int .i64 0] 57))
    rw [Later.new_w] at S
    replace l1 := l1.later (Later.new _ (.cells #[.int .i64 0, .int .i64 0] 57))
    rw [Later.new_w] at l1
    have hsz : (Y2.w.alloc (.cells #[.int .i64 0, .int .i64 0] 57)).heap.size = B3 + 1 := by rw [hb]; simp
    obtain ⟨Y4, hZ⟩ : ∃ Z : Later W, Z.w = Y2.w.alloc (.cells #[.int .i64 0, .int .i64 0] 57) := ⟨Y2.step (Later.new _ _), rfl⟩
    rw [← hZ] at S hsz l1 l3 ⊢
    clear hZ
    rw [← hb]
    clear hb
    have HSZ := Lib.hid hsz
    clear hsz
    have t0 := l3.cell (k := 0) rfl
    have t1' := l3.cell (k := 1) rfl
    have f0 := l3.frozen 0
    have f1 := l3.frozen 1
    have tl := l3.lt
    go_wp2
    refine bodyPost_ret (v := .tuple #[.agg #[.int .i64 0, .int .i64 0], .int .i64 2]) (by simp [results, Try.results44, go_sem, t0, t1']) rfl ?_
    exact ⟨Y4, by rw [HR.out.1, HR.out.2], rfl⟩
  · have HR := Lib.hid (uns_arg (one := one) (two := two) (both := both) (num := num) (den := den) (by unfold argU; omega))
    have d0 : decide (one < 0) = false := by simp; omega
    have d1 : decide (1000 < one) = false := by simp; omega
    have d2 : decide (two < 0) = false := by simp; omega
    have d3 : decide (1000 < two) = true := by simp; omega
    clear a0 a1 a2 a3
    go_enter Try.func44, Try.ntmps44
    go_wp2_with fail
    obtain ⟨B1, hb⟩ : ∃ b, b = W.heap.size := ⟨_, rfl⟩
    have l1 : Lin (W.alloc (.cells #[.int .i64 num, .int .i64 den] 55)) B1 55 [.int .i64 num, .int .i64 den] := by rw [hb]; exact Lin.new _ _ [.int .i64 num, .int .i64 den]
    replace S := S.later (Later.new _ (.cells #[.int .i64 num, .int .i64 den] 55))
    rw [Later.new_w] at S
    have hsz : (W.alloc (.cells #[.int .i64 num, .int .i64 den] 55)).heap.size = B1 + 1 := by rw [hb]; simp
    obtain ⟨Y2, hZ⟩ : ∃ Z : Later W, Z.w = W.alloc (.cells #[.int .i64 num, .int .i64 den] 55) := ⟨Later.new _ _, rfl⟩
    rw [← hZ] at S hsz l1 ⊢
    clear hZ
    rw [← hb]
    clear hb
    have hs2 := hsz
    rw [← hsz]
    clear hsz hs2
    obtain ⟨B3, hb⟩ : ∃ b, b = Y2.w.heap.size := ⟨_, rfl⟩
    have hloB3 : W.heap.size ≤ B3 := by rw [hb]; exact Y2.size
    have l3 : Lin (Y2.w.alloc (.cells #[.int .i64 0, .int .i64 0] 57)) B3 57 [.int .i64 0, .int .i64 0] := by rw [hb]; exact Lin.new _ _ [.int .i64 0, .int .i64 0]
    replace S := S.later (Later.new _ (.cells #[.int .i64 0, .int .i64 0] 57))
    rw [Later.new_w] at S
    replace l1 := l1.later (Later.new _ (.cells #[.int .i64 0, .int .i64 0] 57))
    rw [Later.new_w] at l1
    have hsz : (Y2.w.alloc (.cells #[.int .i64 0, .int .i64 0] 57)).heap.size = B3 + 1 := by rw [hb]; simp
    obtain ⟨Y4, hZ⟩ : ∃ Z : Later W, Z.w = Y2.w.alloc (.cells #[.int .i64 0, .int .i64 0] 57) := ⟨Y2.step (Later.new _ _), rfl⟩
    rw [← hZ] at S hsz l1 l3 ⊢
    clear hZ
    rw [← hb]
    clear hb
    have HSZ := Lib.hid hsz
    clear hsz
    have t0 := l3.cell (k := 0) rfl
    have t1' := l3.cell (k := 1) rfl
    have f0 := l3.frozen 0
    have f1 := l3.frozen 1
    have tl := l3.lt
    go_wp2
    refine bodyPost_ret (v := .tuple #[.agg #[.int .i64 0, .int .i64 0], .int .i64 2]) (by simp [results, Try.results44, go_sem, t0, t1']) rfl ?_
    exact ⟨Y4, by rw [HR.out.1, HR.out.2], rfl⟩
  · have HR := Lib.hid (uns_arg (one := one) (two := two) (both := both) (num := num) (den := den) (by unfold argU; omega))
    have d0 : decide (one < 0) = false := by simp; omega
    have d1 : decide (1000 < one) = false := by simp; omega
    have d2 : decide (two < 0) = false := by simp; omega
    have d3 : decide (1000 < two) = false := by simp; omega
    have d4 : decide (both < 0) = true := by simp; omega
    clear a0 a1 a2 a3 a4
    go_enter Try.func44, Try.ntmps44
    go_wp2_with fail
    obtain ⟨B1, hb⟩ : ∃ b, b = W.heap.size := ⟨_, rfl⟩
    have l1 : Lin (W.alloc (.cells #[.int .i64 num, .int .i64 den] 55)) B1 55 [.int .i64 num, .int .i64 den] := by rw [hb]; exact Lin.new _ _ [.int .i64 num, .int .i64 den]
    replace S := S.later (Later.new _ (.cells #[.int .i64 num, .int .i64 den] 55))
    rw [Later.new_w] at S
    have hsz : (W.alloc (.cells #[.int .i64 num, .int .i64 den] 55)).heap.size = B1 + 1 := by rw [hb]; simp
    obtain ⟨Y2, hZ⟩ : ∃ Z : Later W, Z.w = W.alloc (.cells #[.int .i64 num, .int .i64 den] 55) := ⟨Later.new _ _, rfl⟩
    rw [← hZ] at S hsz l1 ⊢
    clear hZ
    rw [← hb]
    clear hb
    have hs2 := hsz
    rw [← hsz]
    clear hsz hs2
    obtain ⟨B3, hb⟩ : ∃ b, b = Y2.w.heap.size := ⟨_, rfl⟩
    have hloB3 : W.heap.size ≤ B3 := by rw [hb]; exact Y2.size
    have l3 : Lin (Y2.w.alloc (.cells #[.int .i64 0, .int .i64 0] 57)) B3 57 [.int .i64 0, .int .i64 0] := by rw [hb]; exact Lin.new _ _ [.int .i64 0, .int .i64 0]
    replace S := S.later (Later.new _ (.cells #[.int .i64 0, .int .i64 0] 57))
    rw [Later.new_w] at S
    replace l1 := l1.later (Later.new _ (.cells #[.int .i64 0, .int .i64 0] 57))
    rw [Later.new_w] at l1
    have hsz : (Y2.w.alloc (.cells #[.int .i64 0, .int .i64 0] 57)).heap.size = B3 + 1 := by rw [hb]; simp
    obtain ⟨Y4, hZ⟩ : ∃ Z : Later W, Z.w = Y2.w.alloc (.cells #[.int .i64 0, .int .i64 0] 57) := ⟨Y2.step (Later.new _ _), rfl⟩
    rw [← hZ] at S hsz l1 l3 ⊢
    clear hZ
    rw [← hb]
    clear hb
    have HSZ := Lib.hid hsz
    clear hsz
    have t0 := l3.cell (k := 0) rfl
    have t1' := l3.cell (k := 1) rfl
    have f0 := l3.frozen 0
    have f1 := l3.frozen 1
    have tl := l3.lt
    go_wp2
    refine bodyPost_ret (v := .tuple #[.agg #[.int .i64 0, .int .i64 0], .int .i64 2]) (by simp [results, Try.results44, go_sem, t0, t1']) rfl ?_
    exact ⟨Y4, by rw [HR.out.1, HR.out.2], rfl⟩
  · have HR := Lib.hid (uns_arg (one := one) (two := two) (both := both) (num := num) (den := den) (by unfold argU; omega))
    have d0 : decide (one < 0) = false := by simp; omega
    have d1 : decide (1000 < one) = false := by simp; omega
    have d2 : decide (two < 0) = false := by simp; omega
    have d3 : decide (1000 < two) = false := by simp; omega
    have d4 : decide (both < 0) = false := by simp; omega
    have d5 : decide (one < both) = true := by simp; omega
    clear a0 a1 a2 a3 a4 a5
    go_enter Try.func44, Try.ntmps44
    go_wp2_with fail
    obtain ⟨B1, hb⟩ : ∃ b, b = W.heap.size := ⟨_, rfl⟩
    have l1 : Lin (W.alloc (.cells #[.int .i64 num, .int .i64 den] 55)) B1 55 [.int .i64 num, .int .i64 den] := by rw [hb]; exact Lin.new _ _ [.int .i64 num, .int .i64 den]
    replace S := S.later (Later.new _ (.cells #[.int .i64 num, .int .i64 den] 55))
    rw [Later.new_w] at S
    have hsz : (W.alloc (.cells #[.int .i64 num, .int .i64 den] 55)).heap.size = B1 + 1 := by rw [hb]; simp
    obtain ⟨Y2, hZ⟩ : ∃ Z : Later W, Z.w = W.alloc (.cells #[.int .i64 num, .int .i64 den] 55) := ⟨Later.new _ _, rfl⟩
    rw [← hZ] at S hsz l1 ⊢
    clear hZ
    rw [← hb]
    clear hb
    have hs2 := hsz
    rw [← hsz]
    clear hsz hs2
    obtain ⟨B3, hb⟩ : ∃ b, b = Y2.w.heap.size := ⟨_, rfl⟩
    have hloB3 : W.heap.size ≤ B3 := by rw [hb]; exact Y2.size
    have l3 : Lin (Y2.w.alloc (.cells #[.int .i64 0, .int .i64 0] 57)) B3 57 [.int .i64 0, .int .i64 0] := by rw [hb]; exact Lin.new _ _ [.int .i64 0, .int .i64 0]
    replace S := S.later (Later.new _ (.cells #[.int .i64 0, .int .i64 0] 57))
    rw [Later.new_w] at S
    replace l1 := l1.later (Later.new _ (.cells #[.int .i64 0, .int .i64 0] 57))
    rw [Later.new_w] at l1
    have hsz : (Y2.w.alloc (.cells #[.int .i64 0, .int .i64 0] 57)).heap.size = B3 + 1 := by rw [hb]; simp
    obtain ⟨Y4, hZ⟩ : ∃ Z : Later W, Z.w = Y2.w.alloc (.cells #[.int .i64 0, .int .i64 0] 57) := ⟨Y2.step (Later.new _ _), rfl⟩
    rw [← hZ] at S hsz l1 l3 ⊢
    clear hZ
    rw [← hb]
    clear hb
    have HSZ := Lib.hid hsz
    clear hsz
    have t0 := l3.cell (k := 0) rfl
    have t1' := l3.cell (k := 1) rfl
    have f0 := l3.frozen 0
    have f1 := l3.frozen 1
    have tl := l3.lt
    go_wp2
    refine bodyPost_ret (v := .tuple #[.agg #[.int .i64 0, .int .i64 0], .int .i64 2]) (by simp [results, Try.results44, go_sem, t0, t1']) rfl ?_
    exact ⟨Y4, by rw [HR.out.1, HR.out.2], rfl⟩
  · have HR := Lib.hid (uns_arg (one := one) (two := two) (both := both) (num := num) (den := den) (by unfold argU; omega))
    have d0 : decide (one < 0) = false := by simp; omega
    have d1 : decide (1000 < one) = false := by simp; omega
    have d2 : decide (two < 0) = false := by simp; omega
    have d3 : decide (1000 < two) = false := by simp; omega
    have d4 : decide (both < 0) = false := by simp; omega
    have d5 : decide (one < both) = false := by simp; omega
    have d6 : decide (two < both) = true := by simp; omega
    clear a0 a1 a2 a3 a4 a5 a6
    go_enter Try.func44, Try.ntmps44
    go_wp2_with fail
    obtain ⟨B1, hb⟩ : ∃ b, b = W.heap.size := ⟨_, rfl⟩
    have l1 : Lin (W.alloc (.cells #[.int .i64 num, .int .i64 den] 55)) B1 55 [.int .i64 num, .int .i64 den] := by rw [hb]; exact Lin.new _ _ [.int .i64 num, .int .i64 den]
    replace S := S.later (Later.new _ (.cells #[.int .i64 num, .int .i64 den] 55))
    rw [Later.new_w] at S
    have hsz : (W.alloc (.cells #[.int .i64 num, .int .i64 den] 55)).heap.size = B1 + 1 := by rw [hb]; simp
    obtain ⟨Y2, hZ⟩ : ∃ Z : Later W, Z.w = W.alloc (.cells #[.int .i64 num, .int .i64 den] 55) := ⟨Later.new _ _, rfl⟩
    rw [← hZ] at S hsz l1 ⊢
    clear hZ
    rw [← hb]
    clear hb
    have hs2 := hsz
    rw [← hsz]
    clear hsz hs2
    obtain ⟨B3, hb⟩ : ∃ b, b = Y2.w.heap.size := ⟨_, rfl⟩
    have hloB3 : W.heap.size ≤ B3 := by rw [hb]; exact Y2.size
    have l3 : Lin (Y2.w.alloc (.cells #[.int .i64 0, .int .i64 0] 57)) B3 57 [.int .i64 0, .int .i64 0] := by rw [hb]; exact Lin.new _ _ [.int .i64 0, .int .i64 0]
    replace S := S.later (Later.new _ (.cells #[.int .i64 0, .int .i64 0] 57))
    rw [Later.new_w] at S
    replace l1 := l1.later (Later.new _ (.cells #[.int .i64 0, .int .i64 0] 57))
    rw [Later.new_w] at l1
    have hsz : (Y2.w.alloc (.cells #[.int .i64 0, .int .i64 0] 57)).heap.size = B3 + 1 := by rw [hb]; simp
    obtain ⟨Y4, hZ⟩ : ∃ Z : Later W, Z.w = Y2.w.alloc (.cells #[.int .i64 0, .int .i64 0] 57) := ⟨Y2.step (Later.new _ _), rfl⟩
    rw [← hZ] at S hsz l1 l3 ⊢
    clear hZ
    rw [← hb]
    clear hb
    have HSZ := Lib.hid hsz
    clear hsz
    have t0 := l3.cell (k := 0) rfl
    have t1' := l3.cell (k := 1) rfl
    have f0 := l3.frozen 0
    have f1 := l3.frozen 1
    have tl := l3.lt
    go_wp2
    refine bodyPost_ret (v := .tuple #[.agg #[.int .i64 0, .int .i64 0], .int .i64 2]) (by simp [results, Try.results44, go_sem, t0, t1']) rfl ?_
    exact ⟨Y4, by rw [HR.out.1, HR.out.2], rfl⟩
  · have HR := Lib.hid (uns_share (one := one) (two := two) (both := both) (num := num) (den := den) (by unfold argU; omega) (by unfold shareU; omega))
    have d0 : decide (one < 0) = false := by simp; omega
    have d1 : decide (1000 < one) = false := by simp; omega
    have d2 : decide (two < 0) = false := by simp; omega
    have d3 : decide (1000 < two) = false := by simp; omega
    have d4 : decide (both < 0) = false := by simp; omega
    have d5 : decide (one < both) = false := by simp; omega
    have d6 : decide (two < both) = false := by simp; omega
    have e0 : decide (den < 1) = true := by simp; omega
    clear a0 a1 a2 a3 a4 a5 a6 b0
    go_enter Try.func44, Try.ntmps44
    go_wp2_with fail
    obtain ⟨B1, hb⟩ : ∃ b, b = W.heap.size := ⟨_, rfl⟩
    have l1 : Lin (W.alloc (.cells #[.int .i64 num, .int .i64 den] 55)) B1 55 [.int .i64 num, .int .i64 den] := by rw [hb]; exact Lin.new _ _ [.int .i64 num, .int .i64 den]
    replace S := S.later (Later.new _ (.cells #[.int .i64 num, .int .i64 den] 55))
    rw [Later.new_w] at S
    have hsz : (W.alloc (.cells #[.int .i64 num, .int .i64 den] 55)).heap.size = B1 + 1 := by rw [hb]; simp
    obtain ⟨Y2, hZ⟩ : ∃ Z : Later W, Z.w = W.alloc (.cells #[.int .i64 num, .int .i64 den] 55) := ⟨Later.new _ _, rfl⟩
    rw [← hZ] at S hsz l1 ⊢
    clear hZ
    rw [← hb]
    clear hb
    have hs2 := hsz
    rw [← hsz]
    clear hsz hs2
    obtain ⟨B3, hb⟩ : ∃ b, b = Y2.w.heap.size := ⟨_, rfl⟩
    have hloB3 : W.heap.size ≤ B3 := by rw [hb]; exact Y2.size
    have l3 : Lin (Y2.w.alloc (.cells #[.int .i64 0, .int .i64 0] 57)) B3 57 [.int .i64 0, .int .i64 0] := by rw [hb]; exact Lin.new _ _ [.int .i64 0, .int .i64 0]
    replace S := S.later (Later.new _ (.cells #[.int .i64 0, .int .i64 0] 57))
    rw [Later.new_w] at S
    replace l1 := l1.later (Later.new _ (.cells #[.int .i64 0, .int .i64 0] 57))
    rw [Later.new_w] at l1
    have hsz : (Y2.w.alloc (.cells #[.int .i64 0, .int .i64 0] 57)).heap.size = B3 + 1 := by rw [hb]; simp
    obtain ⟨Y4, hZ⟩ : ∃ Z : Later W, Z.w = Y2.w.alloc (.cells #[.int .i64 0, .int .i64 0] 57) := ⟨Y2.step (Later.new _ _), rfl⟩
    rw [← hZ] at S hsz l1 l3 ⊢
    clear hZ
    rw [← hb]
    clear hb
    have HSZ := Lib.hid hsz
    clear hsz
    have q_0 := l1.cell (k := 0) rfl
    have q_1 := l1.cell (k := 1) rfl
    have q_l := l1.lt
    have t0 := l3.cell (k := 0) rfl
    have t1' := l3.cell (k := 1) rfl
    have f0 := l3.frozen 0
    have f1 := l3.frozen 1
    have tl := l3.lt
    go_wp2
    refine bodyPost_ret (v := .tuple #[.agg #[.int .i64 0, .int .i64 0], .int .i64 3]) (by simp [results, Try.results44, go_sem, t0, t1']) rfl ?_
    exact ⟨Y4, by rw [HR.out.1, HR.out.2], rfl⟩
  · have HR := Lib.hid (uns_share (one := one) (two := two) (both := both) (num := num) (den := den) (by unfold argU; omega) (by unfold shareU; omega))
    have d0 : decide (one < 0) = false := by simp; omega
    have d1 : decide (1000 < one) = false := by simp; omega
    have d2 : decide (two < 0) = false := by simp; omega
    have d3 : decide (1000 < two) = false := by simp; omega
    have d4 : decide (both < 0) = false := by simp; omega
    have d5 : decide (one < both) = false := by simp; omega
    have d6 : decide (two < both) = false := by simp; omega
    have e0 : decide (den < 1) = false := by simp; omega
    have e1 : decide (1000 < den) = true := by simp; omega
    clear a0 a1 a2 a3 a4 a5 a6 b0 b1
    go_enter Try.func44, Try.ntmps44
    go_wp2_with fail
    obtain ⟨B1, hb⟩ : ∃ b, b = W.heap.size := ⟨_, rfl⟩
    have l1 : Lin (W.alloc (.cells #[.int .i64 num, .int .i64 den] 55)) B1 55 [.int .i64 num, .int .i64 den] := by rw [hb]; exact Lin.new _ _ [.int .i64 num, .int .i64 den]
    replace S := S.later (Later.new _ (.cells #[.int .i64 num, .int .i64 den] 55))
    rw [Later.new_w] at S
    have hsz : (W.alloc (.cells #[.int .i64 num, .int .i64 den] 55)).heap.size = B1 + 1 := by rw [hb]; simp
    obtain ⟨Y2, hZ⟩ : ∃ Z : Later W, Z.w = W.alloc (.cells #[.int .i64 num, .int .i64 den] 55) := ⟨Later.new _ _, rfl⟩
    rw [← hZ] at S hsz l1 ⊢
    clear hZ
    rw [← hb]
    clear hb
    have hs2 := hsz
    rw [← hsz]
    clear hsz hs2
    obtain ⟨B3, hb⟩ : ∃ b, b = Y2.w.heap.size := ⟨_, rfl⟩
    have hloB3 : W.heap.size ≤ B3 := by rw [hb]; exact Y2.size
    have l3 : Lin (Y2.w.alloc (.cells #[.int .i64 0, .int .i64 0] 57)) B3 57 [.int .i64 0, .int .i64 0] := by rw [hb]; exact Lin.new _ _ [.int .i64 0, .int .i64 0]
    replace S := S.later (Later.new _ (.cells #[.int .i64 0, .int .i64 0] 57))
    rw [Later.new_w] at S
    replace l1 := l1.later (Later.new _ (.cells #[.int .i64 0, .int .i64 0] 57))
    rw [Later.new_w] at l1
    have hsz : (Y2.w.alloc (.cells #[.int .i64 0, .int .i64 0] 57)).heap.size = B3 + 1 := by rw [hb]; simp
    obtain ⟨Y4, hZ⟩ : ∃ Z : Later W, Z.w = Y2.w.alloc (.cells #[.int .i64 0, .int .i64 0] 57) := ⟨Y2.step (Later.new _ _), rfl⟩
    rw [← hZ] at S hsz l1 l3 ⊢
    clear hZ
    rw [← hb]
    clear hb
    have HSZ := Lib.hid hsz
    clear hsz
    have q_0 := l1.cell (k := 0) rfl
    have q_1 := l1.cell (k := 1) rfl
    have q_l := l1.lt
    have t0 := l3.cell (k := 0) rfl
    have t1' := l3.cell (k := 1) rfl
    have f0 := l3.frozen 0
    have f1 := l3.frozen 1
    have tl := l3.lt
    go_wp2
    refine bodyPost_ret (v := .tuple #[.agg #[.int .i64 0, .int .i64 0], .int .i64 3]) (by simp [results, Try.results44, go_sem, t0, t1']) rfl ?_
    exact ⟨Y4, by rw [HR.out.1, HR.out.2], rfl⟩
  · have HR := Lib.hid (uns_share (one := one) (two := two) (both := both) (num := num) (den := den) (by unfold argU; omega) (by unfold shareU; omega))
    have d0 : decide (one < 0) = false := by simp; omega
    have d1 : decide (1000 < one) = false := by simp; omega
    have d2 : decide (two < 0) = false := by simp; omega
    have d3 : decide (1000 < two) = false := by simp; omega
    have d4 : decide (both < 0) = false := by simp; omega
    have d5 : decide (one < both) = false := by simp; omega
    have d6 : decide (two < both) = false := by simp; omega
    have e0 : decide (den < 1) = false := by simp; omega
    have e1 : decide (1000 < den) = false := by simp; omega
    have e2 : decide (num < 1) = true := by simp; omega
    clear a0 a1 a2 a3 a4 a5 a6 b0 b1 b2
    go_enter Try.func44, Try.ntmps44
    go_wp2_with fail
    obtain ⟨B1, hb⟩ : ∃ b, b = W.heap.size := ⟨_, rfl⟩
    have l1 : Lin (W.alloc (.cells #[.int .i64 num, .int .i64 den] 55)) B1 55 [.int .i64 num, .int .i64 den] := by rw [hb]; exact Lin.new _ _ [.int .i64 num, .int .i64 den]
    replace S := S.later (Later.new _ (.cells #[.int .i64 num, .int .i64 den] 55))
    rw [Later.new_w] at S
    have hsz : (W.alloc (.cells #[.int .i64 num, .int .i64 den] 55)).heap.size = B1 + 1 := by rw [hb]; simp
    obtain ⟨Y2, hZ⟩ : ∃ Z : Later W, Z.w = W.alloc (.cells #[.int .i64 num, .int .i64 den] 55) := ⟨Later.new _ _, rfl⟩
    rw [← hZ] at S hsz l1 ⊢
    clear hZ
    rw [← hb]
    clear hb
    have hs2 := hsz
    rw [← hsz]
    clear hsz hs2
    obtain ⟨B3, hb⟩ : ∃ b, b = Y2.w.heap.size := ⟨_, rfl⟩
    have hloB3 : W.heap.size ≤ B3 := by rw [hb]; exact Y2.size
    have l3 : Lin (Y2.w.alloc (.cells #[.int .i64 0, .int .i64 0] 57)) B3 57 [.int .i64 0, .int .i64 0] := by rw [hb]; exact Lin.new _ _ [.int .i64 0, .int .i64 0]
    replace S := S.later (Later.new _ (.cells #[.int .i64 0, .int .i64 0] 57))
    rw [Later.new_w] at S
    replace l1 := l1.later (Later.new _ (.cells #[.int .i64 0, .int .i64 0] 57))
    rw [Later.new_w] at l1
    have hsz : (Y2.w.alloc (.cells #[.int .i64 0, .int .i64 0] 57)).heap.size = B3 + 1 := by rw [hb]; simp
    obtain ⟨Y4, hZ⟩ : ∃ Z : Later W, Z.w = Y2.w.alloc (.cells #[.int .i64 0, .int .i64 0] 57) := ⟨Y2.step (Later.new _ _), rfl⟩
    rw [← hZ] at S hsz l1 l3 ⊢
    clear hZ
    rw [← hb]
    clear hb
    have HSZ := Lib.hid hsz
    clear hsz
    have q_0 := l1.cell (k := 0) rfl
    have q_1 := l1.cell (k := 1) rfl
    have q_l := l1.lt
    have t0 := l3.cell (k := 0) rfl
    have t1' := l3.cell (k := 1) rfl
    have f0 := l3.frozen 0
    have f1 := l3.frozen 1
    have tl := l3.lt
    go_wp2
    refine bodyPost_ret (v := .tuple #[.agg #[.int .i64 0, .int .i64 0], .int .i64 3]) (by simp [results, Try.results44, go_sem, t0, t1']) rfl ?_
    exact ⟨Y4, by rw [HR.out.1, HR.out.2], rfl⟩
  · have HR := Lib.hid (uns_share (one := one) (two := two) (both := both) (num := num) (den := den) (by unfold argU; omega) (by unfold shareU; omega))
    have d0 : decide (one < 0) = false := by simp; omega
    have d1 : decide (1000 < one) = false := by simp; omega
    have d2 : decide (two < 0) = false := by simp; omega
    have d3 : decide (1000 < two) = false := by simp; omega
    have d4 : decide (both < 0) = false := by simp; omega
    have d5 : decide (one < both) = false := by simp; omega
    have d6 : decide (two < both) = false := by simp; omega
    have e0 : decide (den < 1) = false := by simp; omega
    have e1 : decide (1000 < den) = false := by simp; omega
    have e2 : decide (num < 1) = false := by simp; omega
    have e3 : decide (den < num) = true := by simp; omega
    clear a0 a1 a2 a3 a4 a5 a6 b0 b1 b2 b3
    go_enter Try.func44, Try.ntmps44
    go_wp2_with fail
    obtain ⟨B1, hb⟩ : ∃ b, b = W.heap.size := ⟨_, rfl⟩
    have l1 : Lin (W.alloc (.cells #[.int .i64 num, .int .i64 den] 55)) B1 55 [.int .i64 num, .int .i64 den] := by rw [hb]; exact Lin.new _ _ [.int .i64 num, .int .i64 den]
    replace S := S.later (Later.new _ (.cells #[.int .i64 num, .int .i64 den] 55))
    rw [Later.new_w] at S
    have hsz : (W.alloc (.cells #[.int .i64 num, .int .i64 den] 55)).heap.size = B1 + 1 := by rw [hb]; simp
    obtain ⟨Y2, hZ⟩ : ∃ Z : Later W, Z.w = W.alloc (.cells #[.int .i64 num, .int .i64 den] 55) := ⟨Later.new _ _, rfl⟩
    rw [← hZ] at S hsz l1 ⊢
    clear hZ
    rw [← hb]
    clear hb
    have hs2 := hsz
    rw [← hsz]
    clear hsz hs2
    obtain ⟨B3, hb⟩ : ∃ b, b = Y2.w.heap.size := ⟨_, rfl⟩
    have hloB3 : W.heap.size ≤ B3 := by rw [hb]; exact Y2.size
    have l3 : Lin (Y2.w.alloc (.cells #[.int .i64 0, .int .i64 0] 57)) B3 57 [.int .i64 0, .int .i64 0] := by rw [hb]; exact Lin.new _ _ [.int .i64 0, .int .i64 0]
    replace S := S.later (Later.new _ (.cells #[.int .i64 0, .int .i64 0] 57))
    rw [Later.new_w] at S
    replace l1 := l1.later (Later.new _ (.cells #[.int .i64 0, .int .i64 0] 57))
    rw [Later.new_w] at l1
    have hsz : (Y2.w.alloc (.cells #[.int .i64 0, .int .i64 0] 57)).heap.size = B3 + 1 := by rw [hb]; simp
    obtain ⟨Y4, hZ⟩ : ∃ Z : Later W, Z.w = Y2.w.alloc (.cells #[.int .i64 0, .int .i64 0] 57) := ⟨Y2.step (Later.new _ _), rfl⟩
    rw [← hZ] at S hsz l1 l3 ⊢
    clear hZ
    rw [← hb]
    clear hb
    have HSZ := Lib.hid hsz
    clear hsz
    have q_0 := l1.cell (k := 0) rfl
    have q_1 := l1.cell (k := 1) rfl
    have q_l := l1.lt
    have t0 := l3.cell (k := 0) rfl
    have t1' := l3.cell (k := 1) rfl
    have f0 := l3.frozen 0
    have f1 := l3.frozen 1
    have tl := l3.lt
    go_wp2
    refine bodyPost_ret (v := .tuple #[.agg #[.int .i64 0, .int .i64 0], .int .i64 3]) (by simp [results, Try.results44, go_sem, t0, t1']) rfl ?_
    exact ⟨Y4, by rw [HR.out.1, HR.out.2], rfl⟩
end Go.Proofs.Ytpkgfkeekcgkcaa
