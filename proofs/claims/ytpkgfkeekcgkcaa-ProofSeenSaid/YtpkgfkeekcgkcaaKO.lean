import Derived.Test.YtpkgfkeekcgkcaaKN
import Derived.Test.YtpkgfkeekcgkcaaKE
/-  The marks that a common part leaves: theory, and the state. -/
namespace Go.Proofs.Ytpkgfkeekcgkcaa
open Go.RowKit
open Lcs (ch few len CP)
theorem rd_congr {st st' : List Int} {l : List UInt8} {ad ad' : List (List UInt8)} : ∀ (k : Nat), (∀ x : Nat, x < k → hasB st x = hasB st' x ∧ sat ad x = sat ad' x) → rd st l ad k = rd st' l ad' k
  | 0, _ => rfl
  | k + 1, h => by
    have h1 := h k (Nat.lt_succ_self k)
    rw [rd, rd, rd_congr k fun x hx => h x (by omega), h1.2, kp, kp, h1.1]
theorem cn_congr {ad ad' : List (List UInt8)} : ∀ (k : Nat), (∀ x : Nat, x < k → sat ad x = sat ad' x) → cn ad k = cn ad' k
  | 0, _ => rfl
  | k + 1, h => by rw [cn, cn, cn_congr k fun x hx => h x (by omega), h k (Nat.lt_succ_self k)]
theorem hasB_snoc (st : List Int) (y x : Int) : hasB (st ++ [y]) x = (hasB st x || y == x) := by simp [hasB]
/-- where the marks have come to: c pairs, i letters of the first text, j of the second -/
structure Mst (a b : List UInt8) (c i j : Nat) (st : List Int) (ad : List (List UInt8)) : Prop where
  srt : st.Pairwise (· < ·)
  bnd : ∀ z ∈ st, 0 ≤ z ∧ z < i
  ln : st.length + c = i
  adl : ad.length = a.length + 1
  emp : ∀ k, i ≤ k → sat ad k = []
  rdt : rd st a ad i = b.take j
  cnt : cn ad i + c = j
  bi : i ≤ a.length
  bj : j ≤ b.length
  sml : ∀ k, (sat ad k).length ≤ b.length
section
variable {a b : List UInt8} {c i j : Nat} {st : List Int} {ad : List (List UInt8)}
theorem Mst.off (h : Mst a b c i j st ad) {x : Nat} (hx : i ≤ x) : hasB st x = false := by
  cases hb : hasB st x
  · rfl
  · rw [hasB, List.any_eq_true] at hb
    obtain ⟨z, hz, he⟩ := hb
    have := h.bnd z hz
    have : z = (x : Int) := by simpa using he
    omega
theorem Mst.start (a b : List UInt8) : Mst a b 0 0 0 [] (List.replicate (a.length + 1) []) where
  srt := List.Pairwise.nil
  bnd := fun z h => absurd h (by simp)
  ln := rfl
  adl := by simp
  emp := fun k _ => by simp only [sat, List.getD_eq_getElem?_getD, List.getElem?_replicate]; split <;> rfl
  rdt := rfl
  cnt := rfl
  bi := Nat.zero_le _
  bj := Nat.zero_le _
  sml := fun k => by simp only [sat, List.getD_eq_getElem?_getD, List.getElem?_replicate]; split <;> simp
theorem Mst.strike (h : Mst a b c i j st ad) (hi : i < a.length) : Mst a b c (i + 1) j (st ++ [(i : Int)]) ad where
  srt := List.pairwise_append.2 ⟨h.srt, by simp, fun x hx y hy => by
    have := h.bnd x hx
    have : y = (i : Int) := by simpa using hy
    omega⟩
  bnd := fun z hz => by
    rcases List.mem_append.1 hz with hz | hz
    · have := h.bnd z hz; omega
    · have : z = (i : Int) := by simpa using hz
      omega
  ln := by rw [List.length_append]; have := h.ln; simp; omega
  adl := h.adl
  emp := fun k hk => h.emp k (by omega)
  rdt := by
    rw [rd, h.emp i (Nat.le_refl _), List.append_nil, kp_yes (by rw [hasB_snoc]; simp), List.append_nil, ← h.rdt]
    refine rd_congr i fun x hx => ⟨?_, rfl⟩
    rw [hasB_snoc]
    have : ((i : Int) == (x : Int)) = false := by simp; omega
    rw [this, Bool.or_false]
  cnt := by rw [cn, h.emp i (Nat.le_refl _)]; have := h.cnt; simp; omega
  bi := hi
  bj := h.bj
  sml := h.sml
theorem sat_same {ad : List (List UInt8)} {k x : Nat} {y : List UInt8} (hk : k < ad.length) (hx : x ≠ k) : sat (ad.set k y) x = sat ad x := by rw [sat_set hk, if_neg hx]
theorem Mst.pair (h : Mst a b c i j st ad) {y : Nat} (hi : i < a.length) (hy : y < b.length) (hjy : j ≤ y) (hc : ch a i = ch b y) : Mst a b (c + 1) (i + 1) (y + 1) st (ad.set i ((b.drop j).take (y - j))) where
  srt := h.srt
  bnd := fun z hz => by have := h.bnd z hz; omega
  ln := by have := h.ln; omega
  adl := by rw [List.length_set, h.adl]
  emp := fun k hk => by rw [sat_same (by rw [h.adl]; omega) (by omega)]; exact h.emp k (by omega)
  rdt := by
    rw [rd, rd_congr (ad' := ad) (st' := st) i fun x hx => ⟨rfl, sat_same (by rw [h.adl]; omega) (by omega)⟩, h.rdt, sat_set (by rw [h.adl]; omega), if_pos rfl, kp_no hi (h.off (Nat.le_refl _))]
    have e1 : b.take j ++ (b.drop j).take (y - j) = b.take y := by
      rw [← List.take_append_drop j (b.take y), List.take_take, Nat.min_eq_left hjy, List.drop_take]
    rw [e1, List.take_succ_eq_append_getElem hy, bt_ch, hc]
    congr 2
    simp [ch, hy]
  cnt := by
    rw [cn, cn_congr (ad' := ad) i fun x hx => sat_same (by rw [h.adl]; omega) (by omega), sat_set (by rw [h.adl]; omega), if_pos rfl, List.length_take, List.length_drop]
    have := h.cnt
    omega
  bi := hi
  bj := hy
  sml := fun k => by
    rw [sat_set (by rw [h.adl]; omega)]
    split
    · rw [List.length_take, List.length_drop]; omega
    · exact h.sml k
/-- the end: the text is the other one, and the marks are as many as said -/
theorem Mst.fin (h : Mst a b c a.length j st ad) (ha : a.length ≤ 12) (hb : b.length ≤ 12) (hc : c = len a b) :
    Okm a st (ad.set a.length ((b.drop j).take (b.length - j))) ∧ rd st a (ad.set a.length ((b.drop j).take (b.length - j))) (a.length + 1) = b ∧ st.length + cn (ad.set a.length ((b.drop j).take (b.length - j))) (a.length + 1) = few a b := by
  have hk : a.length < ad.length := by rw [h.adl]; omega
  have ht : (b.drop j).take (b.length - j) = b.drop j := List.take_of_length_le (by rw [List.length_drop]; exact Nat.le_refl _)
  refine ⟨?_, ?_, ?_⟩
  · refine ⟨ha, by rw [List.length_set, h.adl], fun s hs => ?_, fun i hi => ?_, fun i hi => ?_⟩
    · rcases List.mem_or_eq_of_mem_set hs with hs | hs
      · obtain ⟨k, hk2, rfl⟩ := List.mem_iff_getElem.1 hs
        have := h.sml k
        rw [sat, List.getD_eq_getElem?_getD, List.getElem?_eq_getElem hk2] at this
        exact Nat.le_trans this hb
      · rw [hs, ht, List.length_drop]; omega
    · have := h.bnd (nth st i) (by rw [nth, List.getD_eq_getElem?_getD, List.getElem?_eq_getElem hi]; exact List.getElem_mem hi)
      exact this
    · have h1 := List.pairwise_iff_getElem.1 h.srt i (i + 1) (by omega) hi (Nat.lt_succ_self i)
      rw [nth, nth, List.getD_eq_getElem?_getD, List.getD_eq_getElem?_getD, List.getElem?_eq_getElem hi, List.getElem?_eq_getElem (by omega)]
      exact h1
  · rw [rd, rd_congr (ad' := ad) (st' := st) _ fun x hx => ⟨rfl, sat_same hk (by omega)⟩, h.rdt, sat_set hk, if_pos rfl, kp_end (by omega), ht, List.append_nil, List.take_append_drop]
  · rw [cn, cn_congr (ad' := ad) _ fun x hx => sat_same hk (by omega), sat_set hk, if_pos rfl, ht, List.length_drop]
    have h1 := h.cnt
    have h2 := h.ln
    have h3 := h.bj
    have h4 := Lcs.few_eq a b
    omega
end
/-- marks as they shall be -/
def MEnd (a b : List UInt8) (st : List Int) (ad : List (List UInt8)) : Prop := Okm a st ad ∧ rd st a ad (a.length + 1) = b ∧ st.length + cn ad (a.length + 1) = few a b
/-- behind k of the pairs, and the ends -/
def MInv (a b : List UInt8) (ps : List (Nat × Nat)) (k i j : Nat) (st : List Int) (ad : List (List UInt8)) : Prop :=
  (k ≤ ps.length ∧ Mst a b k i j st ad ∧ ∀ m ∈ ps.drop k, i ≤ m.1 ∧ j ≤ m.2) ∨ (k = ps.length + 1 ∧ ad.length = a.length + 1 ∧ MEnd a b st ad)
def mAt (a b : List UInt8) (ps : List (Nat × Nat)) (k : Nat) : Nat × Nat := (ps ++ [(a.length, b.length)]).getD k (0, 0)
section
variable {a b : List UInt8} {ps : List (Nat × Nat)} {k i j : Nat} {st : List Int} {ad : List (List UInt8)}
theorem mAt_lt (hk : k < ps.length) : mAt a b ps k = ps[k] := by simp [mAt, List.getElem?_append_left hk, hk]
theorem mAt_end : mAt a b ps ps.length = (a.length, b.length) := by simp [mAt]
theorem MInv.start : MInv a b ps 0 0 0 [] (List.replicate (a.length + 1) []) := .inl ⟨Nat.zero_le _, Mst.start a b, fun _ _ => ⟨Nat.zero_le _, Nat.zero_le _⟩⟩
theorem MInv.adl (h : MInv a b ps k i j st ad) : ad.length = a.length + 1 := by
  rcases h with ⟨_, h, _⟩ | ⟨_, h, _⟩
  · exact h.adl
  · exact h
theorem MInv.get (h : MInv a b ps k i j st ad) (hcp : CP a b ps) (hk : k ≤ ps.length) : Mst a b k i j st ad ∧ i ≤ (mAt a b ps k).1 ∧ (mAt a b ps k).1 ≤ a.length ∧ j ≤ (mAt a b ps k).2 ∧ (mAt a b ps k).2 ≤ b.length := by
  rcases h with ⟨_, hm, hr⟩ | ⟨h, _⟩
  · refine ⟨hm, ?_⟩
    rcases Nat.lt_or_eq_of_le hk with h1 | h1
    · rw [mAt_lt h1]
      have h2 := hr ps[k] (by rw [List.drop_eq_getElem_cons h1]; exact List.mem_cons_self)
      have h3 := hcp.eq ps[k] (List.getElem_mem h1)
      omega
    · subst h1
      rw [mAt_end]
      exact ⟨hm.bi, Nat.le_refl _, hm.bj, Nat.le_refl _⟩
  · omega
theorem MInv.next (hcp : CP a b ps) (hln : ps.length = len a b) (ha : a.length ≤ 12) (hb : b.length ≤ 12) (hk : k ≤ ps.length) {x y : Nat} (hxy : mAt a b ps k = (x, y)) (hm : Mst a b k x j st ad) (hj : j ≤ y) :
    MInv a b ps (k + 1) (x + 1) (y + 1) st (ad.set x ((b.drop j).take (y - j))) := by
  rcases Nat.lt_or_eq_of_le hk with h1 | h1
  · rw [mAt_lt h1] at hxy
    have h3 := hcp.eq ps[k] (List.getElem_mem h1)
    rw [hxy] at h3
    refine .inl ⟨h1, hm.pair h3.1 h3.2.1 hj h3.2.2, fun m hm2 => ?_⟩
    obtain ⟨q, hq, rfl⟩ := List.mem_iff_getElem.1 hm2
    rw [List.getElem_drop]
    have h4 := List.pairwise_iff_getElem.1 hcp.inc k (k + 1 + q) h1 (by rw [List.length_drop] at hq; omega) (by omega)
    rw [hxy] at h4
    exact ⟨h4.1, h4.2⟩
  · subst h1
    rw [mAt_end] at hxy
    cases hxy
    exact .inr ⟨rfl, by rw [List.length_set, hm.adl], hm.fin ha hb hln⟩
theorem MInv.done (h : MInv a b ps (ps.length + 1) i j st ad) : MEnd a b st ad := by
  rcases h with ⟨h, _⟩ | ⟨_, _, h⟩
  · omega
  · exact h
theorem Mst.stl (h : Mst a b k i j st ad) (ha : a.length ≤ 12) : st.length ≤ 12 := by have := h.ln; have := h.bi; omega
end
end Go.Proofs.Ytpkgfkeekcgkcaa

/-  The program's Marks. -/
namespace Go.Proofs.Ytpkgfkeekcgkcaa
open Go.RowKit
open Lcs (few len CP)
/-- marks of the call's own, beside a list of matches -/
structure Bq (W U : World) (T : Nat) (s0 a0 sv av pv : Value) (st : List Int) (ad : List (List UInt8)) (qs : List (Int × Int)) : Prop where
  m : Bm W U T s0 a0 sv av st ad
  p : MtsM W.heap.size U pv qs
section
variable {W U : World} {T : Nat} {s0 a0 sv av pv : Value} {st : List Int} {ad : List (List UInt8)} {qs : List (Int × Int)}
theorem Bq.later (h : Bq W U T s0 a0 sv av pv st ad qs) (x : Later U) : Bq W x.w T s0 a0 sv av pv st ad qs := ⟨h.m.later x, h.p.later x⟩
theorem Bq.appP (h : Bq W U T s0 a0 sv av pv st ad qs) (b c : Nat) (p q : Int) (h0 : U.cell? ⟨b, 0, none⟩ = some (.int .i64 p)) (h1 : U.cell? ⟨b, 1, none⟩ = some (.int .i64 q)) (hbig : qs.length + 1 ≤ 1000000000000) (ty : TypeId) :
    ∃ v' w', (Builtin.append_ #[100, 100] ty #[pv, .slice (some ⟨b, 0, none⟩) 1 c]).run Try.prog U = .ok v' w' ∧ Bq W w' T s0 a0 sv av v' st ad (qs ++ [(p, q)]) := by
  obtain ⟨v', w', hr, hP, hg, _⟩ := app_mt_at h.p b c p q h0 h1 h.m.le.size hbig ty
  exact ⟨v', w', hr, h.m.kept hg (h.m.le.trans (h.p.below hg h.m.le.size)) (Ne.symm (own_ne_lin h.p h.m.lin (by decide))) (own_ne h.m.s h.p (by decide)) (own_ne h.m.a h.p (by decide)), hP⟩
end
/-- the same, while one match lies in a variable -/
structure Br (W U : World) (T B : Nat) (s0 a0 sv av pv : Value) (st : List Int) (ad : List (List UInt8)) (qs : List (Int × Int)) (i j : Int) : Prop where
  q : Bq W U T s0 a0 sv av pv st ad qs
  l : Lin U B 103 [.int .i64 i, .int .i64 j]
  ne : B ≠ T
section
variable {W U : World} {T B : Nat} {s0 a0 sv av pv : Value} {st : List Int} {ad : List (List UInt8)} {qs : List (Int × Int)} {i j : Int}
theorem Br.later (h : Br W U T B s0 a0 sv av pv st ad qs i j) (x : Later U) : Br W x.w T B s0 a0 sv av pv st ad qs i j := ⟨h.q.later x, h.l.later x, h.ne⟩
theorem Br.appS (h : Br W U T B s0 a0 sv av pv st ad qs i j) (b c : Nat) (y : Int) (h0 : U.cell? ⟨b, 0, none⟩ = some (.int .i64 y)) (hbig : st.length + 1 ≤ 1000000000000) (ty : TypeId) :
    ∃ v' w', (Builtin.append_ #[22, 22] ty #[sv, .slice (some ⟨b, 0, none⟩) 1 c]).run Try.prog U = .ok v' w' ∧ Br W w' T B s0 a0 v' av pv (st ++ [y]) ad qs i j := by
  obtain ⟨v', w', hr, hP, hg, _⟩ := app_num_at h.q.m.s b c y h0 h.q.m.le.size hbig ty
  exact ⟨v', w', hr, ⟨⟨h.q.m.le.trans (h.q.m.s.below hg h.q.m.le.size), h.q.m.lin.kept hg (Ne.symm h.q.m.neS), hP, h.q.m.a.kept hg (own_ne h.q.m.a h.q.m.s (by decide)), h.q.m.lo⟩, h.q.p.kept hg (own_ne h.q.p h.q.m.s (by decide))⟩, h.l.kept hg (Ne.symm (own_ne_lin h.q.m.s h.l (by decide))), h.ne⟩
theorem Br.setS (h : Br W U T B s0 a0 sv av pv st ad qs i j) : Br W (U.setCell ⟨T, 0, none⟩ sv) T B sv a0 sv av pv st ad qs i j :=
  ⟨⟨h.q.m.setS, h.q.p.kept (grownBy_setCell_at U T 0 sv) (.inr (own_ne_lin h.q.p h.q.m.lin (by decide)))⟩, h.l.kept (grownBy_setCell_at U T 0 sv) (fun e => h.ne (by injection e)), h.ne⟩
theorem Br.put {a : Option Addr} {n c : Nat} (h : Br W U T B s0 a0 sv (.slice a n c) pv st ad qs i j) {k : Nat} (hk : k < ad.length) (y : List UInt8) :
    ∃ g, a = some ⟨g, 0, none⟩ ∧ g < U.heap.size ∧ n = ad.length ∧ n ≤ c ∧ U.frozen? ⟨g, k, none⟩ = false ∧ U.cell? ⟨g, k, none⟩ = some (.string ⟨(sat ad k).toArray⟩) ∧ Br W (U.setCell ⟨g, k, none⟩ (.string ⟨y.toArray⟩)) T B s0 a0 sv (.slice a n c) pv st (ad.set k y) qs i j := by
  obtain ⟨g, rfl, hn, hlo, hgl, hnc, hf, hc, h2, hgr⟩ := h.q.m.a.set hk y
  have hne : (some T : Option Nat) ≠ some g := fun e => h.q.m.neA (by rw [e]; rfl)
  have hns : sv.ownBlock = none ∨ sv.ownBlock ≠ some g := own_ne h.q.m.s h.q.m.a (by decide)
  have hnp : pv.ownBlock = none ∨ pv.ownBlock ≠ some g := own_ne h.q.p h.q.m.a (by decide)
  have hnl : (some B : Option Nat) ≠ some g := Ne.symm (own_ne_lin h.q.m.a h.l (by decide))
  exact ⟨g, rfl, hgl, hn, hnc, hf, hc, ⟨⟨h.q.m.le.setCell (p := ⟨g, k, none⟩) hlo _, h.q.m.lin.kept hgr hne, World.ownsRow.kept h.q.m.s hgr hns, h2, h.q.m.lo⟩, h.q.p.kept hgr hnp⟩, h.l.kept hgr hnl, h.ne⟩
end
theorem run_cut (b : List UInt8) {j y : Nat} (h1 : j ≤ y) (h2 : y ≤ b.length) (w : World) : (Instr.slice 9 (.string ⟨b.toArray⟩) (some (.int .i64 (j : Int))) (some (.int .i64 (y : Int))) none).run Try.prog w = .ok (.string ⟨((b.drop j).take (y - j)).toArray⟩) w := by
  rw [run_slice_string w _ _ _ _ _ _ Try.underlying9 (by omega) (by omega) (by rw [str_size]; omega)]
  rw [ByteArray.extract_mk]
  simp
/-- least marks, or the error -/
def MrksE (a b : List UInt8) (W : World) (e : Ending) (w' : World) : Prop := ∃ (sv av : Value) (st : List Int) (ad : List (List UInt8)) (x : Later W), e = .returned (.tuple #[.agg #[sv, av], .int .i64 (txtsE a b)]) ∧ w' = x.w ∧ Mks x.w sv av st ad ∧ (txtsE a b = 0 → MEnd a b st ad) ∧ (txtsE a b ≠ 0 → st = [] ∧ ad = [])
set_option maxRecDepth 100000 in
set_option maxHeartbeats 4000000 in
theorem pMarks_calls (a b : List UInt8) (W : World) : Calls Try.prog 33 #[.string ⟨a.toArray⟩, .string ⟨b.toArray⟩] W (MrksE a b W) := by
  have S : Ins W [] := Ins.nil _
  by_cases h : txtsE a b = 0
  rotate_left
  · obtain ⟨E, hE⟩ : ∃ E, txtsE a b = E := ⟨_, rfl⟩
    have HX := Lib.hid (fun W => compare_err a b W h)
    have HNE := Lib.hid h
    rw [hE] at h HX
    have hne : (E != 0) = true := by simpa using h
    have HEE := Lib.hid hE
    clear h hE
    go_enter Try.func33, Try.ntmps33
    go_wp2_with fail
    obtain ⟨B1, hb⟩ : ∃ b, b = W.heap.size := ⟨_, rfl⟩
    have hloB1 : W.heap.size ≤ B1 := by rw [hb]; exact Nat.le_refl _
    have l1 : Lin (W.alloc (.cells #[.slice none 0 0, .slice none 0 0] 25)) B1 25 [.slice none 0 0, .slice none 0 0] := by rw [hb]; exact Lin.new _ _ [.slice none 0 0, .slice none 0 0]
    replace S := S.later (Later.new _ (.cells #[.slice none 0 0, .slice none 0 0] 25))
    rw [Later.new_w] at S
    have hsz : (W.alloc (.cells #[.slice none 0 0, .slice none 0 0] 25)).heap.size = B1 + 1 := by rw [hb]; simp
    obtain ⟨Y2, hZ⟩ : ∃ Z : Later W, Z.w = W.alloc (.cells #[.slice none 0 0, .slice none 0 0] 25) := ⟨Later.new _ _, rfl⟩
    rw [← hZ] at S hsz l1 ⊢
    clear hZ
    rw [← hb]
    clear hb
    clear hsz
    refine (HX.out _).mono ?_
    rintro e w' ⟨rfl, hw⟩
    rw [hw]
    clear hw w'
    have t0 := (l1).cell (k := 0) rfl
    have t1' := (l1).cell (k := 1) rfl
    have f0 := (l1).frozen 0
    have f1 := (l1).frozen 1
    have tl := (l1).lt
    go_wp2
    refine bodyPost_ret (v := .tuple #[.agg #[.slice none 0 0, .slice none 0 0], .int .i64 E]) (by simp [results, Try.results33, go_sem, t0, t1']) rfl ?_
    refine ⟨_, _, [], [], ⟨_, ((Y2.le.setCell (p := ⟨B1, 0, none⟩) hloB1 (.slice none 0 0)).setCell (p := ⟨B1, 1, none⟩) hloB1 (.slice none 0 0))⟩, by rw [HEE.out], rfl, ⟨Ints.nil _ _, Strs.nil _ _⟩, fun e => absurd e HNE.out, fun _ => ⟨rfl, rfl⟩⟩
  have hok := txts_ok h
  have HH := Lib.hid h
  have HOK := Lib.hid hok
  obtain ⟨na, hna⟩ : ∃ n, a.length = n := ⟨_, rfl⟩
  obtain ⟨nb, hnb⟩ : ∃ n, b.length = n := ⟨_, rfl⟩
  have hna12 : na ≤ 12 := by rw [← hna]; exact hok.1
  have hnb12 : nb ≤ 12 := by rw [← hnb]; exact hok.2
  have hl12 : len a b ≤ 12 := Nat.le_trans (Lcs.len_le a b).1 hok.1
  obtain ⟨L, hL⟩ : ∃ L, len a b = L := ⟨_, rfl⟩
  rw [hL] at hl12
  have HL := Lib.hid hL
  have HNA := Lib.hid hna
  have HNB := Lib.hid hnb
  obtain ⟨M, hM0⟩ : ∃ M, na + 1 = M := ⟨_, rfl⟩
  have hMi : (na : Int) + 1 = (M : Int) := by omega
  clear h hok hL hna hnb
  go_enter Try.func33, Try.ntmps33
  go_wp2_with fail
  obtain ⟨B1, hb⟩ : ∃ b, b = W.heap.size := ⟨_, rfl⟩
  have hloB1 : W.heap.size ≤ B1 := by rw [hb]; exact Nat.le_refl _
  have l1 : Lin (W.alloc (.cells #[.slice none 0 0, .slice none 0 0] 25)) B1 25 [.slice none 0 0, .slice none 0 0] := by rw [hb]; exact Lin.new _ _ [.slice none 0 0, .slice none 0 0]
  replace S := S.later (Later.new _ (.cells #[.slice none 0 0, .slice none 0 0] 25))
  rw [Later.new_w] at S
  have hsz : (W.alloc (.cells #[.slice none 0 0, .slice none 0 0] 25)).heap.size = B1 + 1 := by rw [hb]; simp
  obtain ⟨Y2, hZ⟩ : ∃ Z : Later W, Z.w = W.alloc (.cells #[.slice none 0 0, .slice none 0 0] 25) := ⟨Later.new _ _, rfl⟩
  rw [← hZ] at S hsz l1 ⊢
  clear hZ
  rw [← hb]
  clear hb
  clear hsz
  refine (compare_ok a b _ HH.out).mono ?_
  rintro e w' ⟨p, mp, PM0, x, rfl, rfl, hP, hM⟩
  replace l1 := l1.later x
  replace S := S.later x
  obtain ⟨Y3, hZ⟩ : ∃ Z : Later W, Z.w = x.w := ⟨Y2.step (x), rfl⟩
  rw [← hZ] at S l1 hP ⊢
  clear hZ
  clear x
  have hmks := run_make_strs M (by omega)
  have hszn : (⟨a.toArray⟩ : ByteArray).size = na := by rw [str_size]; exact HNA.out
  have hszb : (⟨b.toArray⟩ : ByteArray).size = nb := by rw [str_size]; exact HNB.out
  go_wp2_with fail
  clear hmks
  have hRY : B1 < Y3.w.heap.size := l1.lt
  have ha0 := StrsM.zeros Y3.w (lo := Y3.w.heap.size) (n := M) rfl (Nat.le_refl _) (by omega)
  have hT0 : (Y3.w.alloc (.cells (madeCells #[.string ⟨#[]⟩] M) 9)).heap.size = Y3.w.heap.size + 1 := by simp
  obtain ⟨V0, hV0⟩ : ∃ V : Later Y3.w, V.w = (Y3.w.alloc (.cells (madeCells #[.string ⟨#[]⟩] M) 9)).alloc (.cells #[.slice none 0 0, .slice (some ⟨Y3.w.heap.size, 0, none⟩) M M] 25) := ⟨(Later.new _ _).step (Later.new _ _), rfl⟩
  have hbm : Bm Y3.w V0.w (Y3.w.heap.size + 1) (.slice none 0 0) (.slice (some ⟨Y3.w.heap.size, 0, none⟩) M M) (.slice none 0 0) (.slice (some ⟨Y3.w.heap.size, 0, none⟩) M M) [] (List.replicate M []) := Bm.made V0.le (by rw [hV0]; exact ha0.later (Later.new _ _)) (by rw [hV0, ← hT0]; exact Lin.new _ _ _) (Nat.le_succ _)
  rw [← hV0]
  clear hV0 hT0 ha0
  obtain ⟨T, hT⟩ : ∃ T, Y3.w.heap.size + 1 = T := ⟨_, rfl⟩
  rw [hT] at hbm ⊢
  obtain ⟨g, hg⟩ : ∃ g, Y3.w.heap.size = g := ⟨_, rfl⟩
  have HLO := Lib.hid (show Y3.w.heap.size ≤ V0.w.heap.size from V0.size)
  rw [hg] at hbm ⊢
  have hgT : g ≠ T := by omega
  clear hT hg
  refine (common_calls p mp _ a b PM0 HOK.out.1 HOK.out.2 _ (hP.later V0) hM).mono ?_
  rintro e w' ⟨v, ps, y, rfl, rfl, hv, hcp, hln⟩
  have hbq : Bq Y3.w y.w T (.slice none 0 0) (.slice (some ⟨g, 0, none⟩) M M) (.slice none 0 0) (.slice (some ⟨g, 0, none⟩) M M) v [] (List.replicate M []) (ps.map natP) := ⟨hbm.later y, World.ownsRow.mono hv HLO.out⟩
  obtain ⟨av, nv, cv, rfl⟩ := hv.form'
  have HCP := Lib.hid hcp
  have HLN := Lib.hid (show ps.length = L by rw [hln, HL.out])
  have HLC := Lib.hid hln
  clear hv hbm hcp hln hP hM
  obtain ⟨Y9, hY9⟩ : ∃ Z : Later Y3.w, Z.w = y.w := ⟨V0.step y, rfl⟩
  rw [← hY9] at hbq ⊢
  clear hY9 y V0 HLO
  have hA := hbq.later (Later.new Y9.w (.cells #[.int .i64 (na : Int), .int .i64 (nb : Int)] 103))
  rw [Later.new_w] at hA
  obtain ⟨v6, w6, hr6, hb6⟩ := hA.appP Y9.w.heap.size 1 (na : Int) (nb : Int) (by simp [go_sem]) (by simp [go_sem]) (by rw [List.length_map, HLN.out]; omega) 100
  have HQ := Lib.hid (show ps.map natP ++ [((na : Int), (nb : Int))] = (ps ++ [(a.length, b.length)]).map natP by simp [natP, HNA.out, HNB.out])
  rw [HQ.out] at hb6
  obtain ⟨x6, hx6⟩ : ∃ X : Later Y3.w, X.w = w6 := ⟨⟨w6, hb6.m.le⟩, rfl⟩
  rw [← hx6] at hr6 hb6
  clear hx6 w6
  have hp6 := hb6.p.prs (by rw [List.length_map, List.length_append, HLN.out]; simp; omega)
  obtain ⟨aq, nq, cq, rfl⟩ := hb6.p.form'
  have hnq : nq = L + 1 := by obtain ⟨a, c, e⟩ := hp6.form; cases e; rw [List.length_map, List.length_append, HLN.out]; rfl
  have HNQ := Lib.hid hnq
  have HMA := Lib.hid (show M = a.length + 1 by rw [HNA.out, hM0])
  have hq13 : nq ≤ 13 := by omega
  have hM13 : M ≤ 13 := by omega
  have HNM := Lib.hid hM0
  have HR6 := Lib.hid hr6
  clear hr6 hA hp6 hbq hnq hMi hM0
  go_wp2_with ((with_reducible show wpList _ _ _ (⟨some 36, _, _, _, _, _⟩ :: _) _ _); refine Lib.wpList_append_run_sl _ rfl _ _ 100 rfl _ _ rfl rfl HR6.out ?_)
  skip
  go_loopw [9, 10, 12, 38] (fun i0 j0 _ k0 wr => ∃ (k i j : Nat) (V : Later Y3.w) (sx : Value) (st : List Int) (ad : List (List UInt8)), wr = V.w ∧ k ≤ nq ∧ i0 = .int .i64 i ∧ j0 = .int .i64 j ∧ k0 = .int .i64 k ∧ Hid (MInv a b ps k i j st ad) ∧ Bq Y3.w V.w T sx (.slice (some ⟨g, 0, none⟩) M M) sx (.slice (some ⟨g, 0, none⟩) M M) (.slice aq nq cq) st ad ((ps ++ [(a.length, b.length)]).map natP)) (fun _ _ _ k0 _ => nq - (intOf k0).toNat)
  case atStart => exact ⟨0, 0, 0, x6, _, [], _, rfl, Nat.zero_le _, rfl, rfl, rfl, Lib.hid MInv.start, by rw [← HMA.out]; exact hb6⟩
  clear hb6 HR6
  obtain ⟨k, i, j, V, sx, st, ad, rfl, hk, rfl, rfl, rfl, HI, hbq⟩ := hrel
  obtain ⟨a0, n0, c0, rfl⟩ := hbq.m.s.form'
  by_cases hlt : k < nq
  · have hkp : k ≤ ps.length := by have := HNQ.out; have := HLN.out; omega
    obtain ⟨hmst, hg1, hg2, hg3, hg4⟩ := HI.out.get HCP.out hkp
    obtain ⟨⟨x, y⟩, hxy⟩ : ∃ q, mAt a b ps k = q := ⟨_, rfl⟩
    rw [hxy] at hg1 hg2 hg3 hg4
    dsimp only at hg1 hg2 hg3 hg4
    have hNX := Lib.hid (fun st' hm => MInv.next HCP.out HLC.out HOK.out.1 HOK.out.2 hkp hxy (st := st') (ad := ad) hm hg3)
    have hqk : k < ((ps ++ [(a.length, b.length)]).map natP).length := by rw [List.length_map, List.length_append]; simp; omega
    obtain ⟨b1, o1, k1, e, hk1, hb1, hgg⟩ := (hbq.p.prs (by rw [List.length_map, List.length_append, HLN.out]; simp; omega)).at (k := k) hqk
    injection e with e1 e2 e3
    subst e1 e3
    clear e2
    obtain ⟨p1, p2⟩ := hgg k hqk
    have hpk : pr ((ps ++ [(a.length, b.length)]).map natP) k = ((x : Int), (y : Int)) := by
      have h0 : natP (mAt a b ps k) = ((x : Int), (y : Int)) := by rw [hxy]; rfl
      rw [← h0, pr_eq hqk, List.getElem_map, mAt, List.getD_eq_getElem?_getD, List.getElem?_eq_getElem (by simpa using hqk)]; rfl
    rw [hpk] at p1 p2
    simp only at p1 p2
    have hxa : x ≤ na := by rw [← HNA.out]; exact hg2
    have hyb : y ≤ nb := by rw [← HNB.out]; exact hg4
    have HCUT := Lib.hid (fun w => run_cut b hg3 hg4 w)
    have HADL := Lib.hid HI.out.adl
    clear hgg hpk hxy hqk hg2 hg4 HI hb1 hk1
    have hTl := hbq.m.lin.lt
    have hbr : Br Y3.w (V.w.alloc (.cells #[.int .i64 (x : Int), .int .i64 (y : Int)] 103)) T V.w.heap.size (.slice a0 n0 c0) (.slice (some ⟨g, 0, none⟩) M M) (.slice a0 n0 c0) (.slice (some ⟨g, 0, none⟩) M M) (.slice (some ⟨b1, o1, none⟩) nq cq) st ad ((ps ++ [(a.length, b.length)]).map natP) x y := ⟨hbq.later (Later.new _ _), Lin.new _ _ [_, _], by omega⟩
    go_wp2
    obtain ⟨B, hB⟩ : ∃ B, V.w.heap.size = B := ⟨_, rfl⟩
    rw [hB] at hbr ⊢
    clear hB
    obtain ⟨V1, hV1⟩ : ∃ Z : Later Y3.w, Z.w = V.w.alloc (.cells #[.int .i64 (x : Int), .int .i64 (y : Int)] 103) := ⟨V.step (Later.new _ _), rfl⟩
    rw [← hV1] at hbr ⊢
    have hms := Lib.hid hmst
    clear hV1 hbq p1 p2 hTl hmst V
    go_loopw [9] (fun i0 wr => ∃ (z : Nat) (V : Later Y3.w) (sx : Value) (st : List Int), wr = V.w ∧ z ≤ x ∧ i0 = .int .i64 z ∧ Hid (Mst a b k z j st ad) ∧ Br Y3.w V.w T B sx (.slice (some ⟨g, 0, none⟩) M M) sx (.slice (some ⟨g, 0, none⟩) M M) (.slice (some ⟨b1, o1, none⟩) nq cq) st ad ((ps ++ [(a.length, b.length)]).map natP) x y) (fun i0 _ => x - (intOf i0).toNat)
    case atStart => exact ⟨i, V1, _, _, rfl, hg1, rfl, hms, hbr⟩
    clear hbr hms V1 a0 n0 c0
    obtain ⟨z, V, sx, st, rfl, hz, rfl, hms, hbr⟩ := hrel
    obtain ⟨a0, n0, c0, rfl⟩ := hbr.q.m.s.form'
    have hst12 := hms.out.stl HOK.out.1
    have bx0 := hbr.l.cell (k := 0) rfl
    have bx1 := hbr.l.cell (k := 1) rfl
    have bxl := hbr.l.lt
    by_cases hzx : z < x
    · have HMS := Lib.hid (hms.out.strike (by rw [HNA.out]; omega))
      clear hms
      have hA := hbr.later (Later.new V.w (.cells #[.int .i64 z] 3))
      rw [Later.new_w] at hA
      obtain ⟨v6, w6, hr6, hb6⟩ := hA.appS V.w.heap.size 1 _ (by simp [go_sem]; rfl) (by omega) 22
      obtain ⟨a7, n7, c7, rfl⟩ := hb6.q.m.s.form'
      have HR6 := Lib.hid hr6
      clear hr6 hA
      have lT := hbr.q.m.lin
      have u0 := lT.cell (k := 0) rfl
      have uT := lT.lt
      have lX8 := hb6.q.m.lin
      have v1' := lX8.cell (k := 0) rfl
      have v1f := lX8.frozen 0
      have v1l := lX8.lt
      have HB9 := Lib.hid hb6.setS
      clear lT lX8 hb6 hbr
      go_wp2_with ((with_reducible show wpList _ _ _ (⟨some 52, _, _, _, _, _⟩ :: _) _ _); refine Lib.wpList_append_run_sl _ rfl _ _ 22 rfl _ _ rfl rfl HR6.out ?_)
      go_roundw
      case rel => exact ⟨z + 1, ⟨_, HB9.out.q.m.le⟩, _, _, rfl, by omega, by go_num, HMS, HB9.out⟩
      case measure => simp [intOf]; omega
    obtain rfl : z = x := by omega
    have HNI := Lib.hid (hNX.out st hms.out)
    have hzM : z < M := by have := HNM.out; omega
    have lT := hbr.q.m.lin
    have u1 := lT.cell (k := 1) rfl
    have uT := lT.lt
    have hzd : z < ad.length := by rw [HADL.out, ← HMA.out]; exact hzM
    obtain ⟨g', e1, hgl, -, -, -, hcl, -⟩ := hbr.put hzd []
    obtain rfl : g = g' := Addr.some_block e1
    clear e1 lT
    have HC2 := HCUT.out
    go_wp2
    clear hcl hgl
    refine Mix.region_mixL (Mix.kinds [] [] [10]) (by kernel_rfl) (by kernel_rfl) ?_
    repeat ((with_reducible refine Mix.atCons ?_); first | refine Mix.skipU (by rfl) rfl (by rfl) ?_ | (refine Mix.val rfl rfl (by rfl) (fun K hK => ?_); go_big_quiet_op; refine hK _ ?_; clear hK K) | (refine Mix.skip (by rfl) ?_; go_frame))
    refine Mix.last rfl (by rfl) (fun x8 K8 hK8 => ?_)
    have hb8 := hbr.later x8
    obtain ⟨g', e1, hgl, -, -, hfz, hcl, hb9⟩ := hb8.put hzd ((b.drop j).take (y - j))
    obtain rfl : g = g' := Addr.some_block e1
    clear e1
    have HB9 := Lib.hid hb9
    clear hb8 hb9
    go_wp2_with fail
    refine Mix.done (fun x9 => ?_)
    have hb9 := HB9.out.later x9
    have bx0 := hb9.l.cell (k := 0) rfl
    have bx1 := hb9.l.cell (k := 1) rfl
    have bxl := hb9.l.lt
    go_wp2
    refine Mix.region_mixL (Mix.kinds [] [] []) (by kernel_rfl) (by kernel_rfl) ?_
    repeat ((with_reducible refine Mix.atCons ?_); first | refine Mix.skipU (by rfl) rfl (by rfl) ?_ | (refine Mix.val rfl rfl (by rfl) (fun K hK => ?_); go_big_quiet_op; refine hK _ ?_; clear hK K) | (refine Mix.skip (by rfl) ?_; go_frame))
    refine Mix.done (fun x10 => ?_)
    have HB10 := Lib.hid (hb9.q.later x10)
    clear hb9
    go_wp2
    go_roundw
    case rel => first | exact ⟨k + 1, z + 1, y + 1, ⟨_, HB10.out.m.le⟩, _, st, _, rfl, by omega, by go_num, by go_num, by go_num, Lib.hid HNI.out, HB10.out⟩ | ((repeat apply Exists.intro); exact ⟨⟨k + 1, z + 1, y + 1, ⟨_, HB10.out.m.le⟩, _, st, _, rfl, by omega, by go_num, by go_num, by go_num, Lib.hid HNI.out, HB10.out⟩, rfl⟩)
    case measure => simp [intOf] <;> omega
  obtain rfl : k = nq := by omega
  have hk8 : k = ps.length + 1 := by rw [HNQ.out, HLN.out]
  have h9 := HI.out
  rw [hk8] at h9
  have HE := Lib.hid h9.done
  clear hk8 h9
  have lT := hbq.m.lin
  have z0 := lT.cell (k := 0) rfl
  have z1 := lT.cell (k := 1) rfl
  have zl := lT.lt
  clear lT HI
  have t0 := (l1.later V).cell (k := 0) rfl
  have t1' := (l1.later V).cell (k := 1) rfl
  have f0 := (l1.later V).frozen 0
  have f1 := (l1.later V).frozen 1
  have tl := (l1.later V).lt
  have hst : st.length ≤ 1000 := by
    have h1 : st.length + cn ad (a.length + 1) = few a b := HE.out.2.2
    have h2 := Lcs.few_eq a b
    have h3 := HNA.out
    have h4 := HNB.out
    omega
  have had : ad.length ≤ 1000 := by have h1 := HE.out.1.al; have h3 := HNA.out; omega
  have HPA := Lib.hid (fun u v => hbq.m.past hRY u v hst had)
  clear hst had hbq
  go_wp2
  refine bodyPost_ret (v := .tuple #[.agg #[.slice a0 n0 c0, .slice (some ⟨g, 0, none⟩) M M], .int .i64 0]) (by simp [results, Try.results33, go_sem, t0, t1']) rfl ?_
  refine ⟨_, _, st, ad, ⟨_, (((Y3.step V).le.setCell (p := ⟨B1, 0, none⟩) hloB1 (.slice a0 n0 c0)).setCell (p := ⟨B1, 1, none⟩) hloB1 (.slice (some ⟨g, 0, none⟩) M M))⟩, by rw [HH.out], rfl, HPA.out _ _, fun _ => HE.out, fun e => absurd HH.out e⟩
end Go.Proofs.Ytpkgfkeekcgkcaa
