import Derived.Test.YtieaibebnkdmhaaTh7
/-  The middle one of three settled matchings. Plain lists. -/
namespace Go.Proofs.Ytieaibebnkdmhaa

def midF (ns : List (List Int)) (x y z : List Int) (i : Nat) : Int :=
  let p := plc (row ns i) (nth x i); let q := plc (row ns i) (nth y i); let r := plc (row ns i) (nth z i)
  let at' := max (min p q) (min (max p q) r)
  if at' < 0 then -1 else nth (row ns i) at'.toNat
def midL (ns : List (List Int)) (x y z : List Int) (k : Nat) : List Int := (List.range k).map (midF ns x y z)
theorem midL_succ (ns : List (List Int)) (x y z : List Int) (k : Nat) : midL ns x y z (k + 1) = midL ns x y z k ++ [midF ns x y z k] := by simp [midL, List.range_succ]
theorem midL_len (ns : List (List Int)) (x y z : List Int) (k : Nat) : (midL ns x y z k).length = k := by simp [midL]
theorem rn_plc {ns ss : List (List Int)} {m : List Int} (hm : Sett ns ss m) {i s : Nat} (h : rel m i s) : plc (row ns i) (nth m i) = ((sd ns ss).rn i s : Int) := by
  have ha := hm.stab.acc h
  have := plc_nonneg.2 ha.2.2.1
  rw [h.2]
  show _ = (((plc (row ns i) (s : Int)).toNat : Nat) : Int)
  omega
/-- the ranks of the better and of the worse one -/
theorem put_rank {ns ss : List (List Int)} {m l : List Int} (hm : Sett ns ss m) (hl : Sett ns ss l) {i s t : Nat} (h1 : rel m i s) (h2 : rel l i t) (b : Bool) :
    ∃ u, rel (putN ns m l b) i u ∧ (sd ns ss).rn i u = if b then max ((sd ns ss).rn i s) ((sd ns ss).rn i t) else min ((sd ns ss).rn i s) ((sd ns ss).rn i t) := by
  have hi := (hm.stab.acc h1).1
  have hlen : i < (putN ns m l b).length := by rw [putN_len, hm.1.len]; exact hi
  rcases put_val hm hl hi b with ⟨e, _, _⟩ | ⟨s', t', r1, r2, hv⟩
  · have := h1.2; omega
  · have := hm.stab.fn r1 h1
    subst this
    have := hl.stab.fn r2 h2
    subst this
    by_cases hlt : (sd ns ss).rn i t' < (sd ns ss).rn i s'
    · rw [if_pos hlt] at hv
      cases b
      · exact ⟨t', ⟨hlen, hv⟩, by simp; omega⟩
      · exact ⟨s', ⟨hlen, hv⟩, by simp; omega⟩
    · rw [if_neg hlt] at hv
      cases b
      · exact ⟨s', ⟨hlen, hv⟩, by simp; omega⟩
      · exact ⟨t', ⟨hlen, hv⟩, by simp; omega⟩
theorem mid_eq {ns ss : List (List Int)} (hv : vbook ns ss = 0) {x y z : List Int} (hx : Sett ns ss x) (hy : Sett ns ss y) (hz : Sett ns ss z) :
    midL ns x y z ns.length = putN ns (putN ns x y false) (putN ns (putN ns x y true) z false) true := by
  have hj := put_sett hx hy false
  have hw := put_sett hx hy true
  have hjw := put_sett hw hz false
  have hf := put_sett hj hjw true
  refine List.ext_getElem (by rw [midL_len, hf.1.len]) fun i h1 h2 => ?_
  rw [← nth_eq h1, ← nth_eq h2]
  have hi : i < ns.length := by rwa [midL_len] at h1
  rw [nth_eq h1, show (midL ns x y z ns.length)[i] = midF ns x y z i by simp [midL]]
  have hfl := hf.1.lo i hi
  by_cases h0 : 0 ≤ nth x i
  · have rx : rel x i (nth x i).toNat := ⟨by rw [hx.1.len]; exact hi, by omega⟩
    obtain ⟨t, ry⟩ := hx.stab.rural hy.stab rx
    obtain ⟨u, rz⟩ := hx.stab.rural hz.stab rx
    obtain ⟨a, ra, ea⟩ := put_rank hx hy rx ry false
    obtain ⟨b, rb, eb⟩ := put_rank hx hy rx ry true
    obtain ⟨c, rc, ec⟩ := put_rank hw hz rb rz false
    obtain ⟨d, rd, ed⟩ := put_rank hj hjw ra rc true
    rw [rd.2, midF]
    simp only [rn_plc hx rx, rn_plc hy ry, rn_plc hz rz]
    simp only [Bool.false_eq_true, if_false, if_true] at ea eb ec ed
    have e : max (min ((sd ns ss).rn i (nth x i).toNat : Int) ((sd ns ss).rn i t : Int)) (min (max ((sd ns ss).rn i (nth x i).toNat : Int) ((sd ns ss).rn i t : Int)) ((sd ns ss).rn i u : Int)) = ((sd ns ss).rn i d : Int) := by
      rw [ed, ec, eb, ea]; omega
    rw [e, if_neg (by omega), Int.toNat_natCast]
    exact (star_at (hf.stab.acc rd)).2
  · have lo := hx.1.lo i hi
    have hy0 : ¬ 0 ≤ nth y i := fun h => h0 ((sett_nonneg hx hy hi).2 h)
    have hz0 : ¬ 0 ≤ nth z i := fun h => h0 ((sett_nonneg hx hz hi).2 h)
    have hf0 : ¬ 0 ≤ nth (putN ns (putN ns x y false) (putN ns (putN ns x y true) z false) true) i := fun h => h0 ((sett_nonneg hx hf hi).2 h)
    have hp : ∀ v ∈ row ns i, 0 ≤ v := fun v hv' => ((vbook_valid hv).2.2.2.2.2.2.1 _ (row_mem hi) v hv').1
    have key : ∀ {m : List Int}, ¬ 0 ≤ nth m i → plc (row ns i) (nth m i) = -1 := fun h => plc_neg fun hin => h (hp _ hin)
    rw [midF]
    simp only [key h0, key hy0, key hz0]
    rw [if_pos (by omega)]
    omega
theorem cntF_congr : ∀ (m l : List Int), m.length = l.length → (∀ i, i < m.length → (0 ≤ nth m i ↔ 0 ≤ nth l i)) → cntF m = cntF l
  | [], [], _, _ => rfl
  | a :: m, b :: l, h, h1 => by
    have e0 := h1 0 (by simp)
    simp only [nth, List.getD_cons_zero] at e0
    have := cntF_congr m l (by simpa using h) (fun i hi => by have := h1 (i + 1) (by simpa using hi); simpa [nth] using this)
    simp only [cntF, this]
    by_cases h : 0 ≤ a
    · rw [if_pos h, if_pos (e0.1 h)]
    · rw [if_neg h, if_neg (fun hb => h (e0.2 hb))]
/-- what the program says of the middle one -/
theorem mid_says {ns ss : List (List Int)} (hv : vbook ns ss = 0) {x y z : List Int} (hx : Sett ns ss x) (hy : Sett ns ss y) (hz : Sett ns ss z) : Sett ns ss (midL ns x y z ns.length) ∧ cmat ns ss (midL ns x y z ns.length) = cmat ns ss x := by
  have h : Sett ns ss (midL ns x y z ns.length) := by
    rw [mid_eq hv hx hy hz]
    exact put_sett (put_sett hx hy false) (put_sett (put_sett hx hy true) hz false) true
  refine ⟨h, ?_⟩
  rw [cmat, cmat, if_pos (vmatch_zero.2 ⟨hv, h.1⟩), if_pos (vmatch_zero.2 ⟨hv, hx.1⟩)]
  rw [cntF_congr _ _ (by rw [h.1.len, hx.1.len]) fun i hi => sett_nonneg h hx (by rw [← h.1.len]; exact hi)]
end Go.Proofs.Ytieaibebnkdmhaa
