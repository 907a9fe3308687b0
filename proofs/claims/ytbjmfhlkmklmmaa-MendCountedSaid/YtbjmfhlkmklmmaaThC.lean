import Derived.Test.YtbjmfhlkmklmmaaThB
/-  Plates upon one another; which come back; the neutral one; plates turned: plain laws, for the statements. -/
namespace Go.Proofs.Ytbjmfhlkmklmmaa
open Go.RowKit

theorem sumL_comm {d q : List Int} (h : d.length = q.length) : sumL d q = sumL q d := ofL_ext (by rw [sumL_len, sumL_len, h]) fun j hj => by
  rw [sumL_len] at hj
  rw [ofL_sumL _ _ hj, ofL_sumL _ _ (by omega), Int.add_comm]
theorem sumL_assoc {d q r : List Int} (h : d.length = q.length) : sumL (sumL d q) r = sumL d (sumL q r) := ofL_ext (by rw [sumL_len, sumL_len, sumL_len]) fun j hj => by
  rw [sumL_len, sumL_len] at hj
  rw [ofL_sumL _ _ (by rw [sumL_len]; exact hj), ofL_sumL _ _ hj, ofL_sumL _ _ hj, ofL_sumL _ _ (by omega), Int.add_assoc]
theorem RunL.more {w h : Nat} {d u x e : List Int} (hr : RunL w h d u x) (he : ∀ j, j < w * h → 0 ≤ ofL e j) : RunL w h (sumL d e) u (sumL x e) := by
  obtain ⟨l1, l2, l3, f, y, hrun, hf, hy⟩ := hr
  have h1 := hrun.more (e := fun j => if j < w * h then ofL e j else 0) (fun j => by by_cases hj : j < w * h <;> simp [hj, he])
  obtain ⟨x', h2, h3⟩ := Run_congr h1 (d' := ofL (sumL d e)) fun j hj => by
    have hj' : j < w * h := hj
    rw [ofL_sumL _ _ (by omega), Sand.plus, if_pos hj']
  refine ⟨by rw [sumL_len, l1], l2, by rw [sumL_len, l3], f, x', h2, hf, fun j hj => ?_⟩
  rw [← h3 j hj, ofL_sumL _ _ (by omega), Sand.plus, if_pos hj, hy j hj]
theorem Ham.upon {w h : Nat} {d u x e Y V : List Int} (h1 : RunL w h d u x) (he : ∀ j, j < w * h → 0 ≤ ofL e j) (h2 : Ham w h (sumL x e) Y V) : Ham w h (sumL d e) Y (addL u V) := ⟨(h1.more he).trans h2.run, h2.flat⟩
/-- plates upon one another: both ways, in any order, and flat first -/
theorem upon_laws {w h : Nat} {d q r PQ u1 QP u2 QR u3 A u4 B u5 X U C u6 : List Int} (hd : low w h d) (hq : low w h q) (hr : low w h r) (hl : d.length = w * h) (hql : q.length = w * h) (_ : r.length = w * h)
    (h1 : Ham w h (sumL d q) PQ u1) (h2 : Ham w h (sumL q d) QP u2) (h3 : Ham w h (sumL q r) QR u3) (h4 : Ham w h (sumL PQ r) A u4) (h5 : Ham w h (sumL d QR) B u5) (h6 : Ham w h d X U) (h7 : Ham w h (sumL X q) C u6) :
    PQ = QP ∧ A = B ∧ C = PQ := by
  refine ⟨?_, ?_, ?_⟩
  · rw [sumL_comm (by omega)] at h2; exact (h1.unique h2).1
  · have a := Ham.upon h1.run (fun j hj => (hr j hj).1) h4
    rw [sumL_comm (by rw [hl, h3.lenX])] at h5
    have b := Ham.upon h3.run (fun j hj => (hd j hj).1) h5
    rw [sumL_comm (q := d) (by rw [sumL_len]; omega), ← sumL_assoc (by omega)] at b
    exact (a.unique b).1
  · exact ((Ham.upon h6.run (fun j hj => (hq j hj).1) h7).unique h1).1

/-- which come back -/
theorem back_iff {w h : Nat} (hs : sized w h) {x : List Int} (hv : vplate w h x = 0) (hf : ∀ j, j < w * h → ofL x j ≤ 3) : backB w h x = true ↔ Sand.Rec (pl w h) (ofL x) := by
  obtain ⟨_, hl, hlo, _⟩ := valid_low hv
  have hE : burnE w h x = 0 := by rw [burnE, if_neg (by rw [hv]; simp), if_pos (flatB_of fun j hj => hf j (by omega))]
  rw [← burn_rec hs hf fun j hj => (hlo j hj).1, backB, burnK, hE, if_pos rfl, Int.toNat_natCast, Int.toNat_natCast, hl]
  simp
theorem burnE_flat {w h : Nat} {x : List Int} (hv : vplate w h x = 0) (hf : ∀ j, j < w * h → ofL x j ≤ 3) : burnE w h x = 0 := by
  rw [burnE, if_neg (by rw [hv]; simp), if_pos (flatB_of fun j hj => hf j (by rw [← (valid_low hv).2.1]; exact hj))]
theorem rec_more {w h : Nat} {x e Z U : List Int} (hx : Sand.Rec (pl w h) (ofL x)) (hl : x.length = w * h) (he : ∀ j, j < w * h → 0 ≤ ofL e j) (hm : Ham w h (sumL x e) Z U) (hz : ∀ j, j < w * h → 0 ≤ ofL Z j) : Sand.Rec (pl w h) (ofL Z) := by
  have e1 : ∀ j, j < w * h → ofL (sumL x e) j = Sand.plus (ofL x) (ofL e) j := fun j hj => ofL_sumL _ _ (by omega)
  refine hx.more (e := ofL e) (u := ofL U) he ⟨fun j hj => ?_, hm.run.pos, hm.flat, fun v hv hf j hj => ?_⟩ hz
  · rw [hm.run.is j hj]; exact Sand.ap_congr (e1 j hj) rfl fun _ _ => rfl
  · exact hm.least hv (fun j hj => by rw [Sand.ap_congr (e1 j hj) rfl fun _ _ => rfl]; exact hf j hj) j hj
def threeChk : Bool := (List.range 7).all fun w => (List.range 7).all fun h => w == 0 || h == 0 || (burnL w h (List.replicate (w * h) 3)).length == w * h
theorem threeChk_ok : threeChk = true := by decide +kernel
theorem rep_at {n j : Nat} (c : Int) (hj : j < n) : ofL (List.replicate n c) j = c := by simp [ofL, hj]
theorem three_rec {w h : Nat} (hs : sized w h) : Sand.Rec (pl w h) (ofL (List.replicate (w * h) 3)) := by
  rw [← burn_rec hs (fun j hj => by rw [rep_at _ hj]; omega) (fun j hj => by rw [rep_at _ hj]; omega)]
  have h1 := threeChk_ok
  rw [threeChk, List.all_eq_true] at h1
  have h2 := h1 w (List.mem_range.2 (by have := hs.2.1; omega))
  rw [List.all_eq_true] at h2
  have h3 := h2 h (List.mem_range.2 (by have := hs.2.2.2; omega))
  have e1 : (w == 0) = false := by have := hs.1; simp; omega
  have e2 : (h == 0) = false := by have := hs.2.2.1; simp; omega
  rw [e1, e2] at h3
  simpa using h3
/-- no two neighbours at 0 -/
theorem rec_zero {w h : Nat} (hs : sized w h) {x : List Int} (hx : Sand.Rec (pl w h) (ofL x)) {i n : Nat} (hi : i < w * h) (hn : n ∈ nb w h i) (h1 : ofL x i = 0) (h2 : ofL x n = 0) : False := by
  obtain ⟨hnl, hnr⟩ := (mem_nb hs hi).1 hn
  have hne : i ≠ n := fun e => by rw [e, near_self] at hnr; cases hnr
  have h3 := hx.least (fun k => if k = i ∨ k = n then 0 else 1) (fun k _ => by split <;> omega) (fun j hj => by
    rw [Sand.ap_less, Sand.ap]
    rw [Sand.sum_congr (g := fun k => (if k = i then -((pl w h).a i j) else 0) + (if k = n then -((pl w h).a n j) else 0)) _ fun k hk => by
      by_cases e1 : k = i
      · subst e1; rw [if_pos (.inl rfl), if_pos rfl, if_neg hne]; omega
      · by_cases e2 : k = n
        · subst e2; rw [if_pos (.inr rfl), if_neg e1, if_pos rfl]; omega
        · rw [if_neg (by rintro (h | h) <;> contradiction), if_neg e1, if_neg e2]; omega]
    rw [Sand.sum_add, Sand.sum_one _ _ _ (show i < (pl w h).N from hi), Sand.sum_one _ _ _ (show n < (pl w h).N from hnl)]
    have n1 := (pl w h).nn i j
    have n2 := (pl w h).nn n j
    have e3 : (pl w h).a i n = 1 := by show (if near w i n then (1 : Int) else 0) = 1; rw [hnr]; rfl
    have hf := hx.flat j hj
    by_cases e1 : j = i
    · subst e1
      rw [if_pos (.inl rfl), (pl w h).sym n, e3, (pl w h).irr]
      omega
    · by_cases e2 : j = n
      · subst e2
        rw [if_pos (.inr rfl), e3, (pl w h).irr]
        omega
      · rw [if_neg (by rintro (h | h) <;> contradiction)]
        omega) i hi
  rw [if_pos (.inl rfl)] at h3
  omega

/-- the neutral plate -/
structure Neut (w h : Nat) (n : List Int) : Prop where
  len : n.length = w * h
  rg : ∀ j, j < w * h → 0 ≤ ofL n j ∧ ofL n j ≤ 3
  rc : Sand.Rec (pl w h) (ofL n)
  null : ∃ v : Nat → Int, ∀ j, j < w * h → ofL n j = Sand.ap (pl w h) (fun _ => 0) v j
theorem neut_ex {w h : Nat} (hs : sized w h) : neutE w h = 0 ∧ Neut w h (neutL w h) := by
  have hE : neutE w h = 0 := by
    rw [neutE, if_neg]
    simp only [sizeB, sized] at hs ⊢
    simp; omega
  refine ⟨hE, ?_⟩
  rw [neutL, if_pos hE, Int.toNat_natCast, Int.toNat_natCast, neutF, neutD]
  obtain ⟨X, U, hm⟩ := ham_ex hs (sixL_len (w * h)) (sixL_low w h)
  rw [hm.eq]
  have hlow := less_low hm
  obtain ⟨Y, V, hm2⟩ := ham_ex hs (lessL_len (w * h) X (w * h)) hlow
  rw [hm2.eq]
  show Neut w h Y
  have hr := hm2.range hlow
  refine ⟨hm2.lenX, hr, ?_, ?_⟩
  · have e : lessL (w * h) X (w * h) = sumL (List.replicate (w * h) 3) ((List.range (w * h)).map fun j => 3 - ofL X j) := ofL_ext (by simp [lessL_len, sumL_len]) fun j hj => by
      rw [lessL_len] at hj
      rw [ofL_lessL _ _ _ hj, if_pos hj, ofL_sumL _ _ (by simpa using hj), rep_at _ hj]
      simp [ofL, hj]
      omega
    rw [e] at hm2
    exact rec_more (three_rec hs) (by simp) (fun j hj => by have := hm.flat j hj; simp [ofL, hj]; exact this) hm2 fun j hj => (hr j hj).1
  · refine ⟨fun j => ofL V j - ofL U j, fun j hj => ?_⟩
    have h1 := hm.run.is j hj
    have h2 := hm2.run.is j hj
    rw [h2, Sand.ap, ofL_lessL _ _ _ hj, if_pos hj, h1, Sand.ap, sixL_at hj, Sand.ap]
    rw [Sand.sum_congr (f := fun i => (pl w h).a i j * (ofL V i - ofL U i)) (g := fun i => (pl w h).a i j * ofL V i + -((pl w h).a i j * ofL U i)) _ fun i _ => by rw [Int.mul_sub]; omega, Sand.sum_add, Sand.sum_neg]
    omega
theorem neut_same {w h : Nat} (hs : sized w h) {n x y U : List Int} (hn : Neut w h n) (hx : Sand.Rec (pl w h) (ofL x)) (hl : x.length = w * h) (hm : Ham w h (sumL x n) y U) (hz : ∀ j, j < w * h → 0 ≤ ofL y j) : x = y := by
  have hy := rec_more hx hl (fun j hj => (hn.rg j hj).1) hm hz
  obtain ⟨v, hv⟩ := hn.null
  have := hx.same (rim_nonneg hs) hy (w := fun j => ofL U j + v j) fun j hj => by
    have hj' : j < w * h := hj
    rw [hm.run.is j hj, Sand.ap, ofL_sumL _ _ (by omega), hv j hj, Sand.ap, Sand.ap]
    rw [Sand.sum_congr (f := fun i => (pl w h).a i j * (ofL U i + v i)) (g := fun i => (pl w h).a i j * ofL U i + (pl w h).a i j * v i) _ fun i _ => Int.mul_add _ _ _, Sand.sum_add]
    omega
  exact ofL_ext (by rw [hl, hm.lenX]) fun j hj => this j (by show j < w * h; omega)

/-- A plate turned: σ tells, for each place of the new one, that of the old one. -/
structure Sym (w h w2 h2 : Nat) (s t : Nat → Nat) : Prop where
  size : w2 * h2 = w * h
  ls : ∀ j, j < w * h → s j < w * h
  lt : ∀ j, j < w * h → t j < w * h
  st : ∀ j, j < w * h → s (t j) = j
  ts : ∀ j, j < w * h → t (s j) = j
  nr : ∀ i, i < w * h → ∀ j, j < w * h → near w2 i j = near w (s i) (s j)
theorem Sym.symm {w h w2 h2 : Nat} {s t : Nat → Nat} (y : Sym w h w2 h2 s t) : Sym w2 h2 w h t s where
  size := y.size.symm
  ls := by rw [y.size]; exact y.lt
  lt := by rw [y.size]; exact y.ls
  st := by rw [y.size]; exact y.ts
  ts := by rw [y.size]; exact y.st
  nr := by
    rw [y.size]
    intro i hi j hj
    rw [y.nr _ (y.lt i hi) _ (y.lt j hj), y.st i hi, y.st j hj]
theorem Sym.sum {w h w2 h2 : Nat} {s t : Nat → Nat} (y : Sym w h w2 h2 s t) (f : Nat → Int) : Sand.sum (w * h) (fun i => f (s i)) = Sand.sum (w * h) f := by
  have e1 : Sand.sum (w * h) (fun i => f (s i)) = Sand.sum (w * h) (fun i => Sand.sum (w * h) fun k => if k = s i then f k else 0) := Sand.sum_congr _ fun i hi => by
    rw [Sand.sum_congr (g := fun k => if k = s i then f (s i) else 0) _ fun k _ => by by_cases e : k = s i <;> simp [e], Sand.sum_one _ _ _ (y.ls i hi)]
  rw [e1, Sand.sum_swap]
  refine Sand.sum_congr _ fun k hk => ?_
  rw [Sand.sum_congr (g := fun i => if i = t k then f k else 0) _ fun i hi => by
    by_cases e : k = s i
    · rw [if_pos e, if_pos (by rw [e, y.ts i hi])]
    · rw [if_neg e, if_neg fun e2 => e (by rw [e2, y.st k hk])], Sand.sum_one _ _ _ (y.lt k hk)]
theorem Sym.ap {w h w2 h2 : Nat} {s t : Nat → Nat} (y : Sym w h w2 h2 s t) (d v : Nat → Int) {j : Nat} (hj : j < w * h) : Sand.ap (pl w2 h2) (fun i => d (s i)) (fun i => v (s i)) j = Sand.ap (pl w h) d v (s j) := by
  rw [Sand.ap, Sand.ap]
  have e : Sand.sum (pl w2 h2).N (fun i => (pl w2 h2).a i j * v (s i)) = Sand.sum (w * h) (fun i => (fun k => (pl w h).a k (s j) * v k) (s i)) := by
    show Sand.sum (w2 * h2) _ = _
    rw [y.size]
    exact Sand.sum_congr _ fun i hi => by
      show (if near w2 i j then (1 : Int) else 0) * _ = (if near w (s i) (s j) then (1 : Int) else 0) * _
      rw [y.nr i hi j hj]
  rw [e, y.sum (fun k => (pl w h).a k (s j) * v k)]
  rfl
theorem Sym.rim {w h w2 h2 : Nat} {s t : Nat → Nat} (y : Sym w h w2 h2 s t) {j : Nat} (hj : j < w * h) : Sand.rim (pl w2 h2) j = Sand.rim (pl w h) (s j) := by
  rw [Sand.rim, Sand.rim]
  have e : Sand.sum (pl w2 h2).N (fun i => (pl w2 h2).a i j) = Sand.sum (w * h) (fun i => (fun k => (pl w h).a k (s j)) (s i)) := by
    show Sand.sum (w2 * h2) _ = _
    rw [y.size]
    exact Sand.sum_congr _ fun i hi => by
      show (if near w2 i j then (1 : Int) else 0) = (if near w (s i) (s j) then (1 : Int) else 0)
      rw [y.nr i hi j hj]
  rw [e, y.sum (fun k => (pl w h).a k (s j))]
  rfl
def turnL (n : Nat) (s : Nat → Nat) (d : List Int) : List Int := (List.range n).map fun j => ofL d (s j)
theorem turnL_len (n : Nat) (s : Nat → Nat) (d : List Int) : (turnL n s d).length = n := by simp [turnL]
theorem ofL_turnL {n : Nat} (s : Nat → Nat) (d : List Int) {j : Nat} (hj : j < n) : ofL (turnL n s d) j = ofL d (s j) := by simp [ofL, turnL, hj]
theorem Sym.least {w h w2 h2 : Nat} {s t : Nat → Nat} (y : Sym w h w2 h2 s t) {d q X U X2 U2 : List Int} (hq : ∀ j, j < w * h → ofL q j = ofL d (s j)) (hm : Ham w h d X U) (hm2 : Ham w2 h2 q X2 U2) : ∀ j, j < w * h → ofL U2 j ≤ ofL U (s j) := fun j hj =>
  hm2.least (v := fun i => ofL U (s i)) (fun i hi => hm.run.pos _ (y.ls i (by rw [← y.size]; exact hi))) (fun i hi => by
    rw [y.size] at hi
    rw [Sand.ap_congr (d' := fun i => ofL d (s i)) (u' := fun i => ofL U (s i)) (hq i hi) rfl fun _ _ => rfl, y.ap (ofL d) (ofL U) hi, ← hm.run.is _ (y.ls i hi)]
    exact hm.flat _ (y.ls i hi)) j (by rw [y.size]; exact hj)
theorem Sym.ham {w h w2 h2 : Nat} {s t : Nat → Nat} (y : Sym w h w2 h2 s t) {d q X U X2 U2 : List Int} (hq : ∀ j, j < w * h → ofL q j = ofL d (s j)) (hm : Ham w h d X U) (hm2 : Ham w2 h2 q X2 U2) : ∀ j, j < w * h → ofL U2 j = ofL U (s j) ∧ ofL X2 j = ofL X (s j) := by
  have hu : ∀ j, j < w * h → ofL U2 j = ofL U (s j) := fun j hj => by
    have h1 := y.least hq hm hm2 j hj
    have h2 := y.symm.least (q := d) (d := q) (fun k hk => by rw [y.size] at hk; rw [hq _ (y.lt k hk), y.st k hk]) hm2 hm (s j) (by rw [y.size]; exact y.ls j hj)
    rw [y.ts j hj] at h2
    omega
  refine fun j hj => ⟨hu j hj, ?_⟩
  rw [hm2.run.is j (by rw [y.size]; exact hj), hm.run.is _ (y.ls j hj), ← y.ap _ _ hj]
  exact Sand.ap_congr (hq j hj) (hu j hj) fun i hi => hu i (by rw [← y.size]; exact hi)
theorem Sym.rec1 {w h w2 h2 : Nat} {s t : Nat → Nat} (y : Sym w h w2 h2 s t) {x x2 : List Int} (hq : ∀ j, j < w * h → ofL x2 j = ofL x (s j)) (hx : Sand.Rec (pl w h) (ofL x)) : Sand.Rec (pl w2 h2) (ofL x2) where
  flat := fun j hj => by
    have hj : j < w * h := by rw [← y.size]; exact hj
    rw [hq j hj]; exact hx.flat _ (y.ls j hj)
  pos := fun j hj => by
    have hj : j < w * h := by rw [← y.size]; exact hj
    rw [hq j hj]; exact hx.pos _ (y.ls j hj)
  least := fun v hv hf j hj => by
    have hj : j < w * h := by rw [← y.size]; exact hj
    have h1 := hx.least (fun k => v (t k)) (fun k hk => hv _ (by show _ < w2 * h2; rw [y.size]; exact y.lt k hk)) (fun k hk => by
      have h3 := hf (t k) (by show _ < w2 * h2; rw [y.size]; exact y.lt k hk)
      have h4 := y.ap (Sand.plus (ofL x) (Sand.rim (pl w h))) (fun k => v (t k)) (y.lt k hk)
      rw [y.st k hk] at h4
      rw [← h4, Sand.ap_congr (d' := Sand.plus (ofL x2) (Sand.rim (pl w2 h2))) (u' := v) ?_ ?_ ?_]
      · exact h3
      · rw [Sand.plus, Sand.plus, hq _ (y.lt k hk), y.rim (y.lt k hk)]
      · show v (t (s (t k))) = _; rw [y.st k hk]
      · intro i hi
        show v (t (s i)) = _
        rw [y.ts i (by rw [← y.size]; exact hi)]) (s j) (y.ls j hj)
    rwa [y.ts j hj] at h1
theorem Sym.recI {w h w2 h2 : Nat} {s t : Nat → Nat} (y : Sym w h w2 h2 s t) {x x2 : List Int} (hq : ∀ j, j < w * h → ofL x2 j = ofL x (s j)) : Sand.Rec (pl w h) (ofL x) ↔ Sand.Rec (pl w2 h2) (ofL x2) :=
  ⟨y.rec1 hq, y.symm.rec1 fun j hj => by rw [y.size] at hj; rw [hq _ (y.lt j hj), y.st j hj]⟩
/-- the places of a plate mirrored, and with rows and columns exchanged -/
def turnS (w h : Nat) (c r e : Bool) (i : Nat) : Nat :=
  bif e then (bif r then h - 1 - i % h else i % h) * w + (bif c then w - 1 - i / h else i / h)
  else (bif r then h - 1 - i / w else i / w) * w + (bif c then w - 1 - i % w else i % w)
def turnT (w h : Nat) (c r e : Bool) (k : Nat) : Nat :=
  bif e then (bif c then w - 1 - k % w else k % w) * h + (bif r then h - 1 - k / w else k / w)
  else (bif r then h - 1 - k / w else k / w) * w + (bif c then w - 1 - k % w else k % w)
def turnChk (c r e : Bool) : Bool := (List.range 7).all fun w => (List.range 7).all fun h => w == 0 || h == 0 || (List.range (w * h)).all fun j =>
  decide (turnS w h c r e j < w * h) && decide (turnT w h c r e j < w * h) && (turnS w h c r e (turnT w h c r e j) == j) && (turnT w h c r e (turnS w h c r e j) == j) &&
    (List.range (w * h)).all fun i => near (bif e then h else w) i j == near w (turnS w h c r e i) (turnS w h c r e j)
theorem turnChk_ok : (turnChk false false false && turnChk false false true && turnChk false true false && turnChk false true true && turnChk true false false && turnChk true false true && turnChk true true false && turnChk true true true) = true := by decide +kernel
theorem turn_sym {w h : Nat} (hs : sized w h) (c r e : Bool) : Sym w h (bif e then h else w) (bif e then w else h) (turnS w h c r e) (turnT w h c r e) := by
  have h0 : turnChk c r e = true := by
    have := turnChk_ok
    simp only [Bool.and_eq_true] at this
    cases c <;> cases r <;> cases e <;> simp only [this]
  rw [turnChk, List.all_eq_true] at h0
  have h2 := h0 w (List.mem_range.2 (by have := hs.2.1; omega))
  rw [List.all_eq_true] at h2
  have h3 := h2 h (List.mem_range.2 (by have := hs.2.2.2; omega))
  have e1 : (w == 0) = false := by have := hs.1; simp; omega
  have e2 : (h == 0) = false := by have := hs.2.2.1; simp; omega
  rw [e1, e2, Bool.false_or, Bool.false_or, List.all_eq_true] at h3
  have h4 : ∀ j, j < w * h → turnS w h c r e j < w * h ∧ turnT w h c r e j < w * h ∧ turnS w h c r e (turnT w h c r e j) = j ∧ turnT w h c r e (turnS w h c r e j) = j ∧ ∀ i, i < w * h → near (bif e then h else w) i j = near w (turnS w h c r e i) (turnS w h c r e j) := fun j hj => by
    have h5 := h3 j (List.mem_range.2 hj)
    simp only [Bool.and_eq_true, decide_eq_true_iff, beq_iff_eq, List.all_eq_true] at h5
    exact ⟨h5.1.1.1.1, h5.1.1.1.2, h5.1.1.2, h5.1.2, fun i hi => h5.2 i (List.mem_range.2 hi)⟩
  exact ⟨by cases e <;> simp [Nat.mul_comm], fun j hj => (h4 j hj).1, fun j hj => (h4 j hj).2.1, fun j hj => (h4 j hj).2.2.1, fun j hj => (h4 j hj).2.2.2.1, fun i hi j hj => (h4 j hj).2.2.2.2 i hi⟩
end Go.Proofs.Ytbjmfhlkmklmmaa
