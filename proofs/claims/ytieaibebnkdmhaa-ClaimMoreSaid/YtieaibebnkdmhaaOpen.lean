/-  What the arguments of a statement read as; and that they read so behind a call that leaves what was there. Plain law over the program's table of types. -/
import Derived.Test.YtieaibebnkdmhaaTab
import Derived.ProofKit
import Derived.OpenShut
import Derived.Deep.Matrix
import Derived.Carry
import Derived.SizedLaws
import Derived.Lib.SmallJoins
namespace Go.Proofs.Ytieaibebnkdmhaa
open Go.ChangeShapes Go.WideShapes Go.ChangeAt Go.RowKit Go.Deep Go.Joins

theorem laidOut : laidOutB Try.prog = true := by kernel_rfl
theorem own : ownKnob Try.prog.godebug = none := by kernel_rfl
theorem cellsI : Try.prog.cellsOf 3 = 1 := by kernel_rfl
theorem cellsL : Try.prog.cellsOf 25 = 1 := by kernel_rfl
theorem bytesI : Try.prog.bytesOf 3 = 8 := by kernel_rfl
theorem bytesL : Try.prog.bytesOf 25 = 24 := by kernel_rfl
theorem reach_eq : reachBytes = 140737488351232 := rfl

section
variable {H : Type} {enc : TypeId × Value → H}

theorem ints_of {W : World} {a : Addr} {len cap : Nat} {zs : List Int} (hl : len ≤ cap) (hz : zs.length = cap) (hb : cap * 8 ≤ 140737488351232)
    (hc : ∀ i, i < zs.length → W.cell? (a.add i) = some (.int .i64 (zs.getD i 0))) : Ints W (.slice (some a) len cap) (zs.take len) := by
  have hlen : (zs.take len).length = len := by rw [List.length_take]; omega
  by_cases h0 : len = 0
  · subst h0; exact ⟨by simp, .inl ⟨by simp, some a, cap, rfl⟩⟩
  · obtain ⟨b, off, rfl, hc'⟩ := ints_at hc (by omega)
    refine ⟨by omega, .inr ⟨b, off, cap, by rw [hlen], by omega, World.block_lt_of_cell? W ⟨b, off + 0, none⟩ (hc' 0 (by omega)), fun k hk => ?_⟩⟩
    rw [hlen] at hk
    rw [hc' k (by omega), nth]
    simp [hk]

theorem ints_trod {W : World} {fuel : Nat} {v : Value} {x : DataW H × List MemPlace} (h : DataW.trod enc Try.prog W 0 (fun _ => true) true fuel 25 [v] = some x)
    (hw : ∀ n ∈ x.1.weights Try.prog 25, n ≤ reachBytes) : ∃ xs, Ints W v xs := by
  rcases open_ints Try.underlying25 Try.underlying3 cellsI h with ⟨e, rfl⟩ | ⟨a, len, cap, zs, e, _, hl, hm, hz, rfl, hc, hwf⟩
  · obtain rfl : v = .slice none 0 0 := by simpa using e
    exact ⟨[], Ints.nil none 0⟩
  · obtain rfl : v = .slice (some a) len cap := by simpa using e
    simp only [if_true] at hz
    have := hw ((zs.take len).length + (zs.drop len).length |> (· * 8)) (by simp [DataW.weights, Try.underlying25, bytesI, lits])
    refine ⟨zs.take len, ints_of hl hz ?_ hc⟩
    rw [reach_eq] at this
    simp only [List.length_take, List.length_drop] at this
    omega

theorem weightsAll_mem {P : Program} {e : TypeId} : ∀ {l : List (DataW H)} {d : DataW H} {n : Nat}, d ∈ l → n ∈ d.weights P e → n ∈ DataW.weightsAll P e l
  | c :: l, d, n, hd, hn => by
    rw [DataW.weightsAll, List.mem_append]
    rcases List.mem_cons.1 hd with rfl | hd
    · exact .inl hn
    · exact .inr (weightsAll_mem hd hn)

theorem rows_trod {W : World} {fuel : Nat} {v : Value} {x : DataW H × List MemPlace} (h : DataW.trod enc Try.prog W 0 (fun _ => true) true fuel 22 [v] = some x)
    (hw : ∀ n ∈ x.1.weights Try.prog 22, n ≤ reachBytes) : ∃ xss, Rows2 W v xss := by
  rcases open_int_rows Try.underlying22 Try.underlying25 Try.underlying3 cellsL cellsI h with ⟨e, rfl⟩ | ⟨a, len, cap, A, L, C, Z, e, _, hl, hm, rfl, hr⟩
  · obtain rfl : v = .slice none 0 0 := by simpa using e
    exact ⟨[], by simp, .inl ⟨rfl, none, 0, rfl⟩⟩
  · obtain rfl : v = .slice (some a) len cap := by simpa using e
    by_cases h0 : len = 0
    · subst h0
      exact ⟨[], by simp, .inl ⟨rfl, some a, cap, rfl⟩⟩
    obtain ⟨b, off, spot⟩ := a
    have hspot : spot = none := by simpa [Addr.add] using World.cell?_spot (hr 0 (by omega)).1
    subst hspot
    have hbig := hw ((len + (cap - len)) * 24) (by simp [DataW.weights, Try.underlying22, bytesL])
    rw [reach_eq] at hbig
    have hlen : ((List.range len).map fun r => (Z r).take (L r)).length = len := by simp
    refine ⟨(List.range len).map fun r => (Z r).take (L r), by omega, .inr ⟨b, off, cap, fun r => .slice (A r) (L r) (C r), by rw [hlen], by omega, World.block_lt_of_cell? W _ (by have := (hr 0 (by omega)).1; rw [add_plain] at this; exact this), fun k hk => ?_⟩⟩
    rw [hlen] at hk
    obtain ⟨h1, h2, h3, h4, h5, h6, h7⟩ := hr k (by omega)
    rw [add_plain] at h1
    refine ⟨h1, ?_⟩
    have erow : row ((List.range len).map fun r => (Z r).take (L r)) k = (Z k).take (L k) := by simp [row, hk]
    rw [erow]
    show Ints W (.slice (A k) (L k) (C k)) _
    cases hA : A k with
    | none =>
      have hC := h6 hA
      have hL : L k = 0 := by omega
      rw [hL, hC]
      exact Ints.nil none 0
    | some a' =>
      refine ints_of h2 h4 ?_ (fun i hi => (h7 a' hA).2 i (by omega))
      have hin : (((Z k).take (L k)).length + ((Z k).drop (L k)).length) * 8 ∈ (DataW.slice (H := H) (lits .i64 ((Z k).take (L k))) (lits .i64 ((Z k).drop (L k)))).weights Try.prog 25 := by
        simp [DataW.weights, Try.underlying25, bytesI, lits]
      have hin2 := weightsAll_mem (l := (List.range len).map fun r => intRow (H := H) .i64 (A r) (L r) (Z r)) (List.mem_map.2 ⟨k, List.mem_range.2 hk, by simp only [intRow, hA]⟩) hin
      have := hw _ (by simp only [DataW.weights, Try.underlying22]; exact List.mem_cons_of_mem _ (List.mem_append_left _ hin2))
      rw [reach_eq] at this
      simp only [List.length_take, List.length_drop] at this
      omega

set_option maxRecDepth 100000 in
theorem book_trod {W : World} {v : Value} {d : DataW H} {p : List MemPlace} {b0 : Nat} (hv : Value.okWide Try.prog W .any b0 24 v) (h : DataW.Trod enc Try.prog W 0 (fun _ => true) true 24 v d p)
    (hw : ∀ n ∈ d.weights Try.prog 24, n ≤ reachBytes) : ∃ nv sv ns ss, v = .agg #[nv, sv] ∧ Rows2 W nv ns ∧ Rows2 W sv ss := by
  obtain ⟨c0, c1, y0, y1, m, rfl, rfl, rfl, hy0, hy1⟩ := open_agg2 Try.underlying24 (by kernel_rfl) (by kernel_rfl) hv h
  obtain ⟨ns, hn⟩ := rows_trod hy0 (fun n hn => hw n (by simp [DataW.weights, Try.underlying24, DataW.weightsEach, hn]))
  obtain ⟨ss, hs⟩ := rows_trod hy1 (fun n hn => hw n (by simp [DataW.weights, Try.underlying24, DataW.weightsEach, hn]))
  exact ⟨c0, c1, ns, ss, rfl, hn, hs⟩

set_option maxRecDepth 100000 in
theorem list_trod {W : World} {v : Value} {d : DataW H} {p : List MemPlace} {b0 : Nat} (hv : Value.okWide Try.prog W .any b0 25 v) (h : DataW.Trod enc Try.prog W 0 (fun _ => true) true 25 v d p)
    (hw : ∀ n ∈ d.weights Try.prog 25, n ≤ reachBytes) : ∃ xs, Ints W v xs := by
  obtain ⟨a, len, cap, rfl⟩ := okWide_slice Try.underlying25 hv
  obtain ⟨fuel, hf⟩ := h
  exact ints_trod (x := (d, p)) hf hw

set_option maxRecDepth 100000 in
theorem int_trod {W : World} {v : Value} {d : DataW H} {p : List MemPlace} {b0 : Nat} (hv : Value.okWide Try.prog W .any b0 3 v) (h : DataW.Trod enc Try.prog W 0 (fun _ => true) true 3 v d p) : ∃ n : Int, v = .int .i64 n := by
  obtain ⟨n, rfl⟩ := okWide_int Try.underlying3 hv
  exact ⟨n, rfl⟩

set_option maxRecDepth 100000 in
/-- The arguments read behind a call as before. -/
theorem args_later {W : World} (x : Later W) : ∀ {ts : List TypeId} {vs : List Value} {ds : List (DataW H)} {ps : List MemPlace}, (∀ t ∈ ts, Try.prog.readableRec t = true ∧ t < Try.prog.types.size) → (∀ q ∈ ps, q.block < W.heap.size) →
    DataW.TrodAll enc Try.prog W 0 (fun _ => true) true ts vs ds ps → DataW.TrodAll enc Try.prog x.w 0 (fun b => decide (b < W.heap.size)) true ts vs ds ps
  | [], _, _, _, _, _, h => by
    obtain ⟨rfl, rfl, rfl⟩ := trodAll_nil h
    exact trodAll_mk0
  | t :: ts, _, _, _, ht, hp, h => by
    obtain ⟨v, vs, d, ds, p, q, rfl, rfl, rfl, h1, h2⟩ := trodAll_cons h
    exact trodAll_cons_mk (Below.trod laidOut (ht t (by simp)).1 (ht t (by simp)).2 h1 x.le (fun y hy => hp y (by simp [hy]))) (args_later x (fun t h => ht t (by simp [h])) (fun y hy => hp y (by simp [hy])) h2)
end
section
variable {H : Type} {enc : TypeId × Value → H}
set_option maxRecDepth 100000 in
theorem u8_trod {W : World} {v : Value} {d : DataW H} {p : List MemPlace} {b0 : Nat} (hv : Value.okWide Try.prog W .any b0 5 v) (h : DataW.Trod enc Try.prog W 0 (fun _ => true) true 5 v d p) : ∃ n : Int, v = .int .u8 n ∧ 0 ≤ n ∧ n ≤ 255 := by
  obtain ⟨n, rfl⟩ := okWide_int Try.underlying5 hv
  obtain ⟨fuel, hf⟩ := h
  obtain ⟨n', e, _, hwf⟩ := DataW.trod_int Try.underlying5 hf
  simp only [Value.cells, List.cons.injEq, Value.int.injEq, true_and, and_true] at e
  subst e
  refine ⟨n, rfl, ?_⟩
  simp [Lit.wf, IntKind.min, IntKind.max, IntKind.signed, IntKind.bits] at hwf
  omega
set_option maxRecDepth 100000 in
theorem u16_trod {W : World} {v : Value} {d : DataW H} {p : List MemPlace} {b0 : Nat} (hv : Value.okWide Try.prog W .any b0 53 v) (h : DataW.Trod enc Try.prog W 0 (fun _ => true) true 53 v d p) : ∃ n : Int, v = .int .u16 n ∧ 0 ≤ n ∧ n ≤ 65535 := by
  obtain ⟨n, rfl⟩ := okWide_int Try.underlying53 hv
  obtain ⟨fuel, hf⟩ := h
  obtain ⟨n', e, _, hwf⟩ := DataW.trod_int Try.underlying53 hf
  simp only [Value.cells, List.cons.injEq, Value.int.injEq, true_and, and_true] at e
  subst e
  refine ⟨n, rfl, ?_⟩
  simp [Lit.wf, IntKind.min, IntKind.max, IntKind.signed, IntKind.bits] at hwf
  omega
end
theorem cellsU8 : Try.prog.cellsOf 5 = 1 := by kernel_rfl
theorem bytesU8 : Try.prog.bytesOf 5 = 1 := by kernel_rfl
section
variable {H : Type} {enc : TypeId × Value → H}
theorem byts_trod {W : World} {fuel : Nat} {v : Value} {x : DataW H × List MemPlace} (h : DataW.trod enc Try.prog W 0 (fun _ => true) true fuel 57 [v] = some x)
    (hw : ∀ n ∈ x.1.weights Try.prog 57, n ≤ reachBytes) : ∃ xs, Byts W v xs := by
  rcases open_ints Try.underlying57 Try.underlying5 cellsU8 h with ⟨e, rfl⟩ | ⟨a, len, cap, zs, e, _, hl, hm, hz, rfl, hc, hwf⟩
  · obtain rfl : v = .slice none 0 0 := by simpa using e
    exact ⟨[], by simp, fun k hk => absurd hk (Nat.not_lt_zero _), .inl ⟨rfl, none, 0, rfl⟩⟩
  · obtain rfl : v = .slice (some a) len cap := by simpa using e
    simp only [if_true] at hz
    have hb := hw ((zs.take len).length + (zs.drop len).length |> (· * 1)) (by simp [DataW.weights, Try.underlying57, bytesU8, lits])
    rw [reach_eq] at hb
    simp only [List.length_take, List.length_drop] at hb
    have hlen : (zs.take len).length = len := by rw [List.length_take]; omega
    have hnth : ∀ k, k < len → nth (zs.take len) k = zs.getD k 0 := fun k hk => by simp [nth, hk]
    refine ⟨zs.take len, by omega, fun k hk => ?_, ?_⟩
    · rw [hlen] at hk
      rw [hnth k hk]
      have hmem : zs.getD k 0 ∈ zs := by
        rw [List.getD_eq_getElem?_getD, List.getElem?_eq_getElem (by omega), Option.getD_some]
        exact List.getElem_mem _
      obtain ⟨y, hy⟩ : ∃ y, zs.getD k 0 = y := ⟨_, rfl⟩
      rw [hy] at hmem ⊢
      have := hwf _ hmem
      simp [Lit.wf, IntKind.min, IntKind.max, IntKind.signed, IntKind.bits] at this
      omega
    · by_cases h0 : len = 0
      · subst h0; exact .inl ⟨by simp, some a, cap, rfl⟩
      · obtain ⟨b, off, rfl, hc'⟩ := ints_at hc (by omega)
        refine .inr ⟨b, off, cap, by rw [hlen], by omega, World.block_lt_of_cell? W ⟨b, off + 0, none⟩ (hc' 0 (by omega)), fun k hk => ?_⟩
        rw [hlen] at hk
        rw [hc' k (by omega), hnth k hk]
set_option maxRecDepth 100000 in
theorem bytes_trod {W : World} {v : Value} {d : DataW H} {p : List MemPlace} {b0 : Nat} (hv : Value.okWide Try.prog W .any b0 57 v) (h : DataW.Trod enc Try.prog W 0 (fun _ => true) true 57 v d p)
    (hw : ∀ n ∈ d.weights Try.prog 57, n ≤ reachBytes) : ∃ xs, Byts W v xs := by
  obtain ⟨a, len, cap, rfl⟩ := okWide_slice Try.underlying57 hv
  obtain ⟨fuel, hf⟩ := h
  exact byts_trod (x := (d, p)) hf hw
end
end Go.Proofs.Ytieaibebnkdmhaa
