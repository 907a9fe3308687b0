import Derived.Test.YtpkgfkeekcgkcaaKF
import Derived.ProofKit
import Derived.OpenShut
import Derived.Deep.Matrix
import Derived.Deep.Slices
import Derived.Deep.Strs
import Derived.Carry
import Derived.SizedLaws
import Derived.WideKeyPair
import Derived.Lib.SmallJoins
/-  What the arguments of a statement read as; and that they read so behind a call that leaves what was there. Plain law over the program's table of types. -/
namespace Go.Proofs.Ytpkgfkeekcgkcaa
open Go.ChangeShapes Go.WideShapes Go.ChangeAt Go.RowKit Go.Deep Go.Joins

theorem laidOut : laidOutB Try.prog = true := by kernel_rfl
theorem own : ownKnob Try.prog.godebug = none := by kernel_rfl
theorem cellsI : Try.prog.cellsOf 3 = 1 := by kernel_rfl
theorem cellsPr : Try.prog.cellsOf 78 = 2 := by kernel_rfl
theorem bytesI : Try.prog.bytesOf 3 = 8 := by kernel_rfl
theorem bytesPr : Try.prog.bytesOf 78 = 16 := by kernel_rfl
theorem reach_eq : reachBytes = 140737488351232 := rfl

section
variable {H : Type} {enc : TypeId × Value → H}

theorem ints_of {W : World} {a : Addr} {len cap : Nat} {zs : List Int} (hl : len ≤ cap) (hz : zs.length = cap) (hb : cap * 8 ≤ 140737488351232)
    (hc : ∀ i, i < zs.length → W.cell? (a.add i) = some (.int .i64 (zs.getD i 0))) : Ints W (.slice (some a) len cap) (zs.take len) := by
  have hlen : (zs.take len).length = len := by rw [List.length_take]; omega
  by_cases h0 : len = 0
  · subst h0; exact ⟨by simp, .inl ⟨by simp, some a, cap, rfl⟩⟩
  · obtain ⟨b, off, rfl, hc'⟩ := ints_at hc (by omega)
    refine ⟨by omega, .inr ⟨b, off, cap, by rw [hlen], by omega, World.block_lt_of_cell? W ⟨b, off + 0, none⟩ (hc' 0 (by omega)), fun k hk => ?_⟩⟩
    rw [hlen] at hk
    rw [hc' k (by omega), nth]
    simp [hk]

theorem ints_trod {W : World} {fuel : Nat} {v : Value} {x : DataW H × List MemPlace} (h : DataW.trod enc Try.prog W 0 (fun _ => true) true fuel 22 [v] = some x)
    (hw : ∀ n ∈ x.1.weights Try.prog 22, n ≤ reachBytes) : ∃ xs, Ints W v xs := by
  rcases open_ints Try.underlying22 Try.underlying3 cellsI h with ⟨e, rfl⟩ | ⟨a, len, cap, zs, e, _, hl, hm, hz, rfl, hc, hwf⟩
  · obtain rfl : v = .slice none 0 0 := by simpa using e
    exact ⟨[], Ints.nil none 0⟩
  · obtain rfl : v = .slice (some a) len cap := by simpa using e
    simp only [if_true] at hz
    have := hw ((zs.take len).length + (zs.drop len).length |> (· * 8)) (by simp [DataW.weights, Try.underlying22, bytesI, lits])
    refine ⟨zs.take len, ints_of hl hz ?_ hc⟩
    rw [reach_eq] at this
    simp only [List.length_take, List.length_drop] at this
    omega

theorem int_val {W : World} {fuel : Nat} {v : Value} {x : DataW H × List MemPlace} {T : TypeId} (ht : Try.prog.underlying T = some (.int .i64)) (h : DataW.trod enc Try.prog W 0 (fun _ => true) true fuel T [v] = some x) : ∃ n : Int, v = .int .i64 n := by
  obtain ⟨n', e, _, hwf⟩ := DataW.trod_int ht h
  simp only [List.cons.injEq, and_true] at e
  exact ⟨n', e⟩

set_option maxRecDepth 100000 in
theorem prs_of {W : World} {a : Addr} {len cap : Nat} {zs : List (Int × Int)} (hl : len ≤ cap) (hz : zs.length = cap) (hb : cap * 16 ≤ 140737488351232)
    (hc : ∀ i, i < zs.length → W.cell? (a.add (i * 2)) = some (.int .i64 (zs.getD i (0, 0)).1) ∧ W.cell? (a.add (i * 2 + 1)) = some (.int .i64 (zs.getD i (0, 0)).2)) : Prs W (.slice (some a) len cap) (zs.take len) := by
  have hlen : (zs.take len).length = len := by rw [List.length_take]; omega
  by_cases h0 : len = 0
  · subst h0; exact ⟨by simp, .inl ⟨by simp, some a, cap, rfl⟩⟩
  · obtain ⟨b, off, spot⟩ := a
    have hspot : spot = none := by simpa [Addr.add] using World.cell?_spot (hc 0 (by omega)).1
    subst hspot
    refine ⟨by omega, .inr ⟨b, off, cap, by rw [hlen], by omega, World.block_lt_of_cell? W ⟨b, off + 0, none⟩ (by have := (hc 0 (by omega)).1; rwa [add_plain] at this), fun k hk => ?_⟩⟩
    rw [hlen] at hk
    have h1 := hc k (by omega)
    rw [add_plain, add_plain] at h1
    have h2 : pr (zs.take len) k = zs.getD k (0, 0) := by simp [pr, hk]
    rw [h2]
    exact ⟨h1.1, h1.2⟩

set_option maxRecDepth 100000 in
theorem pair_trod {W : World} {fuel : Nat} {cs : List Value} {x : DataW H × List MemPlace} (h : DataW.trod enc Try.prog W 0 (fun _ => true) true fuel 78 cs = some x) : ∃ a b : Int, cs = [.int .i64 a, .int .i64 b] := by
  obtain ⟨xs, m, _, _, hl, hx, hi⟩ := DataW.trod_array Try.underlying78 h
  rw [cellsPr] at hl
  match cs, hl with
  | [c0, c1], _ =>
    match xs, hx with
    | [y0, y1], _ =>
      have g0 := hi 0 (by decide)
      have g1 := hi 1 (by decide)
      rw [cellsI] at g0 g1
      simp at g0 g1
      obtain ⟨a, e, _, _⟩ := DataW.trod_int Try.underlying3 g0
      obtain ⟨b, e', _, _⟩ := DataW.trod_int Try.underlying3 g1
      simp only [List.cons.injEq, and_true] at e e'
      exact ⟨a, b, by rw [e, e']⟩

set_option maxRecDepth 100000 in
theorem prs_trod {W : World} {fuel : Nat} {v : Value} {x : DataW H × List MemPlace} (h : DataW.trod enc Try.prog W 0 (fun _ => true) true fuel 44 [v] = some x)
    (hw : ∀ n ∈ x.1.weights Try.prog 44, n ≤ reachBytes) : ∃ ps, Prs W v ps := by
  rcases open_slice Try.underlying44 h with ⟨e, rfl⟩ | ⟨a, len, cap, m, n, D, Pl, e, _, hl, hm, hmm, rfl, hx⟩
  · obtain rfl : v = .slice none 0 0 := by simpa using e
    exact ⟨[], Prs.nil none 0⟩
  · obtain rfl : v = .slice (some a) len cap := by simpa using e
    simp only [if_true] at hmm
    subst hmm
    have hb := hw ((len + (m - len)) * 16) (by simp [DataW.weights, Try.underlying44, bytesPr])
    rw [reach_eq] at hb
    have each : ∀ i, i < m → ∃ q : Int × Int, W.cell? (a.add (i * 2)) = some (.int .i64 q.1) ∧ W.cell? (a.add (i * 2 + 1)) = some (.int .i64 q.2) := by
      intro i hi
      obtain ⟨cs', h1, h2⟩ := hx i hi
      rw [cellsPr] at h1
      obtain ⟨_, hlen, hcell⟩ := World.cells?_some h1
      obtain ⟨p, q, rfl⟩ := pair_trod h2
      have e0 := hcell 0 (by omega)
      have e1 := hcell 1 (by omega)
      rw [add_add] at e0 e1
      exact ⟨(p, q), by simpa using e0, by simpa using e1⟩
    obtain ⟨q, hq⟩ := choose_lt each
    refine ⟨((List.range m).map q).take len, prs_of hl (by simp) (by omega) (fun i hi => ?_)⟩
    simp only [List.length_map, List.length_range] at hi
    have : ((List.range m).map q).getD i (0, 0) = q i := by simp [hi]
    rw [this]
    exact hq i hi
theorem cellsStr : Try.prog.cellsOf 9 = 1 := by kernel_rfl
theorem bytesStr : Try.prog.bytesOf 9 = 16 := by kernel_rfl
theorem str_mk (s : ByteArray) : (⟨s.data.toList.toArray⟩ : ByteArray) = s := by cases s; simp
set_option maxRecDepth 100000 in
theorem strs_trod {W : World} {fuel : Nat} {v : Value} {x : DataW H × List MemPlace} (h : DataW.trod enc Try.prog W 0 (fun _ => true) true fuel 23 [v] = some x)
    (hw : ∀ n ∈ x.1.weights Try.prog 23, n ≤ reachBytes) : ∃ xs, Strs W v xs := by
  rcases open_strs Try.underlying23 Try.underlying9 cellsStr h with ⟨e, rfl⟩ | ⟨a, len, cap, m, Sx, e, _, hl, hm, hmm, rfl, hc⟩
  · obtain rfl : v = .slice none 0 0 := by simpa using e
    exact ⟨[], Strs.nil none 0⟩
  · obtain rfl : v = .slice (some a) len cap := by simpa using e
    simp only [if_true] at hmm
    subst hmm
    have hb := hw ((len + (m - len)) * 16) (by simp [DataW.weights, Try.underlying23, bytesStr])
    rw [reach_eq] at hb
    by_cases h0 : len = 0
    · subst h0; exact ⟨[], by simp, .inl ⟨rfl, some a, m, rfl⟩⟩
    · obtain ⟨b, off, spot⟩ := a
      have hspot : spot = none := by simpa [Addr.add] using World.cell?_spot (hc 0 (by omega)).1
      subst hspot
      have hlen : ((List.range len).map fun i => (Sx i).data.toList).length = len := by simp
      refine ⟨(List.range len).map fun i => (Sx i).data.toList, by omega, .inr ⟨b, off, m, by rw [hlen], by omega, World.block_lt_of_cell? W ⟨b, off + 0, none⟩ (by have := (hc 0 (by omega)).1; rwa [add_plain] at this), fun k hk => ?_⟩⟩
      rw [hlen] at hk
      have h1 := (hc k (by omega)).1
      rw [add_plain] at h1
      rw [h1, sat_eq (by rw [hlen]; exact hk), List.getElem_map, List.getElem_range, str_mk]
set_option maxRecDepth 100000 in
theorem marks_trod {W : World} {v : Value} {d : DataW H} {p : List MemPlace} {b0 : Nat} (hv : Value.okWide Try.prog W .any b0 25 v) (h : DataW.Trod enc Try.prog W 0 (fun _ => true) true 25 v d p)
    (hw : ∀ n ∈ d.weights Try.prog 25, n ≤ reachBytes) : ∃ (sv av : Value) (st : List Int) (ad : List (List UInt8)), v = .agg #[sv, av] ∧ Mks W sv av st ad := by
  obtain ⟨c0, c1, y0, y1, m, rfl, rfl, rfl, hy0, hy1⟩ := open_agg2 Try.underlying25 (by kernel_rfl) (by kernel_rfl) hv h
  obtain ⟨xs, hx⟩ := ints_trod hy0 (fun n hn => hw n (by simp [DataW.weights, Try.underlying25, DataW.weightsEach, hn]))
  obtain ⟨ss, hs⟩ := strs_trod hy1 (fun n hn => hw n (by simp [DataW.weights, Try.underlying25, DataW.weightsEach, hn]))
  exact ⟨c0, c1, xs, ss, rfl, hx, hs⟩
set_option maxRecDepth 100000 in
theorem ratio_trod {W : World} {v : Value} {d : DataW H} {p : List MemPlace} {b0 : Nat} (hv : Value.okWide Try.prog W .any b0 55 v) (h : DataW.Trod enc Try.prog W 0 (fun _ => true) true 55 v d p) : ∃ n m : Int, v = .agg #[.int .i64 n, .int .i64 m] := by
  obtain ⟨c0, c1, y0, y1, m, rfl, rfl, rfl, hy0, hy1⟩ := open_agg2 Try.underlying55 (by kernel_rfl) (by kernel_rfl) hv h
  obtain ⟨n0, rfl⟩ := int_val Try.underlying2 hy0
  obtain ⟨n1, rfl⟩ := int_val Try.underlying2 hy1
  exact ⟨n0, n1, rfl⟩
set_option maxRecDepth 100000 in
theorem str_trod {W : World} {v : Value} {b0 : Nat} (hv : Value.okWide Try.prog W .any b0 9 v) : ∃ l : List UInt8, v = .string ⟨l.toArray⟩ := by
  obtain ⟨s, rfl⟩ := okWide_string Try.underlying9 hv
  exact ⟨s.data.toList, by rw [str_mk]⟩
set_option maxRecDepth 100000 in
theorem long_trod {W : World} {v : Value} {b0 : Nat} (hv : Value.okWide Try.prog W .any b0 2 v) : ∃ n : Int, v = .int .i64 n := by
  obtain ⟨n, rfl⟩ := okWide_int Try.underlying2 hv
  exact ⟨n, rfl⟩
set_option maxRecDepth 100000 in
theorem pairs_trod {W : World} {v : Value} {d : DataW H} {p : List MemPlace} {b0 : Nat} (hv : Value.okWide Try.prog W .any b0 44 v) (h : DataW.Trod enc Try.prog W 0 (fun _ => true) true 44 v d p)
    (hw : ∀ n ∈ d.weights Try.prog 44, n ≤ reachBytes) : ∃ ps, Prs W v ps := by
  obtain ⟨a, len, cap, rfl⟩ := okWide_slice Try.underlying44 hv
  obtain ⟨fuel, hf⟩ := h
  exact prs_trod (x := (d, p)) hf hw
set_option maxRecDepth 100000 in
theorem list_trod {W : World} {v : Value} {d : DataW H} {p : List MemPlace} {b0 : Nat} (hv : Value.okWide Try.prog W .any b0 22 v) (h : DataW.Trod enc Try.prog W 0 (fun _ => true) true 22 v d p)
    (hw : ∀ n ∈ d.weights Try.prog 22, n ≤ reachBytes) : ∃ xs, Ints W v xs := by
  obtain ⟨a, len, cap, rfl⟩ := okWide_slice Try.underlying22 hv
  obtain ⟨fuel, hf⟩ := h
  exact ints_trod (x := (d, p)) hf hw

set_option maxRecDepth 100000 in
theorem int_trod {W : World} {v : Value} {d : DataW H} {p : List MemPlace} {b0 : Nat} (hv : Value.okWide Try.prog W .any b0 3 v) (h : DataW.Trod enc Try.prog W 0 (fun _ => true) true 3 v d p) : ∃ n : Int, v = .int .i64 n := by
  obtain ⟨n, rfl⟩ := okWide_int Try.underlying3 hv
  exact ⟨n, rfl⟩

set_option maxRecDepth 100000 in
/-- The arguments read behind a call as before. -/
theorem args_later {W : World} (x : Later W) : ∀ {ts : List TypeId} {vs : List Value} {ds : List (DataW H)} {ps : List MemPlace}, (∀ t ∈ ts, Try.prog.readableRec t = true ∧ t < Try.prog.types.size) → (∀ q ∈ ps, q.block < W.heap.size) →
    DataW.TrodAll enc Try.prog W 0 (fun _ => true) true ts vs ds ps → DataW.TrodAll enc Try.prog x.w 0 (fun b => decide (b < W.heap.size)) true ts vs ds ps
  | [], _, _, _, _, _, h => by
    obtain ⟨rfl, rfl, rfl⟩ := trodAll_nil h
    exact trodAll_mk0
  | t :: ts, _, _, _, ht, hp, h => by
    obtain ⟨v, vs, d, ds, p, q, rfl, rfl, rfl, h1, h2⟩ := trodAll_cons h
    exact trodAll_cons_mk (Below.trod laidOut (ht t (by simp)).1 (ht t (by simp)).2 h1 x.le (fun y hy => hp y (by simp [hy]))) (args_later x (fun t h => ht t (by simp [h])) (fun y hy => hp y (by simp [hy])) h2)
end
section
variable {H : Type} {enc : TypeId × Value → H}
set_option maxRecDepth 100000 in
theorem u8_trod {W : World} {v : Value} {d : DataW H} {p : List MemPlace} {b0 : Nat} (hv : Value.okWide Try.prog W .any b0 5 v) (h : DataW.Trod enc Try.prog W 0 (fun _ => true) true 5 v d p) : ∃ n : Int, v = .int .u8 n ∧ 0 ≤ n ∧ n ≤ 255 := by
  obtain ⟨n, rfl⟩ := okWide_int Try.underlying5 hv
  obtain ⟨fuel, hf⟩ := h
  obtain ⟨n', e, _, hwf⟩ := DataW.trod_int Try.underlying5 hf
  simp only [Value.cells, List.cons.injEq, Value.int.injEq, true_and, and_true] at e
  subst e
  refine ⟨n, rfl, ?_⟩
  simp [Lit.wf, IntKind.min, IntKind.max, IntKind.signed, IntKind.bits] at hwf
  omega
set_option maxRecDepth 100000 in
theorem u64_trod {W : World} {v : Value} {d : DataW H} {p : List MemPlace} {b0 : Nat} (hv : Value.okWide Try.prog W .any b0 75 v) (h : DataW.Trod enc Try.prog W 0 (fun _ => true) true 75 v d p) : ∃ n : Int, v = .int .u64 n ∧ 0 ≤ n ∧ n ≤ 18446744073709551615 := by
  obtain ⟨n, rfl⟩ := okWide_int Try.underlying75 hv
  obtain ⟨fuel, hf⟩ := h
  obtain ⟨n', e, _, hwf⟩ := DataW.trod_int Try.underlying75 hf
  simp only [Value.cells, List.cons.injEq, Value.int.injEq, true_and, and_true] at e
  subst e
  refine ⟨n, rfl, ?_⟩
  simp [Lit.wf, IntKind.min, IntKind.max, IntKind.signed, IntKind.bits] at hwf
  omega
end
end Go.Proofs.Ytpkgfkeekcgkcaa
