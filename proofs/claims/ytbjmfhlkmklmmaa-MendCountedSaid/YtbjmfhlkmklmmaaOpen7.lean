/-  What the arguments of a statement read as; and that they read so behind a call that leaves what was there. Plain law over the program's table of types. -/
import Derived.Test.YtbjmfhlkmklmmaaKMix
import Derived.ProofKit
import Derived.OpenShut
import Derived.Deep.Matrix
import Derived.Carry
import Derived.SizedLaws
import Derived.Lib.SmallJoins
namespace Go.Proofs.Ytbjmfhlkmklmmaa
open Go.ChangeShapes Go.WideShapes Go.ChangeAt Go.RowKit Go.Deep Go.Joins

theorem laidOut : laidOutB Try.prog = true := by kernel_rfl
theorem own : ownKnob Try.prog.godebug = none := by kernel_rfl
theorem cellsI : Try.prog.cellsOf 2 = 1 := by kernel_rfl
theorem cellsL : Try.prog.cellsOf 22 = 1 := by kernel_rfl
theorem bytesI : Try.prog.bytesOf 2 = 8 := by kernel_rfl
theorem bytesL : Try.prog.bytesOf 22 = 24 := by kernel_rfl
theorem reach_eq : reachBytes = 140737488351232 := rfl

section
variable {H : Type} {enc : TypeId × Value → H}

theorem ints_of {W : World} {a : Addr} {len cap : Nat} {zs : List Int} (hl : len ≤ cap) (hz : zs.length = cap) (hb : cap * 8 ≤ 140737488351232)
    (hc : ∀ i, i < zs.length → W.cell? (a.add i) = some (.int .i64 (zs.getD i 0))) : Ints W (.slice (some a) len cap) (zs.take len) := by
  have hlen : (zs.take len).length = len := by rw [List.length_take]; omega
  by_cases h0 : len = 0
  · subst h0; exact ⟨by simp, .inl ⟨by simp, some a, cap, rfl⟩⟩
  · obtain ⟨b, off, rfl, hc'⟩ := ints_at hc (by omega)
    refine ⟨by omega, .inr ⟨b, off, cap, by rw [hlen], by omega, World.block_lt_of_cell? W ⟨b, off + 0, none⟩ (hc' 0 (by omega)), fun k hk => ?_⟩⟩
    rw [hlen] at hk
    rw [hc' k (by omega), nth]
    simp [hk]

theorem ints_trod {W : World} {fuel : Nat} {v : Value} {x : DataW H × List MemPlace} (h : DataW.trod enc Try.prog W 0 (fun _ => true) true fuel 22 [v] = some x)
    (hw : ∀ n ∈ x.1.weights Try.prog 22, n ≤ reachBytes) : ∃ xs, Ints W v xs := by
  rcases open_ints Try.underlying22 Try.underlying2 cellsI h with ⟨e, rfl⟩ | ⟨a, len, cap, zs, e, _, hl, hm, hz, rfl, hc, hwf⟩
  · obtain rfl : v = .slice none 0 0 := by simpa using e
    exact ⟨[], Ints.nil none 0⟩
  · obtain rfl : v = .slice (some a) len cap := by simpa using e
    simp only [if_true] at hz
    have := hw ((zs.take len).length + (zs.drop len).length |> (· * 8)) (by simp [DataW.weights, Try.underlying22, bytesI, lits])
    refine ⟨zs.take len, ints_of hl hz ?_ hc⟩
    rw [reach_eq] at this
    simp only [List.length_take, List.length_drop] at this
    omega

theorem int_val {W : World} {fuel : Nat} {v : Value} {x : DataW H × List MemPlace} {T : TypeId} (ht : Try.prog.underlying T = some (.int .i64)) (h : DataW.trod enc Try.prog W 0 (fun _ => true) true fuel T [v] = some x) : ∃ n : Int, v = .int .i64 n := by
  obtain ⟨n', e, _, hwf⟩ := DataW.trod_int ht h
  simp only [List.cons.injEq, and_true] at e
  exact ⟨n', e⟩
set_option maxRecDepth 100000 in
theorem plate_trod {W : World} {v : Value} {d : DataW H} {p : List MemPlace} {b0 : Nat} (hv : Value.okWide Try.prog W .any b0 24 v) (h : DataW.Trod enc Try.prog W 0 (fun _ => true) true 24 v d p)
    (hw : ∀ n ∈ d.weights Try.prog 24, n ≤ reachBytes) : ∃ (w h : Int) (dv : Value) (xs : List Int), v = .agg #[.int .i64 w, .int .i64 h, dv] ∧ Ints W dv xs := by
  obtain ⟨c0, c1, c2, y0, y1, y2, m, rfl, rfl, rfl, hy0, hy1, hy2⟩ := open_agg3 Try.underlying24 (by kernel_rfl) (by kernel_rfl) hv h
  obtain ⟨n0, rfl⟩ := int_val Try.underlying3 hy0
  obtain ⟨n1, rfl⟩ := int_val Try.underlying3 hy1
  obtain ⟨xs, hx⟩ := ints_trod hy2 (fun n hn => hw n (by simp [DataW.weights, Try.underlying24, DataW.weightsEach, hn]))
  exact ⟨n0, n1, c2, xs, rfl, hx⟩
set_option maxRecDepth 100000 in
theorem list_trod {W : World} {v : Value} {d : DataW H} {p : List MemPlace} {b0 : Nat} (hv : Value.okWide Try.prog W .any b0 22 v) (h : DataW.Trod enc Try.prog W 0 (fun _ => true) true 22 v d p)
    (hw : ∀ n ∈ d.weights Try.prog 22, n ≤ reachBytes) : ∃ xs, Ints W v xs := by
  obtain ⟨a, len, cap, rfl⟩ := okWide_slice Try.underlying22 hv
  obtain ⟨fuel, hf⟩ := h
  exact ints_trod (x := (d, p)) hf hw

set_option maxRecDepth 100000 in
theorem int_trod {W : World} {v : Value} {d : DataW H} {p : List MemPlace} {b0 : Nat} (hv : Value.okWide Try.prog W .any b0 3 v) (h : DataW.Trod enc Try.prog W 0 (fun _ => true) true 3 v d p) : ∃ n : Int, v = .int .i64 n := by
  obtain ⟨n, rfl⟩ := okWide_int Try.underlying3 hv
  exact ⟨n, rfl⟩

set_option maxRecDepth 100000 in
/-- The arguments read behind a call as before. -/
theorem args_later {W : World} (x : Later W) : ∀ {ts : List TypeId} {vs : List Value} {ds : List (DataW H)} {ps : List MemPlace}, (∀ t ∈ ts, Try.prog.readableRec t = true ∧ t < Try.prog.types.size) → (∀ q ∈ ps, q.block < W.heap.size) →
    DataW.TrodAll enc Try.prog W 0 (fun _ => true) true ts vs ds ps → DataW.TrodAll enc Try.prog x.w 0 (fun b => decide (b < W.heap.size)) true ts vs ds ps
  | [], _, _, _, _, _, h => by
    obtain ⟨rfl, rfl, rfl⟩ := trodAll_nil h
    exact trodAll_mk0
  | t :: ts, _, _, _, ht, hp, h => by
    obtain ⟨v, vs, d, ds, p, q, rfl, rfl, rfl, h1, h2⟩ := trodAll_cons h
    exact trodAll_cons_mk (Below.trod laidOut (ht t (by simp)).1 (ht t (by simp)).2 h1 x.le (fun y hy => hp y (by simp [hy]))) (args_later x (fun t h => ht t (by simp [h])) (fun y hy => hp y (by simp [hy])) h2)
end
section
variable {H : Type} {enc : TypeId × Value → H}
set_option maxRecDepth 100000 in
theorem u8_trod {W : World} {v : Value} {d : DataW H} {p : List MemPlace} {b0 : Nat} (hv : Value.okWide Try.prog W .any b0 5 v) (h : DataW.Trod enc Try.prog W 0 (fun _ => true) true 5 v d p) : ∃ n : Int, v = .int .u8 n ∧ 0 ≤ n ∧ n ≤ 255 := by
  obtain ⟨n, rfl⟩ := okWide_int Try.underlying5 hv
  obtain ⟨fuel, hf⟩ := h
  obtain ⟨n', e, _, hwf⟩ := DataW.trod_int Try.underlying5 hf
  simp only [Value.cells, List.cons.injEq, Value.int.injEq, true_and, and_true] at e
  subst e
  refine ⟨n, rfl, ?_⟩
  simp [Lit.wf, IntKind.min, IntKind.max, IntKind.signed, IntKind.bits] at hwf
  omega
end
/-- a slice of signed bytes that reads as a list -/
def I8s (w : World) (v : Value) (xs : List Int) : Prop :=
  xs.length ≤ 9007199254740992 ∧ (∀ k, k < xs.length → -128 ≤ nth xs k ∧ nth xs k ≤ 127) ∧ ((xs = [] ∧ ∃ a cap, v = .slice a 0 cap) ∨
    ∃ b off cap, v = .slice (some ⟨b, off, none⟩) xs.length cap ∧ xs.length ≤ cap ∧ b < w.heap.size ∧ ∀ k, k < xs.length → w.cell? ⟨b, off + k, none⟩ = some (.int .i8 (nth xs k)))
theorem cellsI8 : Try.prog.cellsOf 54 = 1 := by kernel_rfl
theorem bytesI8 : Try.prog.bytesOf 54 = 1 := by kernel_rfl
theorem cellsU8 : Try.prog.cellsOf 5 = 1 := by kernel_rfl
theorem bytesU8 : Try.prog.bytesOf 5 = 1 := by kernel_rfl
section
variable {H : Type} {enc : TypeId × Value → H}
theorem byts_trod {W : World} {fuel : Nat} {v : Value} {x : DataW H × List MemPlace} (h : DataW.trod enc Try.prog W 0 (fun _ => true) true fuel 48 [v] = some x)
    (hw : ∀ n ∈ x.1.weights Try.prog 48, n ≤ reachBytes) : ∃ xs, Byts W v xs := by
  rcases open_ints Try.underlying48 Try.underlying5 cellsU8 h with ⟨e, rfl⟩ | ⟨a, len, cap, zs, e, _, hl, hm, hz, rfl, hc, hwf⟩
  · obtain rfl : v = .slice none 0 0 := by simpa using e
    exact ⟨[], by simp, fun k hk => absurd hk (Nat.not_lt_zero _), .inl ⟨rfl, none, 0, rfl⟩⟩
  · obtain rfl : v = .slice (some a) len cap := by simpa using e
    simp only [if_true] at hz
    have hb := hw ((zs.take len).length + (zs.drop len).length |> (· * 1)) (by simp [DataW.weights, Try.underlying48, bytesU8, lits])
    rw [reach_eq] at hb
    simp only [List.length_take, List.length_drop] at hb
    have hlen : (zs.take len).length = len := by rw [List.length_take]; omega
    have hnth : ∀ k, k < len → nth (zs.take len) k = zs.getD k 0 := fun k hk => by simp [nth, hk]
    refine ⟨zs.take len, by omega, fun k hk => ?_, ?_⟩
    · rw [hlen] at hk
      rw [hnth k hk]
      have hmem : zs.getD k 0 ∈ zs := by
        rw [List.getD_eq_getElem?_getD, List.getElem?_eq_getElem (by omega), Option.getD_some]
        exact List.getElem_mem _
      obtain ⟨y, hy⟩ : ∃ y, zs.getD k 0 = y := ⟨_, rfl⟩
      rw [hy] at hmem ⊢
      have := hwf _ hmem
      simp [Lit.wf, IntKind.min, IntKind.max, IntKind.signed, IntKind.bits] at this
      omega
    · by_cases h0 : len = 0
      · subst h0; exact .inl ⟨by simp, some a, cap, rfl⟩
      · obtain ⟨b, off, rfl, hc'⟩ := ints_at hc (by omega)
        refine .inr ⟨b, off, cap, by rw [hlen], by omega, World.block_lt_of_cell? W ⟨b, off + 0, none⟩ (hc' 0 (by omega)), fun k hk => ?_⟩
        rw [hlen] at hk
        rw [hc' k (by omega), hnth k hk]
set_option maxRecDepth 100000 in
theorem bytes_trod {W : World} {v : Value} {d : DataW H} {p : List MemPlace} {b0 : Nat} (hv : Value.okWide Try.prog W .any b0 48 v) (h : DataW.Trod enc Try.prog W 0 (fun _ => true) true 48 v d p)
    (hw : ∀ n ∈ d.weights Try.prog 48, n ≤ reachBytes) : ∃ xs, Byts W v xs := by
  obtain ⟨a, len, cap, rfl⟩ := okWide_slice Try.underlying48 hv
  obtain ⟨fuel, hf⟩ := h
  exact byts_trod (x := (d, p)) hf hw
theorem i8s_trod {W : World} {fuel : Nat} {v : Value} {x : DataW H × List MemPlace} (h : DataW.trod enc Try.prog W 0 (fun _ => true) true fuel 53 [v] = some x)
    (hw : ∀ n ∈ x.1.weights Try.prog 53, n ≤ reachBytes) : ∃ xs, I8s W v xs := by
  rcases open_ints Try.underlying53 Try.underlying54 cellsI8 h with ⟨e, rfl⟩ | ⟨a, len, cap, zs, e, _, hl, hm, hz, rfl, hc, hwf⟩
  · obtain rfl : v = .slice none 0 0 := by simpa using e
    exact ⟨[], by simp, fun k hk => absurd hk (Nat.not_lt_zero _), .inl ⟨rfl, none, 0, rfl⟩⟩
  · obtain rfl : v = .slice (some a) len cap := by simpa using e
    simp only [if_true] at hz
    have hb := hw ((zs.take len).length + (zs.drop len).length |> (· * 1)) (by simp [DataW.weights, Try.underlying53, bytesI8, lits])
    rw [reach_eq] at hb
    simp only [List.length_take, List.length_drop] at hb
    have hlen : (zs.take len).length = len := by rw [List.length_take]; omega
    have hnth : ∀ k, k < len → nth (zs.take len) k = zs.getD k 0 := fun k hk => by simp [nth, hk]
    refine ⟨zs.take len, by omega, fun k hk => ?_, ?_⟩
    · rw [hlen] at hk
      rw [hnth k hk]
      have hmem : zs.getD k 0 ∈ zs := by
        rw [List.getD_eq_getElem?_getD, List.getElem?_eq_getElem (by omega), Option.getD_some]
        exact List.getElem_mem _
      obtain ⟨y, hy⟩ : ∃ y, zs.getD k 0 = y := ⟨_, rfl⟩
      rw [hy] at hmem ⊢
      have := hwf _ hmem
      simp [Lit.wf, IntKind.min, IntKind.max, IntKind.signed, IntKind.bits] at this
      omega
    · by_cases h0 : len = 0
      · subst h0; exact .inl ⟨by simp, some a, cap, rfl⟩
      · obtain ⟨b, off, rfl, hc'⟩ := ints_at hc (by omega)
        refine .inr ⟨b, off, cap, by rw [hlen], by omega, World.block_lt_of_cell? W ⟨b, off + 0, none⟩ (hc' 0 (by omega)), fun k hk => ?_⟩
        rw [hlen] at hk
        rw [hc' k (by omega), hnth k hk]
set_option maxRecDepth 100000 in
theorem i8list_trod {W : World} {v : Value} {d : DataW H} {p : List MemPlace} {b0 : Nat} (hv : Value.okWide Try.prog W .any b0 53 v) (h : DataW.Trod enc Try.prog W 0 (fun _ => true) true 53 v d p)
    (hw : ∀ n ∈ d.weights Try.prog 53, n ≤ reachBytes) : ∃ xs, I8s W v xs := by
  obtain ⟨a, len, cap, rfl⟩ := okWide_slice Try.underlying53 hv
  obtain ⟨fuel, hf⟩ := h
  exact i8s_trod (x := (d, p)) hf hw
set_option maxRecDepth 100000 in
theorem bool_trod {W : World} {v : Value} {b0 : Nat} (hv : Value.okWide Try.prog W .any b0 4 v) : ∃ b : Bool, v = .bool b := okWide_bool Try.underlying4 hv
end
end Go.Proofs.Ytbjmfhlkmklmmaa
