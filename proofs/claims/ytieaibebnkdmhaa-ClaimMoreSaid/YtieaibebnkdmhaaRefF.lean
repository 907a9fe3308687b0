import Derived.Test.YtieaibebnkdmhaaRefE
namespace Go.Proofs.Ytieaibebnkdmhaa
open Go.RowKit

/-- whether a pair unsettles a matching, by the definitions -/
def unsB (ns ss : List (List Int)) (m : List Int) (n s : Nat) : Bool := pairB ns ss n s && rth (row ns n) s (nth m n) && rth (row ss s) n (plc m s)
def prs2 (N S : Nat) : List (Nat × Nat) := (List.range N).flatMap fun n => (List.range S).map fun s => (n, s)
/-- the first pair that unsettles a matching -/
def fstU (ns ss : List (List Int)) (m : List Int) : Option (Nat × Nat) := (prs2 ns.length ss.length).find? fun p => unsB ns ss m p.1 p.2
theorem mem_prs2 {N S : Nat} {p : Nat × Nat} : p ∈ prs2 N S ↔ p.1 < N ∧ p.2 < S := by
  simp only [prs2, List.mem_flatMap, List.mem_map, List.mem_range]
  constructor
  · rintro ⟨a, h1, b, h2, rfl⟩; exact ⟨h1, h2⟩
  · rintro ⟨h1, h2⟩; exact ⟨p.1, h1, p.2, h2, rfl⟩
theorem fstU_none {ns ss : List (List Int)} {m : List Int} : fstU ns ss m = none ↔ ∀ n, n < ns.length → ∀ s, s < ss.length → unsB ns ss m n s = false := by
  simp only [fstU, List.find?_eq_none]
  constructor
  · intro h n hn s hs
    have := h (n, s) (mem_prs2.2 ⟨hn, hs⟩)
    simpa using this
  · rintro h ⟨n, s⟩ hp
    obtain ⟨h1, h2⟩ := mem_prs2.1 hp
    simp [h n h1 s h2]
theorem range_split {n N : Nat} (h : n < N) : ∃ l, List.range N = List.range n ++ n :: l := by
  refine ⟨(List.range (N - n - 1)).map (n + 1 + ·), ?_⟩
  rw [show N = n + (1 + (N - n - 1)) by omega, List.range_add, List.range_add]
  simp [Nat.add_assoc]
theorem fstU_some {ns ss : List (List Int)} {m : List Int} {n s : Nat} (hn : n < ns.length) (hs : s < ss.length) (h : unsB ns ss m n s = true)
    (h1 : ∀ i, i < n → ∀ k, k < ss.length → unsB ns ss m i k = false) (h2 : ∀ k, k < s → unsB ns ss m n k = false) : fstU ns ss m = some (n, s) := by
  rw [fstU, List.find?_eq_some_iff_append]
  obtain ⟨l1, e1⟩ := range_split hn
  obtain ⟨l2, e2⟩ := range_split hs
  refine ⟨h, prs2 n ss.length ++ (List.range s).map (fun k => (n, k)), l2.map (fun k => (n, k)) ++ l1.flatMap (fun a => (List.range ss.length).map fun b => (a, b)), ?_, ?_⟩
  · simp only [prs2]
    have e3 : (List.range ss.length).map (fun k => (n, k)) = (List.range s).map (fun k => (n, k)) ++ (n, s) :: l2.map (fun k => (n, k)) := by rw [e2]; simp
    rw [e1, List.flatMap_append, List.flatMap_cons, e3]
    simp
  · intro p hp
    rw [List.mem_append] at hp
    rcases hp with hp | hp
    · obtain ⟨a, b⟩ := mem_prs2.1 hp
      simp [h1 p.1 a p.2 b]
    · obtain ⟨k, hk, rfl⟩ := List.mem_map.1 hp
      simp [h2 k (List.mem_range.1 hk)]
/-- what PairOf says -/
def uV : Option (Nat × Nat) → Value
  | some (n, s) => .tuple #[.int .i64 n, .int .i64 s, .bool true]
  | none => .tuple #[.int .i64 0, .int .i64 0, .bool false]
theorem ret_uV {o : Option (Nat × Nat)} {v : Value} (h : v = uV o) : Ending.returned v = .returned (uV o) := by rw [h]

set_option maxRecDepth 100000 in
set_option maxHeartbeats 1000000 in
theorem PairOf_calls (nv sv mv : Value) (ns ss : List (List Int)) (m : List Int) (w : World) (hn : Rows2 w nv ns) (hs : Rows2 w sv ss) (hm : Ints w mv m) (hl : m.length = ns.length) :
    Calls Try.prog 41 #[.agg #[nv, sv], mv] w (Gives (uV (fstU ns ss m)) w) := by
  have hln := hn.1
  have hls := hs.1
  obtain ⟨an, cn, rfl⟩ := hn.form
  obtain ⟨aS, cS, rfl⟩ := hs.form
  obtain ⟨am, cm, rfl⟩ := hm.form
  have hlen := Lib.hid hl
  clear hl
  go_enter Try.func41, Try.ntmps41
  go_wp2_with fail
  obtain ⟨B, hB⟩ : ∃ B, B = w.heap.size := ⟨_, rfl⟩
  obtain ⟨z, hz⟩ : ∃ z : Later w, z.w = w.alloc (.cells #[.slice an ns.length cn, .slice aS ss.length cS] 24) := ⟨Later.new _ _, rfl⟩
  have c0 : z.w.cell? ⟨B, 0, none⟩ = some (.slice an ns.length cn) := by rw [hz, hB]; simp [go_sem]
  have c1 : z.w.cell? ⟨B, 1, none⟩ = some (.slice aS ss.length cS) := by rw [hz, hB]; simp [go_sem]
  have hBz : B < z.w.heap.size := by rw [hz, hB]; simp [go_sem]
  have HZ : Hid (z.w.heap.size = B + 1) := Lib.hid (by rw [hz, hB]; simp)
  rw [← hz, ← hB]
  replace hn := hn.later z
  replace hs := hs.later z
  replace hm := hm.later z
  clear hz hB
  go_loopw [7] (fun i wr => ∃ k : Nat, ∃ x : Later z.w, wr = x.w ∧ k ≤ ns.length ∧ i = .int .i64 k ∧ Hid (∀ j, j < k → ∀ s, s < ss.length → unsB ns ss m j s = false)) (fun i _ => ns.length - (intOf i).toNat)
  case atStart => exact ⟨0, Later.self _, rfl, Nat.zero_le _, rfl, fun j hj => absurd hj (Nat.not_lt_zero _)⟩
  case round =>
    obtain ⟨k, x, rfl, hk, rfl, hp⟩ := hrel
    by_cases hlt : k < ns.length
    · go_wp2
      go_loopw [8] (fun i wr => ∃ q : Nat, ∃ x : Later z.w, wr = x.w ∧ q ≤ ss.length ∧ i = .int .i64 q ∧ Hid (∀ j, j < q → unsB ns ss m k j = false)) (fun i _ => ss.length - (intOf i).toNat)
      case atStart => exact ⟨0, x, rfl, Nat.zero_le _, rfl, fun j hj => absurd hj (Nat.not_lt_zero _)⟩
      case round =>
        clear x
        obtain ⟨q, x, rfl, hq, rfl, hp2⟩ := hrel
        by_cases hlt2 : q < ss.length
        · have hu := Lib.hid (show unsB ns ss m k q = (pairB ns ss k q && rth (row ns k) q (nth m k) && rth (row ss q) k (plc m q)) from rfl)
          have hc := Unsettles_calls _ _ _ ns ss m k q x.w (hn.later x) (hs.later x) (hm.later x) hlt hlt2 (by have := hlen.out; omega)
          rw [← hu.out] at hc
          cases hb : unsB ns ss m k q
          · have hok := Lib.hid hb
            rw [hb] at hc
            have HC := Lib.hid hc
            clear hc hb hu
            go_wp2_with (go_at_call 43; refine HC.out.mono ?_; rintro e w' ⟨rfl, y, rfl⟩)
            go_roundw
            case rel =>
              refine ⟨q + 1, x.step y, rfl, by omega, by go_num, fun j hj => ?_⟩
              by_cases e : j = q
              · subst e; exact hok.out
              · exact hp2.out j (by omega)
            case measure => simp [intOf]; omega
          · have hbad := Lib.hid (fstU_some hlt hlt2 hb hp.out hp2.out)
            rw [hb] at hc
            have HC := Lib.hid hc
            clear hc hb hu
            go_wp2_with (go_at_call 43; refine HC.out.mono ?_; rintro e w' ⟨rfl, y, rfl⟩)
            go_ret3
            exact ⟨ret_uV (by rw [hbad.out]; rfl), (z.step x).step y, rfl⟩
        · have hok := Lib.hid (show ∀ s, s < ss.length → unsB ns ss m k s = false from fun s hs => hp2.out s (by omega))
          clear hp2
          go_wp2
          go_roundw
          case rel =>
            refine ⟨k + 1, x, rfl, by omega, by go_num, fun j hj => ?_⟩
            by_cases e : j = k
            · subst e; exact hok.out
            · exact hp.out j (by omega)
          case measure => simp [intOf]; omega
    · have hok := Lib.hid (show fstU ns ss m = none from fstU_none.2 fun n hn => hp.out n (by omega))
      clear hp
      go_wp2
      go_ret3
      exact ⟨ret_uV (by rw [hok.out]; rfl), z.step x, rfl⟩
end Go.Proofs.Ytieaibebnkdmhaa
