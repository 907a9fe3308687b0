import Derived.Test.YtieaibebnkdmhaaCourt
import Derived.Deep.LoopGhost

namespace Go.Proofs.Ytieaibebnkdmhaa
open Go.RowKit

/-- The world in which a court is being made. -/
def CW (w wr : World) (nv sv : Value) (M : PM) : Prop :=
  Below w.heap.size w wr ∧ wr.heap[w.heap.size + 1 + 1]? = some (.cells #[nv, sv, .map (some (w.heap.size + 1))] 98) ∧ Tb.Tab pairV pairV wr (w.heap.size + 1) M

theorem CW.set {w wr : World} {nv sv : Value} {M M' : PM} {o : Obj} (h : CW w wr nv sv M) (hT : Tb.Tab pairV pairV (Tb.setMap wr (w.heap.size + 1) o) (w.heap.size + 1) M') : CW w (Tb.setMap wr (w.heap.size + 1) o) nv sv M' := by
  obtain ⟨h1, h2, _⟩ := h
  refine ⟨⟨h1.os, h1.tape, h1.output, by rw [Tb.setMap_size]; exact h1.size, fun k hk => ?_⟩, ?_, hT⟩
  · rw [Tb.setMap_other (by omega)]; exact h1.block k hk
  · rw [Tb.setMap_other (by omega)]; exact h2
theorem CW.later {w wr : World} {nv sv : Value} {M : PM} (h : CW w wr nv sv M) (x : Later wr) : CW w x.w nv sv M :=
  ⟨h.1.trans (x.le.mono h.1.size), (x.le.block _ (Array.getElem?_eq_some_iff.1 h.2.1).1).trans h.2.1, h.2.2.later x⟩
theorem CW.lt {w wr : World} {nv sv : Value} {M : PM} (h : CW w wr nv sv M) : w.heap.size + 1 + 1 < wr.heap.size := (Array.getElem?_eq_some_iff.1 h.2.1).1
theorem CW.cells {w wr : World} {nv sv : Value} {M : PM} (h : CW w wr nv sv M) :
    wr.cell? ⟨w.heap.size + 1 + 1, 0, none⟩ = some nv ∧ wr.cell? ⟨w.heap.size + 1 + 1, 1, none⟩ = some sv ∧ wr.cell? ⟨w.heap.size + 1 + 1, 2, none⟩ = some (.map (some (w.heap.size + 1))) := by
  simp [World.cell?, h.2.1]

/-- What is left of the table when the keys S have come. -/
def keepS (M : PM) (S : List PK) : PM := M.filter (fun q => decide (0 ≤ q.2.2 ∨ q.1 ∉ S))
def cntS (M : PM) (S : List PK) : Nat := (M.filter (fun q => decide (q.1 ∉ S))).length
theorem keepS_nil (M : PM) : keepS M [] = M := by simp [keepS]
theorem key_eq {M : PM} (hn : (M.map (·.1)).Nodup) {p q : PK × (Int × Int)} (hp : p ∈ M) (hq : q ∈ M) (h : q.1 = p.1) : q = p := by
  obtain ⟨i, hi, rfl⟩ := List.mem_iff_getElem.1 hp
  obtain ⟨j, hj, rfl⟩ := List.mem_iff_getElem.1 hq
  have := Tb.nodup_inj hn (i := j) (j := i) (by simpa using hj) (by simpa using hi) (by simpa using h)
  subst this; rfl
theorem keepS_del {M : PM} (hn : (M.map (·.1)).Nodup) {S : List PK} {p : PK × (Int × Int)} (hp : p ∈ M) (ha : p.2.2 < 0) : Tb.del (keepS M S) p.1 = keepS M (p.1 :: S) := by
  unfold Tb.del keepS
  rw [List.filter_filter]
  refine List.filter_congr fun q hq => ?_
  by_cases h : q.1 = p.1
  · have e := key_eq hn hp hq h
    subst e
    have : ¬ (0 ≤ q.2.2) := by omega
    simp [this]
  · simp [h]
theorem keepS_stay {M : PM} (hn : (M.map (·.1)).Nodup) {S : List PK} {p : PK × (Int × Int)} (hp : p ∈ M) (ha : 0 ≤ p.2.2) : keepS M S = keepS M (p.1 :: S) := by
  unfold keepS
  refine List.filter_congr fun q hq => ?_
  by_cases h : q.1 = p.1
  · have e := key_eq hn hp hq h
    subst e
    simp [ha]
  · simp [h]
theorem keepS_end {M : PM} {S : List PK} (h : ∀ q ∈ keepS M S, q.1 ∈ S) : keepS M S = M.filter (fun q => decide (0 ≤ q.2.2)) := by
  unfold keepS at h ⊢
  refine List.filter_congr fun q hq => ?_
  by_cases h0 : 0 ≤ q.2.2
  · simp [h0]
  · by_cases hs : q.1 ∈ S
    · simp [h0, hs]
    · exact absurd (h q (List.mem_filter.2 ⟨hq, by simp [hs]⟩)) hs
theorem cntS_lt {M : PM} {S : List PK} {p : PK × (Int × Int)} (hp : p ∈ M) (hs : p.1 ∉ S) : cntS M (p.1 :: S) < cntS M S := by
  unfold cntS
  have e : M.filter (fun q => decide (q.1 ∉ p.1 :: S)) = (M.filter (fun q => decide (q.1 ∉ S))).filter (fun q => decide (q.1 ≠ p.1)) := by
    rw [List.filter_filter]
    refine List.filter_congr fun q _ => ?_
    simp
  rw [e]
  have hm : p ∈ M.filter (fun q => decide (q.1 ∉ S)) := List.mem_filter.2 ⟨hp, by simpa using hs⟩
  exact List.length_filter_lt_length_iff_exists.2 ⟨p, hm, by simp⟩
theorem mem_keepS {M : PM} {S : List PK} {p : PK × (Int × Int)} (h : p ∈ keepS M S) : p ∈ M := (List.mem_filter.1 h).1

set_option maxRecDepth 100000 in
set_option maxHeartbeats 1000000 in
theorem newCourt_calls (nv sv : Value) (ns ss : List (List Int)) (w : World) (hn : Rows2 w nv ns) (hs : Rows2 w sv ss) :
    Calls Try.prog 68 #[.agg #[nv, sv]] w fun e w' => ∃ c, ∃ x : Later w, e = .returned c ∧ w' = x.w ∧ CourtN w.heap.size x.w c nv sv (tabOf ns ss) := by
  have hmm := @run_makeMap Try.prog
  have hln := hn.1
  have hls := hs.1
  have hn0 := hn
  have hs0 := hs
  obtain ⟨an, cn, hnv⟩ := hn.form
  obtain ⟨aS, cS, hsv⟩ := hs.form
  subst hnv hsv
  go_enter Try.func68, Try.ntmps68
  go_wp2
  clear hmm
  go_loopw [26] (fun i wr => ∃ (k : Nat) (M : PM), k ≤ ns.length ∧ i = .int .i64 k ∧ CW w wr (.slice an ns.length cn) (.slice aS ss.length cS) M ∧ Hid (out1 ns 0 [] = out1 (ns.drop k) k M)) (fun i _ => ns.length - (intOf i).toNat)
  case atStart =>
    refine ⟨0, [], Nat.zero_le _, rfl, ⟨?_, ?_, ?_⟩, rfl⟩
    · exact (((Below.refl _ _).alloc (Nat.le_refl _) _).alloc (by simp) _).alloc (by simp; omega) _
    · exact (congrArg _ (by simp)).trans (heap_alloc_new _ _)
    · refine Tb.Tab.nil _ ?_
      rw [Below.heap_alloc _ _ _ (by simp)]
      exact (congrArg _ (by simp)).trans (heap_alloc_new _ _)
  case round =>
    obtain ⟨k, M, hk, rfl, hCW, hp⟩ := hrel
    obtain ⟨c0, c1, c2⟩ := hCW.cells
    by_cases hlt : k < ns.length
    · obtain ⟨bn, on, cap, fn, e, hcp, hbn, hcn⟩ := hn.at hlt
      cases e
      obtain ⟨hcell, hrow⟩ := hcn k hlt
      clear hcn
      obtain ⟨ak, ck, hfk⟩ := hrow.form
      rw [hfk] at hcell hrow
      have hlr := hrow.1
      have hcell' := (hCW.1.cell (p := ⟨bn, on + k, none⟩) hbn).trans hcell
      clear hcell
      go_wp2
      obtain ⟨wo, rfl⟩ : ∃ wo : World, wo = wr := ⟨_, rfl⟩
      clear c0 c1 c2 hcell'
      go_loopw [33] (fun i wr' => ∃ (j : Nat) (M' : PM), j ≤ (row ns k).length ∧ i = .int .i64 j ∧ CW w wr' (.slice (some ⟨bn, on, none⟩) ns.length cn) (.slice aS ss.length cS) M' ∧ Hid (in1 k (row ns k) 0 M = in1 k ((row ns k).drop j) j M')) (fun i _ => (row ns k).length - (intOf i).toNat)
      case atStart => exact ⟨0, M, Nat.zero_le _, rfl, hCW, rfl⟩
      case round =>
        clear hCW
        obtain ⟨j, M', hj, rfl, hCW, hq⟩ := hrel
        obtain ⟨c0, c1, c2⟩ := hCW.cells
        by_cases hjl : j < (row ns k).length
        · obtain ⟨br, orr, capr, e, hcpr, hbr, hcr⟩ := hrow.at hjl
          cases e
          have hcr := (hCW.1.cell (p := ⟨br, orr + j, none⟩) hbr).trans (hcr j hjl)
          obtain ⟨o, hrun, hT⟩ := hCW.2.2.store pair_keys Try.underlying96 ((k : Int), nth (row ns k) j) ((j : Int), -1)
          simp only [pairV] at hrun
          have hs1 := Lib.hid (in1_at k (row ns k) j M' hjl)
          go_wp2
          go_roundw
          case rel => exact ⟨j + 1, _, by omega, by go_num, hCW.set hT, by unfold Hid; rw [hq.out, hs1.out]⟩
          case measure => simp [intOf]; omega
        · have hs1 := Lib.hid (in1_end k (row ns k) j M' (by omega))
          have hs2 := Lib.hid (out1_at ns k M hlt)
          go_wp2
          go_roundw
          case rel => exact ⟨k + 1, M', by omega, by go_num, hCW, by unfold Hid; rw [hp.out, hs2.out, hq.out, hs1.out]⟩
          case measure => simp [intOf]; omega
    · have hM : Hid (out1 ns 0 [] = M) := by unfold Hid; rw [hp.out, out1_end ns k M (by omega)]
      go_wp2
      clear c0 c1 c2 hp hk hlt hn hln
      go_loopw [55] (fun i wr => ∃ (k : Nat) (M2 : PM), k ≤ ss.length ∧ i = .int .i64 k ∧ CW w wr (.slice an ns.length cn) (.slice aS ss.length cS) M2 ∧ Hid (out2 ss 0 M = out2 (ss.drop k) k M2)) (fun i _ => ss.length - (intOf i).toNat)
      case atStart => exact ⟨0, M, Nat.zero_le _, rfl, hCW, rfl⟩
      case round =>
        clear hCW
        obtain ⟨k, M2, hk, rfl, hCW, hp⟩ := hrel
        obtain ⟨c0, c1, c2⟩ := hCW.cells
        by_cases hlt : k < ss.length
        · obtain ⟨bs, os, cap, fs, e, hcp, hbs, hcs⟩ := hs.at hlt
          cases e
          obtain ⟨hcell, hrow⟩ := hcs k hlt
          clear hcs
          obtain ⟨ak, ck, hfk⟩ := hrow.form
          rw [hfk] at hcell hrow
          have hlr := hrow.1
          have hcell' := (hCW.1.cell (p := ⟨bs, os + k, none⟩) hbs).trans hcell
          clear hcell
          go_wp2
          obtain ⟨wo, rfl⟩ : ∃ wo : World, wo = wr := ⟨_, rfl⟩
          clear c0 c1 c2 hcell'
          go_loopw [62] (fun i wr' => ∃ (j : Nat) (M' : PM), j ≤ (row ss k).length ∧ i = .int .i64 j ∧ CW w wr' (.slice an ns.length cn) (.slice (some ⟨bs, os, none⟩) ss.length cS) M' ∧ Hid (in2 k (row ss k) 0 M2 = in2 k ((row ss k).drop j) j M')) (fun i _ => (row ss k).length - (intOf i).toNat)
          case atStart => exact ⟨0, M2, Nat.zero_le _, rfl, hCW, rfl⟩
          case round =>
            clear hCW
            obtain ⟨j, M', hj, rfl, hCW, hq⟩ := hrel
            obtain ⟨c0, c1, c2⟩ := hCW.cells
            by_cases hjl : j < (row ss k).length
            · obtain ⟨br, orr, capr, e, hcpr, hbr, hcr⟩ := hrow.at hjl
              cases e
              have hcr := (hCW.1.cell (p := ⟨br, orr + j, none⟩) hbr).trans (hcr j hjl)
              have hs1 := Lib.hid (in2_at k (row ss k) j M' hjl)
              have hlook := hCW.2.2.look pair_keys Try.underlying96 (z := .agg #[.int .i64 0, .int .i64 0]) (fun w => by kernel_rfl) (nth (row ss k) j, (k : Int)) true
              simp only [pairV, if_true] at hlook
              cases hg : Tb.get M' (nth (row ss k) j, (k : Int)) with
              | none =>
                simp only [hg, Option.map_none, Option.getD_none, Option.isSome_none] at hlook
                rw [hg] at hs1
                simp only at hs1
                go_wp2
                go_roundw
                case rel => exact ⟨j + 1, M', by omega, by go_num, hCW.later (Later.new _ _), by unfold Hid; rw [hq.out, hs1.out]⟩
                case measure => simp [intOf]; omega
              | some p =>
                obtain ⟨p1, p2⟩ := p
                simp only [hg, Option.map_some, Option.getD_some, Option.isSome_some, pairV] at hlook
                rw [hg] at hs1
                simp only at hs1
                go_wp2
                have hB2 := hCW.lt
                have hB1 : w.heap.size + 1 < wr.heap.size := by omega
                refine Mix.region_mixL (Mix.kinds [] [] [11]) (by kernel_rfl) (by kernel_rfl) ?_
                repeat ((with_reducible refine Mix.atCons ?_); first | refine Mix.skipU (by rfl) rfl (by rfl) ?_ | (refine Mix.val rfl rfl (by rfl) (fun K hK => ?_); go_big_quiet_op; refine hK _ ?_; clear hK K))
                refine Mix.last rfl (by rfl) (fun x K hK => ?_)
                have hCx := (hCW.later (Later.new _ (.cells #[.int .i64 p1, .int .i64 p2] 94))).later x
                obtain ⟨o, hrun, hT⟩ := hCx.2.2.store pair_keys Try.underlying96 (nth (row ss k) j, (k : Int)) (p1, (j : Int))
                simp only [pairV] at hrun
                go_wp2_with fail
                refine Mix.done (fun y => ?_)
                go_wp2
                go_roundw
                case rel => exact ⟨j + 1, _, by omega, by go_num, (hCx.set hT).later y, by unfold Hid; rw [hq.out, hs1.out]⟩
                case measure => simp [intOf]; omega
            · have hs1 := Lib.hid (in2_end k (row ss k) j M' (by omega))
              have hs2 := Lib.hid (out2_at ss k M2 hlt)
              go_wp2
              go_roundw
              case rel => exact ⟨k + 1, M', by omega, by go_num, hCW, by unfold Hid; rw [hp.out, hs2.out, hq.out, hs1.out]⟩
              case measure => simp [intOf]; omega
        · have hM2 : Hid (out2 ss 0 M = M2) := by unfold Hid; rw [hp.out, out2_end ss k M2 (by omega)]
          obtain ⟨ob, hrg, hR⟩ := hCW.2.2.range Try.underlying96
          have hnd : (M2.map (·.1)).Nodup := by obtain ⟨_, _, _, _, hh, _⟩ := hCW.2.2; exact hh
          go_wp2
          clear c0 c1 c2 hp hk hlt hls hs hrg
          obtain ⟨r, hr⟩ : ∃ r, wr.heap.size = r := ⟨_, rfl⟩
          have hCW2 := hCW.later (Later.new wr ob)
          simp only [hr] at hR ⊢
          have hrB : w.heap.size + 1 + 1 < r := by have := hCW.lt; omega
          clear hCW
          go_loopg [97] (cntS M2 []) (fun g _ wr' => ∃ S, g = cntS M2 S ∧ CW w wr' (.slice an ns.length cn) (.slice aS ss.length cS) (keepS M2 S) ∧ Tb.Rng pairV pairV wr' (w.heap.size + 1) r (keepS M2 S) S)
          case atStart => exact ⟨[], rfl, by rw [keepS_nil]; exact hCW2, by rw [keepS_nil]; exact hR⟩
          case round =>
            clear hCW2 hR
            obtain ⟨S, rfl, hCW, hR⟩ := hrel
            rcases hR.next pair_keys 0 with ⟨hall, hrun⟩ | ⟨p, hp, hpS, o, n, hrun, hR2, hent⟩
            · have hend := keepS_end hall
              go_wp2
              go_ret
              refine ⟨_, ⟨wr, hCW.1⟩, rfl, rfl, _, _, rfl, by omega, by omega, hCW.2.1, ?_⟩
              have e : tabOf ns ss = keepS M2 S := by rw [hend, tabOf, ← hM2.out, ← hM.out]
              rw [e]
              exact hCW.2.2
            · obtain ⟨⟨pn, ps⟩, ⟨a1, a2⟩⟩ := p
              simp only [pairV] at hrun hent
              have hCW2 : CW w (Tb.setMap (wr.drewN n) r o) (.slice an ns.length cn) (.slice aS ss.length cS) (keepS M2 S) := by
                refine ⟨?_, ?_, hR2.tab⟩
                · exact ⟨hCW.1.os, hCW.1.tape, hCW.1.output, by rw [Tb.setMap_size]; exact hCW.1.size, fun k hk => by rw [Tb.setMap_other (by omega)]; exact hCW.1.block k hk⟩
                · rw [Tb.setMap_other (by omega)]; exact hCW.2.1
              obtain ⟨W1, hW1⟩ : ∃ W1, Tb.setMap (wr.drewN n) r o = W1 := ⟨_, rfl⟩
              rw [hW1] at hrun hent hR2 hCW2
              clear hW1 hCW hR
              have hpM := mem_keepS hp
              have hcl := cntS_lt hpM hpS
              by_cases ha : a2 < 0
              · have hkd := keepS_del hnd (S := S) hpM ha
                go_wp2
                have hC3 := (hCW2.later (Later.new _ (.cells #[.int .i64 pn, .int .i64 ps] 74))).later (Later.new _ (.cells #[.int .i64 a1, .int .i64 a2] 94))
                have hR3 := (hR2.later (Later.new _ (.cells #[.int .i64 pn, .int .i64 ps] 74))).later (Later.new _ (.cells #[.int .i64 a1, .int .i64 a2] 94))
                obtain ⟨c0, c1, c2⟩ := hC3.cells
                have hB3 := hC3.lt
                clear hrun hent
                obtain ⟨W3, hW3⟩ : ∃ W3, ((W1.alloc (.cells #[.int .i64 pn, .int .i64 ps] 74)).alloc (.cells #[.int .i64 a1, .int .i64 a2] 94)) = W3 := ⟨_, rfl⟩
                have hp0 : W3.cell? ⟨W1.heap.size, 0, none⟩ = some (.int .i64 pn) := by rw [← hW3]; simp [go_sem]
                have hp1 : W3.cell? ⟨W1.heap.size, 1, none⟩ = some (.int .i64 ps) := by rw [← hW3]; simp [go_sem]
                have hs3 : W1.heap.size < W3.heap.size := by rw [← hW3]; simp; omega
                change CW w ((W1.alloc _).alloc _) _ _ _ at hC3
                change Tb.Rng _ _ ((W1.alloc _).alloc _) _ _ _ _ at hR3
                change World.cell? ((W1.alloc _).alloc _) _ = _ at c0 c1 c2
                change _ < ((W1.alloc _).alloc _).heap.size at hB3
                rw [hW3] at hC3 hR3 c0 c1 c2 hB3 ⊢
                clear hW3
                refine Mix.region_mixL (Mix.kinds [] [] [5]) (by kernel_rfl) (by kernel_rfl) ?_
                repeat ((with_reducible refine Mix.atCons ?_); first | refine Mix.skipU (by rfl) rfl (by rfl) ?_ | (refine Mix.val rfl rfl (by rfl) (fun K hK => ?_); go_big_quiet_op; refine hK _ ?_; clear hK K))
                refine Mix.last rfl (by rfl) (fun x K hK => ?_)
                obtain ⟨o2, hrun2, hR4⟩ := (hR3.later x).drop pair_keys Try.underlying96 (kt' := 74) (ty := 0) (pn, ps)
                simp only [pairV] at hrun2
                have hC4 := (hC3.later x).set hR4.tab
                rw [hkd] at hC4 hR4
                go_wp2_with fail
                refine Mix.done (fun y => ?_)
                go_wp2
                go_roundg (cntS M2 ((pn, ps) :: S))
                case measure => exact hcl
                case rel => exact ⟨(pn, ps) :: S, rfl, hC4.later y, hR4.later y⟩
              · have hks := keepS_stay hnd (S := S) hpM (by simpa using ha)
                go_wp2
                go_roundg (cntS M2 ((pn, ps) :: S))
                case measure => exact hcl
                case rel => exact ⟨(pn, ps) :: S, rfl, by rw [← hks]; exact (hCW2.later (Later.new _ _)).later (Later.new _ _), by rw [← hks]; exact (hR2.later (Later.new _ _)).later (Later.new _ _)⟩
end Go.Proofs.Ytieaibebnkdmhaa
