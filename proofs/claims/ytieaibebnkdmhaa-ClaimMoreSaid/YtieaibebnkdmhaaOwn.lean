import Derived.Deep.LoopGhost
import Derived.WalkMore
import Derived.Deep.OwnRows
import Derived.Test.YtieaibebnkdmhaaSett
namespace Go.Proofs.Ytieaibebnkdmhaa
open Go.RowKit

/-- A block of numbers of one's own: xs, and behind them whatever else it has room for. -/
def Row (w : World) (b : Nat) (xs : List Int) (rest : List Value) (T : TypeId) : Prop := w.heap[b]? = some (.cells (xs.map (Value.int .i64) ++ rest).toArray T (0, 0))
theorem Row.lt {w : World} {b : Nat} {xs : List Int} {rest : List Value} {T : TypeId} (h : Row w b xs rest T) : b < w.heap.size := (Array.getElem?_eq_some_iff.1 h).1
theorem Row.cell {w : World} {b : Nat} {xs : List Int} {rest : List Value} {T : TypeId} (h : Row w b xs rest T) {k : Nat} (hk : k < xs.length) : w.cell? ⟨b, k, none⟩ = some (.int .i64 (nth xs k)) := by
  simp [World.cell?, show w.heap[b]? = _ from h, nth, hk, List.getElem?_append_left]
theorem Row.frozen {w : World} {b : Nat} {xs : List Int} {rest : List Value} {T : TypeId} (h : Row w b xs rest T) (k : Nat) : w.frozen? ⟨b, k, none⟩ = false := by
  simp [World.frozen?, show w.heap[b]? = _ from h]
theorem Row.block {w w' : World} {b : Nat} {xs : List Int} {rest : List Value} {T : TypeId} (h : Row w b xs rest T) (he : w'.heap[b]? = w.heap[b]?) : Row w' b xs rest T := he.trans h
theorem Row.later {w : World} {b : Nat} {xs : List Int} {rest : List Value} {T : TypeId} (h : Row w b xs rest T) (x : Later w) : Row x.w b xs rest T := h.block (x.le.block b h.lt)
theorem Row.other {w : World} {b b' : Nat} {xs : List Int} {rest : List Value} {T : TypeId} (h : Row w b xs rest T) (hne : b ≠ b') (k : Nat) (u : Value) : Row (w.setCell ⟨b', k, none⟩ u) b xs rest T :=
  h.block (Below.heap_setCell w ⟨b', k, none⟩ u b hne)
theorem Row.set {w : World} {b : Nat} {xs : List Int} {rest : List Value} {T : TypeId} (h : Row w b xs rest T) (k : Nat) (hk : k < xs.length) (v : Int) : Row (w.setCell ⟨b, k, none⟩ (.int .i64 v)) b (xs.set k v) rest T := by
  obtain ⟨hlt, he⟩ := Array.getElem?_eq_some_iff.1 h
  show (w.heap.modify b _)[b]? = _
  rw [Array.getElem?_eq_getElem (by rw [Array.size_modify]; exact hlt), Array.getElem_modify_self, he]
  simp only [Obj.cells.injEq, Option.some.injEq, and_true]
  apply Array.ext'
  simp [List.map_set, hk]
theorem Row.ints {w : World} {b : Nat} {xs : List Int} {rest : List Value} {T : TypeId} (h : Row w b xs rest T) {n cap : Nat} (hn : n = xs.length) (hl : xs.length ≤ 9007199254740992) (hc : xs.length ≤ cap) : Ints w (.slice (some ⟨b, 0, none⟩) n cap) xs := by
  subst hn
  exact ⟨hl, .inr ⟨b, 0, cap, rfl, hc, h.lt, fun k hk => by rw [Nat.zero_add]; exact h.cell hk⟩⟩
theorem nth_set {xs : List Int} {k : Nat} {v : Int} (h : k < xs.length) (j : Nat) : nth (xs.set k v) j = if j = k then v else nth xs j := by
  by_cases e : j = k
  · subst e; simp [nth, h]
  · simp [nth, e, Ne.symm e]

theorem set_same {xs : List Int} {n k : Nat} (h : n < xs.length) (hk : nth xs n = k) : xs = xs.set n k := by
  rw [← hk, nth_eq h]; simp

/-- all blocks but two are as they were -/
structure But2 (w w' : World) (b c : Nat) : Prop where
  size : w.heap.size ≤ w'.heap.size
  os : w'.os = w.os
  tape : w'.tape = w.tape
  output : w'.output = w.output
  block : ∀ k, k < w.heap.size → k ≠ b → k ≠ c → w'.heap[k]? = w.heap[k]?
theorem But2.refl (w : World) (b c : Nat) : But2 w w b c := ⟨Nat.le_refl _, rfl, rfl, rfl, fun _ _ _ _ => rfl⟩
theorem But2.trans {w w' w'' : World} {b c : Nat} (h : But2 w w' b c) (g : But2 w' w'' b c) : But2 w w'' b c :=
  ⟨Nat.le_trans h.size g.size, g.os.trans h.os, g.tape.trans h.tape, g.output.trans h.output, fun k hk h1 h2 => (g.block k (Nat.lt_of_lt_of_le hk h.size) h1 h2).trans (h.block k hk h1 h2)⟩
theorem But2.later {w : World} (x : Later w) (b c : Nat) : But2 w x.w b c := ⟨x.size, x.le.os, x.le.tape, x.le.output, fun k hk _ _ => x.le.block k hk⟩
theorem But2.set1 (w : World) (b c k : Nat) (v : Value) : But2 w (w.setCell ⟨b, k, none⟩ v) b c :=
  ⟨by simp, rfl, rfl, rfl, fun j _ h _ => Below.heap_setCell w ⟨b, k, none⟩ v j h⟩
theorem But2.set2 (w : World) (b c k : Nat) (v : Value) : But2 w (w.setCell ⟨c, k, none⟩ v) b c :=
  ⟨by simp, rfl, rfl, rfl, fun j _ _ h => Below.heap_setCell w ⟨c, k, none⟩ v j h⟩
theorem But2.below {w w' : World} {b c n : Nat} (h : But2 w w' b c) (hn : n ≤ w.heap.size) (hb : n ≤ b) (hc : n ≤ c) : Below n w w' :=
  ⟨h.os, h.tape, h.output, h.size, fun k hk => h.block k (Nat.lt_of_lt_of_le hk hn) (by omega) (by omega)⟩

/-- One nation claims: how far it has come on its list, and what the stars have. -/
def claimF (M : PM) (n : Int) : List Int → Nat → List Int → Nat × List Int
  | [], k, has => (k, has)
  | s :: l, k, has => if inM M n s && winM M s n (nth has s.toNat - 1) then (k + 1, has.set s.toNat (n + 1)) else claimF M n l (k + 1) has
theorem claimF_at (M : PM) (n : Int) (l : List Int) (k j : Nat) (has : List Int) (h : k < l.length) :
    claimF M n (l.drop k) j has = if inM M n (nth l k) && winM M (nth l k) n (nth has (nth l k).toNat - 1) then (j + 1, has.set (nth l k).toNat (n + 1)) else claimF M n (l.drop (k + 1)) (j + 1) has := by
  rw [List.drop_eq_getElem_cons h, claimF, nth_eq h]
theorem claimF_end (M : PM) (n : Int) (l : List Int) (k j : Nat) (has : List Int) (h : l.length ≤ k) : claimF M n (l.drop k) j has = (j, has) := by
  rw [List.drop_eq_nil_of_le h, claimF]

set_option maxRecDepth 100000 in
set_option maxHeartbeats 2000000 in
theorem claim_calls (W : World) (c lv : Value) (ns ss : List (List Int)) (M : PM) (n : Nat) (l : List Int) (w : World) (bN bH cap : Nat) (next has : List Int) (TN : TypeId) (k : Nat) (hk : nth next n = k) (hkl : k ≤ l.length) (hnx : n < next.length)
    (hB : Below W.heap.size W w) (hC : Court W c ns ss M) (hl : Ints W lv l) (hbN : W.heap.size ≤ bN) (hbH : W.heap.size ≤ bH) (hne : bN ≠ bH) (hN : Row w bN next [] TN) (hH : Row w bH has [] 105) (h6 : has.length = 6)
    (hM : ∀ s, inM M n s = true → 0 ≤ s ∧ s < 6) (hh : ∀ i, i < 6 → 0 ≤ nth has i ∧ nth has i ≤ 6) (hn6 : n < 6) (_hcap : next.length ≤ cap) (_hnl : next.length ≤ 6) :
    Calls Try.prog 86 #[c, .int .i64 n, lv, .slice (some ⟨bN, 0, none⟩) next.length cap, .pointer (some ⟨bH, 0, none⟩)] w fun e w' => e = .returned (.tuple #[]) ∧ But2 w w' bN bH ∧
      Row w' bN (next.set n (claimF M n (l.drop k) k has).1) [] TN ∧ Row w' bH (claimF M n (l.drop k) k has).2 [] 105 := by
  obtain ⟨al, cl, rfl⟩ := hl.form
  have hll := hl.1
  obtain ⟨b, m, nv, sv, rfl, hbW, c0, c1, c2, hrn, hrs, hT⟩ := hC.open
  go_enter Try.func86, Try.ntmps86
  go_wp2
  go_step3
  go_wp2
  go_step3
  go_wp2
  go_loopg [10] (l.length - k) (fun g _ wr => ∃ (j : Nat) (nx : List Int), g = l.length - j ∧ j ≤ l.length ∧ But2 w wr bN bH ∧ nx = next.set n j ∧ Row wr bN nx [] TN ∧ Row wr bH has [] 105 ∧ Hid (claimF M n (l.drop k) k has = claimF M n (l.drop j) j has))
  case atStart => exact ⟨k, next, rfl, hkl, But2.refl _ _ _, set_same hnx hk, hN, hH, rfl⟩
  case round =>
    obtain ⟨j, nx, rfl, hj, hBt, hnx', hR, hRH, hp⟩ := hrel
    have hBr : Below W.heap.size W wr := hB.trans (hBt.below hB.size hbN hbH)
    have hnl' : n < nx.length := by rw [hnx']; simpa using hnx
    have e1 := hR.cell hnl'
    have e2 : nth nx n = j := by rw [hnx', nth_set hnx]; simp
    rw [e2] at e1
    by_cases hlt : j < l.length
    · obtain ⟨bl, ol, cll, e, hcp, hbl, hcl⟩ := hl.at hlt
      cases e
      have hcell := (hBr.cell (p := ⟨bl, ol + j, none⟩) hbl).trans (hcl j hlt)
      have hs := Lib.hid (claimF_at M n l j j has hlt)
      have g2 := (hBr.cell (p := ⟨b, 2, none⟩) hbW).trans c2
      have fN := hR.frozen n
      have hR2 : Row (wr.setCell ⟨bN, n, none⟩ (.int .i64 ((j : Int) + 1))) bN (next.set n ((j + 1 : Nat) : Int)) [] TN := by
        have := hR.set n hnl' ((j : Int) + 1)
        rw [hnx', List.set_set] at this
        exact this
      have hRH2 := hRH.other hne.symm n (.int .i64 ((j : Int) + 1))
      have hBt2 := hBt.trans (But2.set1 wr bN bH n (.int .i64 ((j : Int) + 1)))
      have hB2 : Below W.heap.size W (wr.setCell ⟨bN, n, none⟩ (.int .i64 ((j : Int) + 1))) := hBr.setCell (p := ⟨bN, n, none⟩) hbN _
      have hlk := look_court2 (hT.later ⟨_, hB2⟩) n (nth l j)
      have hne2 := hne.symm
      have hbNr := hR.lt
      have hbHr := hRH.lt
      cases hin : inM M n (nth l j)
      · rw [hin] at hlk
        go_wp2
        go_roundg (l.length - (j + 1))
        case rel => exact ⟨j + 1, _, rfl, by omega, hBt2.trans (But2.later (Later.new _ _) _ _), rfl, hR2.later (Later.new _ _), hRH2.later (Later.new _ _), by unfold Hid; rw [hp.out, hs.out, hin]; rfl⟩
        case measure => omega
      · rw [hin] at hlk
        obtain ⟨h0, h6'⟩ := hM _ hin
        obtain ⟨sn, hsn⟩ := Int.eq_ofNat_of_zero_le h0
        have hsn6 : sn < has.length := by omega
        have hcH := hRH2.cell hsn6
        have hfH := hRH2.frozen sn
        have hb := hh sn (by omega)
        rw [hsn] at hs hlk hcell hin
        simp only [Int.toNat_natCast] at hs
        have har : ∀ K, (∀ x : Later ((wr.setCell ⟨bN, n, none⟩ (.int .i64 ((j : Int) + 1))).alloc (.cells #[.int .i64 (pS M n sn), .int .i64 (pN M n sn)] 94)), K (Ending.returned (.bool (winM M sn n (nth has sn - 1)))) x.w) →
            Calls Try.prog 82 #[.pointer (some ⟨b, 0, none⟩), .int .i64 sn, .int .i64 n, .int .i64 (nth has sn - 1)] ((wr.setCell ⟨bN, n, none⟩ (.int .i64 ((j : Int) + 1))).alloc (.cells #[.int .i64 (pS M n sn), .int .i64 (pN M n sn)] 94)) K :=
          fun K hK => (wins_calls _ ns ss M _ _ _ _ (hC.later ((Later.mk _ hB2).step (Later.new _ _)))).mono (by rintro e w' ⟨rfl, x, rfl⟩; exact hK x)
        cases hw : winM M sn n (nth has sn - 1)
        · rw [hw] at har
          go_wp2_with (go_at_call 82; refine har _ ?_; intro x)
          go_roundg (l.length - (j + 1))
          case rel => exact ⟨j + 1, _, rfl, by omega, (hBt2.trans (But2.later (Later.new _ _) _ _)).trans (But2.later x _ _), rfl, (hR2.later (Later.new _ _)).later x, (hRH2.later (Later.new _ _)).later x, by unfold Hid; rw [hp.out, hs.out, hin, hw]; rfl⟩
          case measure => omega
        · rw [hw] at har
          go_wp2_with (go_at_call 82; refine har _ ?_; intro x)
          rw [Exit.noGoto_ret]
          have hcl : claimF M n (l.drop k) k has = (j + 1, has.set sn (n + 1)) := by rw [hp.out, hs.out, hin, hw]; rfl
          refine bodyPost_ret (results_none rfl _ _ _) rfl ⟨rfl, (((hBt2.trans (But2.later (Later.new _ _) _ _)).trans (But2.later x _ _)).trans (But2.set2 _ _ _ _ _)), ?_, ?_⟩
          · rw [hcl]; exact ((hR2.later (Later.new _ _)).later x).other hne _ _
          · rw [hcl]; exact ((hRH2.later (Later.new _ _)).later x).set _ hsn6 _
    · have he := Lib.hid (claimF_end M n l j j has (by omega))
      go_wp2
      simp only [Exit.noGoto]
      refine bodyPost_end (results_none rfl _ _ _) rfl ⟨rfl, hBt, ?_, ?_⟩
      · rw [hp.out, he.out, ← hnx']; exact hR
      · rw [hp.out, he.out]; exact hRH
end Go.Proofs.Ytieaibebnkdmhaa
