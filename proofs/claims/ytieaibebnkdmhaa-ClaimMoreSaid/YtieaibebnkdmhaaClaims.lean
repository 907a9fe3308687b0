import Derived.Test.YtieaibebnkdmhaaArrEq
namespace Go.Proofs.Ytieaibebnkdmhaa
open Go.RowKit

/-- the numbers of a list of indexes -/
def ofs (nx : List Nat) : List Int := nx.map (fun k : Nat => (k : Int))
def nnth (nx : List Nat) (k : Nat) : Nat := nx.getD k 0
theorem ofs_len (nx : List Nat) : (ofs nx).length = nx.length := by simp [ofs]
theorem nth_ofs (nx : List Nat) {k : Nat} (h : k < nx.length) : nth (ofs nx) k = nnth nx k := by
  rw [nth_eq (by rw [ofs_len]; exact h)]; simp [ofs, nnth, h]
theorem ofs_set (nx : List Nat) (n k : Nat) : (ofs nx).set n (k : Int) = ofs (nx.set n k) := by simp [ofs, List.map_set]

/-- one round: each nation that has no star claims -/
def passF (M : PM) : List (List Int) → Nat → List Nat → List Int → List Nat × List Int
  | [], _, nx, has => (nx, has)
  | l :: r, n, nx, has =>
    if has.any (isN ((n : Int) + 1)) then passF M r (n + 1) nx has
    else passF M r (n + 1) (nx.set n (claimF M n (l.drop (nnth nx n)) (nnth nx n) has).1) (claimF M n (l.drop (nnth nx n)) (nnth nx n) has).2
/-- rounds until no star has another nation -/
def iterF (M : PM) (ns : List (List Int)) : Nat → List Nat → List Int → List Int
  | 0, _, has => has
  | f + 1, nx, has => if (passF M ns 0 nx has).2 = has then has else iterF M ns f (passF M ns 0 nx has).1 (passF M ns 0 nx has).2
def total (ns : List (List Int)) : Nat := (ns.map List.length).sum
def hasF (M : PM) (ns : List (List Int)) : List Int := iterF M ns (total ns + 1) (List.replicate ns.length 0) (List.replicate 6 0)
def claimsF (M : PM) (ns : List (List Int)) : List Int := (List.range ns.length).map (fun (n : Nat) => idxF (isN ((n : Int) + 1)) (hasF M ns) 0)

/-- What holds of the two lists at any time. -/
structure ClInv (ns : List (List Int)) (nx : List Nat) (has : List Int) : Prop where
  nxLen : nx.length = ns.length
  nxLe : ∀ n, n < ns.length → nnth nx n ≤ (row ns n).length
  hasLen : has.length = 6
  rng : ∀ i, i < 6 → 0 ≤ nth has i ∧ nth has i ≤ 6

theorem claimF_le (M : PM) (n : Int) : ∀ (l : List Int) (k : Nat) (has : List Int), k ≤ (claimF M n l k has).1 ∧ (claimF M n l k has).1 ≤ k + l.length
  | [], k, has => by simp [claimF]
  | s :: l, k, has => by
    have ih := claimF_le M n l (k + 1) has
    rw [claimF]
    split
    · simp
    · simp only [List.length_cons]; omega
theorem claimF_has (M : PM) (n : Int) (hM : ∀ s, inM M n s = true → 0 ≤ s ∧ s < 6) : ∀ (l : List Int) (k : Nat) (has : List Int),
    (claimF M n l k has).2 = has ∨ (k < (claimF M n l k has).1 ∧ ∃ s : Nat, s < 6 ∧ (claimF M n l k has).2 = has.set s (n + 1))
  | [], k, has => by simp [claimF]
  | s :: l, k, has => by
    rw [claimF]
    split
    · rename_i h
      simp only [Bool.and_eq_true] at h
      have := hM s h.1
      exact .inr ⟨by simp, s.toNat, by omega, rfl⟩
    · rcases claimF_has M n hM l (k + 1) has with h | ⟨h1, h2⟩
      · exact .inl h
      · exact .inr ⟨by omega, h2⟩

theorem nnth_set {nx : List Nat} {n k : Nat} (h : n < nx.length) (j : Nat) : nnth (nx.set n k) j = if j = n then k else nnth nx j := by
  by_cases e : j = n
  · subst e; simp [nnth, h]
  · simp [nnth, e, Ne.symm e]
theorem sum_set : ∀ (nx : List Nat) (n k : Nat), n < nx.length → (nx.set n k).sum + nnth nx n = nx.sum + k
  | x :: r, 0, k, _ => by simp [nnth]; omega
  | x :: r, n + 1, k, h => by
    have := sum_set r n k (by simpa using h)
    simp only [List.set_cons_succ, List.sum_cons, nnth, List.getD_cons_succ] at this ⊢
    omega

theorem ClInv.step {ns : List (List Int)} {nx : List Nat} {has : List Int} (h : ClInv ns nx has) (M : PM) (n : Nat) (hn : n < ns.length) (h6 : ns.length ≤ 6) (hM : ∀ s, inM M n s = true → 0 ≤ s ∧ s < 6) :
    ClInv ns (nx.set n (claimF M n ((row ns n).drop (nnth nx n)) (nnth nx n) has).1) (claimF M n ((row ns n).drop (nnth nx n)) (nnth nx n) has).2 ∧
    nx.sum ≤ (nx.set n (claimF M n ((row ns n).drop (nnth nx n)) (nnth nx n) has).1).sum ∧
    ((claimF M n ((row ns n).drop (nnth nx n)) (nnth nx n) has).2 ≠ has → nx.sum < (nx.set n (claimF M n ((row ns n).drop (nnth nx n)) (nnth nx n) has).1).sum) := by
  obtain ⟨q, hq⟩ : ∃ q, claimF M n ((row ns n).drop (nnth nx n)) (nnth nx n) has = q := ⟨_, rfl⟩
  have hle := claimF_le M n ((row ns n).drop (nnth nx n)) (nnth nx n) has
  have hhas := claimF_has M n hM ((row ns n).drop (nnth nx n)) (nnth nx n) has
  rw [hq] at hle hhas ⊢
  have hnx : n < nx.length := by rw [h.nxLen]; exact hn
  have hs := sum_set nx n q.1 hnx
  have h0 := h.nxLe n hn
  rw [List.length_drop] at hle
  refine ⟨⟨by rw [List.length_set, h.nxLen], fun j hj => ?_, ?_, ?_⟩, by omega, ?_⟩
  · rw [nnth_set hnx]
    by_cases e : j = n
    · subst e; rw [if_pos rfl]; omega
    · rw [if_neg e]; exact h.nxLe j hj
  · rcases hhas with e | ⟨_, s, hs6, e⟩ <;> rw [e]
    · exact h.hasLen
    · rw [List.length_set, h.hasLen]
  · rcases hhas with e | ⟨_, s, hs6, e⟩ <;> rw [e]
    · exact h.rng
    · intro i hi
      rw [nth_set (by rw [h.hasLen]; exact hs6)]
      by_cases e : i = s
      · rw [if_pos e]; omega
      · rw [if_neg e]; exact h.rng i hi
  · intro hne
    rcases hhas with e | ⟨hlt, _⟩
    · exact absurd e hne
    · omega

theorem ClInv.sum_le {ns : List (List Int)} {nx : List Nat} {has : List Int} (h : ClInv ns nx has) : nx.sum ≤ total ns := by
  have : ∀ (ns : List (List Int)) (nx : List Nat), nx.length = ns.length → (∀ n, n < ns.length → nnth nx n ≤ (row ns n).length) → nx.sum ≤ total ns := by
    intro ns
    induction ns with
    | nil => intro nx h1 h2; simp at h1; subst h1; simp
    | cons l r ih =>
      intro nx h1 h2
      obtain ⟨x, nx', rfl⟩ : ∃ x nx', nx = x :: nx' := by cases nx with | nil => simp at h1 | cons x nx' => exact ⟨_, _, rfl⟩
      have e0 := h2 0 (by simp)
      have := ih nx' (by simpa using h1) (fun n hn => by have := h2 (n + 1) (by simp; omega); simpa [nnth, row] using this)
      simp only [nnth, row, List.getD_cons_zero] at e0
      simp only [List.sum_cons, total, List.map_cons] at this ⊢
      omega
  exact this ns nx h.nxLen h.nxLe

theorem passF_at (M : PM) (ns : List (List Int)) (k : Nat) (nx : List Nat) (has : List Int) (h : k < ns.length) :
    passF M (ns.drop k) k nx has = if has.any (isN ((k : Int) + 1)) then passF M (ns.drop (k + 1)) (k + 1) nx has
      else passF M (ns.drop (k + 1)) (k + 1) (nx.set k (claimF M k ((row ns k).drop (nnth nx k)) (nnth nx k) has).1) (claimF M k ((row ns k).drop (nnth nx k)) (nnth nx k) has).2 := by
  rw [List.drop_eq_getElem_cons h, passF, row_eq h]
theorem passF_end (M : PM) (ns : List (List Int)) (k : Nat) (nx : List Nat) (has : List Int) (h : ns.length ≤ k) : passF M (ns.drop k) k nx has = (nx, has) := by
  rw [List.drop_eq_nil_of_le h, passF]
theorem six {xs : List Int} (h : xs.length = 6) : xs = [nth xs 0, nth xs 1, nth xs 2, nth xs 3, nth xs 4, nth xs 5] := by
  match xs, h with
  | [a, b, c, d, e, f], _ => rfl
theorem six_eq {xs ys : List Int} (h : xs.length = 6) (h' : ys.length = 6) :
    ((nth xs 0 == nth ys 0) && ((nth xs 1 == nth ys 1) && ((nth xs 2 == nth ys 2) && ((nth xs 3 == nth ys 3) && ((nth xs 4 == nth ys 4) && (nth xs 5 == nth ys 5)))))) = decide (xs = ys) := by
  match xs, h, ys, h' with
  | [a, b, c, d, e, f], _, [a', b', c', d', e', f'], _ =>
    simp only [nth, List.getD_cons_zero, List.getD_cons_succ, List.cons.injEq, and_true]
    by_cases h0 : a = a' <;> by_cases h1 : b = b' <;> by_cases h2 : c = c' <;> by_cases h3 : d = d' <;> by_cases h4 : e = e' <;> by_cases h5 : f = f' <;> simp [h0, h1, h2, h3, h4, h5]
theorem nth_replicate (n k : Nat) : nth (List.replicate n (0 : Int)) k = 0 := by
  simp only [nth, List.getD_eq_getElem?_getD, List.getElem?_replicate]; split <;> rfl

/-- what has been laid of a list xs when k of its numbers are, of n -/
def laid (xs : List Int) (k : Nat) : List Int := xs.take k ++ List.replicate (xs.length - k) 0
theorem laid_len (xs : List Int) (k : Nat) (h : k ≤ xs.length) : (laid xs k).length = xs.length := by simp [laid]; omega
theorem laid_zero (xs : List Int) : laid xs 0 = List.replicate xs.length 0 := by simp [laid]
theorem laid_end (xs : List Int) (k : Nat) (h : k = xs.length) : laid xs k = xs := by subst h; simp [laid]
theorem laid_set (xs : List Int) (k : Nat) (h : k < xs.length) : (laid xs k).set k (nth xs k) = laid xs (k + 1) := by
  have e0 := nth_eq h
  generalize nth xs k = v at e0
  subst e0
  refine List.ext_getElem (by simp [laid]; omega) fun i h1 h2 => ?_
  rw [List.getElem_set]
  simp only [laid, List.getElem_append, List.length_take, List.getElem_take, List.getElem_replicate]
  by_cases e : k = i
  · subst e
    rw [if_pos rfl, dif_pos (by omega)]
  · rw [if_neg e]
    by_cases e2 : i < k
    · rw [dif_pos (by omega), dif_pos (by omega)]
    · rw [dif_neg (by omega), dif_neg (by omega)]
theorem claimsF_len (M : PM) (ns : List (List Int)) : (claimsF M ns).length = ns.length := by simp [claimsF]
theorem claimsF_nth (M : PM) (ns : List (List Int)) {k : Nat} (h : k < ns.length) : nth (claimsF M ns) k = idxF (isN ((k : Int) + 1)) (hasF M ns) 0 := by
  rw [nth_eq (by rw [claimsF_len]; exact h)]; simp [claimsF]

theorem row_made (w : World) (n : Nat) (T : TypeId) {b : Nat} (hb : b = w.heap.size) : Row (w.alloc (.cells (madeCells #[.int .i64 0] n) T)) b (ofs (List.replicate n 0)) [] T := by
  subst hb
  have h := World.alloc_heap_new w (.cells (madeCells #[.int .i64 0] n) T)
  have e : madeCells #[.int .i64 0] n = ((ofs (List.replicate n 0)).map (Value.int .i64) ++ []).toArray := by
    apply Array.ext'
    simp only [madeCells, ofs, List.append_nil, List.map_replicate, Array.toList_map, Array.toList_range]
    rw [List.eq_replicate_iff]
    refine ⟨by simp, fun v hv => ?_⟩
    obtain ⟨j, _, rfl⟩ := List.mem_map.1 hv
    simp [Nat.mod_one]
  exact h.trans (by rw [e])
theorem ClInv.start (ns : List (List Int)) : ClInv ns (List.replicate ns.length 0) (List.replicate 6 0) :=
  ⟨by simp, fun n _ => by simp [nnth, List.getElem?_replicate]; split <;> simp, by simp, fun i _ => by rw [nth_replicate]; decide⟩

set_option maxRecDepth 100000 in
set_option maxHeartbeats 2000000 in
theorem claims_calls (c : Value) (ns ss : List (List Int)) (M : PM) (w : World) (hC : Court w c ns ss M) (h6 : ns.length ≤ 6) (hM : ∀ n s, inM M n s = true → 0 ≤ s ∧ s < 6) :
    Calls Try.prog 66 #[c] w fun e w' => ∃ v, ∃ x : Later w, e = .returned v ∧ w' = x.w ∧ Ints x.w v (claimsF M ns) := by
  obtain ⟨b, m, nv, sv, rfl, hb, c0, c1, c2, hrn, hrs, hT⟩ := hC.open
  obtain ⟨an, cn, rfl⟩ := hrn.form
  have hmk : ∀ (w : World), (Instr.makeSlice 25 (.int .i64 (ns.length : Int)) (.int .i64 (ns.length : Int))).run Try.prog w = .ok (.slice (some ⟨w.heap.size, 0, none⟩) ns.length ns.length) (w.alloc (.cells (madeCells #[.int .i64 0] ns.length) 3)) :=
    fun w => run_make_row' _ _ _ 8 Try.underlying25 (by kernel_rfl) rfl _ _ _ (by omega) (by omega) w
  have hln := hrn.1
  have hclr := run_clear_new w
  go_enter Try.func66, Try.ntmps66
  go_wp2
  have r0 : Row ((w.alloc (.cells #[.int .i64 0, .int .i64 0, .int .i64 0, .int .i64 0, .int .i64 0, .int .i64 0] 105)).alloc (.cells (madeCells #[.int .i64 0] ns.length) 3)) w.heap.size (List.replicate 6 0) [] 105 := by
    have h := World.alloc_heap_new w (.cells #[.int .i64 0, .int .i64 0, .int .i64 0, .int .i64 0, .int .i64 0, .int .i64 0] 105)
    exact (Below.heap_alloc _ _ _ (by simp)).trans h
  have r1 : Row ((w.alloc (.cells #[.int .i64 0, .int .i64 0, .int .i64 0, .int .i64 0, .int .i64 0, .int .i64 0] 105)).alloc (.cells (madeCells #[.int .i64 0] ns.length) 3)) (w.heap.size + 1) (ofs (List.replicate ns.length 0)) [] 3 := row_made _ _ _ (by simp)
  have hbl : Below w.heap.size w ((w.alloc (.cells #[.int .i64 0, .int .i64 0, .int .i64 0, .int .i64 0, .int .i64 0, .int .i64 0] 105)).alloc (.cells (madeCells #[.int .i64 0] ns.length) 3)) := ((Below.refl _ w).alloc (Nat.le_refl _) _).alloc (by simp) _
  clear hclr
  go_loopg [18] (total ns + 1) (fun g _ wr => ∃ (f : Nat) (nx : List Nat) (has : List Int), g = f + 1 ∧ ClInv ns nx has ∧ total ns ≤ f + nx.sum ∧ Below w.heap.size w wr ∧ w.heap.size + 2 ≤ wr.heap.size ∧ Row wr w.heap.size has [] 105 ∧ Row wr (w.heap.size + 1) (ofs nx) [] 3 ∧ Hid (hasF M ns = iterF M ns (f + 1) nx has))
  case atStart => exact ⟨total ns, List.replicate ns.length 0, List.replicate 6 0, rfl, ClInv.start ns, by simp, hbl, by simp, r0, r1, rfl⟩
  case round =>
    clear r0 r1 hbl
    obtain ⟨f, nx, has, rfl, hI, hg, hB, hsz, hH, hN, hp⟩ := hrel
    have hl6 := hI.hasLen
    have e0 := hH.cell (k := 0) (by omega)
    have e1 := hH.cell (k := 1) (by omega)
    have e2 := hH.cell (k := 2) (by omega)
    have e3 := hH.cell (k := 3) (by omega)
    have e4 := hH.cell (k := 4) (by omega)
    have e5 := hH.cell (k := 5) (by omega)
    have g0 := (hB.cell (p := ⟨b, 0, none⟩) hb).trans c0
    have hbr : b < wr.heap.size := by omega
    go_wp2
    have bW : Row (wr.alloc (.cells #[.int .i64 (nth has 0), .int .i64 (nth has 1), .int .i64 (nth has 2), .int .i64 (nth has 3), .int .i64 (nth has 4), .int .i64 (nth has 5)] 105)) wr.heap.size has [] 105 := by
      have h := World.alloc_heap_new wr (.cells #[.int .i64 (nth has 0), .int .i64 (nth has 1), .int .i64 (nth has 2), .int .i64 (nth has 3), .int .i64 (nth has 4), .int .i64 (nth has 5)] 105)
      exact h.trans (by conv => { rhs; rw [six hl6] }; rfl)
    have hB1 : Below w.heap.size w (wr.alloc (.cells #[.int .i64 (nth has 0), .int .i64 (nth has 1), .int .i64 (nth has 2), .int .i64 (nth has 3), .int .i64 (nth has 4), .int .i64 (nth has 5)] 105)) := hB.alloc hB.size _
    have hH1 := hH.later (Later.new wr (.cells #[.int .i64 (nth has 0), .int .i64 (nth has 1), .int .i64 (nth has 2), .int .i64 (nth has 3), .int .i64 (nth has 4), .int .i64 (nth has 5)] 105))
    have hN1 := hN.later (Later.new wr (.cells #[.int .i64 (nth has 0), .int .i64 (nth has 1), .int .i64 (nth has 2), .int .i64 (nth has 3), .int .i64 (nth has 4), .int .i64 (nth has 5)] 105))
    rw [Later.new_w] at hH1 hN1
    obtain ⟨bw, hbw⟩ : ∃ bw, bw = wr.heap.size := ⟨_, rfl⟩
    rw [← hbw] at bW hsz ⊢
    have hsz1 : bw + 1 ≤ (wr.alloc (.cells #[.int .i64 (nth has 0), .int .i64 (nth has 1), .int .i64 (nth has 2), .int .i64 (nth has 3), .int .i64 (nth has 4), .int .i64 (nth has 5)] 105)).heap.size := by simp; omega
    obtain ⟨W1, hW1⟩ : ∃ W1, wr.alloc (.cells #[.int .i64 (nth has 0), .int .i64 (nth has 1), .int .i64 (nth has 2), .int .i64 (nth has 3), .int .i64 (nth has 4), .int .i64 (nth has 5)] 105) = W1 := ⟨_, rfl⟩
    rw [hW1] at bW hB1 hH1 hN1 hsz1 ⊢
    clear e0 e1 e2 e3 e4 e5 g0 hbr hW1 hB hH hN hbw wr
    go_loopw [25] (fun i wr' => ∃ (k : Nat) (nx' : List Nat) (has' : List Int), k ≤ ns.length ∧ i = .int .i64 k ∧ ClInv ns nx' has' ∧ nx.sum ≤ nx'.sum ∧ (has' ≠ has → nx.sum < nx'.sum) ∧ Below w.heap.size w wr' ∧ bw + 1 ≤ wr'.heap.size ∧
      Row wr' w.heap.size has' [] 105 ∧ Row wr' (w.heap.size + 1) (ofs nx') [] 3 ∧ Row wr' bw has [] 105 ∧ Hid (passF M ns 0 nx has = passF M (ns.drop k) k nx' has')) (fun i _ => ns.length - (intOf i).toNat)
    case atStart => exact ⟨0, nx, has, Nat.zero_le _, rfl, hI, Nat.le_refl _, fun h => absurd rfl h, hB1, hsz1, hH1, hN1, bW, rfl⟩
    case round =>
      clear hB1 hsz1 hH1 hN1 bW
      obtain ⟨k, nx', has', hk, rfl, hI', hs1, hs2, hB, hsw, hH, hN, hWas, hq⟩ := hrel
      have hl6' := hI'.hasLen
      by_cases hlt : k < ns.length
      · obtain ⟨bn, on, cpn, fn, e, hcp, hbn, hcn⟩ := hrn.at hlt
        cases e
        obtain ⟨hc1, hrow⟩ := hcn k hlt
        obtain ⟨ak, ck, efk⟩ := hrow.form
        rw [efk] at hc1 hrow
        have g0 := (hB.cell (p := ⟨bn, on + k, none⟩) hbn).trans hc1
        have hbn' : bn < wr.heap.size := by omega
        have hs := Lib.hid (passF_at M ns k nx' has' hlt)
        have hnl := hI'.nxLe k hlt
        have hnlen := hI'.nxLen
        have hHi : Ints wr (.slice (some ⟨w.heap.size, 0, none⟩) 6 6) has' := hH.ints hl6'.symm (by omega) (by omega)
        clear hcn
        cases hany : has'.any (isN ((k : Int) + 1))
        · have har := claim_calls w _ _ ns ss M k (row ns k) wr (w.heap.size + 1) w.heap.size ns.length (ofs nx') has' 3 (nnth nx' k) (nth_ofs nx' (by omega)) hnl (by rw [ofs_len]; omega) hB hC hrow (by omega) (by omega) (by omega) hN hH hl6' (fun s => hM k s) hI'.rng (by omega) (by rw [ofs_len]; omega) (by rw [ofs_len]; omega)
          rw [ofs_len, hnlen] at har
          go_wp2_with (first
            | (go_at_call 80; (with_reducible refine (Contains_calls _ has' _ _ hHi).mono ?_); rintro e w' ⟨rfl, rfl⟩)
            | (go_at_call 86; refine har.mono ?_; rintro e w2 ⟨rfl, hBt, hN2, hH2⟩))
          go_roundw
          case rel =>
            obtain ⟨hI2, hs3, hs4⟩ := hI'.step M k hlt h6 (fun s => hM k s)
            refine ⟨k + 1, _, _, by omega, by go_num, hI2, by omega, fun hne => ?_, hB.trans (hBt.below hB.size (by omega) (Nat.le_refl _)), Nat.le_trans hsw hBt.size, hH2, by rw [ofs_set] at hN2; exact hN2, hWas.block (hBt.block bw (by omega) (by omega) (by omega)), ?_⟩
            · by_cases e : has' = has
              · subst e; have := hs4 hne; omega
              · have := hs2 e; omega
            · unfold Hid; rw [hq.out, hs.out, hany]; rfl
          case measure => simp [intOf]; omega
        · go_wp2_with (go_at_call 80; (with_reducible refine (Contains_calls _ has' _ _ hHi).mono ?_); rintro e w' ⟨rfl, rfl⟩)
          go_roundw
          case rel => exact ⟨k + 1, nx', has', by omega, by go_num, hI', hs1, hs2, hB, hsw, hH, hN, hWas, by unfold Hid; rw [hq.out, hs.out, hany]; rfl⟩
          case measure => simp [intOf]; omega
      · have e0 := hH.cell (k := 0) (by omega)
        have e1 := hH.cell (k := 1) (by omega)
        have e2 := hH.cell (k := 2) (by omega)
        have e3 := hH.cell (k := 3) (by omega)
        have e4 := hH.cell (k := 4) (by omega)
        have e5 := hH.cell (k := 5) (by omega)
        have u0 := hWas.cell (k := 0) (by omega)
        have u1 := hWas.cell (k := 1) (by omega)
        have u2 := hWas.cell (k := 2) (by omega)
        have u3 := hWas.cell (k := 3) (by omega)
        have u4 := hWas.cell (k := 4) (by omega)
        have u5 := hWas.cell (k := 5) (by omega)
        have g0 := (hB.cell (p := ⟨b, 0, none⟩) hb).trans c0
        have hpass : passF M ns 0 nx has = (nx', has') := by rw [hq.out, passF_end M ns k nx' has' (by omega)]
        have heq : ∀ w : World, (Op.equalIn 10000 105 (.agg #[.int .i64 (nth has 0), .int .i64 (nth has 1), .int .i64 (nth has 2), .int .i64 (nth has 3), .int .i64 (nth has 4), .int .i64 (nth has 5)]) (.agg #[.int .i64 (nth has' 0), .int .i64 (nth has' 1), .int .i64 (nth has' 2), .int .i64 (nth has' 3), .int .i64 (nth has' 4), .int .i64 (nth has' 5)])).run Try.prog w = .ok (decide (has = has')) w := by
          intro w
          rw [← six_eq hl6 hl6']
          exact run_eq_having 9998 _ _ _ _ _ _ _ _ _ _ _ _ w
        by_cases he : has' = has
        · have hiter := Lib.hid (show hasF M ns = has by rw [hp.out, iterF, hpass]; simp [he])
          subst he
          rw [show decide (has' = has') = true by simp] at heq
          go_wp2
          have hO := row_made wr ns.length 3 rfl
          have hH2 := hH.later (Later.new wr (.cells (madeCells #[.int .i64 0] ns.length) 3))
          have hB2 := hB.alloc hB.size (.cells (madeCells #[.int .i64 0] ns.length) 3)
          rw [Later.new_w] at hH2
          have hz : (wr.alloc (.cells (madeCells #[.int .i64 0] ns.length) 3)).heap.size = wr.heap.size + 1 := by simp
          obtain ⟨bo, hbo⟩ : ∃ bo, bo = wr.heap.size := ⟨_, rfl⟩
          obtain ⟨W2, hW2⟩ : ∃ W2, wr.alloc (.cells (madeCells #[.int .i64 0] ns.length) 3) = W2 := ⟨_, rfl⟩
          rw [← hbo] at hO hz hsw ⊢
          rw [hW2] at hO hH2 hB2 hz ⊢
          have hcl := claimsF_len M ns
          rw [show ofs (List.replicate ns.length 0) = laid (claimsF M ns) 0 by rw [laid_zero, hcl]; simp [ofs]] at hO
          clear e0 e1 e2 e3 e4 e5 u0 u1 u2 u3 u4 u5 g0 heq hWas hN hH hB hW2 hbo wr hlt hk hq hpass hs1 hs2 hmk
          go_loopw [52] (fun i wr => ∃ k : Nat, k ≤ ns.length ∧ i = .int .i64 k ∧ Below w.heap.size w wr ∧ bo + 1 ≤ wr.heap.size ∧ Row wr w.heap.size has' [] 105 ∧ Row wr bo (laid (claimsF M ns) k) [] 3) (fun i _ => ns.length - (intOf i).toNat)
          case atStart => exact ⟨0, Nat.zero_le _, rfl, hB2, by omega, hH2, hO⟩
          case round =>
            clear hB2 hz hH2 hO
            obtain ⟨k, hk, rfl, hB, hsw2, hH, hO⟩ := hrel
            by_cases hlt : k < ns.length
            · have hHi : Ints wr (.slice (some ⟨w.heap.size, 0, none⟩) 6 6) has' := hH.ints hl6'.symm (by omega) (by omega)
              have hll := laid_len (claimsF M ns) k (by omega)
              have hset := hO.set k (by omega) (idxF (isN ((k : Int) + 1)) has' 0)
              have hcO := hO.cell (k := k) (by omega)
              have hfO := hO.frozen k
              rw [← hiter.out, ← claimsF_nth M ns hlt, laid_set _ _ (by omega), claimsF_nth M ns hlt, hiter.out] at hset
              go_wp2_with (go_at_call 69; (with_reducible refine (Index_calls _ has' _ _ hHi).mono ?_); rintro e w' ⟨rfl, rfl⟩)
              go_roundw
              case rel => exact ⟨k + 1, by omega, by go_num, hB.setCell (p := ⟨bo, k, none⟩) (by show _ ≤ bo; omega) _, by simpa using hsw2, hH.other (by omega) _ _, hset⟩
              case measure => simp [intOf]; omega
            · have hke : k = (claimsF M ns).length := by omega
              rw [laid_end _ _ hke] at hO
              have hfin := hO.ints hcl.symm (by omega) (cap := ns.length) (by omega)
              go_wp2
              go_ret
              exact ⟨_, ⟨_, hB⟩, rfl, rfl, hfin⟩
        · have hde : decide (has = has') = false := by simpa using fun h => he h.symm
          rw [hde] at heq
          have hlt2 := hs2 he
          have hle := hI'.sum_le
          obtain ⟨f', rfl⟩ : ∃ f', f = f' + 1 := ⟨f - 1, by omega⟩
          go_wp2
          go_roundg (f' + 1)
          case rel => exact ⟨f', nx', has', rfl, hI', by omega, hB, by omega, hH, hN, by unfold Hid; rw [hp.out, iterF, hpass, if_neg he]⟩
          case measure => omega
end Go.Proofs.Ytieaibebnkdmhaa
