import Derived.Test.YtdhdpbnlhnodjaaUsdS
/-  Plain law for NameFewer: fewer names, one more meeting, one more covered place. -/
namespace Go.Proofs.Ytdhdpbnlhnodjaa
open Go.RowKit
open Sat (plc setL rightP sidesL)
theorem u16_and (a b : Nat) (ha : a ≤ 65535) (hb : b ≤ 65535) : bits .and .u16 (a : Int) (b : Int) = (a &&& b : Nat) := by
  have hle : a &&& b ≤ a := Nat.and_le_left
  have key : (BitVec.ofInt 16 (a : Int) &&& BitVec.ofInt 16 (b : Int)).toNat = a &&& b := by
    rw [BitVec.toNat_and, BitVec.toNat_ofInt, BitVec.toNat_ofInt]
    congr 1 <;> omega
  show IntKind.u16.wrap ((BitVec.ofInt 16 (a : Int) &&& BitVec.ofInt 16 (b : Int)).toNat : Nat) = _
  rw [key]
  simp only [IntKind.wrap, IntKind.bits, IntKind.signed]
  simp
  omega
theorem some_and {n a b x : Nat} (h : x ∈ someN n (a &&& b)) : x ∈ someN n a := by
  rw [someN_mem] at h ⊢
  refine ⟨h.1, ?_⟩
  have h2 : (a &&& b).testBit x = true := by rw [Nat.testBit_eq_decide_div_mod_eq]; exact decide_eq_true h.2
  rw [Nat.testBit_and, Bool.and_eq_true] at h2
  have h3 := h2.1
  rw [Nat.testBit_eq_decide_div_mod_eq] at h3
  exact of_decide_eq_true h3
section
variable {n : Nat} {mn mx : List (Nat × Nat)} {cn cx N F : List Nat}
theorem rightP_more (hm : ∀ m ∈ mn, m ∈ mx) (hc : ∀ c ∈ cn, c ∈ cx) {ps : List Nat} (h : rightP mx cx ps = true) : rightP mn cn ps = true := by
  rw [rightP, Bool.and_eq_true, List.all_eq_true, List.all_eq_true] at h ⊢
  exact ⟨fun c h1 => h.1 c (hc c h1), fun m h1 => h.2 m (hm m h1)⟩
theorem settL_less (hm : ∀ m ∈ mn, m ∈ mx) (hc : ∀ c ∈ cn, c ∈ cx) (N : List Nat) : (settL n mx cx N).length ≤ (settL n mn cn N).length := by
  rw [settL_len, settL_len, ← List.countP_eq_length_filter, ← List.countP_eq_length_filter]
  exact List.countP_mono_left fun _ _ h => rightP_more hm hc h
theorem lay_more (hS : Shn n mn cn) (hX : Shn n mx cx) (hm : ∀ m ∈ mn, m ∈ mx) (hc : ∀ c ∈ cn, c ∈ cx) : Sat.More hS.lay hX.lay where
  meet p q h := by
    obtain ⟨m, h1, h2⟩ := List.any_eq_true.1 h
    exact List.any_eq_true.2 ⟨m, hm m h1, h2⟩
  cov p h := List.contains_iff_mem.2 (hc p (List.contains_iff_mem.1 h))
theorem len_cntF (hS : Shn n mn cn) (N : List Nat) : (settL n mn cn N).length = Sat.cntF hS.lay N [] := by
  rw [settL_len, Sat.cntF_len]
  congr 1
  exact List.filter_congr fun bs _ => settL_rightP hS _
theorem less_none (hS : Shn n mn cn) (hN : Nms n N) (hF : Nms n F) (hFN : ∀ x ∈ F, x ∈ N) (h : settL n mn cn F = []) : settL n mn cn N = [] := by
  refine Classical.byContradiction fun h1 => ?_
  have h2 : 0 < (settL n mn cn N).length := by cases h3 : settL n mn cn N with
    | nil => exact absurd h3 h1
    | cons a l => simp
  rw [len_cntF hS, ← Sat.can_cnt hN.nodup] at h2
  have h4 := (Sat.can_cnt hF.nodup).1 (h2.fewer hFN)
  rw [← len_cntF hS, h] at h4
  exact absurd h4 (by simp)
theorem chain_more (hS : Shn n mn cn) (hX : Shn n mx cx) (hm : ∀ m ∈ mn, m ∈ mx) (hc : ∀ c ∈ cn, c ∈ cx) (hF : Nms n F) (hN : Nms n N) (hFN : ∀ x ∈ F, x ∈ N) {ch : List Int} (h : chainEI n (mn.map prI) (cn.map fun (c : Nat) => (c : Int)) (natV F) ch = 0) : chainEI n (mx.map prI) (cx.map fun (c : Nat) => (c : Int)) (natV N) ch = 0 := by
  rw [chainEI_nat hS hF] at h
  obtain ⟨l, rfl, h1⟩ := chain_is hF h
  rw [chainEI_nat hX hN]
  exact (chainE_nat hN l).2 (h1.more (lay_more hS hX hm hc) hFN)
theorem Shn.meetMore (hS : Shn n mn cn) {a b : Nat} (ha : a < 2 * n) (hb : b < 2 * n) (hab : a / 2 ≠ b / 2) (hl : mn.length < 40) : Shn n (mn ++ [(a, b)]) cn :=
  ⟨hS.n1, hS.n10, by simp; omega, hS.cl, fun m hm => by
    rcases List.mem_append.1 hm with h | h
    · exact hS.mr m h
    · rw [List.mem_singleton.1 h]; exact ⟨ha, hb⟩, fun m hm => by
    rcases List.mem_append.1 hm with h | h
    · exact hS.ne m h
    · rw [List.mem_singleton.1 h]; exact hab, hS.cr⟩
theorem fewer_facts (hS : Shn n mn cn) (hX : Shn n mx cn) (hN : Nms n N) (hF : Nms n F) (hFN : ∀ x ∈ F, x ∈ N) (hm : ∀ m ∈ mn, m ∈ mx) {c : Nat} (hc : c < 2 * n) (hl : cn.length < 20) {ms xs : List (Int × Int)} {cs : List Int} (hms : ms = mn.map prI) (hxs : xs = mx.map prI) (hcs : cs = cn.map fun (c : Nat) => (c : Int)) :
    ∃ p q r : Nat, cntVI n ms cs (natV N) = p ∧ cntVI n xs cs (natV N) = q ∧ cntVI n ms (cs ++ [(c : Int)]) (natV N) = r ∧ q ≤ p ∧ r ≤ p ∧ p ≤ 1024 ∧
      nameE n ms cs (natV N) = 0 ∧ nameE n xs cs (natV N) = 0 ∧ nameE n ms (cs ++ [(c : Int)]) (natV N) = 0 ∧ setEI n ms cs (natV N) = (if p = 0 then 18 else 0) ∧
      (chnEI n ms cs (natV F) = 5 ∨ (chnEI n ms cs (natV F) = 0 ∧ p = 0 ∧ ∀ ch, chainEI n ms cs (natV F) ch = 0 → chainEI n ms cs (natV N) ch = 0 ∧ chainEI n xs cs (natV F) ch = 0 ∧ chainEI n ms (cs ++ [(c : Int)]) (natV F) ch = 0)) := by
  subst hms hcs hxs
  have hS1 := hS.cover hc hl
  have e1 : (cn.map fun (c : Nat) => (c : Int)) ++ [(c : Int)] = (cn ++ [c]).map fun (c : Nat) => (c : Int) := by simp
  have hmm : ∀ m ∈ mn, m ∈ mn := fun _ h => h
  have hcc : ∀ c ∈ cn, c ∈ cn := fun _ h => h
  have hcp : ∀ d ∈ cn, d ∈ cn ++ [c] := fun d h => by simp [h]
  rw [e1]
  refine ⟨_, _, _, cntVI_nat hS hN, cntVI_nat hX hN, cntVI_nat hS1 hN, settL_less hm hcc N, settL_less hmm hcp N, settL_le hS hN, nameE_nat hS hN, nameE_nat hX hN, nameE_nat hS1 hN, ?_, ?_⟩
  · rw [setEI_nat hS hN, setE]
    by_cases h : settL n mn cn N = []
    · simp [h]
    · simp [h]
  · rw [chnEI_nat hS hF, chnE]
    by_cases h : settL n mn cn F = []
    · refine .inr ⟨by rw [if_pos h], by rw [less_none hS hN hF hFN h]; rfl, fun ch h1 => ⟨chain_more hS hS hmm hcc hF hN hFN h1, chain_more hS hX hm hcc hF hF (fun _ h => h) h1, chain_more hS hS1 hmm hcp hF hF (fun _ h => h) h1⟩⟩
    · exact .inl (by rw [if_neg h])
end
end Go.Proofs.Ytdhdpbnlhnodjaa
