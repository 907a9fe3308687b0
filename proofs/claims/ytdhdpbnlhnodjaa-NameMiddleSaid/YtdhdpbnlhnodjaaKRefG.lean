import Derived.Test.YtdhdpbnlhnodjaaKRefA
/-  The definitions' Set, Count, ChainError: errors of names; settings. -/
namespace Go.Proofs.Ytdhdpbnlhnodjaa
open Go.RowKit
open Sat (plc setL bitsL rightP)

theorem nameE_nat {n : Nat} {mn : List (Nat × Nat)} {cn N : List Nat} (hS : Shn n mn cn) (hN : Nms n N) : nameE n (mn.map prI) (cn.map fun (c : Nat) => (c : Int)) (N.map fun (k : Nat) => (k : Int)) = 0 := by
  rw [nameE, if_neg (by rw [hS.v]; simp), if_pos hN.b]
theorem nameE_zero {n : Int} {ms : List (Int × Int)} {cs xs : List Int} (h : nameE n ms cs xs = 0) :
    ∃ (k : Nat) (mn : List (Nat × Nat)) (cn N : List Nat), n = k ∧ ms = mn.map prI ∧ cs = cn.map (fun (c : Nat) => (c : Int)) ∧ xs = N.map (fun (c : Nat) => (c : Int)) ∧ Shn k mn cn ∧ Nms k N := by
  rw [nameE] at h
  split at h
  · rename_i h1; exact absurd h h1
  · rename_i h1
    obtain ⟨k, mn, cn, rfl, rfl, rfl, hS⟩ := vsheet_nat (show vsheet n ms cs = 0 by simpa using h1)
    split at h
    · rename_i h2
      obtain ⟨N, rfl, hN⟩ := namesB_nat h2
      exact ⟨k, mn, cn, N, rfl, rfl, rfl, rfl, hS, hN⟩
    · cases h
/-- the error of Chain, of Set, where names are right -/
def chnE (ss : List (List Int)) : Int := if ss = [] then 0 else 5
def setE (ss : List (List Int)) : Int := if ss = [] then 18 else 0
theorem chnE_nil : chnE [] = 0 := rfl
theorem chnE_ne {ss : List (List Int)} (h : ss ≠ []) : chnE ss = 5 := if_neg h
theorem setE_nil : setE [] = 18 := rfl
theorem setE_ne {ss : List (List Int)} (h : ss ≠ []) : setE ss = 0 := if_neg h
set_option maxRecDepth 100000 in
set_option maxHeartbeats 4000000 in
theorem refSet_bad (n : Int) (mv cv nv : Value) (ms : List (Int × Int)) (cs xs : List Int) (W : World) (hs : Sht W mv cv ms cs) (hx : Ints W nv xs) (hv : nameE n ms cs xs ≠ 0) :
    Calls Try.prog 23 #[.agg #[.int .i64 n, mv, cv], nv] W (Gives (.tuple #[.slice none 0 0, .int .i64 (nameE n ms cs xs)]) W) := by
  have hvb : (nameE n ms cs xs != 0) = true := by simpa using hv
  clear hv
  obtain ⟨am, lm, cm, rfl⟩ : ∃ a n c, mv = .slice a n c := by obtain ⟨a, c, e⟩ := hs.m.form; exact ⟨a, _, c, e⟩
  obtain ⟨ac, lc, cc, rfl⟩ : ∃ a n c, cv = .slice a n c := by obtain ⟨a, c, e⟩ := hs.c.form; exact ⟨a, _, c, e⟩
  have HLM := Lib.hid (show lm = ms.length by obtain ⟨a, c, e⟩ := hs.m.form; cases e; rfl)
  have HLC := Lib.hid (show lc = cs.length by obtain ⟨a, c, e⟩ := hs.c.form; cases e; rfl)
  have hxl := hx.1
  obtain ⟨ax, lx, cx, rfl⟩ : ∃ a n c, nv = .slice a n c := by obtain ⟨a, c, e⟩ := hx.form; exact ⟨a, _, c, e⟩
  go_enter Try.func23, Try.ntmps23
  go_wp2_with fail
  obtain ⟨B, hB⟩ : ∃ B, B = W.heap.size := ⟨_, rfl⟩
  obtain ⟨z, hz⟩ : ∃ z : Later W, z.w = W.alloc (.cells #[.int .i64 n, .slice am lm cm, .slice ac lc cc] 25) := ⟨Later.new _ _, rfl⟩
  have c0 : z.w.cell? ⟨B, 0, none⟩ = some (.int .i64 n) := by rw [hz, hB]; simp [go_sem]
  have c1 : z.w.cell? ⟨B, 1, none⟩ = some (.slice am lm cm) := by rw [hz, hB]; simp [go_sem]
  have c2 : z.w.cell? ⟨B, 2, none⟩ = some (.slice ac lc cc) := by rw [hz, hB]; simp [go_sem]
  have hBz : B < z.w.heap.size := by rw [hz, hB]; simp [go_sem]
  rw [← hz, ← hB]
  replace hs := hs.later z
  replace hx := hx.later z
  clear hz hB
  refine (Named_calls n _ _ _ ms cs xs _ hs hx).mono ?_
  rintro e w' ⟨rfl, x, rfl⟩
  have g0 : x.w.cell? ⟨B, 0, none⟩ = some (.int .i64 n) := ((x).cell hBz).trans c0
  have g1 : x.w.cell? ⟨B, 1, none⟩ = some (.slice am lm cm) := ((x).cell hBz).trans c1
  have g2 : x.w.cell? ⟨B, 2, none⟩ = some (.slice ac lc cc) := ((x).cell hBz).trans c2
  have gB : B < x.w.heap.size := Nat.lt_of_lt_of_le hBz (x).size
  go_wp2_with fail
  refine (Named_calls n _ _ _ ms cs xs _ (hs.later x) (hx.later x)).mono ?_
  rintro e w' ⟨rfl, y, rfl⟩
  go_wp2
  go_ret2
  exact ⟨rfl, (z.step x).step y, rfl⟩

set_option maxRecDepth 100000 in
set_option maxHeartbeats 4000000 in
theorem refCount_bad (n : Int) (mv cv nv : Value) (ms : List (Int × Int)) (cs xs : List Int) (W : World) (hs : Sht W mv cv ms cs) (hx : Ints W nv xs) (hv : nameE n ms cs xs ≠ 0) :
    Calls Try.prog 25 #[.agg #[.int .i64 n, mv, cv], nv] W (Gives (.tuple #[.int .i64 0, .int .i64 (nameE n ms cs xs)]) W) := by
  have hvb : (nameE n ms cs xs != 0) = true := by simpa using hv
  clear hv
  obtain ⟨am, lm, cm, rfl⟩ : ∃ a n c, mv = .slice a n c := by obtain ⟨a, c, e⟩ := hs.m.form; exact ⟨a, _, c, e⟩
  obtain ⟨ac, lc, cc, rfl⟩ : ∃ a n c, cv = .slice a n c := by obtain ⟨a, c, e⟩ := hs.c.form; exact ⟨a, _, c, e⟩
  have HLM := Lib.hid (show lm = ms.length by obtain ⟨a, c, e⟩ := hs.m.form; cases e; rfl)
  have HLC := Lib.hid (show lc = cs.length by obtain ⟨a, c, e⟩ := hs.c.form; cases e; rfl)
  have hxl := hx.1
  obtain ⟨ax, lx, cx, rfl⟩ : ∃ a n c, nv = .slice a n c := by obtain ⟨a, c, e⟩ := hx.form; exact ⟨a, _, c, e⟩
  go_enter Try.func25, Try.ntmps25
  go_wp2_with fail
  obtain ⟨B, hB⟩ : ∃ B, B = W.heap.size := ⟨_, rfl⟩
  obtain ⟨z, hz⟩ : ∃ z : Later W, z.w = W.alloc (.cells #[.int .i64 n, .slice am lm cm, .slice ac lc cc] 25) := ⟨Later.new _ _, rfl⟩
  have c0 : z.w.cell? ⟨B, 0, none⟩ = some (.int .i64 n) := by rw [hz, hB]; simp [go_sem]
  have c1 : z.w.cell? ⟨B, 1, none⟩ = some (.slice am lm cm) := by rw [hz, hB]; simp [go_sem]
  have c2 : z.w.cell? ⟨B, 2, none⟩ = some (.slice ac lc cc) := by rw [hz, hB]; simp [go_sem]
  have hBz : B < z.w.heap.size := by rw [hz, hB]; simp [go_sem]
  rw [← hz, ← hB]
  replace hs := hs.later z
  replace hx := hx.later z
  clear hz hB
  refine (Named_calls n _ _ _ ms cs xs _ hs hx).mono ?_
  rintro e w' ⟨rfl, x, rfl⟩
  have g0 : x.w.cell? ⟨B, 0, none⟩ = some (.int .i64 n) := ((x).cell hBz).trans c0
  have g1 : x.w.cell? ⟨B, 1, none⟩ = some (.slice am lm cm) := ((x).cell hBz).trans c1
  have g2 : x.w.cell? ⟨B, 2, none⟩ = some (.slice ac lc cc) := ((x).cell hBz).trans c2
  have gB : B < x.w.heap.size := Nat.lt_of_lt_of_le hBz (x).size
  go_wp2_with fail
  refine (Named_calls n _ _ _ ms cs xs _ (hs.later x) (hx.later x)).mono ?_
  rintro e w' ⟨rfl, y, rfl⟩
  go_wp2
  go_ret2
  exact ⟨rfl, (z.step x).step y, rfl⟩

set_option maxRecDepth 100000 in
set_option maxHeartbeats 4000000 in
theorem refKind_bad (n : Int) (mv cv nv : Value) (p : Int) (ms : List (Int × Int)) (cs xs : List Int) (W : World) (hs : Sht W mv cv ms cs) (hx : Ints W nv xs) (hv : nameE n ms cs xs ≠ 0) :
    Calls Try.prog 28 #[.agg #[.int .i64 n, mv, cv], nv, .int .i64 p] W (Gives (.tuple #[.int .i64 0, .int .i64 (nameE n ms cs xs)]) W) := by
  have hvb : (nameE n ms cs xs != 0) = true := by simpa using hv
  clear hv
  obtain ⟨am, lm, cm, rfl⟩ : ∃ a n c, mv = .slice a n c := by obtain ⟨a, c, e⟩ := hs.m.form; exact ⟨a, _, c, e⟩
  obtain ⟨ac, lc, cc, rfl⟩ : ∃ a n c, cv = .slice a n c := by obtain ⟨a, c, e⟩ := hs.c.form; exact ⟨a, _, c, e⟩
  have HLM := Lib.hid (show lm = ms.length by obtain ⟨a, c, e⟩ := hs.m.form; cases e; rfl)
  have HLC := Lib.hid (show lc = cs.length by obtain ⟨a, c, e⟩ := hs.c.form; cases e; rfl)
  have hxl := hx.1
  obtain ⟨ax, lx, cx, rfl⟩ : ∃ a n c, nv = .slice a n c := by obtain ⟨a, c, e⟩ := hx.form; exact ⟨a, _, c, e⟩
  go_enter Try.func28, Try.ntmps28
  go_wp2_with fail
  obtain ⟨B, hB⟩ : ∃ B, B = W.heap.size := ⟨_, rfl⟩
  obtain ⟨z, hz⟩ : ∃ z : Later W, z.w = W.alloc (.cells #[.int .i64 n, .slice am lm cm, .slice ac lc cc] 25) := ⟨Later.new _ _, rfl⟩
  have c0 : z.w.cell? ⟨B, 0, none⟩ = some (.int .i64 n) := by rw [hz, hB]; simp [go_sem]
  have c1 : z.w.cell? ⟨B, 1, none⟩ = some (.slice am lm cm) := by rw [hz, hB]; simp [go_sem]
  have c2 : z.w.cell? ⟨B, 2, none⟩ = some (.slice ac lc cc) := by rw [hz, hB]; simp [go_sem]
  have hBz : B < z.w.heap.size := by rw [hz, hB]; simp [go_sem]
  rw [← hz, ← hB]
  replace hs := hs.later z
  replace hx := hx.later z
  clear hz hB
  refine (Named_calls n _ _ _ ms cs xs _ hs hx).mono ?_
  rintro e w' ⟨rfl, x, rfl⟩
  have g0 : x.w.cell? ⟨B, 0, none⟩ = some (.int .i64 n) := ((x).cell hBz).trans c0
  have g1 : x.w.cell? ⟨B, 1, none⟩ = some (.slice am lm cm) := ((x).cell hBz).trans c1
  have g2 : x.w.cell? ⟨B, 2, none⟩ = some (.slice ac lc cc) := ((x).cell hBz).trans c2
  have gB : B < x.w.heap.size := Nat.lt_of_lt_of_le hBz (x).size
  go_wp2_with fail
  refine (Named_calls n _ _ _ ms cs xs _ (hs.later x) (hx.later x)).mono ?_
  rintro e w' ⟨rfl, y, rfl⟩
  go_wp2
  go_ret2
  exact ⟨rfl, (z.step x).step y, rfl⟩

set_option maxRecDepth 100000 in
set_option maxHeartbeats 4000000 in
theorem ChainError_bad (n : Int) (mv cv nv : Value) (ms : List (Int × Int)) (cs xs : List Int) (W : World) (hs : Sht W mv cv ms cs) (hx : Ints W nv xs) (hv : nameE n ms cs xs ≠ 0) :
    Calls Try.prog 30 #[.agg #[.int .i64 n, mv, cv], nv] W (Gives (.int .i64 (nameE n ms cs xs)) W) := by
  have hvb : (nameE n ms cs xs != 0) = true := by simpa using hv
  clear hv
  obtain ⟨am, lm, cm, rfl⟩ : ∃ a n c, mv = .slice a n c := by obtain ⟨a, c, e⟩ := hs.m.form; exact ⟨a, _, c, e⟩
  obtain ⟨ac, lc, cc, rfl⟩ : ∃ a n c, cv = .slice a n c := by obtain ⟨a, c, e⟩ := hs.c.form; exact ⟨a, _, c, e⟩
  have HLM := Lib.hid (show lm = ms.length by obtain ⟨a, c, e⟩ := hs.m.form; cases e; rfl)
  have HLC := Lib.hid (show lc = cs.length by obtain ⟨a, c, e⟩ := hs.c.form; cases e; rfl)
  have hxl := hx.1
  obtain ⟨ax, lx, cx, rfl⟩ : ∃ a n c, nv = .slice a n c := by obtain ⟨a, c, e⟩ := hx.form; exact ⟨a, _, c, e⟩
  go_enter Try.func30, Try.ntmps30
  go_wp2_with fail
  obtain ⟨B, hB⟩ : ∃ B, B = W.heap.size := ⟨_, rfl⟩
  obtain ⟨z, hz⟩ : ∃ z : Later W, z.w = W.alloc (.cells #[.int .i64 n, .slice am lm cm, .slice ac lc cc] 25) := ⟨Later.new _ _, rfl⟩
  have c0 : z.w.cell? ⟨B, 0, none⟩ = some (.int .i64 n) := by rw [hz, hB]; simp [go_sem]
  have c1 : z.w.cell? ⟨B, 1, none⟩ = some (.slice am lm cm) := by rw [hz, hB]; simp [go_sem]
  have c2 : z.w.cell? ⟨B, 2, none⟩ = some (.slice ac lc cc) := by rw [hz, hB]; simp [go_sem]
  have hBz : B < z.w.heap.size := by rw [hz, hB]; simp [go_sem]
  rw [← hz, ← hB]
  replace hs := hs.later z
  replace hx := hx.later z
  clear hz hB
  refine (Named_calls n _ _ _ ms cs xs _ hs hx).mono ?_
  rintro e w' ⟨rfl, x, rfl⟩
  have g0 : x.w.cell? ⟨B, 0, none⟩ = some (.int .i64 n) := ((x).cell hBz).trans c0
  have g1 : x.w.cell? ⟨B, 1, none⟩ = some (.slice am lm cm) := ((x).cell hBz).trans c1
  have g2 : x.w.cell? ⟨B, 2, none⟩ = some (.slice ac lc cc) := ((x).cell hBz).trans c2
  have gB : B < x.w.heap.size := Nat.lt_of_lt_of_le hBz (x).size
  go_wp2_with fail
  refine (Named_calls n _ _ _ ms cs xs _ (hs.later x) (hx.later x)).mono ?_
  rintro e w' ⟨rfl, y, rfl⟩
  go_wp2
  go_ret
  exact ⟨rfl, (z.step x).step y, rfl⟩

set_option maxRecDepth 100000 in
set_option maxHeartbeats 4000000 in
theorem refCount_calls (n : Nat) (mv cv nv : Value) (mn : List (Nat × Nat)) (cn N : List Nat) (hS : Shn n mn cn) (hN : Nms n N) (W : World) (hs : Sht W mv cv (mn.map prI) (cn.map fun (c : Nat) => (c : Int))) (hx : Ints W nv (N.map fun (k : Nat) => (k : Int))) :
    Calls Try.prog 25 #[.agg #[.int .i64 n, mv, cv], nv] W (Gives (.tuple #[.int .i64 ((settL n mn cn N).length : Nat), .int .i64 0]) W) := by
  have HVS := Lib.hid (nameE_nat hS hN)
  have HT := Lib.hid (fun (W : World) (mv cv nv : Value) hs hx => Settings_calls n mv cv nv mn cn N hS hN W hs hx)
  have hlen : (settL n mn cn N).length ≤ 1024 := by
    rw [← outF_all]
    exact Nat.le_trans (outF_len _ _ _ _ _) (Nat.pow_le_pow_right (n := 2) (by decide) (Nat.le_trans hN.len hS.n10))
  obtain ⟨ms, hms⟩ : ∃ ms, mn.map prI = ms := ⟨_, rfl⟩
  obtain ⟨cs, hcs⟩ : ∃ cs, (cn.map fun (c : Nat) => (c : Int)) = cs := ⟨_, rfl⟩
  obtain ⟨xs, hxs⟩ : ∃ xs, (N.map fun (k : Nat) => (k : Int)) = xs := ⟨_, rfl⟩
  rw [hms, hcs] at hs HVS HT
  rw [hxs] at hx HVS HT
  obtain ⟨ss, hss⟩ : ∃ ss, settL n mn cn N = ss := ⟨_, rfl⟩
  rw [hss] at HT hlen ⊢
  have HMS := Lib.hid hms
  have HCS := Lib.hid hcs
  have HXS := Lib.hid hxs
  have HSS := Lib.hid hss
  clear hms hcs hxs hss
  obtain ⟨am, lm, cm, rfl⟩ : ∃ a n c, mv = .slice a n c := by obtain ⟨a, c, e⟩ := hs.m.form; exact ⟨a, _, c, e⟩
  obtain ⟨ac, lc, cc, rfl⟩ : ∃ a n c, cv = .slice a n c := by obtain ⟨a, c, e⟩ := hs.c.form; exact ⟨a, _, c, e⟩
  have HLM := Lib.hid (show lm = ms.length by obtain ⟨a, c, e⟩ := hs.m.form; cases e; rfl)
  have HLC := Lib.hid (show lc = cs.length by obtain ⟨a, c, e⟩ := hs.c.form; cases e; rfl)
  have hxl := hx.1
  obtain ⟨ax, lx, cx, rfl⟩ : ∃ a n c, nv = .slice a n c := by obtain ⟨a, c, e⟩ := hx.form; exact ⟨a, _, c, e⟩
  go_enter Try.func25, Try.ntmps25
  go_wp2_with fail
  obtain ⟨B, hB⟩ : ∃ B, B = W.heap.size := ⟨_, rfl⟩
  obtain ⟨z, hz⟩ : ∃ z : Later W, z.w = W.alloc (.cells #[.int .i64 n, .slice am lm cm, .slice ac lc cc] 25) := ⟨Later.new _ _, rfl⟩
  have c0 : z.w.cell? ⟨B, 0, none⟩ = some (.int .i64 n) := by rw [hz, hB]; simp [go_sem]
  have c1 : z.w.cell? ⟨B, 1, none⟩ = some (.slice am lm cm) := by rw [hz, hB]; simp [go_sem]
  have c2 : z.w.cell? ⟨B, 2, none⟩ = some (.slice ac lc cc) := by rw [hz, hB]; simp [go_sem]
  have hBz : B < z.w.heap.size := by rw [hz, hB]; simp [go_sem]
  rw [← hz, ← hB]
  replace hs := hs.later z
  replace hx := hx.later z
  clear hz hB
  refine (Named_calls n _ _ _ ms cs xs _ hs hx).mono ?_
  rintro e w' ⟨rfl, x, rfl⟩
  have g0 : x.w.cell? ⟨B, 0, none⟩ = some (.int .i64 n) := ((x).cell hBz).trans c0
  have g1 : x.w.cell? ⟨B, 1, none⟩ = some (.slice am lm cm) := ((x).cell hBz).trans c1
  have g2 : x.w.cell? ⟨B, 2, none⟩ = some (.slice ac lc cc) := ((x).cell hBz).trans c2
  have gB : B < x.w.heap.size := Nat.lt_of_lt_of_le hBz (x).size
  rw [HVS.out]
  go_wp2_with fail
  refine (HT.out _ _ _ _ (hs.later x) (hx.later x)).mono ?_
  rintro e w' ⟨av, y, rfl, rfl, hA⟩
  obtain ⟨aa, la, ca, rfl⟩ : ∃ a n c, av = .slice a n c := by obtain ⟨a, c, e⟩ := hA.form; exact ⟨a, _, c, e⟩
  have HLA := Lib.hid (show la = ss.length by obtain ⟨a, c, e⟩ := hA.form; cases e; rfl)
  have hla : la ≤ 1024 := by rw [HLA.out]; exact hlen
  clear g0 g1 g2 gB
  go_wp2
  go_ret2
  exact ⟨ret_ints (by rw [HLA.out]) rfl, (z.step x).step y, rfl⟩

set_option maxRecDepth 100000 in
set_option maxHeartbeats 4000000 in
theorem ChainError_calls (n : Nat) (mv cv nv : Value) (mn : List (Nat × Nat)) (cn N : List Nat) (hS : Shn n mn cn) (hN : Nms n N) (W : World) (hs : Sht W mv cv (mn.map prI) (cn.map fun (c : Nat) => (c : Int))) (hx : Ints W nv (N.map fun (k : Nat) => (k : Int))) :
    Calls Try.prog 30 #[.agg #[.int .i64 n, mv, cv], nv] W (Gives (.int .i64 (chnE (settL n mn cn N))) W) := by
  have HVS := Lib.hid (nameE_nat hS hN)
  have HT := Lib.hid (fun (W : World) (mv cv nv : Value) hs hx => Settings_calls n mv cv nv mn cn N hS hN W hs hx)
  have hlen : (settL n mn cn N).length ≤ 1024 := by
    rw [← outF_all]
    exact Nat.le_trans (outF_len _ _ _ _ _) (Nat.pow_le_pow_right (n := 2) (by decide) (Nat.le_trans hN.len hS.n10))
  obtain ⟨ms, hms⟩ : ∃ ms, mn.map prI = ms := ⟨_, rfl⟩
  obtain ⟨cs, hcs⟩ : ∃ cs, (cn.map fun (c : Nat) => (c : Int)) = cs := ⟨_, rfl⟩
  obtain ⟨xs, hxs⟩ : ∃ xs, (N.map fun (k : Nat) => (k : Int)) = xs := ⟨_, rfl⟩
  rw [hms, hcs] at hs HVS HT
  rw [hxs] at hx HVS HT
  obtain ⟨ss, hss⟩ : ∃ ss, settL n mn cn N = ss := ⟨_, rfl⟩
  rw [hss] at HT hlen ⊢
  have HMS := Lib.hid hms
  have HCS := Lib.hid hcs
  have HXS := Lib.hid hxs
  have HSS := Lib.hid hss
  clear hms hcs hxs hss
  obtain ⟨am, lm, cm, rfl⟩ : ∃ a n c, mv = .slice a n c := by obtain ⟨a, c, e⟩ := hs.m.form; exact ⟨a, _, c, e⟩
  obtain ⟨ac, lc, cc, rfl⟩ : ∃ a n c, cv = .slice a n c := by obtain ⟨a, c, e⟩ := hs.c.form; exact ⟨a, _, c, e⟩
  have HLM := Lib.hid (show lm = ms.length by obtain ⟨a, c, e⟩ := hs.m.form; cases e; rfl)
  have HLC := Lib.hid (show lc = cs.length by obtain ⟨a, c, e⟩ := hs.c.form; cases e; rfl)
  have hxl := hx.1
  obtain ⟨ax, lx, cx, rfl⟩ : ∃ a n c, nv = .slice a n c := by obtain ⟨a, c, e⟩ := hx.form; exact ⟨a, _, c, e⟩
  go_enter Try.func30, Try.ntmps30
  go_wp2_with fail
  obtain ⟨B, hB⟩ : ∃ B, B = W.heap.size := ⟨_, rfl⟩
  obtain ⟨z, hz⟩ : ∃ z : Later W, z.w = W.alloc (.cells #[.int .i64 n, .slice am lm cm, .slice ac lc cc] 25) := ⟨Later.new _ _, rfl⟩
  have c0 : z.w.cell? ⟨B, 0, none⟩ = some (.int .i64 n) := by rw [hz, hB]; simp [go_sem]
  have c1 : z.w.cell? ⟨B, 1, none⟩ = some (.slice am lm cm) := by rw [hz, hB]; simp [go_sem]
  have c2 : z.w.cell? ⟨B, 2, none⟩ = some (.slice ac lc cc) := by rw [hz, hB]; simp [go_sem]
  have hBz : B < z.w.heap.size := by rw [hz, hB]; simp [go_sem]
  rw [← hz, ← hB]
  replace hs := hs.later z
  replace hx := hx.later z
  clear hz hB
  refine (Named_calls n _ _ _ ms cs xs _ hs hx).mono ?_
  rintro e w' ⟨rfl, x, rfl⟩
  have g0 : x.w.cell? ⟨B, 0, none⟩ = some (.int .i64 n) := ((x).cell hBz).trans c0
  have g1 : x.w.cell? ⟨B, 1, none⟩ = some (.slice am lm cm) := ((x).cell hBz).trans c1
  have g2 : x.w.cell? ⟨B, 2, none⟩ = some (.slice ac lc cc) := ((x).cell hBz).trans c2
  have gB : B < x.w.heap.size := Nat.lt_of_lt_of_le hBz (x).size
  rw [HVS.out]
  go_wp2_with fail
  refine (HT.out _ _ _ _ (hs.later x) (hx.later x)).mono ?_
  rintro e w' ⟨av, y, rfl, rfl, hA⟩
  obtain ⟨aa, la, ca, rfl⟩ : ∃ a n c, av = .slice a n c := by obtain ⟨a, c, e⟩ := hA.form; exact ⟨a, _, c, e⟩
  have HLA := Lib.hid (show la = ss.length by obtain ⟨a, c, e⟩ := hA.form; cases e; rfl)
  have hla : la ≤ 1024 := by rw [HLA.out]; exact hlen
  clear g0 g1 g2 gB
  by_cases h0 : la = 0
  · have HE := Lib.hid (show ss = [] from List.eq_nil_of_length_eq_zero (by rw [← HLA.out]; exact h0))
    go_wp2
    go_ret
    exact ⟨ret_int (by rw [HE.out, chnE_nil]), (z.step x).step y, rfl⟩
  · have HE := Lib.hid (show ss ≠ [] from fun e => h0 (by rw [HLA.out, e]; rfl))
    go_wp2
    go_ret
    exact ⟨ret_int ((chnE_ne HE.out).symm), (z.step x).step y, rfl⟩

set_option maxRecDepth 100000 in
set_option maxHeartbeats 4000000 in
theorem refSet_calls (n : Nat) (mv cv nv : Value) (mn : List (Nat × Nat)) (cn N : List Nat) (hS : Shn n mn cn) (hN : Nms n N) (W : World) (hs : Sht W mv cv (mn.map prI) (cn.map fun (c : Nat) => (c : Int))) (hx : Ints W nv (N.map fun (k : Nat) => (k : Int))) :
    Calls Try.prog 23 #[.agg #[.int .i64 n, mv, cv], nv] W (fun e w' => ∃ v, ∃ x : Later W, e = .returned (.tuple #[v, .int .i64 (setE (settL n mn cn N))]) ∧ w' = x.w ∧ Ints x.w v ((settL n mn cn N).headD [])) := by
  have HVS := Lib.hid (nameE_nat hS hN)
  have HT := Lib.hid (fun (W : World) (mv cv nv : Value) hs hx => Settings_calls n mv cv nv mn cn N hS hN W hs hx)
  have hlen : (settL n mn cn N).length ≤ 1024 := by
    rw [← outF_all]
    exact Nat.le_trans (outF_len _ _ _ _ _) (Nat.pow_le_pow_right (n := 2) (by decide) (Nat.le_trans hN.len hS.n10))
  obtain ⟨ms, hms⟩ : ∃ ms, mn.map prI = ms := ⟨_, rfl⟩
  obtain ⟨cs, hcs⟩ : ∃ cs, (cn.map fun (c : Nat) => (c : Int)) = cs := ⟨_, rfl⟩
  obtain ⟨xs, hxs⟩ : ∃ xs, (N.map fun (k : Nat) => (k : Int)) = xs := ⟨_, rfl⟩
  rw [hms, hcs] at hs HVS HT
  rw [hxs] at hx HVS HT
  obtain ⟨ss, hss⟩ : ∃ ss, settL n mn cn N = ss := ⟨_, rfl⟩
  rw [hss] at HT hlen ⊢
  have HMS := Lib.hid hms
  have HCS := Lib.hid hcs
  have HXS := Lib.hid hxs
  have HSS := Lib.hid hss
  clear hms hcs hxs hss
  obtain ⟨am, lm, cm, rfl⟩ : ∃ a n c, mv = .slice a n c := by obtain ⟨a, c, e⟩ := hs.m.form; exact ⟨a, _, c, e⟩
  obtain ⟨ac, lc, cc, rfl⟩ : ∃ a n c, cv = .slice a n c := by obtain ⟨a, c, e⟩ := hs.c.form; exact ⟨a, _, c, e⟩
  have HLM := Lib.hid (show lm = ms.length by obtain ⟨a, c, e⟩ := hs.m.form; cases e; rfl)
  have HLC := Lib.hid (show lc = cs.length by obtain ⟨a, c, e⟩ := hs.c.form; cases e; rfl)
  have hxl := hx.1
  obtain ⟨ax, lx, cx, rfl⟩ : ∃ a n c, nv = .slice a n c := by obtain ⟨a, c, e⟩ := hx.form; exact ⟨a, _, c, e⟩
  go_enter Try.func23, Try.ntmps23
  go_wp2_with fail
  obtain ⟨B, hB⟩ : ∃ B, B = W.heap.size := ⟨_, rfl⟩
  obtain ⟨z, hz⟩ : ∃ z : Later W, z.w = W.alloc (.cells #[.int .i64 n, .slice am lm cm, .slice ac lc cc] 25) := ⟨Later.new _ _, rfl⟩
  have c0 : z.w.cell? ⟨B, 0, none⟩ = some (.int .i64 n) := by rw [hz, hB]; simp [go_sem]
  have c1 : z.w.cell? ⟨B, 1, none⟩ = some (.slice am lm cm) := by rw [hz, hB]; simp [go_sem]
  have c2 : z.w.cell? ⟨B, 2, none⟩ = some (.slice ac lc cc) := by rw [hz, hB]; simp [go_sem]
  have hBz : B < z.w.heap.size := by rw [hz, hB]; simp [go_sem]
  rw [← hz, ← hB]
  replace hs := hs.later z
  replace hx := hx.later z
  clear hz hB
  refine (Named_calls n _ _ _ ms cs xs _ hs hx).mono ?_
  rintro e w' ⟨rfl, x, rfl⟩
  have g0 : x.w.cell? ⟨B, 0, none⟩ = some (.int .i64 n) := ((x).cell hBz).trans c0
  have g1 : x.w.cell? ⟨B, 1, none⟩ = some (.slice am lm cm) := ((x).cell hBz).trans c1
  have g2 : x.w.cell? ⟨B, 2, none⟩ = some (.slice ac lc cc) := ((x).cell hBz).trans c2
  have gB : B < x.w.heap.size := Nat.lt_of_lt_of_le hBz (x).size
  rw [HVS.out]
  go_wp2_with fail
  refine (HT.out _ _ _ _ (hs.later x) (hx.later x)).mono ?_
  rintro e w' ⟨av, y, rfl, rfl, hA⟩
  obtain ⟨aa, la, ca, rfl⟩ : ∃ a n c, av = .slice a n c := by obtain ⟨a, c, e⟩ := hA.form; exact ⟨a, _, c, e⟩
  have HLA := Lib.hid (show la = ss.length by obtain ⟨a, c, e⟩ := hA.form; cases e; rfl)
  have hla : la ≤ 1024 := by rw [HLA.out]; exact hlen
  clear g0 g1 g2 gB
  by_cases h0 : la = 0
  · have HE := Lib.hid (show ss = [] from List.eq_nil_of_length_eq_zero (by rw [← HLA.out]; exact h0))
    go_wp2
    go_ret2
    exact ⟨_, (z.step x).step y, ret_err (by rw [HE.out, setE_nil]), rfl, by rw [HE.out]; exact Ints.nil _ _⟩
  · have HE := Lib.hid (show ss ≠ [] from fun e => h0 (by rw [HLA.out, e]; rfl))
    obtain ⟨b, o, c, f, e, _, hb, hc⟩ := hA.at (k := 0) (by rw [← HLA.out]; omega)
    cases e
    obtain ⟨m1, hrow⟩ := hc 0 (by omega)
    obtain ⟨ar, cr, efr⟩ := hrow.form
    rw [efr] at m1 hrow
    rw [Nat.add_zero] at m1
    clear hc efr
    go_wp2
    go_ret2
    refine ⟨_, (z.step x).step y, ret_err ((setE_ne HE.out).symm), rfl, ?_⟩
    rw [show ss.headD [] = row ss 0 by cases hq : ss with | nil => exact absurd hq HE.out | cons a l => rfl]
    exact hrow

end Go.Proofs.Ytdhdpbnlhnodjaa

/-  The definitions' Kind. -/
namespace Go.Proofs.Ytdhdpbnlhnodjaa
open Go.RowKit
open Sat (plc setL bitsL rightP)

/-- Kind: how many settings use a place; the answer -/
def cntK (ss : List (List Int)) (p : Int) : Nat := (ss.filter fun st => sideB st p).length
def kindV (c l : Nat) : Int := if c = l then 2 else if c = 0 then 0 else 1
def cntV (ss : List (List Int)) (p : Int) : Int := if ss = [] then 0 else kindV (cntK ss p) ss.length
def kindB (n : Int) (xs : List Int) (p : Int) : Bool := isPl n p && hasB xs (p / 2)
def kindE (n : Int) (xs : List Int) (p : Int) (ss : List (List Int)) : Int := if kindB n xs p = true then setE ss else 3
def kindN (n : Int) (xs : List Int) (p : Int) (ss : List (List Int)) : Int := if kindB n xs p = true then cntV ss p else 0
theorem cntK_snoc (ss : List (List Int)) (p : Int) (k : Nat) (hk : k < ss.length) : cntK (ss.take (k + 1)) p = cntK (ss.take k) p + if sideB (row ss k) p = true then 1 else 0 := by
  rw [cntK, List.take_succ_eq_append_getElem hk, List.filter_append, List.length_append, ← cntK, row_eq hk]
  congr 1
  cases h : sideB ss[k] p
  · rw [List.filter_cons_of_neg (by simp [h])]; rfl
  · rw [List.filter_cons_of_pos (by simp [h])]; rfl
theorem settL_row {n : Nat} {mn : List (Nat × Nat)} {cn N : List Nat} {k : Nat} (hk : k < (settL n mn cn N).length) : (row (settL n mn cn N) k).length = n := by
  rw [row_eq hk]
  have h := List.getElem_mem hk
  obtain ⟨bs, _, e⟩ := List.mem_map.1 (show _ ∈ ((Sat.sidesL N.length).filter fun bs => rightP mn cn (plc N bs)).map fun bs => setL n (plc N bs) from h)
  rw [← e, Sat.setL_len]
set_option maxRecDepth 100000 in
set_option maxHeartbeats 4000000 in
theorem refKind_calls (n : Nat) (mv cv nv : Value) (p : Int) (mn : List (Nat × Nat)) (cn N : List Nat) (hS : Shn n mn cn) (hN : Nms n N) (W : World) (hs : Sht W mv cv (mn.map prI) (cn.map fun (c : Nat) => (c : Int))) (hx : Ints W nv (N.map fun (k : Nat) => (k : Int))) :
    Calls Try.prog 28 #[.agg #[.int .i64 n, mv, cv], nv, .int .i64 p] W (Gives (.tuple #[.int .i64 (kindN n (N.map fun (k : Nat) => (k : Int)) p (settL n mn cn N)), .int .i64 (kindE n (N.map fun (k : Nat) => (k : Int)) p (settL n mn cn N))]) W) := by
  have HVS := Lib.hid (nameE_nat hS hN)
  have HT := Lib.hid (fun (W : World) (mv cv nv : Value) hs hx => Settings_calls n mv cv nv mn cn N hS hN W hs hx)
  have hlen : (settL n mn cn N).length ≤ 1024 := by
    rw [← outF_all]
    exact Nat.le_trans (outF_len _ _ _ _ _) (Nat.pow_le_pow_right (n := 2) (by decide) (Nat.le_trans hN.len hS.n10))
  have HROW := Lib.hid (fun k (hk : k < (settL n mn cn N).length) => settL_row hk)
  have h10 := hS.n10
  have h1 := hS.n1
  obtain ⟨ms, hms⟩ : ∃ ms, mn.map prI = ms := ⟨_, rfl⟩
  obtain ⟨cs, hcs⟩ : ∃ cs, (cn.map fun (c : Nat) => (c : Int)) = cs := ⟨_, rfl⟩
  obtain ⟨xs, hxs⟩ : ∃ xs, (N.map fun (k : Nat) => (k : Int)) = xs := ⟨_, rfl⟩
  rw [hms, hcs] at hs HVS HT
  rw [hxs] at hx HVS HT ⊢
  obtain ⟨ss, hss⟩ : ∃ ss, settL n mn cn N = ss := ⟨_, rfl⟩
  rw [hss] at HT hlen HROW ⊢
  clear hms hcs hxs hss
  obtain ⟨E, hE⟩ : ∃ E, kindE n xs p ss = E := ⟨_, rfl⟩
  obtain ⟨R, hR⟩ : ∃ R, kindN n xs p ss = R := ⟨_, rfl⟩
  rw [hE, hR]
  have HE := Lib.hid hE
  have HR := Lib.hid hR
  clear hE hR
  obtain ⟨am, lm, cm, rfl⟩ : ∃ a n c, mv = .slice a n c := by obtain ⟨a, c, e⟩ := hs.m.form; exact ⟨a, _, c, e⟩
  obtain ⟨ac, lc, cc, rfl⟩ : ∃ a n c, cv = .slice a n c := by obtain ⟨a, c, e⟩ := hs.c.form; exact ⟨a, _, c, e⟩
  have HLM := Lib.hid (show lm = ms.length by obtain ⟨a, c, e⟩ := hs.m.form; cases e; rfl)
  have HLC := Lib.hid (show lc = cs.length by obtain ⟨a, c, e⟩ := hs.c.form; cases e; rfl)
  have hxl := hx.1
  obtain ⟨ax, lx, cx, rfl⟩ : ∃ a n c, nv = .slice a n c := by obtain ⟨a, c, e⟩ := hx.form; exact ⟨a, _, c, e⟩
  go_enter Try.func28, Try.ntmps28
  go_wp2_with fail
  obtain ⟨B, hB⟩ : ∃ B, B = W.heap.size := ⟨_, rfl⟩
  obtain ⟨z, hz⟩ : ∃ z : Later W, z.w = W.alloc (.cells #[.int .i64 n, .slice am lm cm, .slice ac lc cc] 25) := ⟨Later.new _ _, rfl⟩
  have c0 : z.w.cell? ⟨B, 0, none⟩ = some (.int .i64 n) := by rw [hz, hB]; simp [go_sem]
  have c1 : z.w.cell? ⟨B, 1, none⟩ = some (.slice am lm cm) := by rw [hz, hB]; simp [go_sem]
  have c2 : z.w.cell? ⟨B, 2, none⟩ = some (.slice ac lc cc) := by rw [hz, hB]; simp [go_sem]
  have hBz : B < z.w.heap.size := by rw [hz, hB]; simp [go_sem]
  rw [← hz, ← hB]
  replace hs := hs.later z
  replace hx := hx.later z
  clear hz hB
  refine (Named_calls n _ _ _ ms cs xs _ hs hx).mono ?_
  rintro e w' ⟨rfl, x, rfl⟩
  rw [HVS.out]
  have g0 : x.w.cell? ⟨B, 0, none⟩ = some (.int .i64 n) := ((x).cell hBz).trans c0
  have g1 : x.w.cell? ⟨B, 1, none⟩ = some (.slice am lm cm) := ((x).cell hBz).trans c1
  have g2 : x.w.cell? ⟨B, 2, none⟩ = some (.slice ac lc cc) := ((x).cell hBz).trans c2
  have gB : B < x.w.heap.size := Nat.lt_of_lt_of_le hBz (x).size
  cases hpl : isPl n p
  · have HB := Lib.hid (show kindB n xs p = false by rw [kindB, hpl]; rfl)
    have hip := isPlace_b n p (by omega) hpl
    go_wp2_with ((go_at_call 58; (with_reducible refine (hip _).mono ?_); rintro e w' ⟨rfl, rfl⟩))
    go_ret2
    exact ⟨ret_ints (by rw [← HR.out, kindN, HB.out]; rfl) (by rw [← HE.out, kindE, HB.out]; rfl), z.step x, rfl⟩
  have hip := isPlace_b n p (by omega) hpl
  obtain ⟨hp0, hp1⟩ : 0 ≤ p ∧ p < 2 * n := by
    rw [isPl, Bool.and_eq_true, decide_eq_true_iff, decide_eq_true_iff] at hpl; exact hpl
  have HPL := Lib.hid hpl
  clear hpl
  obtain ⟨P, rfl⟩ := Int.eq_ofNat_of_zero_le hp0
  obtain ⟨a, ha⟩ : ∃ a, P / 2 = a := ⟨_, rfl⟩
  obtain ⟨b, hb⟩ : ∃ b, P % 2 = b := ⟨_, rfl⟩
  have ea : (P : Int) / 2 = (a : Int) := by omega
  have eb : (P : Int) % 2 = (b : Int) := by omega
  have han : a < n := by omega
  have HKB := Lib.hid (show kindB n xs P = hasB xs a by rw [kindB, HPL.out, ea]; rfl)
  have HEB := Lib.hid ea
  have HEB2 := Lib.hid eb
  have hhas := Has_calls _ xs a x.w (hx.later x)
  clear ha hb
  cases hh : hasB xs a
  · rw [hh] at hhas HKB
    go_wp2_with (first | (go_at_call 58; (with_reducible refine (hip _).mono ?_); rintro e w' ⟨rfl, rfl⟩) | (go_at_call 43; (with_reducible refine hhas.mono ?_); rintro e w' ⟨rfl, rfl⟩))
    go_ret2
    exact ⟨ret_ints (by rw [← HR.out, kindN, HKB.out]; rfl) (by rw [← HE.out, kindE, HKB.out]; rfl), z.step x, rfl⟩
  rw [hh] at hhas HKB
  have HE1 := Lib.hid (show setE ss = E by rw [← HE.out, kindE, HKB.out, if_pos rfl])
  have HR1 := Lib.hid (show cntV ss P = R by rw [← HR.out, kindN, HKB.out, if_pos rfl])
  clear hh HE HR HKB
  go_wp2_with (first | (go_at_call 58; (with_reducible refine (hip _).mono ?_); rintro e w' ⟨rfl, rfl⟩) | (go_at_call 43; (with_reducible refine hhas.mono ?_); rintro e w' ⟨rfl, rfl⟩))
  refine (HT.out _ _ _ _ (hs.later x) (hx.later x)).mono ?_
  rintro e w' ⟨av, y, rfl, rfl, hA⟩
  obtain ⟨aa, la, ca, rfl⟩ : ∃ a n c, av = .slice a n c := by obtain ⟨a, c, e⟩ := hA.form; exact ⟨a, _, c, e⟩
  have HLA := Lib.hid (show la = ss.length by obtain ⟨a, c, e⟩ := hA.form; cases e; rfl)
  have hla : la ≤ 1024 := by rw [HLA.out]; exact hlen
  clear g0 g1 g2 gB hip hhas
  by_cases h0 : la = 0
  · have HN := Lib.hid (show ss = [] from List.eq_nil_of_length_eq_zero (by rw [← HLA.out]; exact h0))
    go_wp2
    go_ret2
    exact ⟨ret_ints (by rw [← HR1.out, cntV, if_pos HN.out]) (by rw [← HE1.out, HN.out]; rfl), (z.step x).step y, rfl⟩
  have HN := Lib.hid (show ss ≠ [] from fun e => h0 (by rw [HLA.out, e]; rfl))
  have HE2 := Lib.hid (show E = 0 by rw [← HE1.out, setE_ne HN.out])
  have HR2 := Lib.hid (show R = kindV (cntK ss P) la by rw [← HR1.out, cntV, if_neg HN.out, HLA.out])
  obtain ⟨bA, oA, kA, fA, e, _, hbA, hcA⟩ := hA.at (k := 0) (by rw [← HLA.out]; omega)
  injection e with e1 e2 e3
  subst e1
  clear e2 e3
  go_wp2
  go_loopw [9, 10] (fun c i wr => ∃ (k : Nat) (m : Nat), wr = y.w ∧ k ≤ la ∧ m ≤ k ∧ i = .int .i64 k ∧ c = .int .i64 m ∧ Hid (m = cntK (ss.take k) P)) (fun c i _ => la - (intOf i).toNat)
  case atStart => exact ⟨0, 0, rfl, Nat.zero_le _, Nat.le_refl _, rfl, rfl, rfl⟩
  case round =>
    obtain ⟨k, m, rfl, hk, hmk, rfl, rfl, HM⟩ := hrel
    by_cases hlt : k < la
    · have hks : k < ss.length := by rw [← HLA.out]; exact hlt
      obtain ⟨m1, hrow⟩ := hcA k hks
      have hrl := HROW.out k hks
      obtain ⟨br, orr, cr, efr, _, hbr, hcr⟩ := hrow.at (k := a) (by rw [hrl]; exact han)
      rw [efr] at m1
      have m2 := hcr a (by rw [hrl]; exact han)
      rw [hrl] at m1
      have HC := Lib.hid (cntK_snoc ss P k hks)
      obtain ⟨v, hv⟩ : ∃ v, nth (row ss k) a = v := ⟨_, rfl⟩
      rw [hv] at m2
      have HSB := Lib.hid (show sideB (row ss k) P = (v == (b : Int)) by rw [sideB, HEB.out, HEB2.out, Int.toNat_natCast, hv])
      have HHC := Lib.hid hcA
      clear hcr efr hv hrl hks hcA
      by_cases hvb : v = b
      · go_wp2
        go_roundw
        case rel => exact ⟨k + 1, m + 1, trivial, by omega, by omega, by go_num, by go_num, by unfold Hid; rw [HC.out, HM.out, HSB.out, if_pos (by simpa using hvb)]⟩
        case measure => simp [intOf]; omega
      · go_wp2
        go_roundw
        case rel => exact ⟨k + 1, m, trivial, by omega, by omega, by go_num, by go_num, by unfold Hid; rw [HC.out, HM.out, HSB.out, if_neg (by simpa using hvb)]; rfl⟩
        case measure => simp [intOf]; omega
    · obtain rfl : la = k := by omega
      have HMM := Lib.hid (show cntK ss P = m by rw [HM.out, HLA.out, List.take_length])
      by_cases hml : m = la
      · have HV := Lib.hid (show R = 2 by rw [HR2.out, HMM.out, kindV, if_pos hml])
        go_wp2
        go_ret2
        exact ⟨ret_ints HV.out.symm HE2.out.symm, (z.step x).step y, rfl⟩
      · by_cases hm0 : m = 0
        · have HV := Lib.hid (show R = 0 by rw [HR2.out, HMM.out, kindV, if_neg hml, if_pos hm0])
          go_wp2
          go_ret2
          exact ⟨ret_ints (by rw [HV.out]; omega) HE2.out.symm, (z.step x).step y, rfl⟩
        · have HV := Lib.hid (show R = 1 by rw [HR2.out, HMM.out, kindV, if_neg hml, if_neg hm0])
          go_wp2
          go_ret2
          exact ⟨ret_ints (by rw [HV.out]; omega) HE2.out.symm, (z.step x).step y, rfl⟩

end Go.Proofs.Ytdhdpbnlhnodjaa

/-  The definitions' CheckChain. -/
namespace Go.Proofs.Ytdhdpbnlhnodjaa
open Go.RowKit

/-- a step of a list; all steps; its ends; the error -/
def stpB (L : Sat.Lay) (ch : List Int) (k : Nat) : Bool := Sat.lead L (nth ch k).toNat (nth ch (k + 1)).toNat
def pthB (L : Sat.Lay) (ch : List Int) : Bool := (List.range (ch.length - 1)).all (stpB L ch)
def endB (ch : List Int) : Bool := nth ch (ch.length - 1) == nth ch 0 && hasB ch (Sat.mate (nth ch 0).toNat : Nat)
def straK (n : Int) (xs : List Int) (p : Int) : Bool := !kindB n xs p
def chainE (L : Sat.Lay) (n : Int) (xs ch : List Int) : Int :=
  if ch.length < 3 ∨ 50 < ch.length then 6 else if ch.any (straK n xs) = true then 3 else if (pthB L ch && endB ch) = true then 0 else 14
theorem pthB_no {L : Sat.Lay} {ch : List Int} {k : Nat} (hk : k + 1 < ch.length) (h : stpB L ch k = false) : pthB L ch = false := by
  cases hp : pthB L ch
  · rfl
  · rw [pthB, List.all_eq_true] at hp
    rw [hp k (List.mem_range.2 (by omega))] at h; cases h
theorem pthB_yes {L : Sat.Lay} {ch : List Int} (h : ∀ j, j + 1 < ch.length → stpB L ch j = true) : pthB L ch = true := by
  rw [pthB, List.all_eq_true]
  intro j hj
  exact h j (by have := List.mem_range.1 hj; omega)
set_option maxRecDepth 100000 in
set_option maxHeartbeats 4000000 in
theorem refCheckChain_bad (n : Int) (mv cv nv lv : Value) (ms : List (Int × Int)) (cs xs : List Int) (W : World) (hs : Sht W mv cv ms cs) (hx : Ints W nv xs) (ch : List Int) (_ : Ints W lv ch) (hv : nameE n ms cs xs ≠ 0) :
    Calls Try.prog 32 #[.agg #[.int .i64 n, mv, cv], nv, lv] W (Gives (.int .i64 (nameE n ms cs xs)) W) := by
  have hvb : (nameE n ms cs xs != 0) = true := by simpa using hv
  clear hv
  obtain ⟨am, lm, cm, rfl⟩ : ∃ a n c, mv = .slice a n c := by obtain ⟨a, c, e⟩ := hs.m.form; exact ⟨a, _, c, e⟩
  obtain ⟨ac, lc, cc, rfl⟩ : ∃ a n c, cv = .slice a n c := by obtain ⟨a, c, e⟩ := hs.c.form; exact ⟨a, _, c, e⟩
  have HLM := Lib.hid (show lm = ms.length by obtain ⟨a, c, e⟩ := hs.m.form; cases e; rfl)
  have HLC := Lib.hid (show lc = cs.length by obtain ⟨a, c, e⟩ := hs.c.form; cases e; rfl)
  have hxl := hx.1
  obtain ⟨ax, lx, cx, rfl⟩ : ∃ a n c, nv = .slice a n c := by obtain ⟨a, c, e⟩ := hx.form; exact ⟨a, _, c, e⟩
  go_enter Try.func32, Try.ntmps32
  go_wp2_with fail
  obtain ⟨B, hB⟩ : ∃ B, B = W.heap.size := ⟨_, rfl⟩
  obtain ⟨z, hz⟩ : ∃ z : Later W, z.w = W.alloc (.cells #[.int .i64 n, .slice am lm cm, .slice ac lc cc] 25) := ⟨Later.new _ _, rfl⟩
  have c0 : z.w.cell? ⟨B, 0, none⟩ = some (.int .i64 n) := by rw [hz, hB]; simp [go_sem]
  have c1 : z.w.cell? ⟨B, 1, none⟩ = some (.slice am lm cm) := by rw [hz, hB]; simp [go_sem]
  have c2 : z.w.cell? ⟨B, 2, none⟩ = some (.slice ac lc cc) := by rw [hz, hB]; simp [go_sem]
  have hBz : B < z.w.heap.size := by rw [hz, hB]; simp [go_sem]
  rw [← hz, ← hB]
  replace hs := hs.later z
  replace hx := hx.later z
  clear hz hB
  refine (Named_calls n _ _ _ ms cs xs _ hs hx).mono ?_
  rintro e w' ⟨rfl, x, rfl⟩
  have g0 : x.w.cell? ⟨B, 0, none⟩ = some (.int .i64 n) := ((x).cell hBz).trans c0
  have g1 : x.w.cell? ⟨B, 1, none⟩ = some (.slice am lm cm) := ((x).cell hBz).trans c1
  have g2 : x.w.cell? ⟨B, 2, none⟩ = some (.slice ac lc cc) := ((x).cell hBz).trans c2
  have gB : B < x.w.heap.size := Nat.lt_of_lt_of_le hBz (x).size
  go_wp2_with fail
  refine (Named_calls n _ _ _ ms cs xs _ (hs.later x) (hx.later x)).mono ?_
  rintro e w' ⟨rfl, y, rfl⟩
  go_wp2
  go_ret
  exact ⟨rfl, (z.step x).step y, rfl⟩

set_option maxRecDepth 100000 in
set_option maxHeartbeats 4000000 in
theorem refCheckChain_calls (n : Nat) (mv cv nv lv : Value) (mn : List (Nat × Nat)) (cn N : List Nat) (ch : List Int) (hS : Shn n mn cn) (hN : Nms n N) (W : World) (hs : Sht W mv cv (mn.map prI) (cn.map fun (c : Nat) => (c : Int))) (hx : Ints W nv (N.map fun (k : Nat) => (k : Int))) (hc : Ints W lv ch) :
    Calls Try.prog 32 #[.agg #[.int .i64 n, mv, cv], nv, lv] W (Gives (.int .i64 (chainE hS.lay n (N.map fun (k : Nat) => (k : Int)) ch)) W) := by
  have HVS := Lib.hid (nameE_nat hS hN)
  have HSTEP := Lib.hid (fun (p q : Nat) (hp : p < 20) (hq : q < 20) (W : World) (mv cv : Value) hs => Steps_calls n mv cv mn cn hS.ne p q hp hq W hs)
  have h10 := hS.n10
  have h1 := hS.n1
  obtain ⟨L, hL⟩ : ∃ L, hS.lay = L := ⟨_, rfl⟩
  have HL := Lib.hid hL
  rw [hL]
  rw [show Sat.layS mn cn hS.ne = L from hL] at HSTEP
  obtain ⟨ms, hms⟩ : ∃ ms, mn.map prI = ms := ⟨_, rfl⟩
  obtain ⟨cs, hcs⟩ : ∃ cs, (cn.map fun (c : Nat) => (c : Int)) = cs := ⟨_, rfl⟩
  obtain ⟨xs, hxs⟩ : ∃ xs, (N.map fun (k : Nat) => (k : Int)) = xs := ⟨_, rfl⟩
  rw [hms, hcs] at hs HVS HSTEP
  rw [hxs] at hx HVS ⊢
  clear hms hcs hxs hL
  obtain ⟨E, hE⟩ : ∃ E, chainE L n xs ch = E := ⟨_, rfl⟩
  have HE := Lib.hid hE
  rw [hE]
  clear hE
  have hcl := hc.1
  obtain ⟨ac', lch, cc', rfl⟩ : ∃ a n c, lv = .slice a n c := by obtain ⟨a, c, e⟩ := hc.form; exact ⟨a, _, c, e⟩
  have HLC' := Lib.hid (show lch = ch.length by obtain ⟨a, c, e⟩ := hc.form; cases e; rfl)
  obtain ⟨am, lm, cm, rfl⟩ : ∃ a n c, mv = .slice a n c := by obtain ⟨a, c, e⟩ := hs.m.form; exact ⟨a, _, c, e⟩
  obtain ⟨ac, lc, cc, rfl⟩ : ∃ a n c, cv = .slice a n c := by obtain ⟨a, c, e⟩ := hs.c.form; exact ⟨a, _, c, e⟩
  have HLM := Lib.hid (show lm = ms.length by obtain ⟨a, c, e⟩ := hs.m.form; cases e; rfl)
  have HLC := Lib.hid (show lc = cs.length by obtain ⟨a, c, e⟩ := hs.c.form; cases e; rfl)
  have hxl := hx.1
  obtain ⟨ax, lx, cx, rfl⟩ : ∃ a n c, nv = .slice a n c := by obtain ⟨a, c, e⟩ := hx.form; exact ⟨a, _, c, e⟩
  go_enter Try.func32, Try.ntmps32
  go_wp2_with fail
  obtain ⟨B, hB⟩ : ∃ B, B = W.heap.size := ⟨_, rfl⟩
  obtain ⟨z, hz⟩ : ∃ z : Later W, z.w = W.alloc (.cells #[.int .i64 n, .slice am lm cm, .slice ac lc cc] 25) := ⟨Later.new _ _, rfl⟩
  have c0 : z.w.cell? ⟨B, 0, none⟩ = some (.int .i64 n) := by rw [hz, hB]; simp [go_sem]
  have c1 : z.w.cell? ⟨B, 1, none⟩ = some (.slice am lm cm) := by rw [hz, hB]; simp [go_sem]
  have c2 : z.w.cell? ⟨B, 2, none⟩ = some (.slice ac lc cc) := by rw [hz, hB]; simp [go_sem]
  have hBz : B < z.w.heap.size := by rw [hz, hB]; simp [go_sem]
  rw [← hz, ← hB]
  replace hs := hs.later z
  replace hx := hx.later z
  replace hc := hc.later z
  clear hz hB
  refine (Named_calls n _ _ _ ms cs xs _ hs hx).mono ?_
  rintro e w' ⟨rfl, x, rfl⟩
  have g0 : x.w.cell? ⟨B, 0, none⟩ = some (.int .i64 n) := ((x).cell hBz).trans c0
  have g1 : x.w.cell? ⟨B, 1, none⟩ = some (.slice am lm cm) := ((x).cell hBz).trans c1
  have g2 : x.w.cell? ⟨B, 2, none⟩ = some (.slice ac lc cc) := ((x).cell hBz).trans c2
  have gB : B < x.w.heap.size := Nat.lt_of_lt_of_le hBz (x).size
  rw [HVS.out]
  by_cases hl : lch < 3 ∨ 50 < lch
  · have HV := Lib.hid (show E = 6 by rw [← HE.out, chainE, if_pos (by rw [← HLC'.out]; exact hl)])
    rcases hl with hl | hl
    · have d1 : decide ((lch : Int) < 3) = true := decide_eq_true (by omega)
      go_wp2
      go_ret
      exact ⟨ret_int HV.out.symm, z.step x, rfl⟩
    · have d1 : decide ((lch : Int) < 3) = false := decide_eq_false (by omega)
      have d2 : decide ((50 : Int) < lch) = true := decide_eq_true (by omega)
      go_wp2
      go_ret
      exact ⟨ret_int HV.out.symm, z.step x, rfl⟩
  have HE1 := Lib.hid (show (if ch.any (straK n xs) = true then 3 else if (pthB L ch && endB ch) = true then 0 else 14) = E by rw [← HE.out]; unfold chainE; rw [if_neg (show ¬ (ch.length < 3 ∨ 50 < ch.length) by rw [← HLC'.out]; exact hl)])
  obtain ⟨hl3, hl50⟩ : 3 ≤ lch ∧ lch ≤ 50 := by omega
  clear hl HE
  have d1 : decide ((lch : Int) < 3) = false := decide_eq_false (by omega)
  have d2 : decide ((50 : Int) < lch) = false := decide_eq_false (by omega)
  go_wp2
  clear d1 d2 g0 g1 g2 gB
  obtain ⟨bm, om, km, e, hkm, hbm, hgm⟩ := hc.at (k := 0) (by rw [← HLC'.out]; omega)
  injection e with e1 e2 e3
  subst e1
  rw [← HLC'.out] at hgm
  have HGM := Lib.hid hgm
  clear e2 e3 hgm hkm
  go_loopw [7] (fun i wr => ∃ (k : Nat) (u : Later z.w), wr = u.w ∧ k ≤ lch ∧ i = .int .i64 k ∧ Hid (∀ j, j < k → straK n xs (nth ch j) = false)) (fun i _ => lch - (intOf i).toNat)
  case atStart => exact ⟨0, x, rfl, Nat.zero_le _, rfl, fun j hj => absurd hj (Nat.not_lt_zero _)⟩
  case round =>
    obtain ⟨k, u, rfl, hk, rfl, hP⟩ := hrel
    have g0 : u.w.cell? ⟨B, 0, none⟩ = some (.int .i64 n) := ((u).cell hBz).trans c0
    have g1 : u.w.cell? ⟨B, 1, none⟩ = some (.slice am lm cm) := ((u).cell hBz).trans c1
    have g2 : u.w.cell? ⟨B, 2, none⟩ = some (.slice ac lc cc) := ((u).cell hBz).trans c2
    have gB : B < u.w.heap.size := Nat.lt_of_lt_of_le hBz (u).size
    by_cases hlt : k < lch
    · have m1 := (u.cell hbm).trans (HGM.out k hlt)
      have ml := Nat.lt_of_lt_of_le hbm u.size
      obtain ⟨p, hp⟩ : ∃ p, nth ch k = p := ⟨_, rfl⟩
      rw [hp] at m1
      have HPK := Lib.hid hp
      clear hp
      cases hpl : isPl n p
      · have HB := Lib.hid (show straK n xs (nth ch k) = true by rw [HPK.out, straK, kindB, hpl]; rfl)
        have hip := isPlace_b n p (by omega) hpl
        have HV := Lib.hid (show E = 3 by rw [← HE1.out, if_pos (any_at (l := ch) (d := 0) (k := k) (by rw [← HLC'.out]; exact hlt) HB.out)])
        clear hpl
        go_wp2
        refine region_later_lit (by kernel_rfl) (by kernel_rfl) ?_
        repeat (first | go_big_quiet_step (first
             | (go_at_call 58; (with_reducible exact Later.quiet_same _ (hip _)))))
        refine wpQuiet_nil ?_
        intro y
        go_wp2
        go_ret
        exact ⟨ret_int HV.out.symm, (z.step u).step y, rfl⟩
      · have hip := isPlace_b n p (by omega) hpl
        have HPL := Lib.hid hpl
        obtain ⟨hp0, hp1⟩ : 0 ≤ p ∧ p < 2 * n := by
          rw [isPl, Bool.and_eq_true, decide_eq_true_iff, decide_eq_true_iff] at hpl; exact hpl
        clear hpl
        obtain ⟨P, rfl⟩ := Int.eq_ofNat_of_zero_le hp0
        obtain ⟨a, ha⟩ : ∃ a, P / 2 = a := ⟨_, rfl⟩
        have ea : (P : Int) / 2 = (a : Int) := by omega
        have HKB := Lib.hid (show straK n xs (nth ch k) = !hasB xs a by rw [HPK.out, straK, kindB, HPL.out, ea]; rfl)
        clear ha
        have hhas := fun W => Has_calls (.slice ax lx cx) xs a W
        replace hhas := fun (V : World) (hV : Ints V (.slice ax lx cx) xs) => hhas V hV
        cases hh : hasB xs a
        · rw [hh] at hhas HKB
          have HV := Lib.hid (show E = 3 by rw [← HE1.out, if_pos (any_at (l := ch) (d := 0) (k := k) (by rw [← HLC'.out]; exact hlt) HKB.out)])
          replace hhas := fun (V : Later u.w) => hhas V.w ((hx.later u).later V)
          clear hh
          go_wp2
          refine region_later_lit (by kernel_rfl) (by kernel_rfl) ?_
          repeat (first | go_big_quiet_step (first
               | (go_at_call 58; (with_reducible exact Later.quiet_same _ (hip _)))
               | (go_at_call 43; (with_reducible exact Later.quiet_same _ (hhas _)))))
          refine wpQuiet_nil ?_
          intro y
          go_wp2
          go_ret
          exact ⟨ret_int HV.out.symm, (z.step u).step y, rfl⟩
        · rw [hh] at hhas HKB
          replace hhas := fun (V : Later u.w) => hhas V.w ((hx.later u).later V)
          clear hh
          go_wp2
          refine region_later_lit (by kernel_rfl) (by kernel_rfl) ?_
          repeat (first | go_big_quiet_step (first
               | (go_at_call 58; (with_reducible exact Later.quiet_same _ (hip _)))
               | (go_at_call 43; (with_reducible exact Later.quiet_same _ (hhas _)))))
          refine wpQuiet_nil ?_
          intro y
          go_wp2
          go_roundw
          case rel => exact ⟨k + 1, u.step y, rfl, by omega, by go_num, any_snoc (l := ch) (d := 0) (f := straK n xs) hP.out HKB.out⟩
          case measure => simp [intOf]; omega
    · obtain rfl : lch = k := by omega
      have HAN := Lib.hid (any_off (l := ch) (d := 0) (f := straK n xs) fun j hj => hP.out j (by rw [HLC'.out]; exact hj))
      have HE2 := Lib.hid (show (if (pthB L ch && endB ch) = true then 0 else 14) = E by rw [← HE1.out, HAN.out]; rfl)
      have HNAT := Lib.hid (show ∀ j, j < lch → ∃ P : Nat, nth ch j = P ∧ P < 20 from fun j hj => by
        have h := hP.out j hj
        rw [straK, kindB, Bool.not_eq_false', Bool.and_eq_true, isPl, Bool.and_eq_true, decide_eq_true_iff, decide_eq_true_iff] at h
        obtain ⟨P, e⟩ := Int.eq_ofNat_of_zero_le h.1.1
        exact ⟨P, e, by omega⟩)
      clear hP g0 g1 g2 gB HAN HE1
      go_wp2
      go_loopw [8] (fun i wr => ∃ (k : Nat) (u : Later z.w), wr = u.w ∧ 1 ≤ k ∧ k ≤ lch ∧ i = .int .i64 k ∧ Hid (∀ j, j + 1 < k → stpB L ch j = true)) (fun i _ => lch - (intOf i).toNat)
      case atStart => exact ⟨1, u, rfl, Nat.le_refl _, by omega, rfl, fun j hj => absurd hj (by omega)⟩
      case round =>
        clear u
        obtain ⟨k, u, rfl, hk1, hk, rfl, hP⟩ := hrel
        by_cases hlt : k < lch
        · have g0 : u.w.cell? ⟨B, 0, none⟩ = some (.int .i64 n) := ((u).cell hBz).trans c0
          have g1 : u.w.cell? ⟨B, 1, none⟩ = some (.slice am lm cm) := ((u).cell hBz).trans c1
          have g2 : u.w.cell? ⟨B, 2, none⟩ = some (.slice ac lc cc) := ((u).cell hBz).trans c2
          have gB : B < u.w.heap.size := Nat.lt_of_lt_of_le hBz (u).size
          obtain ⟨J, hJ⟩ : ∃ J, k - 1 = J := ⟨_, rfl⟩
          have ej : (k : Int) - 1 = (J : Int) := by omega
          have hjl : J < lch := by omega
          have m0 := (u.cell hbm).trans (HGM.out J hjl)
          have m1 := (u.cell hbm).trans (HGM.out k hlt)
          have ml := Nat.lt_of_lt_of_le hbm u.size
          obtain ⟨P, hP1, hP20⟩ := HNAT.out J hjl
          obtain ⟨Q, hQ1, hQ20⟩ := HNAT.out k hlt
          rw [hP1] at m0
          rw [hQ1] at m1
          obtain ⟨b, hb⟩ : ∃ b, Sat.lead L P Q = b := ⟨_, rfl⟩
          have hst := Lib.hid (fun V hV => HSTEP.out P Q hP20 hQ20 V (.slice am lm cm) (.slice ac lc cc) hV)
          rw [hb] at hst
          have HSB := Lib.hid (show stpB L ch J = b by rw [stpB, hP1, show J + 1 = k by omega, hQ1, Int.toNat_natCast, Int.toNat_natCast, hb])
          have HJK := Lib.hid (show J + 1 = k by omega)
          clear hP1 hQ1 hb hJ
          replace hst := Lib.hid (fun (V : Later u.w) => hst.out V.w ((hs.later u).later V))
          cases b
          · have HV := Lib.hid (show E = 14 by rw [← HE2.out, pthB_no (k := J) (by rw [← HLC'.out, HJK.out]; exact hlt) HSB.out]; rfl)
            go_wp2
            refine region_later_lit (by kernel_rfl) (by kernel_rfl) ?_
            repeat (first | go_big_quiet_step (first
                 | (go_at_call 69; (with_reducible exact Later.quiet _ (hst.out _)))))
            refine wpQuiet_nil ?_
            intro y
            go_wp2
            go_ret
            exact ⟨ret_int HV.out.symm, (z.step u).step y, rfl⟩
          · go_wp2
            refine region_later_lit (by kernel_rfl) (by kernel_rfl) ?_
            repeat (first | go_big_quiet_step (first
                 | (go_at_call 69; (with_reducible exact Later.quiet _ (hst.out _)))))
            refine wpQuiet_nil ?_
            intro y
            go_wp2
            go_roundw
            case rel => exact ⟨k + 1, u.step y, rfl, by omega, by omega, by go_num, fun j hj => by
              by_cases e : j = J
              · rw [e]; exact HSB.out
              · exact hP.out j (by have := HJK.out; omega)⟩
            case measure => simp [intOf]; omega
        · obtain rfl : lch = k := by omega
          have HPT := Lib.hid (pthB_yes (L := L) (ch := ch) fun j hj => hP.out j (by rw [HLC'.out]; exact hj))
          obtain ⟨J, hJ⟩ : ∃ J, lch - 1 = J := ⟨_, rfl⟩
          have ej : (lch : Int) - 1 = (J : Int) := by omega
          have hjl : J < lch := by omega
          have m0 := (u.cell hbm).trans (HGM.out 0 (by omega))
          rw [Nat.add_zero] at m0
          have m1 := (u.cell hbm).trans (HGM.out J hjl)
          have ml := Nat.lt_of_lt_of_le hbm u.size
          obtain ⟨P, hP1, hP20⟩ := HNAT.out 0 (by omega)
          obtain ⟨v, hv⟩ : ∃ v, nth ch J = v := ⟨_, rfl⟩
          rw [hP1] at m0
          rw [hv] at m1
          have HEND := Lib.hid (show endB ch = (v == (P : Int) && hasB ch (Sat.mate P : Nat)) by rw [endB, ← HLC'.out, hJ, hv, hP1, Int.toNat_natCast])
          have HLJ := Lib.hid hjl
          clear hP1 hv hJ
          by_cases he : v = P
          · subst he
            have hmt := Lib.hid (fun W => refMate_calls P (by omega) W)
            obtain ⟨b, hb⟩ : ∃ b, hasB ch (Sat.mate P : Nat) = b := ⟨_, rfl⟩
            have hhas := Lib.hid (fun (V : Later u.w) => Has_calls (.slice (some ⟨bm, om, none⟩) lch cc') ch (Sat.mate P : Nat) V.w ((hc.later u).later V))
            rw [hb] at hhas HEND
            cases b
            · have HV := Lib.hid (show E = 14 by rw [← HE2.out, HEND.out]; simp)
              clear hb
              go_wp2
              refine region_later_lit (by kernel_rfl) (by kernel_rfl) ?_
              repeat (first | go_big_quiet_step (first
                   | (go_at_call 46; (with_reducible exact Later.quiet_same _ (hmt.out _)))
                   | (go_at_call 43; (with_reducible exact Later.quiet_same _ (hhas.out _)))))
              refine wpQuiet_nil ?_
              intro y
              go_wp2
              go_ret
              exact ⟨ret_int HV.out.symm, (z.step u).step y, rfl⟩
            · have HV := Lib.hid (show E = 0 by rw [← HE2.out, HEND.out, HPT.out]; simp)
              clear hb
              go_wp2
              refine region_later_lit (by kernel_rfl) (by kernel_rfl) ?_
              repeat (first | go_big_quiet_step (first
                   | (go_at_call 46; (with_reducible exact Later.quiet_same _ (hmt.out _)))
                   | (go_at_call 43; (with_reducible exact Later.quiet_same _ (hhas.out _)))))
              refine wpQuiet_nil ?_
              intro y
              go_wp2
              go_ret
              exact ⟨ret_int HV.out.symm, (z.step u).step y, rfl⟩
          · have hvb : (v != (P : Int)) = true := by simpa using he
            have HV := Lib.hid (show E = 14 by rw [← HE2.out, HEND.out, show (v == (P : Int)) = false by simpa using he]; simp)
            go_wp2
            refine region_later_lit (by kernel_rfl) (by kernel_rfl) ?_
            repeat (first | go_big_quiet_step (first
                 | (fail)))
            refine wpQuiet_nil ?_
            intro y
            go_wp2
            go_ret
            exact ⟨ret_int HV.out.symm, (z.step u).step y, rfl⟩

end Go.Proofs.Ytdhdpbnlhnodjaa

/-  The definitions' Brightest, Why. -/
namespace Go.Proofs.Ytdhdpbnlhnodjaa
open Go.RowKit
open Sat (brightF plc rightP)

theorem settL_can {n : Nat} {mn : List (Nat × Nat)} {cn N : List Nat} (hS : Shn n mn cn) (hN : N.Nodup) : settL n mn cn N ≠ [] ↔ Sat.Can hS.lay N [] := by
  rw [Sat.can_sides hN]
  constructor
  · intro h
    obtain ⟨x, hx⟩ := List.exists_mem_of_ne_nil _ h
    obtain ⟨bs, hb, _⟩ := List.mem_map.1 hx
    obtain ⟨h1, h2⟩ := List.mem_filter.1 hb
    exact ⟨bs, h1, by rw [show hS.lay = Sat.layS mn cn hS.ne from rfl, Sat.okF_rightP]; exact h2, fun p hp => absurd hp (by simp)⟩
  · rintro ⟨bs, h1, h2, _⟩ e
    rw [show hS.lay = Sat.layS mn cn hS.ne from rfl, Sat.okF_rightP] at h2
    have : bs ∈ (Sat.sidesL N.length).filter fun bs => rightP mn cn (plc N bs) := List.mem_filter.2 ⟨h1, h2⟩
    rw [settL] at e
    rw [List.map_eq_nil_iff.1 e] at this
    simp at this
theorem bright_nms {L : Sat.Lay} {n k : Nat} (hk : k < n) : Nms n (brightF L k ++ [k]) where
  inc := by
    rw [List.pairwise_append]
    exact ⟨Sat.brightF_sorted L k, by simp, fun a ha b hb => by
      have : b = k := by simpa using hb
      subst this; exact Sat.brightF_lt L _ a ha⟩
  lt := fun x hx => by
    rcases List.mem_append.1 hx with h | h
    · have := Sat.brightF_lt L k x h; omega
    · have : x = k := by simpa using h
      omega
theorem bright_len (L : Sat.Lay) (k : Nat) : (brightF L k).length ≤ k :=
  Sat.nodup_le k _ ((Sat.brightF_sorted L k).imp fun h => Nat.ne_of_lt h) (Sat.brightF_lt L k)
theorem bright_nms' (L : Sat.Lay) (n : Nat) : Nms n (brightF L n) := ⟨Sat.brightF_sorted L n, Sat.brightF_lt L n⟩
theorem take_below {l : List Nat} (h : l.Pairwise (· < ·)) {m k : Nat} (hk : k ≤ l.length) (h1 : ∀ j (hj : j < l.length), j < k → l[j] < m) (h2 : k < l.length → ∃ hk : k < l.length, m ≤ l[k]) : l.take k = l.filter fun x => decide (x < m) := by
  conv => { rhs; rw [← List.take_append_drop k l] }
  rw [List.filter_append, List.filter_eq_self.2, List.filter_eq_nil_iff.2, List.append_nil]
  · intro x hx
    obtain ⟨i, hi, e⟩ := List.mem_iff_getElem.1 hx
    rw [List.getElem_drop] at e
    have hi2 : k + i < l.length := by simp at hi; omega
    obtain ⟨hk2, h3⟩ := h2 (by omega)
    have : m ≤ x := by
      rcases Nat.eq_zero_or_pos i with rfl | hp
      · rw [← e]; simpa using h3
      · have := (List.pairwise_iff_getElem.1 h) k (k + i) hk2 hi2 (by omega)
        omega
    simp; omega
  · intro x hx
    obtain ⟨i, hi, e⟩ := List.mem_iff_getElem.1 hx
    rw [List.getElem_take] at e
    have hi2 : i < k := by simp at hi; omega
    have := h1 i (by omega) hi2
    exact decide_eq_true (by omega)
set_option maxRecDepth 100000 in
set_option maxHeartbeats 4000000 in
theorem BrightestOf_calls (n : Nat) (mv cv : Value) (mn : List (Nat × Nat)) (cn : List Nat) (hS : Shn n mn cn) (W : World) (hs : Sht W mv cv (mn.map prI) (cn.map fun (c : Nat) => (c : Int))) :
    Calls Try.prog 71 #[.agg #[.int .i64 n, mv, cv]] W fun e w' => ∃ v, ∃ x : Later W, e = .returned v ∧ w' = x.w ∧ Ints x.w v ((brightF hS.lay n).map fun (k : Nat) => (k : Int)) := by
  have HT := Lib.hid (fun (N : List Nat) (hN : Nms n N) (W : World) (mv cv nv : Value) hs hx => Settings_calls n mv cv nv mn cn N hS hN W hs hx)
  have HCAN := Lib.hid (fun (N : List Nat) (hN : N.Nodup) => settL_can (cn := cn) hS (N := N) hN)
  have HLEN := Lib.hid (show ∀ N, Nms n N → (settL n mn cn N).length ≤ 1024 from fun N hN => by
    rw [← outF_all]
    exact Nat.le_trans (outF_len _ _ _ _ _) (Nat.pow_le_pow_right (n := 2) (by decide) (Nat.le_trans hN.len hS.n10)))
  have h10 := hS.n10
  obtain ⟨L, hL⟩ : ∃ L, hS.lay = L := ⟨_, rfl⟩
  rw [hL] at HCAN ⊢
  obtain ⟨ms, hms⟩ : ∃ ms, mn.map prI = ms := ⟨_, rfl⟩
  obtain ⟨cs, hcs⟩ : ∃ cs, (cn.map fun (c : Nat) => (c : Int)) = cs := ⟨_, rfl⟩
  rw [hms, hcs] at hs HT
  clear hms hcs hL
  obtain ⟨am, lm, cm, rfl⟩ : ∃ a n c, mv = .slice a n c := by obtain ⟨a, c, e⟩ := hs.m.form; exact ⟨a, _, c, e⟩
  obtain ⟨ac, lc, cc, rfl⟩ : ∃ a n c, cv = .slice a n c := by obtain ⟨a, c, e⟩ := hs.c.form; exact ⟨a, _, c, e⟩
  have HLM := Lib.hid (show lm = ms.length by obtain ⟨a, c, e⟩ := hs.m.form; cases e; rfl)
  have HLC := Lib.hid (show lc = cs.length by obtain ⟨a, c, e⟩ := hs.c.form; cases e; rfl)
  go_enter Try.func71, Try.ntmps71
  go_wp2_with fail
  obtain ⟨B, hB⟩ : ∃ B, B = W.heap.size := ⟨_, rfl⟩
  obtain ⟨z, hz⟩ : ∃ z : Later W, z.w = W.alloc (.cells #[.int .i64 n, .slice am lm cm, .slice ac lc cc] 25) := ⟨Later.new _ _, rfl⟩
  have c0 : z.w.cell? ⟨B, 0, none⟩ = some (.int .i64 n) := by rw [hz, hB]; simp [go_sem]
  have c1 : z.w.cell? ⟨B, 1, none⟩ = some (.slice am lm cm) := by rw [hz, hB]; simp [go_sem]
  have c2 : z.w.cell? ⟨B, 2, none⟩ = some (.slice ac lc cc) := by rw [hz, hB]; simp [go_sem]
  have hBz : B < z.w.heap.size := by rw [hz, hB]; simp [go_sem]
  rw [← hz, ← hB]
  replace hs := hs.later z
  
  clear hz hB
  go_loopw [3, 4] (fun ov i wr => ∃ (k : Nat) (u : Later z.w), wr = u.w ∧ k ≤ n ∧ i = .int .i64 k ∧ IntsM z.w.heap.size u.w ov ((brightF L k).map fun (k : Nat) => (k : Int))) (fun ov i _ => n - (intOf i).toNat)
  case atStart => exact ⟨0, Later.self _, rfl, Nat.zero_le _, rfl, IntsM.nil _ _⟩
  case round =>
    obtain ⟨k, u, rfl, hk, rfl, hO⟩ := hrel
    have g0 : u.w.cell? ⟨B, 0, none⟩ = some (.int .i64 n) := ((u).cell hBz).trans c0
    have g1 : u.w.cell? ⟨B, 1, none⟩ = some (.slice am lm cm) := ((u).cell hBz).trans c1
    have g2 : u.w.cell? ⟨B, 2, none⟩ = some (.slice ac lc cc) := ((u).cell hBz).trans c2
    have gB : B < u.w.heap.size := Nat.lt_of_lt_of_le hBz (u).size
    have hbl := bright_len L k
    obtain ⟨ao, lo, co, rfl⟩ := hO.form'
    by_cases hlt : k < n
    · have hE := IntsM.empty u.w (lo := u.w.heap.size) rfl (Nat.le_refl _)
      have hO1 := hO.later (Later.new u.w (.cells #[] 3))
      rw [Later.new_w] at hO1
      obtain ⟨a1, n1, c1', q1, hr1, hA1⟩ := app_emptyM hE (hO1.ints (by simp; omega)) (by simp) (by simp; omega) 23
      have HR1 := Lib.hid hr1
      obtain ⟨v2, q2, hr2, hA2, -⟩ := app_int_stepM (W := u.w) ((Later.new u.w (.cells #[] 3)).step q1).le hA1 k (by simp; omega) 23
      obtain ⟨a2, n2, c2', rfl⟩ := hA2.form'
      have HR2 := Lib.hid hr2
      have e2 : ((brightF L k).map (fun (k : Nat) => (k : Int)) ++ [(k : Int)]) = (brightF L k ++ [k]).map fun (k : Nat) => (k : Int) := by simp
      rw [e2] at hA2
      have hnm := bright_nms (L := L) hlt
      have HTK := Lib.hid (HT.out _ hnm q2.w _ _ _ ((hs.later u).later q2) (hA2.ints (by simp; omega)))
      have HCK := Lib.hid (HCAN.out _ hnm.nodup)
      have hsl := HLEN.out _ hnm
      have p0 := ((u.step q2).cell hBz).trans c0
      have p1 := ((u.step q2).cell hBz).trans c1
      have p2 := ((u.step q2).cell hBz).trans c2
      rw [Later.step_w] at p0 p1 p2
      have pB := Nat.lt_of_lt_of_le hBz (u.step q2).size
      rw [Later.step_w] at pB
      clear hr1 hr2 e2 hE hO1 hA1
      go_wp2_with (first | ((with_reducible show wpList _ _ _ (⟨some 14, _, _, _, _, _⟩ :: _) _ _); refine Lib.wpList_append_run_sl _ rfl _ _ 23 rfl _ _ rfl rfl HR1.out ?_) | ((with_reducible show wpList _ _ _ (⟨some 17, _, _, _, _, _⟩ :: _) _ _); refine Lib.wpList_append_run_sl _ rfl _ _ 23 rfl _ _ rfl rfl HR2.out ?_))
      refine HTK.out.mono ?_
      rintro e w' ⟨sv, y, rfl, rfl, hSS⟩
      obtain ⟨aa, la, ca, rfl⟩ : ∃ a n c, sv = .slice a n c := by obtain ⟨a, c, e⟩ := hSS.form; exact ⟨a, _, c, e⟩
      have HLA := Lib.hid (show la = (settL n mn cn (brightF L k ++ [k])).length by obtain ⟨a, c, e⟩ := hSS.form; cases e; rfl)
      have hla : la ≤ 1024 := by rw [HLA.out]; exact hsl
      clear p0 p1 p2 pB hsl HR1 HR2 g0 g1 g2 gB
      have hO2 := (hA2.later y).mono u.size
      by_cases h0 : la = 0
      · have HB := Lib.hid (show brightF L (k + 1) = brightF L k by rw [brightF, if_neg (fun h => (HCK.out.2 h) (List.eq_nil_of_length_eq_zero (by rw [← HLA.out]; exact h0)))])
        obtain ⟨v5, hv5⟩ : ∃ q : Later z.w, y.w = q.w := ⟨(u.step q2).step y, rfl⟩
        have hO3 : IntsM z.w.heap.size y.w (.slice ao lo co) ((brightF L k).map fun (k : Nat) => (k : Int)) := (hO.later q2).later y
        rw [hv5] at hO3 ⊢
        clear hv5
        go_wp2
        go_roundw
        case rel => exact ⟨k + 1, v5, rfl, by omega, by go_num, by rw [HB.out]; exact hO3⟩
        case measure => simp [intOf]; omega
      · have HB := Lib.hid (show brightF L (k + 1) = brightF L k ++ [k] by rw [brightF, if_pos (HCK.out.1 fun e => h0 (by rw [HLA.out, e]; rfl))])
        obtain ⟨v5, hv5⟩ : ∃ q : Later z.w, y.w = q.w := ⟨(u.step q2).step y, rfl⟩
        rw [hv5] at hO2 ⊢
        clear hv5
        go_wp2
        go_roundw
        case rel => exact ⟨k + 1, v5, rfl, by omega, by go_num, by rw [HB.out]; exact hO2⟩
        case measure => simp [intOf]; omega
    · obtain rfl : n = k := by omega
      go_wp2
      go_ret
      exact ⟨_, z.step u, rfl, rfl, hO.ints (by simp; omega)⟩

end Go.Proofs.Ytdhdpbnlhnodjaa

/-  The definitions' Brightest, Why. -/
namespace Go.Proofs.Ytdhdpbnlhnodjaa
open Go.RowKit
open Sat (brightF)

set_option maxRecDepth 100000 in
set_option maxHeartbeats 4000000 in
theorem refBrightest_bad (n : Int) (mv cv : Value) (ms : List (Int × Int)) (cs : List Int) (W : World) (hs : Sht W mv cv ms cs) (hv : vsheet n ms cs ≠ 0) :
    Calls Try.prog 35 #[.agg #[.int .i64 n, mv, cv]] W (Gives (.tuple #[.slice none 0 0, .int .i64 (vsheet n ms cs)]) W) := by
  have hvb : (vsheet n ms cs != 0) = true := by simpa using hv
  clear hv
  obtain ⟨am, lm, cm, rfl⟩ : ∃ a n c, mv = .slice a n c := by obtain ⟨a, c, e⟩ := hs.m.form; exact ⟨a, _, c, e⟩
  obtain ⟨ac, lc, cc, rfl⟩ : ∃ a n c, cv = .slice a n c := by obtain ⟨a, c, e⟩ := hs.c.form; exact ⟨a, _, c, e⟩
  have HLM := Lib.hid (show lm = ms.length by obtain ⟨a, c, e⟩ := hs.m.form; cases e; rfl)
  have HLC := Lib.hid (show lc = cs.length by obtain ⟨a, c, e⟩ := hs.c.form; cases e; rfl)
  go_enter Try.func35, Try.ntmps35
  go_wp2_with fail
  obtain ⟨B, hB⟩ : ∃ B, B = W.heap.size := ⟨_, rfl⟩
  obtain ⟨z, hz⟩ : ∃ z : Later W, z.w = W.alloc (.cells #[.int .i64 n, .slice am lm cm, .slice ac lc cc] 25) := ⟨Later.new _ _, rfl⟩
  have c0 : z.w.cell? ⟨B, 0, none⟩ = some (.int .i64 n) := by rw [hz, hB]; simp [go_sem]
  have c1 : z.w.cell? ⟨B, 1, none⟩ = some (.slice am lm cm) := by rw [hz, hB]; simp [go_sem]
  have c2 : z.w.cell? ⟨B, 2, none⟩ = some (.slice ac lc cc) := by rw [hz, hB]; simp [go_sem]
  have hBz : B < z.w.heap.size := by rw [hz, hB]; simp [go_sem]
  rw [← hz, ← hB]
  replace hs := hs.later z
  
  clear hz hB
  refine (refCheckSheet_calls n _ _ ms cs _ hs).mono ?_
  rintro e w' ⟨rfl, x, rfl⟩
  have g0 : x.w.cell? ⟨B, 0, none⟩ = some (.int .i64 n) := ((x).cell hBz).trans c0
  have g1 : x.w.cell? ⟨B, 1, none⟩ = some (.slice am lm cm) := ((x).cell hBz).trans c1
  have g2 : x.w.cell? ⟨B, 2, none⟩ = some (.slice ac lc cc) := ((x).cell hBz).trans c2
  have gB : B < x.w.heap.size := Nat.lt_of_lt_of_le hBz (x).size
  go_wp2_with fail
  refine (refCheckSheet_calls n _ _ ms cs _ (hs.later x)).mono ?_
  rintro e w' ⟨rfl, y, rfl⟩
  go_wp2
  go_ret2
  exact ⟨rfl, (z.step x).step y, rfl⟩

set_option maxRecDepth 100000 in
set_option maxHeartbeats 4000000 in
theorem refBrightest_calls (n : Nat) (mv cv : Value) (mn : List (Nat × Nat)) (cn : List Nat) (hS : Shn n mn cn) (W : World) (hs : Sht W mv cv (mn.map prI) (cn.map fun (c : Nat) => (c : Int))) :
    Calls Try.prog 35 #[.agg #[.int .i64 n, mv, cv]] W fun e w' => ∃ v, ∃ x : Later W, e = .returned (.tuple #[v, .int .i64 0]) ∧ w' = x.w ∧ Ints x.w v ((brightF hS.lay n).map fun (k : Nat) => (k : Int)) := by
  have HVS := Lib.hid hS.v
  have HT := Lib.hid (fun (W : World) (mv cv : Value) hs => BrightestOf_calls n mv cv mn cn hS W hs)
  obtain ⟨ms, hms⟩ : ∃ ms, mn.map prI = ms := ⟨_, rfl⟩
  obtain ⟨cs, hcs⟩ : ∃ cs, (cn.map fun (c : Nat) => (c : Int)) = cs := ⟨_, rfl⟩
  have h10 := hS.n10
  have h1 := hS.n1
  rw [hms, hcs] at hs HVS HT
  clear hms hcs
  obtain ⟨am, lm, cm, rfl⟩ : ∃ a n c, mv = .slice a n c := by obtain ⟨a, c, e⟩ := hs.m.form; exact ⟨a, _, c, e⟩
  obtain ⟨ac, lc, cc, rfl⟩ : ∃ a n c, cv = .slice a n c := by obtain ⟨a, c, e⟩ := hs.c.form; exact ⟨a, _, c, e⟩
  have HLM := Lib.hid (show lm = ms.length by obtain ⟨a, c, e⟩ := hs.m.form; cases e; rfl)
  have HLC := Lib.hid (show lc = cs.length by obtain ⟨a, c, e⟩ := hs.c.form; cases e; rfl)
  go_enter Try.func35, Try.ntmps35
  go_wp2_with fail
  obtain ⟨B, hB⟩ : ∃ B, B = W.heap.size := ⟨_, rfl⟩
  obtain ⟨z, hz⟩ : ∃ z : Later W, z.w = W.alloc (.cells #[.int .i64 n, .slice am lm cm, .slice ac lc cc] 25) := ⟨Later.new _ _, rfl⟩
  have c0 : z.w.cell? ⟨B, 0, none⟩ = some (.int .i64 n) := by rw [hz, hB]; simp [go_sem]
  have c1 : z.w.cell? ⟨B, 1, none⟩ = some (.slice am lm cm) := by rw [hz, hB]; simp [go_sem]
  have c2 : z.w.cell? ⟨B, 2, none⟩ = some (.slice ac lc cc) := by rw [hz, hB]; simp [go_sem]
  have hBz : B < z.w.heap.size := by rw [hz, hB]; simp [go_sem]
  rw [← hz, ← hB]
  replace hs := hs.later z
  
  clear hz hB
  refine (refCheckSheet_calls n _ _ ms cs _ hs).mono ?_
  rintro e w' ⟨rfl, x, rfl⟩
  have g0 : x.w.cell? ⟨B, 0, none⟩ = some (.int .i64 n) := ((x).cell hBz).trans c0
  have g1 : x.w.cell? ⟨B, 1, none⟩ = some (.slice am lm cm) := ((x).cell hBz).trans c1
  have g2 : x.w.cell? ⟨B, 2, none⟩ = some (.slice ac lc cc) := ((x).cell hBz).trans c2
  have gB : B < x.w.heap.size := Nat.lt_of_lt_of_le hBz (x).size
  rw [HVS.out]
  go_wp2_with fail
  refine (HT.out _ _ _ (hs.later x)).mono ?_
  rintro e w' ⟨v, y, rfl, rfl, hB⟩
  go_wp2
  go_ret2
  exact ⟨_, (z.step x).step y, rfl, rfl, hB⟩

set_option maxRecDepth 100000 in
set_option maxHeartbeats 4000000 in
theorem WhyError_bad (n : Int) (mv cv : Value) (one : Int) (ms : List (Int × Int)) (cs : List Int) (W : World) (hs : Sht W mv cv ms cs) (hv : vsheet n ms cs ≠ 0) :
    Calls Try.prog 39 #[.agg #[.int .i64 n, mv, cv], .int .i64 one] W (Gives (.tuple #[.slice none 0 0, .int .i64 (vsheet n ms cs)]) W) := by
  have hvb : (vsheet n ms cs != 0) = true := by simpa using hv
  clear hv
  obtain ⟨am, lm, cm, rfl⟩ : ∃ a n c, mv = .slice a n c := by obtain ⟨a, c, e⟩ := hs.m.form; exact ⟨a, _, c, e⟩
  obtain ⟨ac, lc, cc, rfl⟩ : ∃ a n c, cv = .slice a n c := by obtain ⟨a, c, e⟩ := hs.c.form; exact ⟨a, _, c, e⟩
  have HLM := Lib.hid (show lm = ms.length by obtain ⟨a, c, e⟩ := hs.m.form; cases e; rfl)
  have HLC := Lib.hid (show lc = cs.length by obtain ⟨a, c, e⟩ := hs.c.form; cases e; rfl)
  go_enter Try.func39, Try.ntmps39
  go_wp2_with fail
  obtain ⟨B, hB⟩ : ∃ B, B = W.heap.size := ⟨_, rfl⟩
  obtain ⟨z, hz⟩ : ∃ z : Later W, z.w = W.alloc (.cells #[.int .i64 n, .slice am lm cm, .slice ac lc cc] 25) := ⟨Later.new _ _, rfl⟩
  have c0 : z.w.cell? ⟨B, 0, none⟩ = some (.int .i64 n) := by rw [hz, hB]; simp [go_sem]
  have c1 : z.w.cell? ⟨B, 1, none⟩ = some (.slice am lm cm) := by rw [hz, hB]; simp [go_sem]
  have c2 : z.w.cell? ⟨B, 2, none⟩ = some (.slice ac lc cc) := by rw [hz, hB]; simp [go_sem]
  have hBz : B < z.w.heap.size := by rw [hz, hB]; simp [go_sem]
  rw [← hz, ← hB]
  replace hs := hs.later z
  
  clear hz hB
  refine (refCheckSheet_calls n _ _ ms cs _ hs).mono ?_
  rintro e w' ⟨rfl, x, rfl⟩
  have g0 : x.w.cell? ⟨B, 0, none⟩ = some (.int .i64 n) := ((x).cell hBz).trans c0
  have g1 : x.w.cell? ⟨B, 1, none⟩ = some (.slice am lm cm) := ((x).cell hBz).trans c1
  have g2 : x.w.cell? ⟨B, 2, none⟩ = some (.slice ac lc cc) := ((x).cell hBz).trans c2
  have gB : B < x.w.heap.size := Nat.lt_of_lt_of_le hBz (x).size
  go_wp2_with fail
  refine (refCheckSheet_calls n _ _ ms cs _ (hs.later x)).mono ?_
  rintro e w' ⟨rfl, y, rfl⟩
  go_wp2
  go_ret2
  exact ⟨rfl, (z.step x).step y, rfl⟩

set_option maxRecDepth 100000 in
set_option maxHeartbeats 4000000 in
theorem WhyError_out (n : Nat) (mv cv : Value) (one : Int) (ho : one < 0 ∨ n ≤ one) (mn : List (Nat × Nat)) (cn : List Nat) (hS : Shn n mn cn) (W : World) (hs : Sht W mv cv (mn.map prI) (cn.map fun (c : Nat) => (c : Int))) :
    Calls Try.prog 39 #[.agg #[.int .i64 n, mv, cv], .int .i64 one] W (Gives (.tuple #[.slice none 0 0, .int .i64 2]) W) := by
  have HVS := Lib.hid hS.v
  obtain ⟨ms, hms⟩ : ∃ ms, mn.map prI = ms := ⟨_, rfl⟩
  obtain ⟨cs, hcs⟩ : ∃ cs, (cn.map fun (c : Nat) => (c : Int)) = cs := ⟨_, rfl⟩
  have h10 := hS.n10
  have h1 := hS.n1
  rw [hms, hcs] at hs HVS
  clear hms hcs
  obtain ⟨am, lm, cm, rfl⟩ : ∃ a n c, mv = .slice a n c := by obtain ⟨a, c, e⟩ := hs.m.form; exact ⟨a, _, c, e⟩
  obtain ⟨ac, lc, cc, rfl⟩ : ∃ a n c, cv = .slice a n c := by obtain ⟨a, c, e⟩ := hs.c.form; exact ⟨a, _, c, e⟩
  have HLM := Lib.hid (show lm = ms.length by obtain ⟨a, c, e⟩ := hs.m.form; cases e; rfl)
  have HLC := Lib.hid (show lc = cs.length by obtain ⟨a, c, e⟩ := hs.c.form; cases e; rfl)
  go_enter Try.func39, Try.ntmps39
  go_wp2_with fail
  obtain ⟨B, hB⟩ : ∃ B, B = W.heap.size := ⟨_, rfl⟩
  obtain ⟨z, hz⟩ : ∃ z : Later W, z.w = W.alloc (.cells #[.int .i64 n, .slice am lm cm, .slice ac lc cc] 25) := ⟨Later.new _ _, rfl⟩
  have c0 : z.w.cell? ⟨B, 0, none⟩ = some (.int .i64 n) := by rw [hz, hB]; simp [go_sem]
  have c1 : z.w.cell? ⟨B, 1, none⟩ = some (.slice am lm cm) := by rw [hz, hB]; simp [go_sem]
  have c2 : z.w.cell? ⟨B, 2, none⟩ = some (.slice ac lc cc) := by rw [hz, hB]; simp [go_sem]
  have hBz : B < z.w.heap.size := by rw [hz, hB]; simp [go_sem]
  rw [← hz, ← hB]
  replace hs := hs.later z
  
  clear hz hB
  refine (refCheckSheet_calls n _ _ ms cs _ hs).mono ?_
  rintro e w' ⟨rfl, x, rfl⟩
  have g0 : x.w.cell? ⟨B, 0, none⟩ = some (.int .i64 n) := ((x).cell hBz).trans c0
  have g1 : x.w.cell? ⟨B, 1, none⟩ = some (.slice am lm cm) := ((x).cell hBz).trans c1
  have g2 : x.w.cell? ⟨B, 2, none⟩ = some (.slice ac lc cc) := ((x).cell hBz).trans c2
  have gB : B < x.w.heap.size := Nat.lt_of_lt_of_le hBz (x).size
  rw [HVS.out]
  by_cases h0 : one < 0
  · have d1 := decide_eq_true h0
    go_wp2
    go_ret2
    exact ⟨rfl, z.step x, rfl⟩
  · have d1 := decide_eq_false h0
    have hn1 : (n : Int) ≤ one := by omega
    clear ho
    go_wp2
    go_ret2
    exact ⟨rfl, z.step x, rfl⟩

set_option maxRecDepth 100000 in
set_option maxHeartbeats 4000000 in
theorem WhyError_in (n : Nat) (mv cv : Value) (k : Nat) (hk : k < n) (mn : List (Nat × Nat)) (cn : List Nat) (hS : Shn n mn cn) (W : World) (hs : Sht W mv cv (mn.map prI) (cn.map fun (c : Nat) => (c : Int))) :
    Calls Try.prog 39 #[.agg #[.int .i64 n, mv, cv], .int .i64 (k : Int)] W (fun e w' => (k ∈ brightF hS.lay n → Gives (.tuple #[.slice none 0 0, .int .i64 5]) W e w') ∧ (k ∉ brightF hS.lay n → ∃ v, ∃ x : Later W, e = .returned (.tuple #[v, .int .i64 0]) ∧ w' = x.w ∧ Ints x.w v ((brightF hS.lay k ++ [k]).map fun (k : Nat) => (k : Int)))) := by
  have HVS := Lib.hid hS.v
  have HT := Lib.hid (fun (W : World) (mv cv : Value) hs => BrightestOf_calls n mv cv mn cn hS W hs)
  obtain ⟨ms, hms⟩ : ∃ ms, mn.map prI = ms := ⟨_, rfl⟩
  obtain ⟨cs, hcs⟩ : ∃ cs, (cn.map fun (c : Nat) => (c : Int)) = cs := ⟨_, rfl⟩
  have h10 := hS.n10
  have h1 := hS.n1
  obtain ⟨L, hL⟩ : ∃ L, hS.lay = L := ⟨_, rfl⟩
  rw [hL] at HT ⊢
  obtain ⟨l, hl⟩ : ∃ l, brightF L n = l := ⟨_, rfl⟩
  have HTK := Lib.hid (show l.filter (fun x => decide (x < k)) = brightF L k by rw [← hl]; exact Sat.brightF_take L (Nat.le_of_lt hk))
  have HSRT := Lib.hid (show l.Pairwise (· < ·) by rw [← hl]; exact Sat.brightF_sorted L n)
  have hll : l.length ≤ n := by rw [← hl]; exact bright_len L n
  rw [hl] at HT ⊢
  rw [hms, hcs] at hs HVS HT
  clear hms hcs hL hl
  obtain ⟨am, lm, cm, rfl⟩ : ∃ a n c, mv = .slice a n c := by obtain ⟨a, c, e⟩ := hs.m.form; exact ⟨a, _, c, e⟩
  obtain ⟨ac, lc, cc, rfl⟩ : ∃ a n c, cv = .slice a n c := by obtain ⟨a, c, e⟩ := hs.c.form; exact ⟨a, _, c, e⟩
  have HLM := Lib.hid (show lm = ms.length by obtain ⟨a, c, e⟩ := hs.m.form; cases e; rfl)
  have HLC := Lib.hid (show lc = cs.length by obtain ⟨a, c, e⟩ := hs.c.form; cases e; rfl)
  go_enter Try.func39, Try.ntmps39
  go_wp2_with fail
  obtain ⟨B, hB⟩ : ∃ B, B = W.heap.size := ⟨_, rfl⟩
  obtain ⟨z, hz⟩ : ∃ z : Later W, z.w = W.alloc (.cells #[.int .i64 n, .slice am lm cm, .slice ac lc cc] 25) := ⟨Later.new _ _, rfl⟩
  have c0 : z.w.cell? ⟨B, 0, none⟩ = some (.int .i64 n) := by rw [hz, hB]; simp [go_sem]
  have c1 : z.w.cell? ⟨B, 1, none⟩ = some (.slice am lm cm) := by rw [hz, hB]; simp [go_sem]
  have c2 : z.w.cell? ⟨B, 2, none⟩ = some (.slice ac lc cc) := by rw [hz, hB]; simp [go_sem]
  have hBz : B < z.w.heap.size := by rw [hz, hB]; simp [go_sem]
  rw [← hz, ← hB]
  replace hs := hs.later z
  
  clear hz hB
  refine (refCheckSheet_calls n _ _ ms cs _ hs).mono ?_
  rintro e w' ⟨rfl, x, rfl⟩
  have g0 : x.w.cell? ⟨B, 0, none⟩ = some (.int .i64 n) := ((x).cell hBz).trans c0
  have g1 : x.w.cell? ⟨B, 1, none⟩ = some (.slice am lm cm) := ((x).cell hBz).trans c1
  have g2 : x.w.cell? ⟨B, 2, none⟩ = some (.slice ac lc cc) := ((x).cell hBz).trans c2
  have gB : B < x.w.heap.size := Nat.lt_of_lt_of_le hBz (x).size
  rw [HVS.out]
  go_wp2_with fail
  refine (HT.out _ _ _ (hs.later x)).mono ?_
  rintro e w' ⟨v, y, rfl, rfl, hB⟩
  obtain ⟨aa, la, ca, rfl⟩ : ∃ a n c, v = .slice a n c := by obtain ⟨a, c, e⟩ := hB.form; exact ⟨a, _, c, e⟩
  have HLA := Lib.hid (show la = l.length by obtain ⟨a, c, e⟩ := hB.form; cases e; simp)
  have hla : la ≤ 10 := by rw [HLA.out]; omega
  have hhas := Has_calls _ _ (k : Int) y.w hB
  rw [hasB_nat] at hhas
  clear g0 g1 g2 gB hll
  cases hh : l.contains k
  rotate_left
  · have hmem : k ∈ l := List.contains_iff_mem.1 hh
    have HMEM := Lib.hid hmem
    rw [hh] at hhas
    clear hmem hh
    go_wp2_with (go_at_call 43; (with_reducible refine hhas.mono ?_); rintro e w' ⟨rfl, rfl⟩)
    go_ret2
    exact ⟨fun _ => ⟨rfl, (z.step x).step y, rfl⟩, fun h => absurd HMEM.out h⟩
  have HMEM := Lib.hid (show k ∉ l from fun h => by rw [List.contains_iff_mem.2 h] at hh; cases hh)
  rw [hh] at hhas
  clear hh
  obtain ⟨V, hV⟩ : ∃ q : Later z.w, y.w = q.w := ⟨x.step y, rfl⟩
  rw [hV] at hB hhas ⊢
  clear hV y x
  go_wp2_with (go_at_call 43; (with_reducible refine hhas.mono ?_); rintro e w' ⟨rfl, rfl⟩)
  clear hhas
  go_loopw [7, 8] (fun ov i wr => ∃ (j : Nat) (u : Later V.w), wr = u.w ∧ j ≤ la ∧ i = .int .i64 j ∧ IntsM V.w.heap.size u.w ov ((l.take j).map fun (k : Nat) => (k : Int)) ∧ Hid (∀ i (hi : i < l.length), i < j → l[i] < k)) (fun ov i _ => la - (intOf i).toNat)
  case atStart => exact ⟨0, Later.self _, rfl, Nat.zero_le _, rfl, by simpa using IntsM.nil _ _, fun i hi h => absurd h (Nat.not_lt_zero _)⟩
  case round =>
    obtain ⟨j, u, rfl, hj, rfl, hO, hP⟩ := hrel
    obtain ⟨ao, lo, co, rfl⟩ := hO.form'
    have hstep := app_int_stepM (W := V.w) u.le hO
    have hjl : ((l.take j).map fun (k : Nat) => (k : Int)).length ≤ 10 := by simp; have := HLA.out; omega
    by_cases hlt : j < la
    · obtain ⟨bm, om, km, e, hkm, hbm, hgm⟩ := hB.at (k := j) (by rw [List.length_map, ← HLA.out]; exact hlt)
      injection e with e1 e2 e3
      subst e1
      have hjL : j < l.length := by rw [← HLA.out]; exact hlt
      have m1 := (u.cell hbm).trans (hgm j (by rw [List.length_map]; exact hjL))
      have ml := Nat.lt_of_lt_of_le hbm u.size
      rw [show nth (l.map fun (k : Nat) => (k : Int)) j = (l[j] : Nat) by rw [nth_eq (by simpa using hjL)]; simp] at m1
      obtain ⟨q, hq⟩ : ∃ q, l[j] = q := ⟨_, rfl⟩
      rw [hq] at m1
      have HQ := Lib.hid hq
      clear e2 e3 hgm hkm
      by_cases hqk : q < k
      · obtain ⟨v2, q2, hr2, hA2, -⟩ := hstep q (by omega) 23
        have HR2 := Lib.hid hr2
        have HJ := Lib.hid (show ((l.take j).map (fun (k : Nat) => (k : Int)) ++ [(q : Int)]) = (l.take (j + 1)).map fun (k : Nat) => (k : Int) by rw [List.take_succ_eq_append_getElem hjL, hq]; simp)
        clear hstep hr2 hq
        go_wp2_with ((with_reducible show wpList _ _ _ (⟨some 47, _, _, _, _, _⟩ :: _) _ _); refine Lib.wpList_append_run_sl _ rfl _ _ 23 rfl _ _ rfl rfl HR2.out ?_)
        go_roundw
        case rel => exact ⟨j + 1, q2, rfl, by omega, by go_num, by rw [← HJ.out]; exact hA2, fun i hi h => by
          by_cases e : i = j
          · subst e; rw [HQ.out]; exact hqk
          · exact hP.out i hi (by omega)⟩
        case measure => simp [intOf]; omega
      · obtain ⟨v2, q2, hr2, hA2, -⟩ := hstep k (by omega) 23
        have HR2 := Lib.hid hr2
        have HT2 := Lib.hid (show l.take j = brightF L k by rw [← HTK.out]; exact take_below HSRT.out (Nat.le_of_lt hjL) hP.out fun _ => ⟨hjL, by rw [hq]; omega⟩)
        clear hstep hr2 hq
        go_wp2_with ((with_reducible show wpList _ _ _ (⟨some 51, _, _, _, _, _⟩ :: _) _ _); refine Lib.wpList_append_run_sl _ rfl _ _ 23 rfl _ _ rfl rfl HR2.out ?_)
        go_ret2
        exact ⟨fun h => absurd h HMEM.out, fun _ => ⟨_, (z.step V).step q2, rfl, rfl, by rw [List.map_append, ← HT2.out]; exact hA2.ints (by rw [List.length_append]; simp only [List.length_singleton]; omega)⟩⟩
    · obtain rfl : la = j := by omega
      obtain ⟨v2, q2, hr2, hA2, -⟩ := hstep k (by omega) 23
      have HR2 := Lib.hid hr2
      have HT2 := Lib.hid (show l.take la = brightF L k by rw [← HTK.out]; exact take_below HSRT.out (by rw [HLA.out]; exact Nat.le_refl _) hP.out fun h => absurd h (by rw [HLA.out]; exact Nat.lt_irrefl _))
      clear hstep hr2
      go_wp2_with ((with_reducible show wpList _ _ _ (⟨some 51, _, _, _, _, _⟩ :: _) _ _); refine Lib.wpList_append_run_sl _ rfl _ _ 23 rfl _ _ rfl rfl HR2.out ?_)
      go_ret2
      exact ⟨fun h => absurd h HMEM.out, fun _ => ⟨_, (z.step V).step q2, rfl, rfl, by rw [List.map_append, ← HT2.out]; exact hA2.ints (by rw [List.length_append]; simp only [List.length_singleton]; omega)⟩⟩

end Go.Proofs.Ytdhdpbnlhnodjaa
