import Derived.Test.YtdhdpbnlhnodjaaKPrgC
import Derived.Test.YtdhdpbnlhnodjaaKDesk
import Derived.Test.YtdhdpbnlhnodjaaKRefG
import Derived.Test.YtdhdpbnlhnodjaaKOwn
import Derived.Test.YtdhdpbnlhnodjaaKBase
import Derived.Test.YtdhdpbnlhnodjaaKTri
/-  The program: open, named. -/
namespace Go.Proofs.Ytdhdpbnlhnodjaa
open Go.RowKit
set_option maxRecDepth 100000 in
set_option maxHeartbeats 4000000 in
theorem open_bad (n : Int) (mv cv : Value) (ms : List (Int × Int)) (cs : List Int) (W : World) (hs : Sht W mv cv ms cs) (hv : vsheet n ms cs ≠ 0) :
    Calls Try.prog 52 #[.agg #[.int .i64 n, mv, cv]] W (Gives (.tuple #[.pointer none, .int .i64 (vsheet n ms cs)]) W) := by
  have hvb : (vsheet n ms cs != 0) = true := by simpa using hv
  clear hv
  obtain ⟨am, lm, cm, rfl⟩ : ∃ a n c, mv = .slice a n c := by obtain ⟨a, c, e⟩ := hs.m.form; exact ⟨a, _, c, e⟩
  obtain ⟨ac, lc, cc, rfl⟩ : ∃ a n c, cv = .slice a n c := by obtain ⟨a, c, e⟩ := hs.c.form; exact ⟨a, _, c, e⟩
  have HLM := Lib.hid (show lm = ms.length by obtain ⟨a, c, e⟩ := hs.m.form; cases e; rfl)
  have HLC := Lib.hid (show lc = cs.length by obtain ⟨a, c, e⟩ := hs.c.form; cases e; rfl)
  go_enter Try.func52, Try.ntmps52
  go_wp2_with fail
  obtain ⟨B, hB⟩ : ∃ B, B = W.heap.size := ⟨_, rfl⟩
  obtain ⟨z, hz⟩ : ∃ z : Later W, z.w = W.alloc (.cells #[.int .i64 n, .slice am lm cm, .slice ac lc cc] 25) := ⟨Later.new _ _, rfl⟩
  have c0 : z.w.cell? ⟨B, 0, none⟩ = some (.int .i64 n) := by rw [hz, hB]; simp [go_sem]
  have c1 : z.w.cell? ⟨B, 1, none⟩ = some (.slice am lm cm) := by rw [hz, hB]; simp [go_sem]
  have c2 : z.w.cell? ⟨B, 2, none⟩ = some (.slice ac lc cc) := by rw [hz, hB]; simp [go_sem]
  have hBz : B < z.w.heap.size := by rw [hz, hB]; simp [go_sem]
  rw [← hz, ← hB]
  replace hs := hs.later z
  
  clear hz hB
  refine (CheckSheet_calls n _ _ ms cs _ hs).mono ?_
  rintro e w' ⟨rfl, x, rfl⟩
  have g0 : x.w.cell? ⟨B, 0, none⟩ = some (.int .i64 n) := ((x).cell hBz).trans c0
  have g1 : x.w.cell? ⟨B, 1, none⟩ = some (.slice am lm cm) := ((x).cell hBz).trans c1
  have g2 : x.w.cell? ⟨B, 2, none⟩ = some (.slice ac lc cc) := ((x).cell hBz).trans c2
  have gB : B < x.w.heap.size := Nat.lt_of_lt_of_le hBz (x).size
  go_wp2
  go_ret2
  exact ⟨rfl, z.step x, rfl⟩

set_option maxRecDepth 100000 in
set_option maxHeartbeats 4000000 in
theorem open_calls (n : Nat) (mv cv : Value) (mn : List (Nat × Nat)) (cn : List Nat) (hS : Shn n mn cn) (W : World) (hs : Sht W mv cv (mn.map prI) (cn.map fun (c : Nat) => (c : Int))) :
    Calls Try.prog 52 #[.agg #[.int .i64 n, mv, cv]] W (fun e w' => ∃ b m nv, ∃ x : Later W, e = .returned (.tuple #[.pointer (some ⟨b, 0, none⟩), .int .i64 0]) ∧ w' = x.w ∧ DeskB W.heap.size x.w b m n mv cv nv (meetsT (mn.map prI)) (coverA (cn.map fun (c : Nat) => (c : Int))) ∧ Ints x.w nv ((List.range n).map fun (k : Nat) => (k : Int))) := by
  have HVS := Lib.hid hS.v
  have HT := Lib.hid (fun (W : World) (mv cv : Value) hs => newDesk_calls n mv cv mn cn hS W hs)
  obtain ⟨ms, hms⟩ : ∃ ms, mn.map prI = ms := ⟨_, rfl⟩
  obtain ⟨cs, hcs⟩ : ∃ cs, (cn.map fun (c : Nat) => (c : Int)) = cs := ⟨_, rfl⟩
  have h10 := hS.n10
  have h1 := hS.n1
  rw [hms, hcs] at hs HVS HT ⊢
  clear hms hcs
  obtain ⟨am, lm, cm, rfl⟩ : ∃ a n c, mv = .slice a n c := by obtain ⟨a, c, e⟩ := hs.m.form; exact ⟨a, _, c, e⟩
  obtain ⟨ac, lc, cc, rfl⟩ : ∃ a n c, cv = .slice a n c := by obtain ⟨a, c, e⟩ := hs.c.form; exact ⟨a, _, c, e⟩
  have HLM := Lib.hid (show lm = ms.length by obtain ⟨a, c, e⟩ := hs.m.form; cases e; rfl)
  have HLC := Lib.hid (show lc = cs.length by obtain ⟨a, c, e⟩ := hs.c.form; cases e; rfl)
  go_enter Try.func52, Try.ntmps52
  go_wp2_with fail
  obtain ⟨B, hB⟩ : ∃ B, B = W.heap.size := ⟨_, rfl⟩
  obtain ⟨z, hz⟩ : ∃ z : Later W, z.w = W.alloc (.cells #[.int .i64 n, .slice am lm cm, .slice ac lc cc] 25) := ⟨Later.new _ _, rfl⟩
  have c0 : z.w.cell? ⟨B, 0, none⟩ = some (.int .i64 n) := by rw [hz, hB]; simp [go_sem]
  have c1 : z.w.cell? ⟨B, 1, none⟩ = some (.slice am lm cm) := by rw [hz, hB]; simp [go_sem]
  have c2 : z.w.cell? ⟨B, 2, none⟩ = some (.slice ac lc cc) := by rw [hz, hB]; simp [go_sem]
  have hBz : B < z.w.heap.size := by rw [hz, hB]; simp [go_sem]
  rw [← hz, ← hB]
  replace hs := hs.later z
  
  clear hz hB
  refine (CheckSheet_calls n _ _ ms cs _ hs).mono ?_
  rintro e w' ⟨rfl, x, rfl⟩
  have g0 : x.w.cell? ⟨B, 0, none⟩ = some (.int .i64 n) := ((x).cell hBz).trans c0
  have g1 : x.w.cell? ⟨B, 1, none⟩ = some (.slice am lm cm) := ((x).cell hBz).trans c1
  have g2 : x.w.cell? ⟨B, 2, none⟩ = some (.slice ac lc cc) := ((x).cell hBz).trans c2
  have gB : B < x.w.heap.size := Nat.lt_of_lt_of_le hBz (x).size
  rw [HVS.out]
  go_wp2_with fail
  refine (HT.out _ _ _ (hs.later x)).mono ?_
  rintro e w' ⟨b, m, nv, y, rfl, rfl, hD, hN⟩
  go_wp2
  go_ret2
  exact ⟨b, m, nv, (z.step x).step y, rfl, rfl, hD.mono (z.step x).size, hN⟩

theorem meetsT_keys {ms : List (Int × Int)} {B : Int} (h : ∀ q ∈ ms, (0 ≤ q.1 ∧ q.1 < B) ∧ 0 ≤ q.2 ∧ q.2 < B) : ∀ q ∈ meetsT ms, (0 ≤ q.1.1 ∧ q.1.1 < B) ∧ 0 ≤ q.1.2 ∧ q.1.2 < B := by
  have hput : ∀ (M : PM) (k : PK) (v : Int), (∀ q ∈ M, (0 ≤ q.1.1 ∧ q.1.1 < B) ∧ 0 ≤ q.1.2 ∧ q.1.2 < B) → ((0 ≤ k.1 ∧ k.1 < B) ∧ 0 ≤ k.2 ∧ k.2 < B) → ∀ q ∈ Tb.put M k v, (0 ≤ q.1.1 ∧ q.1.1 < B) ∧ 0 ≤ q.1.2 ∧ q.1.2 < B := by
    intro M k v hM hk q hq
    rw [Tb.put] at hq
    split at hq
    · obtain ⟨p, hp, rfl⟩ := List.mem_map.1 hq
      split
      · exact hk
      · exact hM p hp
    · rcases List.mem_append.1 hq with hq | hq
      · exact hM q hq
      · have : q = (k, v) := by simpa using hq
        subst this; exact hk
  have key : ∀ (l : List (Int × Int)) (M : PM), (∀ q ∈ l, (0 ≤ q.1 ∧ q.1 < B) ∧ 0 ≤ q.2 ∧ q.2 < B) → (∀ q ∈ M, (0 ≤ q.1.1 ∧ q.1.1 < B) ∧ 0 ≤ q.1.2 ∧ q.1.2 < B) → ∀ q ∈ l.foldl both M, (0 ≤ q.1.1 ∧ q.1.1 < B) ∧ 0 ≤ q.1.2 ∧ q.1.2 < B := by
    intro l
    induction l with
    | nil => intro M _ h; exact h
    | cons x l ih =>
      intro M hl hM
      rw [List.foldl_cons]
      have hx := hl x (by simp)
      refine ih _ (fun q hq => hl q (by simp [hq])) ?_
      unfold both bump
      exact hput _ _ _ (hput _ _ _ hM ⟨hx.1, hx.2⟩) ⟨hx.2, hx.1⟩
  exact key ms [] h (fun q hq => absurd hq (by simp))
set_option maxRecDepth 100000 in
set_option maxHeartbeats 8000000 in
theorem named_bad (n : Int) (mv cv nv : Value) (ms : List (Int × Int)) (cs : List Int) (W : World) (hs : Sht W mv cv ms cs) (hnv : ∃ a k c, nv = .slice a k c) (hv : vsheet n ms cs ≠ 0) :
    Calls Try.prog 59 #[.agg #[.int .i64 n, mv, cv], nv] W (Gives (.tuple #[.pointer none, .int .i64 (vsheet n ms cs)]) W) := by
  have HV := Lib.hid hv
  have hvb : (vsheet n ms cs != 0) = true := by simpa using hv
  clear hv
  obtain ⟨ax, lx, cx, rfl⟩ := hnv
  obtain ⟨am, lm, cm, rfl⟩ : ∃ a n c, mv = .slice a n c := by obtain ⟨a, c, e⟩ := hs.m.form; exact ⟨a, _, c, e⟩
  obtain ⟨ac, lc, cc, rfl⟩ : ∃ a n c, cv = .slice a n c := by obtain ⟨a, c, e⟩ := hs.c.form; exact ⟨a, _, c, e⟩
  have HLM := Lib.hid (show lm = ms.length by obtain ⟨a, c, e⟩ := hs.m.form; cases e; rfl)
  have HLC := Lib.hid (show lc = cs.length by obtain ⟨a, c, e⟩ := hs.c.form; cases e; rfl)
  go_enter Try.func59, Try.ntmps59
  go_wp2_with fail
  obtain ⟨B, hB⟩ : ∃ B, B = W.heap.size := ⟨_, rfl⟩
  obtain ⟨z, hz⟩ : ∃ z : Later W, z.w = W.alloc (.cells #[.int .i64 n, .slice am lm cm, .slice ac lc cc] 25) := ⟨Later.new _ _, rfl⟩
  have c0 : z.w.cell? ⟨B, 0, none⟩ = some (.int .i64 n) := by rw [hz, hB]; simp [go_sem]
  have c1 : z.w.cell? ⟨B, 1, none⟩ = some (.slice am lm cm) := by rw [hz, hB]; simp [go_sem]
  have c2 : z.w.cell? ⟨B, 2, none⟩ = some (.slice ac lc cc) := by rw [hz, hB]; simp [go_sem]
  have hBz : B < z.w.heap.size := by rw [hz, hB]; simp [go_sem]
  rw [← hz, ← hB]
  replace hs := hs.later z
  
  clear hz hB
  refine (open_bad n _ _ ms cs _ hs HV.out).mono ?_
  rintro e w' ⟨rfl, x, rfl⟩
  go_wp2
  go_ret2
  exact ⟨rfl, z.step x, rfl⟩
set_option maxRecDepth 100000 in
set_option maxHeartbeats 8000000 in
theorem named_calls (n : Nat) (mv cv nv : Value) (mn : List (Nat × Nat)) (cn : List Nat) (xs : List Int) (hS : Shn n mn cn) (W : World) (hs : Sht W mv cv (mn.map prI) (cn.map fun (c : Nat) => (c : Int))) (hx : Ints W nv xs) :
    Calls Try.prog 59 #[.agg #[.int .i64 n, mv, cv], nv] W fun e w' => (namesB n xs = false → Gives (.tuple #[.pointer none, .int .i64 2]) W e w') ∧
      (namesB n xs = true → ∃ b m, ∃ x : Later W, e = .returned (.tuple #[.pointer (some ⟨b, 0, none⟩), .int .i64 0]) ∧ w' = x.w ∧ DeskB W.heap.size x.w b m n mv cv nv (keepM xs (meetsT (mn.map prI))) (coverA (cn.map fun (c : Nat) => (c : Int)))) := by
  have h10 := hS.n10
  have h1 := hS.n1
  have HT := Lib.hid (fun (W : World) (mv cv : Value) hs => open_calls n mv cv mn cn hS W hs)
  have HKEY := Lib.hid (meetsT_keys (B := 20) (ms := mn.map prI) fun q hq => by
    obtain ⟨m, hm, rfl⟩ := List.mem_map.1 hq
    have := hS.mr m hm
    simp only [prI]
    omega)
  obtain ⟨ms, hms⟩ : ∃ ms, mn.map prI = ms := ⟨_, rfl⟩
  obtain ⟨cs, hcs⟩ : ∃ cs, (cn.map fun (c : Nat) => (c : Int)) = cs := ⟨_, rfl⟩
  rw [hms] at hs HT HKEY ⊢
  rw [hcs] at hs HT ⊢
  clear hms hcs
  obtain ⟨nb, hnb⟩ : ∃ nb, namesB n xs = nb := ⟨_, rfl⟩
  have HNB := Lib.hid hnb
  rw [hnb]
  clear hnb
  have hxl := hx.1
  obtain ⟨ax, lx, cx, rfl⟩ : ∃ a n c, nv = .slice a n c := by obtain ⟨a, c, e⟩ := hx.form; exact ⟨a, _, c, e⟩
  have HLX := Lib.hid (show lx = xs.length by obtain ⟨a, c, e⟩ := hx.form; cases e; rfl)
  have hl2 : lx ≤ 9007199254740992 := by rw [HLX.out]; exact hxl
  obtain ⟨am, lm, cm, rfl⟩ : ∃ a n c, mv = .slice a n c := by obtain ⟨a, c, e⟩ := hs.m.form; exact ⟨a, _, c, e⟩
  obtain ⟨ac, lc, cc, rfl⟩ : ∃ a n c, cv = .slice a n c := by obtain ⟨a, c, e⟩ := hs.c.form; exact ⟨a, _, c, e⟩
  have HLM := Lib.hid (show lm = ms.length by obtain ⟨a, c, e⟩ := hs.m.form; cases e; rfl)
  have HLC := Lib.hid (show lc = cs.length by obtain ⟨a, c, e⟩ := hs.c.form; cases e; rfl)
  go_enter Try.func59, Try.ntmps59
  go_wp2_with fail
  have hx0 := hx
  obtain ⟨B, hB⟩ : ∃ B, B = W.heap.size := ⟨_, rfl⟩
  obtain ⟨z, hz⟩ : ∃ z : Later W, z.w = W.alloc (.cells #[.int .i64 n, .slice am lm cm, .slice ac lc cc] 25) := ⟨Later.new _ _, rfl⟩
  have c0 : z.w.cell? ⟨B, 0, none⟩ = some (.int .i64 n) := by rw [hz, hB]; simp [go_sem]
  have c1 : z.w.cell? ⟨B, 1, none⟩ = some (.slice am lm cm) := by rw [hz, hB]; simp [go_sem]
  have c2 : z.w.cell? ⟨B, 2, none⟩ = some (.slice ac lc cc) := by rw [hz, hB]; simp [go_sem]
  have hBz : B < z.w.heap.size := by rw [hz, hB]; simp [go_sem]
  rw [← hz, ← hB]
  replace hs := hs.later z
  
  clear hz hB
  refine (HT.out _ _ _ hs).mono ?_
  rintro e w' ⟨b, m, ov, x, rfl, rfl, hD, hO⟩
  have hov : ∃ a k c, ov = .slice a k c := by obtain ⟨a, c, e⟩ := hO.form; exact ⟨a, _, c, e⟩
  have hD0 := hD.mono z.size
  clear hD hO
  have HD := Lib.hid hD0
  clear hD0
  go_wp2_with fail
  go_loopw [8, 21] (fun nx i wr => ∃ (k : Nat) (u : Later x.w) (lo : Int), wr = u.w ∧ k ≤ lx ∧ 0 ≤ lo ∧ lo ≤ 20 ∧ i = .int .i64 k ∧ nx = .int .i64 lo ∧ Hid (nb = namesF n lo (xs.drop k))) (fun nx i _ => lx - (intOf i).toNat)
  case atStart => exact ⟨0, Later.self _, 0, rfl, Nat.zero_le _, by omega, by omega, rfl, rfl, HNB.out.symm⟩
  case round =>
    obtain ⟨k, u, lo, rfl, hk, hlo0, hlo, rfl, rfl, hP⟩ := hrel
    have g0 : u.w.cell? ⟨B, 0, none⟩ = some (.int .i64 n) := ((x.step u).cell hBz).trans c0
    have gB : B < u.w.heap.size := Nat.lt_of_lt_of_le hBz (x.step u).size
    by_cases hlt : k < lx
    · obtain ⟨bm, om, km, e, hkm, hbm, hgm⟩ := hx.at (k := k) (by rw [← HLX.out]; exact hlt)
      injection e with e1 e2 e3
      subst e1
      have m1 : u.w.cell? ⟨bm, om + k, none⟩ = some (.int .i64 (nth xs k)) := (((z.step x).step u).cell hbm).trans (hgm k (by rw [← HLX.out]; exact hlt))
      have ml : bm < u.w.heap.size := Nat.lt_of_lt_of_le hbm ((z.step x).step u).size
      have HDR := Lib.hid (namesF_drop n lo xs k (by rw [← HLX.out]; exact hlt))
      obtain ⟨p, hp⟩ : ∃ p, nth xs k = p := ⟨_, rfl⟩
      rw [hp] at m1 HDR
      clear e2 e3 hgm hkm hp
      obtain ⟨u1, hu1⟩ : ∃ q : Later u.w, u.w.alloc (.cells #[.int .i64 p] 3) = q.w := ⟨Later.new _ _, rfl⟩
      have hI := Ints.lit u.w [p] 3 (b := u.w.heap.size) (arr := #[.int .i64 p]) (n := 1) rfl rfl rfl (by simp)
      have hwc := within_calls _ [p] lo ((n : Int) - 1) _ hI
      rw [hu1, one_any] at hwc
      obtain ⟨r, hr⟩ : ∃ r, outB lo ((n : Int) - 1) p = r := ⟨_, rfl⟩
      rw [hr] at hwc
      have HR := Lib.hid hr
      have HU1 := Lib.hid hu1
      have HWC := Lib.hid hwc
      clear hI hr hwc hu1
      go_wp2_with fail
      rw [HU1.out]
      refine HWC.out.mono ?_
      rintro e w' ⟨rfl, y, rfl⟩
      obtain ⟨V, hV⟩ : ∃ q : Later x.w, y.w = q.w := ⟨(u.step u1).step y, rfl⟩
      rw [hV]
      clear hV HWC HU1 y u1 g0 gB m1 ml
      cases r
      · have hpr : lo ≤ p ∧ p < n := by
          have h := HR.out
          rw [outB, Bool.or_eq_false_iff] at h
          have h2 := of_decide_eq_false h.1
          have h3 := of_decide_eq_false h.2
          omega
        have HN2 := Lib.hid (show nb = namesF n (p + 1) (xs.drop (k + 1)) by rw [hP.out, HDR.out, decide_eq_true hpr.1, decide_eq_true hpr.2]; rfl)
        go_wp2
        go_roundw
        case rel => exact ⟨k + 1, V, p + 1, rfl, by omega, by omega, by omega, by go_num, rfl, HN2.out⟩
        case measure => simp [intOf]; omega
      · have HBAD := Lib.hid (show nb = false by
          rw [hP.out, HDR.out]
          have h := HR.out
          rw [outB, Bool.or_eq_true, decide_eq_true_iff, decide_eq_true_iff] at h
          by_cases h2 : lo ≤ p
          · rw [decide_eq_false (show ¬ p < n by omega)]; simp
          · rw [decide_eq_false h2]; simp)
        go_wp2
        go_ret2
        exact ⟨fun _ => ⟨rfl, (z.step x).step V, rfl⟩, fun h => by rw [HBAD.out] at h; cases h⟩
    · obtain rfl : lx = k := by omega
      have HG := Lib.hid (show nb = true by rw [hP.out, List.drop_eq_nil_of_le (by rw [HLX.out]; exact Nat.le_refl _)]; rfl)
      clear g0 gB
      go_wp2_with fail
      have hkc := keep_calls W ((z.step x).step u) b m n _ _ ov (.slice ax lx cx) _ _ xs (HD.out.later u) hx0 hov HKEY.out
      refine hkc.mono ?_
      clear hkc
      rintro e w' ⟨rfl, v, rfl, hDk⟩
      have HDK := Lib.hid hDk
      clear hDk
      go_wp2
      go_ret2
      exact ⟨(fun h => by rw [HG.out] at h; cases h), fun _ => ⟨b, m, v, rfl, rfl, HDK.out⟩⟩

end Go.Proofs.Ytdhdpbnlhnodjaa

/-  The program: a desk, as its functions see it; free. -/
namespace Go.Proofs.Ytdhdpbnlhnodjaa
open Go.RowKit

theorem gt_keep {xs : List Int} {M : PM} {k : PK} (h : keepB xs k = true) : gt (keepM xs M) k = gt M k := by
  rw [gt, gt, Tb.get, Tb.get, keepM, List.find?_filter]
  congr 2
  have e : (fun a : PK × Int => keepB xs a.1 && decide (a.1 = k)) = fun a => decide (a.1 = k) := by
    funext a
    by_cases e : a.1 = k
    · rw [e, h]; rfl
    · simp [e]
  first | rw [e] | simp_all
/-- a desk with the names N, over the places of the sheet L -/
def Dk (L : Sat.Lay) (N : List Nat) (n lo : Nat) (U : World) (b : Nat) : Prop :=
  ∃ (m : Nat) (mv cv nv : Value) (M : PM) (cov : List Int), DeskB lo U b m n mv cv nv M cov ∧ Ints U nv (N.map fun (k : Nat) => (k : Int)) ∧
    (∀ p q : Nat, p / 2 ∈ N → q / 2 ∈ N → decide (0 < gt M ((p : Int), (q : Int))) = L.meet p q) ∧ ∀ p, p < 20 → 0 ≤ nth cov p ∧ decide (0 < nth cov p) = L.cov p
theorem Dk.later {L : Sat.Lay} {N : List Nat} {n lo : Nat} {U : World} {b : Nat} (h : Dk L N n lo U b) (x : Later U) : Dk L N n lo x.w b := by
  obtain ⟨m, mv, cv, nv, M, cov, h1, h2, h3⟩ := h
  exact ⟨m, mv, cv, nv, M, cov, h1.later x, h2.later x, h3⟩
theorem gt_sheet {n : Nat} {mn : List (Nat × Nat)} {cn : List Nat} (hS : Shn n mn cn) (p q : Nat) : decide (0 < gt (meetsT (mn.map prI)) ((p : Int), (q : Int))) = hS.lay.meet p q := by
  show _ = Sat.meetP mn p q
  rw [Bool.eq_iff_iff, decide_eq_true_iff, (gt_meets _ _ _).2, Sat.meetP, List.any_eq_true]
  constructor
  · rintro ⟨m', hm', h⟩
    obtain ⟨m, hm, rfl⟩ := List.mem_map.1 hm'
    simp only [prI] at h
    refine ⟨m, hm, ?_⟩
    simp only [Bool.or_eq_true, Bool.and_eq_true, beq_iff_eq]
    omega
  · rintro ⟨m, hm, h⟩
    refine ⟨prI m, List.mem_map.2 ⟨m, hm, rfl⟩, ?_⟩
    simp only [Bool.or_eq_true, Bool.and_eq_true, beq_iff_eq] at h
    simp only [prI]
    omega
theorem cov_sheet {n : Nat} {mn : List (Nat × Nat)} {cn : List Nat} (hS : Shn n mn cn) (p : Nat) : 0 ≤ nth (coverA (cn.map fun (c : Nat) => (c : Int))) p ∧ decide (0 < nth (coverA (cn.map fun (c : Nat) => (c : Int))) p) = hS.lay.cov p := by
  have h := coverA_gt cn (fun c hc => by have := hS.cr c hc; have := hS.n10; omega) p
  refine ⟨h.1, ?_⟩
  show _ = cn.contains p
  rw [Bool.eq_iff_iff, decide_eq_true_iff, h.2.1, List.contains_iff_mem]
theorem DeskB.dk {lo : Nat} {U : World} {b m n : Nat} {mv cv nv : Value} {mn : List (Nat × Nat)} {cn : List Nat} (hS : Shn n mn cn)
    (h : DeskB lo U b m n mv cv nv (meetsT (mn.map prI)) (coverA (cn.map fun (c : Nat) => (c : Int)))) {N : List Nat} (hN : Ints U nv (N.map fun (k : Nat) => (k : Int))) : Dk hS.lay N n lo U b :=
  ⟨m, mv, cv, nv, _, _, h, hN, fun p q _ _ => gt_sheet hS p q, fun p _ => cov_sheet hS p⟩
theorem DeskB.dk_keep {lo : Nat} {U : World} {b m n : Nat} {mv cv nv : Value} {mn : List (Nat × Nat)} {cn : List Nat} (hS : Shn n mn cn) {N : List Nat}
    (h : DeskB lo U b m n mv cv nv (keepM (N.map fun (k : Nat) => (k : Int)) (meetsT (mn.map prI))) (coverA (cn.map fun (c : Nat) => (c : Int)))) (hN : Ints U nv (N.map fun (k : Nat) => (k : Int))) : Dk hS.lay N n lo U b :=
  ⟨m, mv, cv, nv, _, _, h, hN, fun p q hp hq => by
    rw [gt_keep, gt_sheet hS p q]
    rw [keepB]
    simp only []
    rw [show (p : Int) / 2 = ((p / 2 : Nat) : Int) by omega, show (q : Int) / 2 = ((q / 2 : Nat) : Int) by omega, hasB_nat, hasB_nat, List.contains_iff_mem.2 hp, List.contains_iff_mem.2 hq]; rfl, fun p _ => cov_sheet hS p⟩
set_option maxRecDepth 100000 in
set_option maxHeartbeats 4000000 in
theorem free1_calls (lo : Nat) (U : World) (b m : Nat) (n : Int) (mv cv nv : Value) (M : PM) (cov : List Int) (hD : DeskB lo U b m n mv cv nv M cov) (u p : Int) (c1 c2 : Nat)
    (h1 : U.cell? ⟨c1, 0, none⟩ = some (.pointer (some ⟨b, 0, none⟩))) (h2 : U.cell? ⟨c2, 0, none⟩ = some (.int .i64 p)) :
    Calls Try.prog 76 #[.int .i64 u, .pointer (some ⟨c1, 0, none⟩), .pointer (some ⟨c2, 0, none⟩)] U (Gives (.bool (decide (0 < gt M (p, u)))) U) := by
  have hlook := fun (x : Later U) => (hD.later x).tab.look pair_keys Try.underlying87 (z := .int .i64 0) (fun w => by kernel_rfl) (p, u) false
  simp only [look_gt, Bool.false_eq_true, if_false, pairV] at hlook
  obtain ⟨g, hg⟩ : ∃ g, gt M (p, u) = g := ⟨_, rfl⟩
  rw [hg] at hlook ⊢
  have d3 := hD.c3
  have dl := hD.lt
  have l1 := World.block_lt_of_cell? _ _ h1
  have l2 := World.block_lt_of_cell? _ _ h2
  simp only [] at l1 l2
  clear hg
  go_enter Try.func76, Try.ntmps76
  go_wp2_with fail
  refine region_later_lit (by kernel_rfl) (by kernel_rfl) ?_
  repeat (first | go_big_quiet_step (first
       | (fail)))
  refine wpQuiet_nil ?_
  intro y
  go_wp2
  go_ret
  exact ⟨rfl, y, rfl⟩

end Go.Proofs.Ytdhdpbnlhnodjaa

/-  The program: free. -/
namespace Go.Proofs.Ytdhdpbnlhnodjaa
open Go.RowKit
set_option maxHeartbeats 1000000 in
theorem IndexFunc_free (v : Value) (c1 c2 : Nat) (xs : List Int) (p : Int → Bool) (w : World) (hx : Ints w v xs) (H : Hid (∀ (x : Later w) (a : Int), Calls Try.prog 76 #[.int .i64 a, .pointer (some ⟨c1, 0, none⟩), .pointer (some ⟨c2, 0, none⟩)] x.w (Gives (.bool (p a)) x.w))) :
    Calls Try.prog 85 #[v, .func (.func 76) #[] #[.pointer (some ⟨c1, 0, none⟩), .pointer (some ⟨c2, 0, none⟩)]] w (Gives (.int .i64 (idxF p xs 0)) w) := by
  have hl := hx.1
  obtain ⟨av, lv, cv, rfl⟩ : ∃ a n c, v = .slice a n c := by obtain ⟨a, c, e⟩ := hx.form; exact ⟨a, _, c, e⟩
  have HL := Lib.hid (show lv = xs.length by obtain ⟨a, c, e⟩ := hx.form; cases e; rfl)
  have hl2 : lv ≤ 9007199254740992 := by rw [HL.out]; exact hl
  go_enter Try.func85, Try.ntmps85
  go_wp2
  go_loopw [8] (fun i wr => ∃ k : Nat, ∃ x : Later w, wr = x.w ∧ k ≤ lv ∧ i = .int .i64 k ∧ Hid (idxF p xs 0 = idxF p (xs.drop k) k)) (fun i _ => lv - (intOf i).toNat)
  case atStart => exact ⟨0, Later.self _, rfl, Nat.zero_le _, rfl, rfl⟩
  case round =>
    obtain ⟨k, x, rfl, hk, rfl, hp⟩ := hrel
    by_cases hlt : k < lv
    · obtain ⟨bm, om, km, e, hkm, hbm, hgm⟩ := hx.at (k := k) (by rw [← HL.out]; exact hlt)
      injection e with e1 e2 e3
      subst e1
      have m1 := (x.cell hbm).trans (hgm k (by rw [← HL.out]; exact hlt))
      have ml := Nat.lt_of_lt_of_le hbm x.size
      have hs := Lib.hid (idxF_at p xs k (by rw [← HL.out]; exact hlt))
      obtain ⟨a, ha⟩ : ∃ a, nth xs k = a := ⟨_, rfl⟩
      rw [ha] at m1 hs
      have hcall := H.out x a
      obtain ⟨r, hr⟩ : ∃ r, p a = r := ⟨_, rfl⟩
      rw [hr] at hcall
      have HR := Lib.hid hr
      clear hgm hkm e2 e3 ha hr
      cases r
      · go_wp2_with (go_at_call 76; refine (Later.quiet x hcall).mono ?_; rintro e w' ⟨rfl, x, rfl⟩)
        go_roundw
        case rel => exact ⟨k + 1, _, rfl, by omega, by go_num, by unfold Hid; rw [hp.out, hs.out, if_neg (by rw [HR.out]; simp)]⟩
        case measure => simp [intOf]; omega
      · go_wp2_with (go_at_call 76; refine (Later.quiet x hcall).mono ?_; rintro e w' ⟨rfl, x, rfl⟩)
        go_ret
        exact ⟨ret_int (by rw [hp.out, hs.out, if_pos HR.out]), _, rfl⟩
    · have hs := Lib.hid (idxF_end p xs k (by rw [← HL.out]; omega))
      go_wp2
      go_ret
      exact ⟨ret_int (by rw [hp.out, hs.out]), x, rfl⟩
set_option maxHeartbeats 400000 in
theorem ContainsFunc_free (v : Value) (c1 c2 : Nat) (xs : List Int) (p : Int → Bool) (w : World) (hx : Ints w v xs) (H : Hid (∀ (x : Later w) (a : Int), Calls Try.prog 76 #[.int .i64 a, .pointer (some ⟨c1, 0, none⟩), .pointer (some ⟨c2, 0, none⟩)] x.w (Gives (.bool (p a)) x.w))) :
    Calls Try.prog 67 #[v, .func (.func 76) #[] #[.pointer (some ⟨c1, 0, none⟩), .pointer (some ⟨c2, 0, none⟩)]] w (Gives (.bool (xs.any p)) w) := by
  have h := Lib.hid (idxF_any p xs)
  go_enter Try.func67, Try.ntmps67
  go_wp2_with (go_at_call 85; refine (IndexFunc_free _ c1 c2 xs p _ hx H).mono ?_; rintro e w' ⟨rfl, x, rfl⟩)
  go_ret
  exact ⟨ret_bool h.out, x, rfl⟩
set_option maxRecDepth 100000 in
set_option maxHeartbeats 4000000 in
theorem free_calls (L : Sat.Lay) (N : List Nat) (n lo : Nat) (U : World) (b : Nat) (h : Dk L N n lo U b) (p : Nat) (hp : p / 2 ∈ N) (hp20 : p < 20) (uv : Value) (used : List Nat) (hu : ∀ q ∈ used, q / 2 ∈ N)
    (hx : Ints U uv (used.map fun (k : Nat) => (k : Int))) : Calls Try.prog 54 #[.pointer (some ⟨b, 0, none⟩), .int .i64 (p : Int), uv] U (Gives (.bool (Sat.free L p used)) U) := by
  obtain ⟨m, mv, cv, nv, M, cov, hD, hN, hmeet, hcov⟩ := h
  obtain ⟨ax, lx, cx, rfl⟩ : ∃ a n c, uv = .slice a n c := by obtain ⟨a, c, e⟩ := hx.form; exact ⟨a, _, c, e⟩
  have HANY := Lib.hid (show ((used.map fun (k : Nat) => (k : Int)).any fun a => decide (0 < gt M ((p : Int), a))) = used.any fun u => L.meet p u by
    rw [List.any_map, Bool.eq_iff_iff, List.any_eq_true, List.any_eq_true]
    constructor
    · rintro ⟨q, hq, e⟩
      exact ⟨q, hq, by rw [← hmeet p q hp (hu q hq)]; exact e⟩
    · rintro ⟨q, hq, e⟩
      exact ⟨q, hq, by rw [← hmeet p q hp (hu q hq)] at e; exact e⟩)
  obtain ⟨g, hg⟩ : ∃ g, nth cov p = g := ⟨_, rfl⟩
  have hc := hcov p hp20
  rw [hg] at hc
  have dc := hD.cc hp20
  rw [hg] at dc
  have dl := hD.lt
  have HC := Lib.hid hc
  obtain ⟨z, hz⟩ : ∃ z : Later U, z.w = (U.alloc (.cells #[.pointer (some ⟨b, 0, none⟩)] 65)).alloc (.cells #[.int .i64 p] 3) := ⟨(Later.new _ _).step (Later.new _ _), rfl⟩
  obtain ⟨c1, hc1⟩ : ∃ c, U.heap.size = c := ⟨_, rfl⟩
  have q1 : z.w.cell? ⟨c1, 0, none⟩ = some (.pointer (some ⟨b, 0, none⟩)) := by rw [hz, ← hc1]; simp [go_sem]
  have q2 : z.w.cell? ⟨c1 + 1, 0, none⟩ = some (.int .i64 p) := by rw [hz, ← hc1]; simp [go_sem]
  have ql : c1 + 1 < z.w.heap.size := by rw [hz, ← hc1]; simp
  have ql1 : c1 < z.w.heap.size := by omega
  have HCF := Lib.hid (fun (x : Later z.w) => ContainsFunc_free (.slice ax lx cx) c1 (c1 + 1) _ (fun a => decide (0 < gt M ((p : Int), a))) x.w ((hx.later z).later x) (Lib.hid fun (y : Later x.w) a =>
    free1_calls lo y.w b m n mv cv nv M cov (((hD.later z).later x).later y) a p c1 (c1 + 1) ((y.cell (Nat.lt_of_lt_of_le ql1 x.size)).trans ((x.cell ql1).trans q1)) ((y.cell (Nat.lt_of_lt_of_le ql x.size)).trans ((x.cell ql).trans q2))))
  rw [HANY.out] at HCF
  obtain ⟨r, hr⟩ : ∃ r, (used.any fun u => L.meet p u) = r := ⟨_, rfl⟩
  rw [hr] at HCF
  have HR := Lib.hid hr
  replace dc := (z.cell dl).trans dc
  replace dl := Nat.lt_of_lt_of_le dl z.size
  have HRES := Lib.hid (show Sat.free L p used = (decide (g = 0) && !r) by
    rw [Sat.free, HR.out, ← HC.out.2]
    congr 1
    by_cases e : g = 0
    · subst e; rfl
    · rw [decide_eq_true (show 0 < g by have := HC.out.1; omega), decide_eq_false e]; rfl)
  rw [HRES.out]
  clear hN hcov hmeet hg hc hr hx
  go_enter Try.func54, Try.ntmps54
  go_wp2_with fail
  rw [← hz]
  clear hz hc1
  by_cases hg0 : g = 0
  · subst hg0
    refine region_later_lit (by kernel_rfl) (by kernel_rfl) ?_
    repeat (first | go_big_quiet_step (first
         | (go_at_call 67; (with_reducible exact Later.quiet _ (HCF.out _)))))
    refine wpQuiet_nil ?_
    intro y
    go_wp2
    go_ret
    exact ⟨ret_bool (by simp), z.step y, rfl⟩
  · have d1 : (g == 0) = false := by simpa using hg0
    have d2 : decide (g = 0) = false := decide_eq_false hg0
    refine region_later_lit (by kernel_rfl) (by kernel_rfl) ?_
    repeat (first | go_big_quiet_step (first
         | (fail)))
    refine wpQuiet_nil ?_
    intro y
    go_wp2
    go_ret
    exact ⟨ret_bool (by rw [d2]; rfl), z.step y, rfl⟩

end Go.Proofs.Ytdhdpbnlhnodjaa

/-  The program: leads. -/
namespace Go.Proofs.Ytdhdpbnlhnodjaa
open Go.RowKit
set_option maxRecDepth 100000 in
set_option maxHeartbeats 4000000 in
theorem leads_calls (L : Sat.Lay) (N : List Nat) (n lo : Nat) (U : World) (b : Nat) (h : Dk L N n lo U b) (p q : Nat) (hp : p / 2 ∈ N) (hq : q / 2 ∈ N) (hp20 : p < 20) (hq20 : q < 20) :
    Calls Try.prog 68 #[.pointer (some ⟨b, 0, none⟩), .int .i64 (p : Int), .int .i64 (q : Int)] U (Gives (.bool (Sat.lead L p q)) U) := by
  obtain ⟨m, mv, cv, nv, M, cov, hD, hN, hmeet, hcov⟩ := h
  obtain ⟨mq, hmq⟩ : ∃ k, Sat.mate q = k := ⟨_, rfl⟩
  obtain ⟨mp, hmp⟩ : ∃ k, Sat.mate p = k := ⟨_, rfl⟩
  have hlook := fun (x : Later U) => (hD.later x).tab.look pair_keys Try.underlying87 (z := .int .i64 0) (fun w => by kernel_rfl) ((p : Int), (mq : Int)) false
  simp only [look_gt, Bool.false_eq_true, if_false, pairV] at hlook
  obtain ⟨g, hg⟩ : ∃ g, gt M ((p : Int), (mq : Int)) = g := ⟨_, rfl⟩
  rw [hg] at hlook
  have hm := hmeet p mq hp (by rw [← hmq, Sat.mate_div]; exact hq)
  rw [hg] at hm
  obtain ⟨c, hc⟩ : ∃ c, nth cov p = c := ⟨_, rfl⟩
  have hcv := (hcov p hp20).2
  rw [hc] at hcv
  have dc := hD.cc hp20
  rw [hc] at dc
  have d3 := hD.c3
  have dl := hD.lt
  have HRES := Lib.hid (show Sat.lead L p q = (decide (0 < g) || (((q : Int) == (mp : Int)) && decide (0 < c))) by
    rw [Sat.lead, hmq, hmp, hm, hcv, nat_beq])
  rw [HRES.out]
  have hm1 := Lib.hid (fun W => mate_calls q (by omega) W)
  have hm2 := Lib.hid (fun W => mate_calls p (by omega) W)
  rw [hmq] at hm1
  rw [hmp] at hm2
  have HLK := Lib.hid hlook
  clear hmeet hcov hg hm hc hcv hmq hmp hN
  go_enter Try.func68, Try.ntmps68
  go_wp2_with fail
  by_cases hg0 : 0 < g
  · have d1 := decide_eq_true hg0
    refine region_later_lit (by kernel_rfl) (by kernel_rfl) ?_
    repeat (first | go_big_quiet_step (first
         | (go_at_call 64; (with_reducible exact Later.quiet_same _ (hm1.out _)))
         | (go_at_call 64; (with_reducible exact Later.quiet_same _ (hm2.out _)))))
    refine wpQuiet_nil ?_
    intro y
    go_wp2
    go_ret
    exact ⟨ret_bool (by rw [d1]; rfl), y, rfl⟩
  · have d1 := decide_eq_false hg0
    by_cases he : q = mp
    · subst he
      refine region_later_lit (by kernel_rfl) (by kernel_rfl) ?_
      repeat (first | go_big_quiet_step (first
           | (go_at_call 64; (with_reducible exact Later.quiet_same _ (hm1.out _)))
           | (go_at_call 64; (with_reducible exact Later.quiet_same _ (hm2.out _)))))
      refine wpQuiet_nil ?_
      intro y
      go_wp2
      go_ret
      exact ⟨ret_bool (by simp), y, rfl⟩
    · have d2 : ((q : Int) == (mp : Int)) = false := by simp; omega
      have d3' : decide ((q : Int) = (mp : Int)) = false := decide_eq_false (by omega)
      refine region_later_lit (by kernel_rfl) (by kernel_rfl) ?_
      repeat (first | go_big_quiet_step (first
           | (go_at_call 64; (with_reducible exact Later.quiet_same _ (hm1.out _)))
           | (go_at_call 64; (with_reducible exact Later.quiet_same _ (hm2.out _)))))
      refine wpQuiet_nil ?_
      intro y
      go_wp2
      go_ret
      exact ⟨ret_bool (by simp), y, rfl⟩

end Go.Proofs.Ytdhdpbnlhnodjaa

/-  The program: count. -/
namespace Go.Proofs.Ytdhdpbnlhnodjaa
open Go.RowKit

theorem cntF_le (L : Sat.Lay) : ∀ ns used, Sat.cntF L ns used ≤ 2 ^ ns.length
  | [], used => by simp [Sat.cntF]
  | n :: ns, used => by
    rw [Sat.cntF, List.length_cons, Nat.pow_succ]
    have h1 := cntF_le L ns (used ++ [2 * n])
    have h2 := cntF_le L ns (used ++ [2 * n + 1])
    split <;> split <;> omega
/-- the part of a count that is done, side by side -/
def cntP (L : Sat.Lay) (k : Nat) (ns used : List Nat) : Nat → Nat
  | 0 => 0
  | j + 1 => cntP L k ns used j + Sat.addIf (Sat.free L (2 * k + j) used) (Sat.cntF L ns (used ++ [2 * k + j]))
theorem cntP_two (L : Sat.Lay) (k : Nat) (ns used : List Nat) : cntP L k ns used 2 = Sat.cntF L (k :: ns) used := by
  rw [Sat.cntF_cons, cntP, cntP, cntP, Nat.zero_add]; rfl
theorem Ints.tail {W : World} {a : Option Addr} {n c : Nat} {x : Int} {xs : List Int} (h : Ints W (.slice a n c) (x :: xs)) :
    ∃ b off, a = some ⟨b, off, none⟩ ∧ n = xs.length + 1 ∧ n ≤ c ∧ b < W.heap.size ∧ W.cell? ⟨b, off, none⟩ = some (.int .i64 x) ∧ Ints W (.slice (some ⟨b, off + 1, none⟩) xs.length (c - 1)) xs := by
  obtain ⟨b, off, cap, e, hcp, hb, hc⟩ := h.at (k := 0) (by simp)
  cases e
  refine ⟨b, off, rfl, rfl, hcp, hb, ?_, ?_⟩
  · have := hc 0 (by simp)
    simpa [nth] using this
  · refine ⟨by have := h.1; simp at this; omega, .inr ⟨b, off + 1, c - 1, rfl, by simp at hcp; omega, hb, fun k hk => ?_⟩⟩
    have := hc (k + 1) (by simpa using hk)
    rw [show off + 1 + k = off + (k + 1) by omega, this]
    simp [nth]
theorem Ints.le_cap {W : World} {a : Option Addr} {n c : Nat} {xs : List Int} (h : Ints W (.slice a n c) xs) : n ≤ c := by
  obtain ⟨_, ⟨rfl, a', c', e⟩ | ⟨b, off, cap, e, hcp, _⟩⟩ := h
  · cases e; exact Nat.zero_le _
  · cases e; exact hcp
set_option maxRecDepth 100000 in
set_option maxHeartbeats 8000000 in
theorem count_calls (L : Sat.Lay) (N : List Nat) (n lo b : Nat) (hN20 : ∀ k ∈ N, k < 10) : ∀ (ns : List Nat), (∀ k ∈ ns, k ∈ N) → ns.length ≤ 10 → ∀ (U : World) (nsv uv : Value) (used : List Nat), Dk L N n lo U b → (∀ q ∈ used, q / 2 ∈ N) → used.length + ns.length ≤ 1000 →
    Ints U nsv (ns.map fun (k : Nat) => (k : Int)) → Ints U uv (used.map fun (k : Nat) => (k : Int)) →
    Calls Try.prog 62 #[.pointer (some ⟨b, 0, none⟩), nsv, uv] U (Gives (.int .i64 ((Sat.cntF L ns used : Nat) : Int)) U) := by
  intro ns
  induction ns with
  | nil =>
    intro _ _ U nsv uv used hD hu hlen hns hused
    obtain ⟨a, c, rfl⟩ : ∃ a c, nsv = .slice a 0 c := by obtain ⟨a, c, e⟩ := hns.form; exact ⟨a, c, e⟩
    go_enter Try.func62, Try.ntmps62
    go_wp2
    go_ret
    exact ⟨rfl, Later.self _, rfl⟩
  | cons k ns ih =>
    intro hin h10 U nsv uv used hD hu hlen hns hused
    have hk := hin k (by simp)
    have hk10 := hN20 k hk
    have IH := Lib.hid (ih (fun x hx => hin x (by simp [hx])) (by simp at h10; omega))
    obtain ⟨ak, ck, hnv⟩ := hns.form
    rw [hnv] at hns
    subst hnv
    obtain ⟨B, off, rfl, hl, hlc, hb, hc, htl⟩ := hns.tail
    rw [hl] at hlc ⊢
    rw [List.length_map] at hlc htl ⊢
    obtain ⟨au, lu, cu, rfl⟩ : ∃ a n c, uv = .slice a n c := by obtain ⟨a, c, e⟩ := hused.form; exact ⟨a, _, c, e⟩
    have HLU := Lib.hid (show lu = used.length by obtain ⟨a, c, e⟩ := hused.form; cases e; simp)
    have hlu : lu ≤ 1000 := by rw [HLU.out]; omega
    have HC2 := Lib.hid (cntP_two L k ns used)
    have hns10 : ns.length ≤ 9 := by simp at h10; omega
    have htl2 : Ints U (.slice (if ck = 1 then some ⟨B, off, none⟩ else some ⟨B, off + 1, none⟩) ns.length (ck - 1)) (ns.map fun (k : Nat) => (k : Int)) := by
      by_cases h1 : ck = 1
      · rw [if_pos h1]
        have e : ns = [] := List.eq_nil_of_length_eq_zero (by omega)
        subst e
        exact Ints.nil _ _
      · rw [if_neg h1]; exact htl
    clear hl hns ih htl
    go_enter Try.func62, Try.ntmps62
    go_wp2
    go_loopw [7, 8] (fun tv pv wr => ∃ (j : Nat) (x : Later U) (m : Nat), wr = x.w ∧ j ≤ 2 ∧ m ≤ 1024 * j ∧ pv = .int .i64 (2 * (k : Int) + j) ∧ tv = .int .i64 m ∧ Hid (m = cntP L k ns used j)) (fun tv pv _ => (2 * (k : Int) + 2 - intOf pv).toNat)
    case atStart => exact ⟨0, Later.self _, 0, rfl, by omega, by omega, by go_num, rfl, rfl⟩
    case round =>
      obtain ⟨j, x, m, rfl, hj, hm, rfl, rfl, HM⟩ := hrel
      have m1 := (x.cell hb).trans hc
      have ml := Nat.lt_of_lt_of_le hb x.size
      by_cases hj2 : j < 2
      · obtain ⟨P, hP⟩ : ∃ P : Nat, 2 * k + j = P := ⟨_, rfl⟩
        have eP : 2 * (k : Int) + (j : Int) = (P : Int) := by omega
        have hPk : P / 2 = k := by omega
        have HP := Lib.hid hP
        have hfr := free_calls L N n lo x.w b (hD.later x) P (by rw [hPk]; exact hk) (by omega) _ used hu (hused.later x)
        obtain ⟨fr, hfre⟩ : ∃ fr, Sat.free L P used = fr := ⟨_, rfl⟩
        rw [hfre] at hfr
        have HSTEP := Lib.hid (show cntP L k ns used (j + 1) = cntP L k ns used j + Sat.addIf fr (Sat.cntF L ns (used ++ [P])) by rw [cntP, hP, hfre])
        have HEP := Lib.hid eP
        have hcb := Nat.le_trans (cntF_le L ns (used ++ [P])) (Nat.pow_le_pow_right (n := 2) (by decide) (show ns.length ≤ 10 by omega))
        obtain ⟨cv, hcv⟩ : ∃ c, Sat.cntF L ns (used ++ [P]) = c := ⟨_, rfl⟩
        rw [hcv] at HSTEP hcb
        have HCV := Lib.hid hcv
        clear hP eP hfre hcv
        go_wp2_with fail
        rw [HEP.out]
        refine hfr.mono ?_
        rintro e w' ⟨rfl, y, rfl⟩
        clear hfr m1 ml
        obtain ⟨V, hV⟩ : ∃ q : Later U, y.w = q.w := ⟨x.step y, rfl⟩
        rw [hV]
        clear hV y
        cases fr
        · have HM2 := Lib.hid (show m = cntP L k ns used (j + 1) by rw [HSTEP.out, ← HM.out]; rfl)
          go_wp2
          go_roundw
          case rel => exact ⟨j + 1, V, m, rfl, by omega, by omega, by rw [← HEP.out]; go_num, rfl, HM2.out⟩
          case measure => rw [← HEP.out]; simp [intOf]; omega
        · have HM2 := Lib.hid (show m + cv = cntP L k ns used (j + 1) by rw [HSTEP.out, ← HM.out]; rfl)
          go_wp2_with fail
          have hcu := hused.le_cap
          have hsub : ns.length + 1 - 1 = ns.length := by omega
          refine Mix.region_mixL (Mix.kinds [] [11, 12, 13] []) (by kernel_rfl) (by kernel_rfl) ?_
          repeat ((with_reducible refine Mix.atCons ?_); first | refine Mix.skipU (by rfl) rfl (by rfl) ?_ | (refine Mix.val rfl rfl (by rfl) (fun K hK => ?_); go_big_quiet_op; refine hK _ ?_; clear hK K) | (refine Mix.skip (by rfl) ?_; go_frame))
          obtain ⟨ts, hts⟩ : ∃ ts, Value.slice (if ck = 1 then some ⟨B, off, none⟩ else some ⟨B, off + 1, none⟩) ns.length (ck - 1) = ts := ⟨_, rfl⟩
          rw [hts]
          have htl3 := htl2
          rw [hts] at htl3
          clear hts
          refine Mix.loud rfl (by rfl) (fun x1 K1 hK1 => ?_)
          go_wp2_with fail
          refine hK1 _ (Later.new _ _) ?_
          clear hK1 K1
          have hy1 := Ints.lit x1.w [(P : Int)] 3 (b := x1.w.heap.size) (arr := #[.int .i64 P]) (n := 1) rfl rfl rfl (by simp)
          obtain ⟨g1, hg1⟩ : ∃ g, x1.w.heap.size = g := ⟨_, rfl⟩
          obtain ⟨Z1, hZ1⟩ : ∃ q : Later U, (Later.new x1.w (.cells #[.int .i64 P] 3)).w = q.w := ⟨(V.step x1).step (Later.new _ _), rfl⟩
          have hZ1' : x1.w.alloc (.cells #[.int .i64 P] 3) = Z1.w := hZ1
          rw [hZ1'] at hy1
          rw [hZ1, hg1]
          rw [hg1] at hy1
          clear hZ1 hZ1' hg1 x1
          repeat ((with_reducible refine Mix.atCons ?_); first | refine Mix.skipU (by rfl) rfl (by rfl) ?_ | (refine Mix.val rfl rfl (by rfl) (fun K hK => ?_); go_big_quiet_op; refine hK _ ?_; clear hK K) | (refine Mix.skip (by rfl) ?_; go_frame))
          refine Mix.loud rfl (by rfl) (fun x2 K2 hK2 => ?_)
          obtain ⟨a', n', c', q, hrun, hI⟩ := app_capped x2.w au lu cu _ ((hused.later Z1).later x2) _ (P : Int) (hy1.later x2) (by omega) 23
          have HI := Lib.hid (show Ints q.w (.slice a' n' c') ((used ++ [P]).map fun (k : Nat) => (k : Int)) by rw [List.map_append]; exact hI.ints (by simp; omega))
          clear hI
          refine Lib.wp_append_run_sl _ _ _ 23 rfl _ _ rfl rfl hrun ?_
          refine hK2 _ q ?_
          go_frame
          clear hK2 K2 hrun
          obtain ⟨Z2, hZ2⟩ : ∃ q2 : Later U, q.w = q2.w := ⟨(Z1.step x2).step q, rfl⟩
          have hI2 := HI.out
          rw [hZ2] at hI2 ⊢
          clear hZ2 HI q x2 hy1 Z1
          repeat ((with_reducible refine Mix.atCons ?_); first | refine Mix.skipU (by rfl) rfl (by rfl) ?_ | (refine Mix.val rfl rfl (by rfl) (fun K hK => ?_); go_big_quiet_op; refine hK _ ?_; clear hK K) | (refine Mix.skip (by rfl) ?_; go_frame))
          refine Mix.loud rfl (by rfl) (fun x3 K3 hK3 => ?_)
          have hcall := IH.out x3.w ts (.slice a' n' c') (used ++ [P]) ((hD.later Z2).later x3) (fun q hq => by
            rcases List.mem_append.1 hq with h | h
            · exact hu q h
            · have : q = P := by simpa using h
              rw [this, hPk]; exact hk) (by simp at hlen ⊢; omega) ((htl3.later Z2).later x3) (hI2.later x3)
          rw [HCV.out] at hcall
          go_wp2_with fail
          refine hcall.mono ?_
          rintro e w' ⟨rfl, y, rfl⟩
          refine hK3 _ y ?_
          clear hK3 K3 hcall
          obtain ⟨Z3, hZ3⟩ : ∃ q2 : Later U, y.w = q2.w := ⟨(Z2.step x3).step y, rfl⟩
          rw [hZ3]
          clear hZ3 y x3
          have hcb2 : cv ≤ 1024 := hcb
          repeat ((with_reducible refine Mix.atCons ?_); first | refine Mix.skipU (by rfl) rfl (by rfl) ?_ | (refine Mix.val rfl rfl (by rfl) (fun K hK => ?_); go_big_quiet_op; refine hK _ ?_; clear hK K) | (refine Mix.skip (by rfl) ?_; go_frame))
          refine Mix.done (fun x4 => ?_)
          go_wp2
          go_roundw
          case rel => exact ⟨j + 1, Z3.step x4, m + cv, rfl, by omega, by omega, by rw [← HEP.out]; go_num, by go_num, HM2.out⟩
          case measure => rw [← HEP.out]; simp [intOf]; omega
      · obtain rfl : j = 2 := by omega
        have HR := Lib.hid (show m = Sat.cntF L (k :: ns) used by rw [HM.out, HC2.out])
        go_wp2
        go_ret
        exact ⟨ret_int (by rw [HR.out]), x, rfl⟩

end Go.Proofs.Ytdhdpbnlhnodjaa

/-  The program: most. -/
namespace Go.Proofs.Ytdhdpbnlhnodjaa
open Go.RowKit

theorem mostF_le (L : Sat.Lay) (ns used : List Nat) : Sat.mostF L ns used ≤ ns.length := by
  obtain ⟨ps, h1, _, h3⟩ := Sat.mostF_ex L ns used
  rw [← h3]
  exact Sat.triF_len ns ps h1
/-- the greatest number so far, side by side -/
def mostP (L : Sat.Lay) (k : Nat) (ns used : List Nat) : Nat → Nat
  | 0 => Sat.mostF L ns used
  | j + 1 => max (mostP L k ns used j) (Sat.addIf (Sat.free L (2 * k + j) used) (1 + Sat.mostF L ns (used ++ [2 * k + j])))
theorem mostP_two (L : Sat.Lay) (k : Nat) (ns used : List Nat) : mostP L k ns used 2 = Sat.mostF L (k :: ns) used := by
  rw [Sat.mostF_cons, mostP, mostP, mostP]; rfl
set_option maxRecDepth 100000 in
set_option maxHeartbeats 2000000 in
theorem most_calls (L : Sat.Lay) (N : List Nat) (n lo b : Nat) (hn : n ≤ 10) (hN : ∀ k, k < n → k ∈ N) : ∀ (d i : Nat), i + d = n → ∀ (U : World) (uv : Value) (used : List Nat), Dk L N n lo U b → (∀ q ∈ used, q / 2 ∈ N) → used.length + d ≤ 1000 →
    Ints U uv (used.map fun (k : Nat) => (k : Int)) →
    Calls Try.prog 72 #[.pointer (some ⟨b, 0, none⟩), .int .i64 (i : Int), uv] U (Gives (.int .i64 ((Sat.mostF L (List.range' i d) used : Nat) : Int)) U) := by
  intro d
  induction d with
  | zero =>
    intro i hid U uv used hD hu hlen hused
    obtain ⟨m, mv, cv, nv, M, cov, hB, _⟩ := hD
    have d0 := hB.c0
    have dl := hB.lt
    obtain rfl : i = n := by omega
    obtain ⟨au, lu, cu, rfl⟩ : ∃ a n c, uv = .slice a n c := by obtain ⟨a, c, e⟩ := hused.form; exact ⟨a, _, c, e⟩
    clear hid
    go_enter Try.func72, Try.ntmps72
    go_wp2
    go_ret
    exact ⟨rfl, Later.self _, rfl⟩
  | succ d ih =>
    intro k hid U uv used hD hu hlen hused
    have hk := hN k (by omega)
    have hkn : k < n := by omega
    have hk10 : k < 10 := by omega
    have IH := Lib.hid (ih (k + 1) (by omega))
    have HD := Lib.hid hD
    obtain ⟨mm, mv, cv', nv, M, cov, hB, _⟩ := hD
    have d0 := hB.c0
    have dl := hB.lt
    obtain ⟨ns, hns⟩ : ∃ ns, List.range' (k + 1) d = ns := ⟨_, rfl⟩
    rw [show List.range' k (d + 1) = k :: ns by rw [List.range'_succ, hns]]
    have hnl : ns.length ≤ 10 := by rw [← hns]; simp; omega
    rw [hns] at IH
    have HC2 := Lib.hid (mostP_two L k ns used)
    obtain ⟨au, lu, cu, rfl⟩ : ∃ a n c, uv = .slice a n c := by obtain ⟨a, c, e⟩ := hused.form; exact ⟨a, _, c, e⟩
    have HLU := Lib.hid (show lu = used.length by obtain ⟨a, c, e⟩ := hused.form; cases e; simp)
    have hlu : lu ≤ 1000 := by rw [HLU.out]; omega
    have hcu := hused.le_cap
    have h0 := IH.out U (.slice au lu cu) used HD.out hu (by omega) hused
    have hm0 := mostF_le L ns used
    obtain ⟨m0, hme⟩ : ∃ c, Sat.mostF L ns used = c := ⟨_, rfl⟩
    rw [hme] at h0 hm0
    have HM0 := Lib.hid (show m0 = mostP L k ns used 0 from hme.symm)
    have H0 := Lib.hid h0
    clear hns ih h0 hme hB hid
    go_enter Try.func72, Try.ntmps72
    go_wp2_with fail
    have h0 := H0.out
    go_wp2_with (go_at_call 72; refine h0.mono ?_; rintro e w' ⟨rfl, x0, rfl⟩)
    clear h0 H0
    clear d0 dl
    go_loopw [7, 8] (fun tv pv wr => ∃ (j : Nat) (x : Later U) (m : Nat), wr = x.w ∧ j ≤ 2 ∧ m ≤ 11 ∧ pv = .int .i64 (2 * (k : Int) + j) ∧ tv = .int .i64 m ∧ Hid (m = mostP L k ns used j)) (fun tv pv _ => (2 * (k : Int) + 2 - intOf pv).toNat)
    case atStart => exact ⟨0, x0, m0, rfl, by omega, by omega, by go_num, rfl, HM0.out⟩
    case round =>
      clear x0
      obtain ⟨j, x, m, rfl, hj, hm, rfl, rfl, HM⟩ := hrel
      by_cases hj2 : j < 2
      · obtain ⟨P, hP⟩ : ∃ P : Nat, 2 * k + j = P := ⟨_, rfl⟩
        have eP : 2 * (k : Int) + (j : Int) = (P : Int) := by omega
        have hPk : P / 2 = k := by omega
        have hfr := free_calls L N n lo x.w b (HD.out.later x) P (by rw [hPk]; exact hk) (by omega) _ used hu (hused.later x)
        obtain ⟨fr, hfre⟩ : ∃ fr, Sat.free L P used = fr := ⟨_, rfl⟩
        rw [hfre] at hfr
        have HSTEP := Lib.hid (show mostP L k ns used (j + 1) = max (mostP L k ns used j) (Sat.addIf fr (1 + Sat.mostF L ns (used ++ [P]))) by rw [mostP, hP, hfre])
        have HEP := Lib.hid eP
        have hcb := mostF_le L ns (used ++ [P])
        obtain ⟨cv, hcv⟩ : ∃ c, Sat.mostF L ns (used ++ [P]) = c := ⟨_, rfl⟩
        rw [hcv] at HSTEP hcb
        have HCV := Lib.hid hcv
        clear hP eP hfre hcv
        go_wp2_with fail
        rw [HEP.out]
        refine hfr.mono ?_
        rintro e w' ⟨rfl, y, rfl⟩
        clear hfr
        obtain ⟨V, hV⟩ : ∃ q : Later U, y.w = q.w := ⟨x.step y, rfl⟩
        rw [hV]
        clear hV y
        cases fr
        · have HM2 := Lib.hid (show m = mostP L k ns used (j + 1) by rw [HSTEP.out, ← HM.out]; simp [Sat.addIf])
          go_wp2
          go_roundw
          case rel => exact ⟨j + 1, V, m, rfl, by omega, by omega, by rw [← HEP.out]; go_num, rfl, HM2.out⟩
          case measure => rw [← HEP.out]; simp [intOf]; omega
        · have HM2 := Lib.hid (show max m (1 + cv) = mostP L k ns used (j + 1) by rw [HSTEP.out, ← HM.out]; rfl)
          have hy1 := Ints.lit V.w [(P : Int)] 3 (b := V.w.heap.size) (arr := #[.int .i64 P]) (n := 1) rfl rfl rfl (by simp)
          obtain ⟨a', n', c', q, hrun, hI⟩ := app_capped _ au lu cu _ ((hused.later V).later (Later.new V.w (.cells #[.int .i64 P] 3))) _ (P : Int) hy1 (by omega) 23
          have HR := Lib.hid hrun
          have hI2 : Ints q.w (.slice a' n' c') ((used ++ [P]).map fun (k : Nat) => (k : Int)) := by rw [List.map_append]; exact hI.ints (by simp; omega)
          have hcall := IH.out q.w (.slice a' n' c') (used ++ [P]) (((HD.out.later V).later (Later.new V.w (.cells #[.int .i64 P] 3))).later q) (fun q hq => by
            rcases List.mem_append.1 hq with h | h
            · exact hu q h
            · have : q = P := by simpa using h
              rw [this, hPk]; exact hk) (by simp; omega) hI2
          rw [HCV.out] at hcall
          have HCALL := Lib.hid hcall
          clear hrun hI hI2 hcall hy1
          go_wp2_with ((with_reducible show wpList _ _ _ (⟨some 46, _, _, _, _, _⟩ :: _) _ _); refine Lib.wpList_append_run_sl _ rfl _ _ 23 rfl _ _ rfl rfl HR.out ?_)
          refine HCALL.out.mono ?_
          rintro e w' ⟨rfl, y, rfl⟩
          obtain ⟨Z, hZ⟩ : ∃ q2 : Later U, y.w = q2.w := ⟨((V.step (Later.new V.w (.cells #[.int .i64 P] 3))).step q).step y, rfl⟩
          rw [hZ]
          clear hZ HCALL HR y
          go_wp2
          go_roundw
          case rel => exact ⟨j + 1, Z, max m (1 + cv), rfl, by omega, by omega, by rw [← HEP.out]; go_num, by congr 1; omega, HM2.out⟩
          case measure => rw [← HEP.out]; simp [intOf]; omega
      · obtain rfl : j = 2 := by omega
        have HR := Lib.hid (show m = Sat.mostF L (k :: ns) used by rw [HM.out, HC2.out])
        go_wp2
        go_ret
        exact ⟨ret_int (by rw [HR.out]), x, rfl⟩

end Go.Proofs.Ytdhdpbnlhnodjaa

/-  The program: named, once more; Count, Most. -/
namespace Go.Proofs.Ytdhdpbnlhnodjaa
open Go.RowKit

theorem named_fail (n : Int) (mv cv nv : Value) (ms : List (Int × Int)) (cs xs : List Int) (W : World) (hs : Sht W mv cv ms cs) (hx : Ints W nv xs) (hv : nameE n ms cs xs ≠ 0) :
    Calls Try.prog 59 #[.agg #[.int .i64 n, mv, cv], nv] W (Gives (.tuple #[.pointer none, .int .i64 (nameE n ms cs xs)]) W) := by
  by_cases h : vsheet n ms cs = 0
  · obtain ⟨k, mn, cn, rfl, rfl, rfl, hS⟩ := vsheet_nat h
    have hb : namesB k xs = false := by
      cases hb : namesB k xs
      · rfl
      · exact absurd (show nameE k _ _ xs = 0 by rw [nameE, if_neg (by rw [h]; simp), if_pos hb]) hv
    refine (named_calls k mv cv nv mn cn xs hS W hs hx).mono fun e w' hh => ?_
    rw [show nameE k (mn.map prI) (cn.map fun (c : Nat) => (c : Int)) xs = 2 by rw [nameE, if_neg (by rw [h]; simp), if_neg (by rw [hb]; simp)]]
    exact hh.1 hb
  · rw [show nameE n ms cs xs = vsheet n ms cs by rw [nameE, if_pos h]]
    exact named_bad n mv cv nv ms cs W hs (by obtain ⟨a, c, e⟩ := hx.form; exact ⟨a, _, c, e⟩) h
theorem named_good (n : Nat) (mv cv nv : Value) (mn : List (Nat × Nat)) (cn N : List Nat) (hS : Shn n mn cn) (hN : Nms n N) (W : World) (hs : Sht W mv cv (mn.map prI) (cn.map fun (c : Nat) => (c : Int))) (hx : Ints W nv (N.map fun (k : Nat) => (k : Int))) :
    Calls Try.prog 59 #[.agg #[.int .i64 n, mv, cv], nv] W fun e w' => ∃ b, ∃ x : Later W, e = .returned (.tuple #[.pointer (some ⟨b, 0, none⟩), .int .i64 0]) ∧ w' = x.w ∧ Dk hS.lay N n W.heap.size x.w b := by
  refine (named_calls n mv cv nv mn cn _ hS W hs hx).mono fun e w' hh => ?_
  obtain ⟨b, m, x, h1, h2, h3⟩ := hh.2 hN.b
  exact ⟨b, x, h1, h2, h3.dk_keep hS (hx.later x)⟩
set_option maxRecDepth 100000 in
set_option maxHeartbeats 2000000 in
theorem Count_bad (n : Int) (mv cv nv : Value) (ms : List (Int × Int)) (cs xs : List Int) (W : World) (hs : Sht W mv cv ms cs) (hx : Ints W nv xs) (hv : nameE n ms cs xs ≠ 0) :
    Calls Try.prog 24 #[.agg #[.int .i64 n, mv, cv], nv] W (Gives (.tuple #[.int .i64 0, .int .i64 (nameE n ms cs xs)]) W) := by
  have hvb : (nameE n ms cs xs != 0) = true := by simpa using hv
  have HV := Lib.hid hv
  clear hv
  obtain ⟨ax, lx, cx, rfl⟩ : ∃ a n c, nv = .slice a n c := by obtain ⟨a, c, e⟩ := hx.form; exact ⟨a, _, c, e⟩
  obtain ⟨am, lm, cm, rfl⟩ : ∃ a n c, mv = .slice a n c := by obtain ⟨a, c, e⟩ := hs.m.form; exact ⟨a, _, c, e⟩
  obtain ⟨ac, lc, cc, rfl⟩ : ∃ a n c, cv = .slice a n c := by obtain ⟨a, c, e⟩ := hs.c.form; exact ⟨a, _, c, e⟩
  have HLM := Lib.hid (show lm = ms.length by obtain ⟨a, c, e⟩ := hs.m.form; cases e; rfl)
  have HLC := Lib.hid (show lc = cs.length by obtain ⟨a, c, e⟩ := hs.c.form; cases e; rfl)
  go_enter Try.func24, Try.ntmps24
  go_wp2_with fail
  obtain ⟨B, hB⟩ : ∃ B, B = W.heap.size := ⟨_, rfl⟩
  obtain ⟨z, hz⟩ : ∃ z : Later W, z.w = W.alloc (.cells #[.int .i64 n, .slice am lm cm, .slice ac lc cc] 25) := ⟨Later.new _ _, rfl⟩
  have c0 : z.w.cell? ⟨B, 0, none⟩ = some (.int .i64 n) := by rw [hz, hB]; simp [go_sem]
  have c1 : z.w.cell? ⟨B, 1, none⟩ = some (.slice am lm cm) := by rw [hz, hB]; simp [go_sem]
  have c2 : z.w.cell? ⟨B, 2, none⟩ = some (.slice ac lc cc) := by rw [hz, hB]; simp [go_sem]
  have hBz : B < z.w.heap.size := by rw [hz, hB]; simp [go_sem]
  rw [← hz, ← hB]
  replace hs := hs.later z
  replace hx := hx.later z
  clear hz hB
  refine (named_fail n _ _ _ ms cs xs _ hs hx HV.out).mono ?_
  rintro e w' ⟨rfl, x, rfl⟩
  go_wp2
  go_ret2
  exact ⟨rfl, z.step x, rfl⟩

set_option maxRecDepth 100000 in
set_option maxHeartbeats 2000000 in
theorem Count_calls (n : Nat) (mv cv nv : Value) (mn : List (Nat × Nat)) (cn N : List Nat) (hS : Shn n mn cn) (hN : Nms n N) (W : World) (hs : Sht W mv cv (mn.map prI) (cn.map fun (c : Nat) => (c : Int))) (hx : Ints W nv (N.map fun (k : Nat) => (k : Int))) :
    Calls Try.prog 24 #[.agg #[.int .i64 n, mv, cv], nv] W (Gives (.tuple #[.int .i64 ((Sat.cntF hS.lay N [] : Nat) : Int), .int .i64 0]) W) := by
  have HT := Lib.hid (fun (W : World) (mv cv nv : Value) hs hx => named_good n mv cv nv mn cn N hS hN W hs hx)
  have HC := Lib.hid (fun (lo b : Nat) (U : World) (nsv : Value) hD hns => count_calls hS.lay N n lo b (fun k hk => by have := hN.lt k hk; have := hS.n10; omega) N (fun k hk => hk) (Nat.le_trans hN.len hS.n10) U nsv (.slice none 0 0) [] hD (fun q hq => absurd hq (by simp)) (by have := hN.len; have := hS.n10; simp; omega) hns (Ints.nil _ _))
  obtain ⟨ms, hms⟩ : ∃ ms, mn.map prI = ms := ⟨_, rfl⟩
  obtain ⟨cs, hcs⟩ : ∃ cs, (cn.map fun (c : Nat) => (c : Int)) = cs := ⟨_, rfl⟩
  rw [hms, hcs] at hs HT
  clear hms hcs
  obtain ⟨ax, lx, cx, rfl⟩ : ∃ a n c, nv = .slice a n c := by obtain ⟨a, c, e⟩ := hx.form; exact ⟨a, _, c, e⟩
  obtain ⟨am, lm, cm, rfl⟩ : ∃ a n c, mv = .slice a n c := by obtain ⟨a, c, e⟩ := hs.m.form; exact ⟨a, _, c, e⟩
  obtain ⟨ac, lc, cc, rfl⟩ : ∃ a n c, cv = .slice a n c := by obtain ⟨a, c, e⟩ := hs.c.form; exact ⟨a, _, c, e⟩
  have HLM := Lib.hid (show lm = ms.length by obtain ⟨a, c, e⟩ := hs.m.form; cases e; rfl)
  have HLC := Lib.hid (show lc = cs.length by obtain ⟨a, c, e⟩ := hs.c.form; cases e; rfl)
  go_enter Try.func24, Try.ntmps24
  go_wp2_with fail
  obtain ⟨B, hB⟩ : ∃ B, B = W.heap.size := ⟨_, rfl⟩
  obtain ⟨z, hz⟩ : ∃ z : Later W, z.w = W.alloc (.cells #[.int .i64 n, .slice am lm cm, .slice ac lc cc] 25) := ⟨Later.new _ _, rfl⟩
  have c0 : z.w.cell? ⟨B, 0, none⟩ = some (.int .i64 n) := by rw [hz, hB]; simp [go_sem]
  have c1 : z.w.cell? ⟨B, 1, none⟩ = some (.slice am lm cm) := by rw [hz, hB]; simp [go_sem]
  have c2 : z.w.cell? ⟨B, 2, none⟩ = some (.slice ac lc cc) := by rw [hz, hB]; simp [go_sem]
  have hBz : B < z.w.heap.size := by rw [hz, hB]; simp [go_sem]
  rw [← hz, ← hB]
  replace hs := hs.later z
  replace hx := hx.later z
  clear hz hB
  refine (HT.out _ _ _ _ hs hx).mono ?_
  rintro e w' ⟨b, x, rfl, rfl, hD⟩
  go_wp2_with fail
  refine (HC.out _ b x.w _ hD (hx.later x)).mono ?_
  rintro e w' ⟨rfl, y, rfl⟩
  go_wp2
  go_ret2
  exact ⟨rfl, (z.step x).step y, rfl⟩

set_option maxRecDepth 100000 in
set_option maxHeartbeats 2000000 in
theorem Most_bad (n : Int) (mv cv : Value) (ms : List (Int × Int)) (cs : List Int) (W : World) (hs : Sht W mv cv ms cs) (hv : vsheet n ms cs ≠ 0) :
    Calls Try.prog 36 #[.agg #[.int .i64 n, mv, cv]] W (Gives (.tuple #[.int .i64 0, .int .i64 (vsheet n ms cs)]) W) := by
  have hvb : (vsheet n ms cs != 0) = true := by simpa using hv
  have HV := Lib.hid hv
  clear hv
  obtain ⟨am, lm, cm, rfl⟩ : ∃ a n c, mv = .slice a n c := by obtain ⟨a, c, e⟩ := hs.m.form; exact ⟨a, _, c, e⟩
  obtain ⟨ac, lc, cc, rfl⟩ : ∃ a n c, cv = .slice a n c := by obtain ⟨a, c, e⟩ := hs.c.form; exact ⟨a, _, c, e⟩
  have HLM := Lib.hid (show lm = ms.length by obtain ⟨a, c, e⟩ := hs.m.form; cases e; rfl)
  have HLC := Lib.hid (show lc = cs.length by obtain ⟨a, c, e⟩ := hs.c.form; cases e; rfl)
  go_enter Try.func36, Try.ntmps36
  go_wp2_with fail
  obtain ⟨B, hB⟩ : ∃ B, B = W.heap.size := ⟨_, rfl⟩
  obtain ⟨z, hz⟩ : ∃ z : Later W, z.w = W.alloc (.cells #[.int .i64 n, .slice am lm cm, .slice ac lc cc] 25) := ⟨Later.new _ _, rfl⟩
  have c0 : z.w.cell? ⟨B, 0, none⟩ = some (.int .i64 n) := by rw [hz, hB]; simp [go_sem]
  have c1 : z.w.cell? ⟨B, 1, none⟩ = some (.slice am lm cm) := by rw [hz, hB]; simp [go_sem]
  have c2 : z.w.cell? ⟨B, 2, none⟩ = some (.slice ac lc cc) := by rw [hz, hB]; simp [go_sem]
  have hBz : B < z.w.heap.size := by rw [hz, hB]; simp [go_sem]
  rw [← hz, ← hB]
  replace hs := hs.later z
  
  clear hz hB
  refine (open_bad n _ _ ms cs _ hs HV.out).mono ?_
  rintro e w' ⟨rfl, x, rfl⟩
  go_wp2
  go_ret2
  exact ⟨rfl, z.step x, rfl⟩

set_option maxRecDepth 100000 in
set_option maxHeartbeats 2000000 in
theorem Most_calls (n : Nat) (mv cv : Value) (mn : List (Nat × Nat)) (cn : List Nat) (hS : Shn n mn cn) (W : World) (hs : Sht W mv cv (mn.map prI) (cn.map fun (c : Nat) => (c : Int))) :
    Calls Try.prog 36 #[.agg #[.int .i64 n, mv, cv]] W (Gives (.tuple #[.int .i64 ((Sat.mostF hS.lay (List.range n) [] : Nat) : Int), .int .i64 0]) W) := by
  have HT := Lib.hid (fun (W : World) (mv cv : Value) hs => open_calls n mv cv mn cn hS W hs)
  have HC := Lib.hid (fun (lo b : Nat) (U : World) hD => most_calls hS.lay (List.range n) n lo b hS.n10 (fun k hk => List.mem_range.2 hk) n 0 (by omega) U (.slice none 0 0) [] hD (fun q hq => absurd hq (by simp)) (by have := hS.n10; simp; omega) (Ints.nil _ _))
  rw [← List.range_eq_range'] at HC
  have HDK := Lib.hid (fun (lo : Nat) (U : World) (b m : Nat) (mv cv nv : Value) (h : DeskB lo U b m n mv cv nv _ _) hN => h.dk hS (N := List.range n) hN)
  obtain ⟨ms, hms⟩ : ∃ ms, mn.map prI = ms := ⟨_, rfl⟩
  obtain ⟨cs, hcs⟩ : ∃ cs, (cn.map fun (c : Nat) => (c : Int)) = cs := ⟨_, rfl⟩
  rw [hms, hcs] at hs HT HDK
  clear hms hcs
  obtain ⟨am, lm, cm, rfl⟩ : ∃ a n c, mv = .slice a n c := by obtain ⟨a, c, e⟩ := hs.m.form; exact ⟨a, _, c, e⟩
  obtain ⟨ac, lc, cc, rfl⟩ : ∃ a n c, cv = .slice a n c := by obtain ⟨a, c, e⟩ := hs.c.form; exact ⟨a, _, c, e⟩
  have HLM := Lib.hid (show lm = ms.length by obtain ⟨a, c, e⟩ := hs.m.form; cases e; rfl)
  have HLC := Lib.hid (show lc = cs.length by obtain ⟨a, c, e⟩ := hs.c.form; cases e; rfl)
  go_enter Try.func36, Try.ntmps36
  go_wp2_with fail
  obtain ⟨B, hB⟩ : ∃ B, B = W.heap.size := ⟨_, rfl⟩
  obtain ⟨z, hz⟩ : ∃ z : Later W, z.w = W.alloc (.cells #[.int .i64 n, .slice am lm cm, .slice ac lc cc] 25) := ⟨Later.new _ _, rfl⟩
  have c0 : z.w.cell? ⟨B, 0, none⟩ = some (.int .i64 n) := by rw [hz, hB]; simp [go_sem]
  have c1 : z.w.cell? ⟨B, 1, none⟩ = some (.slice am lm cm) := by rw [hz, hB]; simp [go_sem]
  have c2 : z.w.cell? ⟨B, 2, none⟩ = some (.slice ac lc cc) := by rw [hz, hB]; simp [go_sem]
  have hBz : B < z.w.heap.size := by rw [hz, hB]; simp [go_sem]
  rw [← hz, ← hB]
  replace hs := hs.later z
  
  clear hz hB
  refine (HT.out _ _ _ hs).mono ?_
  rintro e w' ⟨b, m, nv, x, rfl, rfl, hB, hN⟩
  have hD := HDK.out _ _ _ _ _ _ _ hB hN
  have HD := Lib.hid hD
  clear hB hN hD
  go_wp2_with fail
  refine (HC.out _ b x.w HD.out).mono ?_
  rintro e w' ⟨rfl, y, rfl⟩
  go_wp2
  go_ret2
  exact ⟨rfl, (z.step x).step y, rfl⟩

end Go.Proofs.Ytdhdpbnlhnodjaa

/-  The program: CheckSetting. -/
namespace Go.Proofs.Ytdhdpbnlhnodjaa
open Go.RowKit
open Sat (okF)
theorem useL_bad {L : Sat.Lay} {st : List Int} {k : Nat} (h : okF L [] (useL st k) = false) : ∀ d, okF L [] (useL st (k + d)) = false
  | 0 => h
  | d + 1 => by
    have ih := useL_bad h d
    rw [show k + (d + 1) = (k + d) + 1 by omega, useL]
    split
    · rw [okF_snoc, ih]; rfl
    · rw [List.append_nil]; exact ih
set_option maxRecDepth 100000 in
set_option maxHeartbeats 2000000 in
theorem CheckSetting_bad (n : Int) (mv cv sv : Value) (ms : List (Int × Int)) (cs st : List Int) (W : World) (hs : Sht W mv cv ms cs) (hx : Ints W sv st) (hv : vsheet n ms cs ≠ 0) :
    Calls Try.prog 18 #[.agg #[.int .i64 n, mv, cv], sv] W (Gives (.tuple #[.int .i64 (settN n ms cs st), .int .i64 (settE n ms cs st)]) W) := by
  have hvb : (vsheet n ms cs != 0) = true := by simpa using hv
  have HV := Lib.hid hv
  have HE := Lib.hid (show settE n ms cs st = vsheet n ms cs by rw [settE, if_pos hv])
  have HN := Lib.hid (show settN n ms cs st = 0 by rw [settN, HE.out, if_neg hv])
  clear hv
  obtain ⟨ax, lx, cx, rfl⟩ : ∃ a n c, sv = .slice a n c := by obtain ⟨a, c, e⟩ := hx.form; exact ⟨a, _, c, e⟩
  obtain ⟨am, lm, cm, rfl⟩ : ∃ a n c, mv = .slice a n c := by obtain ⟨a, c, e⟩ := hs.m.form; exact ⟨a, _, c, e⟩
  obtain ⟨ac, lc, cc, rfl⟩ : ∃ a n c, cv = .slice a n c := by obtain ⟨a, c, e⟩ := hs.c.form; exact ⟨a, _, c, e⟩
  have HLM := Lib.hid (show lm = ms.length by obtain ⟨a, c, e⟩ := hs.m.form; cases e; rfl)
  have HLC := Lib.hid (show lc = cs.length by obtain ⟨a, c, e⟩ := hs.c.form; cases e; rfl)
  go_enter Try.func18, Try.ntmps18
  go_wp2_with fail
  obtain ⟨B, hB⟩ : ∃ B, B = W.heap.size := ⟨_, rfl⟩
  obtain ⟨z, hz⟩ : ∃ z : Later W, z.w = W.alloc (.cells #[.int .i64 n, .slice am lm cm, .slice ac lc cc] 25) := ⟨Later.new _ _, rfl⟩
  have c0 : z.w.cell? ⟨B, 0, none⟩ = some (.int .i64 n) := by rw [hz, hB]; simp [go_sem]
  have c1 : z.w.cell? ⟨B, 1, none⟩ = some (.slice am lm cm) := by rw [hz, hB]; simp [go_sem]
  have c2 : z.w.cell? ⟨B, 2, none⟩ = some (.slice ac lc cc) := by rw [hz, hB]; simp [go_sem]
  have hBz : B < z.w.heap.size := by rw [hz, hB]; simp [go_sem]
  rw [← hz, ← hB]
  replace hs := hs.later z
  replace hx := hx.later z
  clear hz hB
  refine (open_bad n _ _ ms cs _ hs HV.out).mono ?_
  rintro e w' ⟨rfl, x, rfl⟩
  go_wp2
  go_ret2
  exact ⟨ret_ints HN.out.symm HE.out.symm, z.step x, rfl⟩
set_option maxRecDepth 100000 in
set_option maxHeartbeats 2000000 in
theorem CheckSetting_calls (n : Nat) (mv cv sv : Value) (mn : List (Nat × Nat)) (cn : List Nat) (st : List Int) (hS : Shn n mn cn) (W : World) (hs : Sht W mv cv (mn.map prI) (cn.map fun (c : Nat) => (c : Int))) (hx : Ints W sv st) :
    Calls Try.prog 18 #[.agg #[.int .i64 n, mv, cv], sv] W (Gives (.tuple #[.int .i64 (settN n (mn.map prI) (cn.map fun (c : Nat) => (c : Int)) st), .int .i64 (settE n (mn.map prI) (cn.map fun (c : Nat) => (c : Int)) st)]) W) := by
  have h10 := hS.n10
  have HT := Lib.hid (fun (W : World) (mv cv : Value) hs => open_calls n mv cv mn cn hS W hs)
  have HDK := Lib.hid (fun (lo : Nat) (U : World) (b m : Nat) (mv cv nv : Value) (h : DeskB lo U b m n mv cv nv _ _) hN => h.dk hS (N := List.range n) hN)
  have HRI := Lib.hid (fun (hl : st.length = n) h => rightI_use hS hl (st := st) h)
  have HS0 := Lib.hid (show settE n (mn.map prI) (cn.map fun (c : Nat) => (c : Int)) st = if (st.length : Int) ≠ n then 15 else if st.any (outB (-1) 1) = true then 3 else if rightI (mn.map prI) (cn.map fun (c : Nat) => (c : Int)) st = true then 0 else 18 by rw [settE, if_neg (by rw [hS.v]; simp)])
  have HN0 := Lib.hid (show settN n (mn.map prI) (cn.map fun (c : Nat) => (c : Int)) st = if settE n (mn.map prI) (cn.map fun (c : Nat) => (c : Int)) st = 0 then (cntS st : Int) else 0 from rfl)
  have HFR := Lib.hid (fun (lo : Nat) (U : World) (b : Nat) hD p hp hp20 uv used hu hxx => free_calls hS.lay (List.range n) n lo U b hD p hp hp20 uv used hu hxx)
  obtain ⟨L, hL⟩ : ∃ L, hS.lay = L := ⟨_, rfl⟩
  rw [hL] at HDK HRI HFR
  obtain ⟨ms, hms⟩ : ∃ ms, mn.map prI = ms := ⟨_, rfl⟩
  obtain ⟨cs, hcs⟩ : ∃ cs, (cn.map fun (c : Nat) => (c : Int)) = cs := ⟨_, rfl⟩
  rw [hms, hcs] at hs HT HDK HRI HS0 HN0 ⊢
  clear hms hcs hL
  obtain ⟨E, hE⟩ : ∃ E, settE n ms cs st = E := ⟨_, rfl⟩
  obtain ⟨R, hR⟩ : ∃ R, settN n ms cs st = R := ⟨_, rfl⟩
  rw [hE] at HS0 HN0 ⊢
  rw [hR] at HN0 ⊢
  clear hE hR
  have hxl := hx.1
  obtain ⟨ax, lx, cx, rfl⟩ : ∃ a n c, sv = .slice a n c := by obtain ⟨a, c, e⟩ := hx.form; exact ⟨a, _, c, e⟩
  have HLX := Lib.hid (show lx = st.length by obtain ⟨a, c, e⟩ := hx.form; cases e; rfl)
  have hl2 : lx ≤ 9007199254740992 := by rw [HLX.out]; exact hxl
  obtain ⟨am, lm, cm, rfl⟩ : ∃ a n c, mv = .slice a n c := by obtain ⟨a, c, e⟩ := hs.m.form; exact ⟨a, _, c, e⟩
  obtain ⟨ac, lc, cc, rfl⟩ : ∃ a n c, cv = .slice a n c := by obtain ⟨a, c, e⟩ := hs.c.form; exact ⟨a, _, c, e⟩
  have HLM := Lib.hid (show lm = ms.length by obtain ⟨a, c, e⟩ := hs.m.form; cases e; rfl)
  have HLC := Lib.hid (show lc = cs.length by obtain ⟨a, c, e⟩ := hs.c.form; cases e; rfl)
  go_enter Try.func18, Try.ntmps18
  go_wp2_with fail
  obtain ⟨B, hB⟩ : ∃ B, B = W.heap.size := ⟨_, rfl⟩
  obtain ⟨z, hz⟩ : ∃ z : Later W, z.w = W.alloc (.cells #[.int .i64 n, .slice am lm cm, .slice ac lc cc] 25) := ⟨Later.new _ _, rfl⟩
  have c0 : z.w.cell? ⟨B, 0, none⟩ = some (.int .i64 n) := by rw [hz, hB]; simp [go_sem]
  have c1 : z.w.cell? ⟨B, 1, none⟩ = some (.slice am lm cm) := by rw [hz, hB]; simp [go_sem]
  have c2 : z.w.cell? ⟨B, 2, none⟩ = some (.slice ac lc cc) := by rw [hz, hB]; simp [go_sem]
  have hBz : B < z.w.heap.size := by rw [hz, hB]; simp [go_sem]
  rw [← hz, ← hB]
  replace hs := hs.later z
  replace hx := hx.later z
  clear hz hB
  refine (HT.out _ _ _ hs).mono ?_
  rintro e w' ⟨b, m, nv, x, rfl, rfl, hB, hN⟩
  have HD := Lib.hid (HDK.out _ _ _ _ _ _ _ hB hN)
  clear hB hN
  have g0 : x.w.cell? ⟨B, 0, none⟩ = some (.int .i64 n) := (x.cell hBz).trans c0
  have gB : B < x.w.heap.size := Nat.lt_of_lt_of_le hBz x.size
  by_cases hln : lx = n
  rotate_left
  · have HE := Lib.hid (show E = 15 by rw [HS0.out, if_pos (by rw [← HLX.out]; omega)])
    have HN := Lib.hid (show R = 0 by rw [HN0.out, HE.out]; rfl)
    have d1 : ((lx : Int) != n) = true := by simp; omega
    go_wp2
    go_ret2
    exact ⟨ret_ints HN.out.symm HE.out.symm, z.step x, rfl⟩
  have HS1 := Lib.hid (show E = if st.any (outB (-1) 1) = true then 3 else if rightI ms cs st = true then 0 else 18 by rw [HS0.out, if_neg (by rw [← HLX.out, hln]; simp)])
  have d1 : ((lx : Int) != n) = false := by simp [hln]
  have hl10 : lx ≤ 10 := by omega
  have HLN := Lib.hid hln
  clear hln
  have hwc := within_calls _ st (-1) 1 x.w (hx.later x)
  cases hany : st.any (outB (-1) 1)
  rotate_left
  · rw [hany] at hwc
    have HE := Lib.hid (show E = 3 by rw [HS1.out, if_pos hany])
    have HN := Lib.hid (show R = 0 by rw [HN0.out, HE.out]; rfl)
    clear hany
    go_wp2_with fail
    refine hwc.mono ?_
    rintro e w' ⟨rfl, y, rfl⟩
    go_wp2
    go_ret2
    exact ⟨ret_ints HN.out.symm HE.out.symm, (z.step x).step y, rfl⟩
  rw [hany] at hwc
  have HRNG := Lib.hid (show ∀ v ∈ st, -1 ≤ v ∧ v ≤ 1 from fun v hv => by
    have h := List.any_eq_false.1 hany v hv
    rw [outB, Bool.or_eq_true, decide_eq_true_iff, decide_eq_true_iff] at h
    omega)
  have HS2 := Lib.hid (show E = if okF L [] (useL st n) = true then 0 else 18 by rw [HS1.out, hany, ← HRI.out (by rw [← HLX.out]; exact HLN.out) HRNG.out]; rfl)
  have HWC := Lib.hid hwc
  clear hany HS1 HS0 HRI hwc
  go_wp2_with fail
  refine HWC.out.mono ?_
  rintro e w' ⟨rfl, y, rfl⟩
  go_wp2
  have HDy := Lib.hid (HD.out.later y)
  clear g0 gB HD HWC
  go_loopw [8, 32] (fun uv i wr => ∃ (k : Nat) (u : Later y.w), wr = u.w ∧ k ≤ lx ∧ i = .int .i64 k ∧ IntsM y.w.heap.size u.w uv ((useL st k).map fun (k : Nat) => (k : Int)) ∧ Hid (okF L [] (useL st k) = true)) (fun uv i _ => lx - (intOf i).toNat)
  case atStart => exact ⟨0, Later.self _, rfl, Nat.zero_le _, rfl, IntsM.nil _ _, rfl⟩
  case round =>
    obtain ⟨k, u, rfl, hk, rfl, hU, hOK⟩ := hrel
    obtain ⟨au, lu, cu, rfl⟩ := hU.form'
    have hUI := hU.ints (by rw [List.length_map, useL_len st k (by rw [← HLX.out]; exact hk)]; have := cntS_le (st.take k); simp at this; omega)
    have hul := Lib.hid (useL_len st k (by rw [← HLX.out]; exact hk))
    by_cases hlt : k < lx
    · obtain ⟨bm, om, km, e, hkm, hbm, hgm⟩ := hx.at (k := k) (by rw [← HLX.out]; exact hlt)
      injection e with e1 e2 e3
      subst e1
      have m1 : u.w.cell? ⟨bm, om + k, none⟩ = some (.int .i64 (nth st k)) := (((x.step y).step u).cell hbm).trans (hgm k (by rw [← HLX.out]; exact hlt))
      have ml : bm < u.w.heap.size := Nat.lt_of_lt_of_le hbm ((x.step y).step u).size
      have hr := HRNG.out _ (List.getElem_mem (show k < st.length by rw [← HLX.out]; exact hlt))
      rw [← nth_eq (show k < st.length by rw [← HLX.out]; exact hlt)] at hr
      have HUS := Lib.hid (show useL st (k + 1) = useL st k ++ if 0 ≤ nth st k then [2 * k + (nth st k).toNat] else [] from rfl)
      obtain ⟨v, hv⟩ : ∃ v, nth st k = v := ⟨_, rfl⟩
      rw [hv] at m1 hr HUS
      clear e2 e3 hgm hkm hv
      by_cases hv0 : v < 0
      · have HU2 := Lib.hid (show useL st (k + 1) = useL st k by rw [HUS.out, if_neg (by omega), List.append_nil])
        go_wp2
        go_roundw
        case rel => exact ⟨k + 1, u, rfl, by omega, by go_num, by rw [HU2.out]; exact hU, by rw [HU2.out]; exact hOK.out⟩
        case measure => simp [intOf]; omega
      · obtain ⟨c, rfl⟩ := Int.eq_ofNat_of_zero_le (show 0 ≤ v by omega)
        obtain ⟨P, hP⟩ : ∃ P, 2 * k + c = P := ⟨_, rfl⟩
        have eP : 2 * (k : Int) + (c : Int) = (P : Int) := by omega
        have HEP := Lib.hid eP
        have HU2 := Lib.hid (show useL st (k + 1) = useL st k ++ [P] by rw [HUS.out, if_pos (by omega), Int.toNat_natCast, hP])
        have hkn : k < n := by rw [← HLN.out]; exact hlt
        have hfr := HFR.out _ u.w b (HDy.out.later u) P (List.mem_range.2 (by omega)) (by omega) (.slice au lu cu) (useL st k) (fun q hq => List.mem_range.2 (by
          have := (useL_lt st HRNG.out k (by rw [← HLX.out]; exact hk) q hq).1; omega)) hUI
        obtain ⟨fr, hfre⟩ : ∃ fr, Sat.free L P (useL st k) = fr := ⟨_, rfl⟩
        rw [hfre] at hfr
        have HOK2 := Lib.hid (show okF L [] (useL st (k + 1)) = fr by rw [HU2.out, okF_snoc, hOK.out, List.nil_append, hfre]; rfl)
        have HFRC := Lib.hid hfr
        clear eP hP hfre hfr hUI
        go_wp2_with fail
        rw [HEP.out]
        refine HFRC.out.mono ?_
        rintro e w' ⟨rfl, y2, rfl⟩
        have hU2 := hU.later y2
        obtain ⟨V, hV⟩ : ∃ q : Later y.w, y2.w = q.w := ⟨u.step y2, rfl⟩
        rw [hV] at hU2 ⊢
        clear hV y2 m1 ml HFRC
        cases fr
        · have HE := Lib.hid (show E = 18 by
            rw [HS2.out]
            have hb := useL_bad (L := L) (st := st) HOK2.out (n - (k + 1))
            rw [show k + 1 + (n - (k + 1)) = n by omega] at hb
            rw [hb]; rfl)
          have HN := Lib.hid (show R = 0 by rw [HN0.out, HE.out]; rfl)
          go_wp2
          go_ret2
          exact ⟨ret_ints HN.out.symm HE.out.symm, ((z.step x).step y).step V, rfl⟩
        · obtain ⟨v2, q2, hr2, hA2, -⟩ := app_int_stepM (W := y.w) V.le hU2 (P : Int) (by rw [List.length_map, hul.out]; have := cntS_le (st.take k); simp at this; omega) 23
          have HR2 := Lib.hid hr2
          have HA := Lib.hid (show IntsM y.w.heap.size q2.w v2 ((useL st (k + 1)).map fun (k : Nat) => (k : Int)) by rw [HU2.out, List.map_append]; exact hA2)
          have HEP2 := HEP.out
          clear hr2 hA2 hU2 hU
          go_wp2_with ((with_reducible show wpList _ _ _ (⟨some 53, _, _, _, _, _⟩ :: _) _ _); refine Lib.wpList_append_run_sl _ rfl _ _ 23 rfl _ _ rfl rfl HR2.out ?_)
          go_roundw
          case rel => exact ⟨k + 1, q2, rfl, by omega, by go_num, HA.out, HOK2.out⟩
          case measure => simp [intOf]; omega
    · obtain rfl : lx = k := by omega
      have HE := Lib.hid (show E = 0 by rw [HS2.out, ← HLN.out, hOK.out]; rfl)
      have hlu : lu = (useL st lx).length := by obtain ⟨a, c, e⟩ := hU.form; cases e; simp
      have HN := Lib.hid (show R = (lu : Int) by rw [HN0.out, HE.out, if_pos rfl, hlu, hul.out, HLX.out, List.take_length])
      clear hlu
      go_wp2
      go_ret2
      exact ⟨ret_ints HN.out.symm HE.out.symm, ((z.step x).step y).step u, rfl⟩

end Go.Proofs.Ytdhdpbnlhnodjaa
