
/-  Plates that are hammered flat: the theory over numbers, with no program in sight. -/
namespace Go.Proofs.Ytbjmfhlkmklmmaa
namespace Sand

/-- the sum of f over the numbers below n -/
def sum : Nat → (Nat → Int) → Int
  | 0, _ => 0
  | n + 1, f => sum n f + f n
theorem sum_congr {f g : Nat → Int} : ∀ (n : Nat), (∀ i, i < n → f i = g i) → sum n f = sum n g
  | 0, _ => rfl
  | n + 1, h => by rw [sum, sum, sum_congr n fun i hi => h i (by omega), h n (by omega)]
theorem sum_mono {f g : Nat → Int} : ∀ (n : Nat), (∀ i, i < n → f i ≤ g i) → sum n f ≤ sum n g
  | 0, _ => Int.le_refl _
  | n + 1, h => by
    have h1 := sum_mono n fun i hi => h i (by omega)
    have h2 := h n (by omega)
    rw [sum, sum]; omega
theorem sum_add (f g : Nat → Int) : ∀ n, sum n (fun i => f i + g i) = sum n f + sum n g
  | 0 => rfl
  | n + 1 => by rw [sum, sum, sum, sum_add f g n]; omega
theorem sum_neg (f : Nat → Int) : ∀ n, sum n (fun i => - f i) = - sum n f
  | 0 => rfl
  | n + 1 => by rw [sum, sum, sum_neg f n]; omega
theorem sum_mul (c : Int) (f : Nat → Int) : ∀ n, sum n (fun i => c * f i) = c * sum n f
  | 0 => by simp [sum]
  | n + 1 => by rw [sum, sum, sum_mul c f n, Int.mul_add]
theorem sum_zero : ∀ n, sum n (fun _ => 0) = 0
  | 0 => rfl
  | n + 1 => by rw [sum, sum_zero n]; rfl
theorem sum_one (n i : Nat) (c : Int) (h : i < n) : sum n (fun j => if j = i then c else 0) = c := by
  induction n with
  | zero => omega
  | succ n ih =>
    rw [sum]
    by_cases e : i = n
    · subst e
      rw [if_pos rfl, sum_congr i (g := fun _ => 0) fun j hj => if_neg (by omega), sum_zero]; omega
    · rw [ih (by omega), if_neg (by omega)]; omega
theorem sum_swap (f : Nat → Nat → Int) (m : Nat) : ∀ n, sum n (fun i => sum m (fun j => f i j)) = sum m (fun j => sum n (fun i => f i j))
  | 0 => by simp only [sum]; rw [sum_zero]
  | n + 1 => by simp only [sum]; rw [sum_swap f m n, sum_add]
theorem sum_nonneg {f : Nat → Int} (n : Nat) (h : ∀ i, i < n → 0 ≤ f i) : 0 ≤ sum n f := by
  have := sum_mono (f := fun _ => 0) (g := f) n h
  rwa [sum_zero] at this
theorem le_sum {f : Nat → Int} {n i : Nat} (h : ∀ i, i < n → 0 ≤ f i) (hi : i < n) : f i ≤ sum n f := by
  have := sum_mono (f := fun j => if j = i then f i else 0) (g := f) n fun j hj => by
    by_cases e : j = i
    · subst e; simp
    · rw [if_neg e]; exact h j hj
  rwa [sum_one n i _ hi] at this

/-- A plate: how many places, and which are neighbours (1 or 0). -/
structure Pl where
  N : Nat
  a : Nat → Nat → Int
  nn : ∀ i j, 0 ≤ a i j
  sym : ∀ i j, a i j = a j i
  irr : ∀ i, a i i = 0

variable {M : Pl}
/-- dents behind so many blows at each place -/
def ap (M : Pl) (d u : Nat → Int) (j : Nat) : Int := d j - 4 * u j + sum M.N (fun i => M.a i j * u i)
/-- dents behind n blows at one place -/
def hit (M : Pl) (d : Nat → Int) (i : Nat) (n : Int) (j : Nat) : Int := d j - (if j = i then 4 * n else 0) + M.a i j * n
def one (i : Nat) (n : Int) (j : Nat) : Int := if j = i then n else 0
def plus (u v : Nat → Int) (j : Nat) : Int := u j + v j
theorem ap_zero (d : Nat → Int) (j : Nat) : ap M d (fun _ => 0) j = d j := by
  rw [ap, sum_congr (g := fun _ => 0) M.N fun i _ => Int.mul_zero _, sum_zero]; omega
theorem ap_plus (d u v : Nat → Int) (j : Nat) : ap M d (plus u v) j = ap M (ap M d u) v j := by
  rw [ap, ap, ap, sum_congr (g := fun i => M.a i j * u i + M.a i j * v i) M.N fun i _ => by rw [plus, Int.mul_add], sum_add, plus]
  omega
theorem ap_one (d : Nat → Int) {i : Nat} (n : Int) (hi : i < M.N) (j : Nat) : ap M d (one i n) j = hit M d i n j := by
  rw [ap, hit, sum_congr (g := fun k => if k = i then M.a i j * n else 0) M.N fun k _ => by
    rw [one]
    by_cases e : k = i
    · subst e; rw [if_pos rfl, if_pos rfl]
    · rw [if_neg e, if_neg e, Int.mul_zero], sum_one M.N i _ hi, one]
  by_cases e : j = i
  · rw [if_pos e, if_pos e]
  · rw [if_neg e, if_neg e]; omega
theorem ap_congr {d d' u u' : Nat → Int} {j : Nat} (hd : d j = d' j) (hj : u j = u' j) (hu : ∀ i, i < M.N → u i = u' i) : ap M d u j = ap M d' u' j := by
  rw [ap, ap, hd, hj, sum_congr M.N fun i hi => by rw [hu i hi]]

/-- Blows that are possible, done one place after another: u is what has been done, x what has become of d. -/
inductive Run (M : Pl) (d : Nat → Int) : (Nat → Int) → (Nat → Int) → Prop
  | start : Run M d (fun _ => 0) d
  | blow {u x : Nat → Int} {i : Nat} {n : Int} (h : Run M d u x) (hi : i < M.N) (hn : 0 ≤ n) (hx : 4 * n ≤ x i) : Run M d (plus u (one i n)) (hit M x i n)
theorem Run.is {d u x : Nat → Int} (h : Run M d u x) : ∀ j, x j = ap M d u j := by
  induction h with
  | start => intro j; rw [ap_zero]
  | blow h hi hn hx ih =>
    intro j
    rw [ap_plus, ap_one _ _ hi, hit, hit, ih j]
theorem Run.nonneg {d u x : Nat → Int} (h : Run M d u x) : ∀ j, 0 ≤ u j := by
  induction h with
  | start => intro j; exact Int.le_refl _
  | blow h hi hn hx ih =>
    intro j
    rw [plus, one]
    have := ih j
    split <;> omega
theorem Run.dents {d u x : Nat → Int} (h : Run M d u x) (hd : ∀ j, 0 ≤ d j) : ∀ j, 0 ≤ x j := by
  induction h with
  | start => exact hd
  | blow h hi hn hx ih =>
    intro j
    rename_i u x i n
    rw [hit]
    have h1 := ih j
    have h2 := Int.mul_nonneg (M.nn i j) hn
    split
    · rename_i e; subst e; omega
    · omega
/-- **THE LEAST BLOWS**: what has been done by blows that are possible is nowhere more than blows that leave the plate flat. -/
theorem Run.least {d u x v : Nat → Int} (h : Run M d u x) (hv : ∀ i, i < M.N → 0 ≤ v i) (hf : ∀ j, j < M.N → ap M d v j ≤ 3) : ∀ j, j < M.N → u j ≤ v j := by
  induction h with
  | start => exact hv
  | blow h hi hn hx ih =>
    rename_i u x i n
    intro j hj
    rw [plus, one]
    by_cases e : j = i
    · subst e
      rw [if_pos rfl]
      apply Classical.byContradiction
      intro hc
      have h1 := hf j hj
      have h2 := h.is j
      rw [ap] at h1 h2
      have h3 := sum_mono (f := fun i => M.a i j * u i) (g := fun i => M.a i j * v i) M.N fun i hi => Int.mul_le_mul_of_nonneg_left (ih i hi) (M.nn i j)
      omega
    · rw [if_neg e]; have := ih j hj; omega
/-- flat -/
def Flat (M : Pl) (x : Nat → Int) : Prop := ∀ j, j < M.N → x j ≤ 3
/-- What a plate comes to. -/
structure To (M : Pl) (d u x : Nat → Int) : Prop where
  is : ∀ j, j < M.N → x j = ap M d u j
  pos : ∀ j, j < M.N → 0 ≤ u j
  flat : Flat M x
  least : ∀ v : Nat → Int, (∀ i, i < M.N → 0 ≤ v i) → (∀ j, j < M.N → ap M d v j ≤ 3) → ∀ j, j < M.N → u j ≤ v j
theorem Run.to {d u x : Nat → Int} (h : Run M d u x) (hf : Flat M x) : To M d u x := ⟨fun j _ => h.is j, fun j _ => h.nonneg j, hf, fun _ hv hfl => h.least hv hfl⟩
theorem To.unique {d u x u' x' : Nat → Int} (h : To M d u x) (h' : To M d u' x') : (∀ j, j < M.N → u j = u' j) ∧ ∀ j, j < M.N → x j = x' j := by
  have h1 := h.least u' h'.pos fun j hj => by rw [← h'.is j hj]; exact h'.flat j hj
  have h2 := h'.least u h.pos fun j hj => by rw [← h.is j hj]; exact h.flat j hj
  have hu : ∀ j, j < M.N → u j = u' j := fun j hj => Int.le_antisymm (h1 j hj) (h2 j hj)
  exact ⟨hu, fun j hj => by rw [h.is j hj, h'.is j hj]; exact ap_congr rfl (hu j hj) hu⟩
theorem Run.trans {d u x v y : Nat → Int} (h : Run M d u x) (h' : Run M x v y) : Run M d (plus u v) y := by
  induction h' with
  | start => rw [show plus u (fun _ => 0) = u from funext fun j => Int.add_zero _]; exact h
  | blow h2 hi hn hx ih =>
    rename_i v y i n
    rw [show plus u (plus v (one i n)) = plus (plus u v) (one i n) from funext fun j => by simp only [plus]; omega]
    exact .blow ih hi hn hx
/-- blows that are possible stay so on a plate that stands up more -/
theorem Run.more {d u x e : Nat → Int} (h : Run M d u x) (he : ∀ j, 0 ≤ e j) : Run M (plus d e) u (plus x e) := by
  induction h with
  | start => exact .start
  | blow h hi hn hx ih =>
    rename_i u x i n
    have := Run.blow ih hi hn (show 4 * n ≤ plus x e i by rw [plus]; have := he i; omega)
    rw [show plus (hit M x i n) e = hit M (plus x e) i n from funext fun j => by simp only [plus, hit]; omega]
    exact this
/-- a plate, hammered flat, and then laid upon another one: the same as both together -/
theorem To.upon {d u x e v y : Nat → Int} (h : Run M d u x) (he : ∀ j, 0 ≤ e j) (h2 : Run M (plus x e) v y) (hf : Flat M y) : To M (plus d e) (plus u v) y :=
  ((h.more he).trans h2).to hf
end Sand
end Go.Proofs.Ytbjmfhlkmklmmaa

/-  Plates that come back: the theory over numbers, with no program in sight. -/
namespace Go.Proofs.Ytbjmfhlkmklmmaa
namespace Sand
variable {M : Pl}

/-- what is lost at a place over the edge by one blow at it -/
def rim (M : Pl) (j : Nat) : Int := 4 - sum M.N (fun i => M.a i j)
def ones : Nat → Int := fun _ => 1
def times (k : Int) (u : Nat → Int) (j : Nat) : Int := k * u j
theorem ap_mono {d d' u : Nat → Int} {j : Nat} (h : d j ≤ d' j) : ap M d u j ≤ ap M d' u j := by rw [ap, ap]; omega
theorem ap_ones (d : Nat → Int) (j : Nat) : ap M (plus d (rim M)) ones j = d j := by
  rw [ap, plus, rim, sum_congr (f := fun i => M.a i j * ones i) (g := fun i => M.a i j) M.N fun i _ => by rw [ones, Int.mul_one]]
  show d j + (4 - _) - 4 * 1 + _ = d j
  omega
/-- one blow at each place takes the rim away -/
theorem ap_less (d v : Nat → Int) (j : Nat) : ap M (plus d (rim M)) v j = ap M d (fun i => v i - 1) j := by
  have h := ap_plus (M := M) (plus d (rim M)) ones (fun i => v i - 1) j
  rw [show plus ones (fun i => v i - 1) = v from funext fun i => by simp only [plus, ones]; omega] at h
  rw [h]
  rw [show ap M (plus d (rim M)) ones = d from funext fun i => ap_ones d i]
/-- It comes back: laid upon what is lost at the edge it is not flat again before one blow at each place. -/
structure Rec (M : Pl) (x : Nat → Int) : Prop where
  flat : Flat M x
  pos : ∀ j, j < M.N → 0 ≤ x j
  least : ∀ v : Nat → Int, (∀ i, i < M.N → 0 ≤ v i) → (∀ j, j < M.N → ap M (plus x (rim M)) v j ≤ 3) → ∀ j, j < M.N → 1 ≤ v j
/-- .. as often as one likes -/
theorem Rec.often {x : Nat → Int} (hr : ∀ j, j < M.N → 0 ≤ rim M j) (h : Rec M x) : ∀ (k : Nat) (v : Nat → Int), (∀ i, i < M.N → 0 ≤ v i) → (∀ j, j < M.N → ap M x (fun i => v i - k) j ≤ 3) → ∀ j, j < M.N → (k : Int) ≤ v j
  | 0, v, hv, _, j, hj => hv j hj
  | k + 1, v, hv, hf, j, hj => by
    -- the plate with the rim k + 1 times
    have e : ∀ (k : Nat) (d v : Nat → Int) (j : Nat), ap M d (fun i => v i - k) j = ap M (plus d (times k (rim M))) v j := by
      intro k
      induction k with
      | zero => intro d v j; exact ap_congr (by simp [plus, times]) (by simp) fun _ _ => by simp
      | succ k ih =>
        intro d v j
        have h1 := ih (plus d (rim M)) v j
        have h2 := ap_less (M := M) d (fun i => v i - k) j
        rw [show (fun i => v i - ((k + 1 : Nat) : Int)) = (fun i => (fun i => v i - (k : Int)) i - 1) from funext fun i => by show v i - ((k + 1 : Nat) : Int) = v i - (k : Int) - 1; omega, ← h2, h1]
        refine ap_congr ?_ rfl fun _ _ => rfl
        simp only [plus, times]
        rw [show (((k + 1 : Nat) : Int)) = (k : Int) + 1 by omega, Int.add_mul, Int.one_mul]
        omega
    have h1 : ∀ i, i < M.N → 1 ≤ v i := h.least v hv fun i hi => by
      have h2 := hf i hi
      rw [e] at h2
      refine Int.le_trans (ap_mono ?_) h2
      simp only [plus, times]
      have := Int.mul_nonneg (show (0 : Int) ≤ k by omega) (hr i hi)
      rw [show (((k + 1 : Nat) : Int)) = (k : Int) + 1 by omega, Int.add_mul, Int.one_mul]
      omega
    have h2 := h.often hr k (fun i => v i - 1) (fun i hi => by have := h1 i hi; omega) (fun i hi => by
      have := hf i hi
      rw [show (fun i => v i - ((k + 1 : Nat) : Int)) = (fun i => v i - 1 - (k : Int)) from funext fun i => by omega] at this
      exact this) j hj
    omega
/-- **ONE OF EACH KIND**: two that come back, and of which blows lead from one to the other, are the same. -/
theorem Rec.le {x y w : Nat → Int} (hr : ∀ j, j < M.N → 0 ≤ rim M j) (hx : Rec M x) (hy : Flat M y) (h : ∀ j, j < M.N → y j = ap M x w j) : ∀ j, j < M.N → 0 ≤ w j := by
  intro j hj
  obtain ⟨k, hk⟩ : ∃ k : Nat, ∀ i, i < M.N → - w i ≤ k := by
    refine ⟨(sum M.N fun i => if 0 ≤ w i then 0 else - w i).toNat, fun i hi => ?_⟩
    have := le_sum (f := fun i => if 0 ≤ w i then 0 else - w i) (n := M.N) (fun i _ => by split <;> omega) hi
    by_cases h0 : 0 ≤ w i
    · omega
    · rw [if_neg h0] at this; omega
  have := hx.often hr k (fun i => w i + k) (fun i hi => by have := hk i hi; omega) (fun i hi => by
    rw [show (fun i => w i + (k : Int) - k) = w from funext fun i => by omega, ← h i hi]
    exact hy i hi) j hj
  omega
theorem ap_back (d w : Nat → Int) (j : Nat) : ap M (ap M d w) (fun i => - w i) j = d j := by
  rw [← ap_plus, show plus w (fun i => - w i) = fun _ => 0 from funext fun i => by simp only [plus]; omega, ap_zero]
theorem Rec.same {x y w : Nat → Int} (hr : ∀ j, j < M.N → 0 ≤ rim M j) (hx : Rec M x) (hy : Rec M y) (h : ∀ j, j < M.N → y j = ap M x w j) : ∀ j, j < M.N → x j = y j := by
  have h1 := hx.le hr hy.flat h
  have h2 := hy.le (w := fun i => - w i) hr hx.flat fun j hj => by
    rw [ap_congr (d' := ap M x w) (u' := fun i => - w i) (h j hj) rfl fun _ _ => rfl, ap_back]
  intro j hj
  rw [h j hj, ap_congr (d' := x) (u' := fun _ => 0) rfl (by have := h1 j hj; have := h2 j hj; omega) fun i hi => by have := h1 i hi; have := h2 i hi; omega, ap_zero]
/-- what lies upon one that comes back comes back -/
theorem Rec.more {x e u z : Nat → Int} (hx : Rec M x) (he : ∀ j, j < M.N → 0 ≤ e j) (h : To M (plus x e) u z) (hz : ∀ j, j < M.N → 0 ≤ z j) : Rec M z where
  flat := h.flat
  pos := hz
  least := fun v hv hf j hj => by
    have h1 : ∀ i, i < M.N → 1 ≤ u i + v i := hx.least (fun i => u i + v i) (fun i hi => by have := h.pos i hi; have := hv i hi; omega) fun i hi => by
      have h2 := hf i hi
      rw [ap_less] at h2 ⊢
      have h3 : ap M z (fun i => v i - 1) i = ap M (plus x e) (fun i => u i + v i - 1) i := by
        rw [ap_congr (d' := ap M (plus x e) u) (u' := fun i => v i - 1) (h.is i hi) rfl fun _ _ => rfl, ← ap_plus]
        exact ap_congr rfl (by simp only [plus]; omega) fun _ _ => by simp only [plus]; omega
      rw [h3] at h2
      exact Int.le_trans (ap_mono (by simp only [plus]; have := he i hi; omega)) h2
    have h2 := h.least (fun i => u i + v i - 1) (fun i hi => by have := h1 i hi; omega) (fun i hi => by
      have h2 := hf i hi
      rw [ap_less] at h2
      rw [show ap M (plus x e) (fun i => u i + v i - 1) i = ap M z (fun i => v i - 1) i from ?_]
      · exact h2
      · rw [ap_congr (d := z) (d' := ap M (plus x e) u) (u' := fun i => v i - 1) (h.is i hi) rfl fun _ _ => rfl, ← ap_plus]
        exact ap_congr rfl (by simp only [plus]; omega) fun _ _ => by simp only [plus]; omega) j hj
    omega
end Sand
end Go.Proofs.Ytbjmfhlkmklmmaa

/-  Plates as lists: neighbours, blows, the plate hammered flat. Plain lists, no program in sight. -/
namespace Go.Proofs.Ytbjmfhlkmklmmaa

/-- the neighbours of a place, in the order of the text: above, left, right, below -/
def nb (w h i : Nat) : List Nat := (if 0 < i / w then [i - w] else []) ++ ((if 0 < i % w then [i - 1] else []) ++ ((if i % w + 1 < w then [i + 1] else []) ++ (if i / w + 1 < h then [i + w] else [])))
/-- beside one another -/
def near (w i j : Nat) : Bool := (i / w == j / w && (i % w + 1 == j % w || j % w + 1 == i % w)) || (i % w == j % w && (i / w + 1 == j / w || j / w + 1 == i / w))
def sized (w h : Nat) : Prop := 1 ≤ w ∧ w ≤ 6 ∧ 1 ≤ h ∧ h ≤ 6
theorem near_comm (w i j : Nat) : near w i j = near w j i := by
  rw [Bool.eq_iff_iff]
  simp only [near, Bool.or_eq_true, Bool.and_eq_true, beq_iff_eq]
  constructor
  · rintro (⟨h1, h2 | h2⟩ | ⟨h1, h2 | h2⟩) <;> simp [h1, h2]
  · rintro (⟨h1, h2 | h2⟩ | ⟨h1, h2 | h2⟩) <;> simp [h1, h2]
theorem near_self (w i : Nat) : near w i i = false := by simp [near]
def nodupB : List Nat → Bool
  | [] => true
  | x :: l => !l.contains x && nodupB l
theorem nodupB_iff : ∀ (l : List Nat), nodupB l = true → l.Nodup
  | [], _ => List.nodup_nil
  | x :: l, h => by
    rw [nodupB, Bool.and_eq_true, Bool.not_eq_true', ← Bool.not_eq_true, List.contains_iff_mem] at h
    exact List.nodup_cons.2 ⟨h.1, nodupB_iff l h.2⟩
def nbChk : Bool := (List.range 7).all fun w => (List.range 7).all fun h => w == 0 || h == 0 || (List.range (w * h)).all fun i => nodupB (nb w h i) && (nb w h i).all (fun j => decide (j < w * h)) && (List.range (w * h)).all fun j => (nb w h i).contains j == near w i j
theorem nbChk_ok : nbChk = true := by decide +kernel
theorem nb_all {w h : Nat} (hs : sized w h) {i : Nat} (hi : i < w * h) : (nb w h i).Nodup ∧ (∀ j ∈ nb w h i, j < w * h) ∧ ∀ j, j < w * h → (nb w h i).contains j = near w i j := by
  have h0 := nbChk_ok
  obtain ⟨s1, s2, s3, s4⟩ := hs
  simp only [nbChk, List.all_eq_true, List.mem_range, Bool.or_eq_true, beq_iff_eq, Bool.and_eq_true, decide_eq_true_iff] at h0
  obtain ⟨⟨h1, h2⟩, h3⟩ := (h0 w (by omega) h (by omega)).resolve_left (by omega) i hi
  exact ⟨nodupB_iff _ h1, h2, h3⟩
theorem mem_nb {w h i j : Nat} (hs : sized w h) (hi : i < w * h) : j ∈ nb w h i ↔ j < w * h ∧ near w i j = true := by
  obtain ⟨_, h1, h2⟩ := nb_all hs hi
  constructor
  · intro hj
    have hlt := h1 j hj
    exact ⟨hlt, by rw [← h2 j hlt, List.contains_iff_mem]; exact hj⟩
  · rintro ⟨hlt, hn⟩
    rw [← h2 j hlt, List.contains_iff_mem] at hn
    exact hn
theorem nb_nodup {w h i : Nat} (hs : sized w h) (hi : i < w * h) : (nb w h i).Nodup := (nb_all hs hi).1
/-- the plate -/
def pl (w h : Nat) : Sand.Pl where
  N := w * h
  a i j := if near w i j then 1 else 0
  nn i j := by split <;> omega
  sym i j := by rw [near_comm]
  irr i := by rw [near_self]; rfl
/-- A hill over which everything runs down: twice as much as one blow at each place is lost everywhere. -/
def hill (w i : Nat) : Int := ((i % w : Nat) + 1) * ((w : Int) - (i % w : Nat))
def hillChk : Bool := (List.range 7).all fun w => (List.range 7).all fun h => w == 0 || h == 0 || (List.range (w * h)).all fun j =>
  decide (Sand.sum (w * h) (fun i => (if near w i j then 1 else 0) * hill w i) + 2 ≤ 4 * hill w j) && decide (0 ≤ hill w j) && decide (hill w j ≤ 12)
theorem hillChk_ok : hillChk = true := by decide +kernel
theorem hill_all {w h : Nat} (hs : sized w h) {j : Nat} (hj : j < w * h) : Sand.sum (w * h) (fun i => (if near w i j then 1 else 0) * hill w i) + 2 ≤ 4 * hill w j ∧ 0 ≤ hill w j ∧ hill w j ≤ 12 := by
  have h0 := hillChk_ok
  obtain ⟨s1, s2, s3, s4⟩ := hs
  simp only [hillChk, List.all_eq_true, List.mem_range, Bool.or_eq_true, beq_iff_eq, Bool.and_eq_true, decide_eq_true_iff] at h0
  obtain ⟨⟨h1, h2⟩, h3⟩ := (h0 w (by omega) h (by omega)).resolve_left (by omega) j hj
  exact ⟨h1, h2, h3⟩
theorem hill_flat {w h : Nat} (hs : sized w h) {d : Nat → Int} {K : Int} (hK : 0 ≤ K) (hd : ∀ j, j < w * h → d j ≤ 2 * K + 3) : ∀ j, j < w * h → Sand.ap (pl w h) d (fun i => K * hill w i) j ≤ 3 := by
  intro j hj
  obtain ⟨h1, h2, _⟩ := hill_all hs hj
  have h3 := hd j hj
  rw [Sand.ap, Sand.sum_congr (g := fun i => K * ((if near w i j then 1 else 0) * hill w i)) (pl w h).N fun i _ => by
    show (if near w i j then (1 : Int) else 0) * (K * hill w i) = _
    rw [← Int.mul_assoc, ← Int.mul_assoc, Int.mul_comm K], Sand.sum_mul]
  show d j - 4 * (K * hill w j) + K * Sand.sum (w * h) (fun i => (if near w i j then 1 else 0) * hill w i) ≤ 3
  have h4 := Int.mul_le_mul_of_nonneg_left h1 hK
  rw [Int.mul_add] at h4
  have h5 : K * (4 * hill w j) = 4 * (K * hill w j) := by rw [← Int.mul_assoc, Int.mul_comm K 4, Int.mul_assoc]
  omega

/-- the j-th number of a list, 0 behind its end -/
def ofL (d : List Int) (j : Nat) : Int := d.getD j 0
theorem ofL_ext {a b : List Int} (hl : a.length = b.length) (h : ∀ j, j < a.length → ofL a j = ofL b j) : a = b :=
  List.ext_getElem hl fun j hj hj' => by have := h j hj; simpa [ofL, hj, hj'] using this
theorem ofL_set (d : List Int) (i : Nat) (x : Int) (j : Nat) (hi : i < d.length) : ofL (d.set i x) j = if j = i then x else ofL d j := by
  simp only [ofL, List.getD_eq_getElem?_getD]
  by_cases e : j = i
  · subst e; simp [hi]
  · rw [if_neg e, List.getElem?_set_ne (Ne.symm e)]
def addAt (d : List Int) (j : Nat) (n : Int) : List Int := d.set j (ofL d j + n)
theorem addAt_len (d : List Int) (j : Nat) (n : Int) : (addAt d j n).length = d.length := by simp [addAt]
theorem ofL_addAt (d : List Int) (i : Nat) (n : Int) (j : Nat) (hi : i < d.length) : ofL (addAt d i n) j = ofL d j + if j = i then n else 0 := by
  rw [addAt, ofL_set d i _ j hi]
  by_cases e : j = i
  · subst e; rw [if_pos rfl, if_pos rfl]
  · rw [if_neg e, if_neg e, Int.add_zero]
/-- n at each of these places -/
def addAll (n : Int) (l : List Nat) (d : List Int) : List Int := l.foldl (fun a j => addAt a j n) d
theorem addAll_len (n : Int) : ∀ (l : List Nat) (d : List Int), (addAll n l d).length = d.length
  | [], _ => rfl
  | x :: l, d => by rw [addAll, List.foldl_cons]; exact (addAll_len n l _).trans (addAt_len d x n)
theorem ofL_addAll (n : Int) : ∀ (l : List Nat) (d : List Int) (j : Nat), l.Nodup → (∀ x ∈ l, x < d.length) → ofL (addAll n l d) j = ofL d j + if j ∈ l then n else 0
  | [], d, j, _, _ => by simp [addAll]
  | x :: l, d, j, hn, hl => by
    rw [List.nodup_cons] at hn
    rw [addAll, List.foldl_cons]
    have := ofL_addAll n l (addAt d x n) j hn.2 fun y hy => by rw [addAt_len]; exact hl y (by simp [hy])
    rw [addAll] at this
    rw [this, ofL_addAt d x n j (hl x (by simp))]
    by_cases e : j = x
    · subst e
      rw [if_pos rfl, if_neg hn.1, if_pos (by simp)]; omega
    · rw [if_neg e]
      by_cases hm : j ∈ l
      · rw [if_pos hm, if_pos (by simp [hm])]; omega
      · rw [if_neg hm, if_neg (by simp [e, hm])]; omega
/-- n blows at a place -/
def hitL (w h : Nat) (d : List Int) (i : Nat) (n : Int) : List Int := addAll n (nb w h i) (addAt d i (-(4 * n)))
theorem hitL_len (w h : Nat) (d : List Int) (i : Nat) (n : Int) : (hitL w h d i n).length = d.length := by rw [hitL, addAll_len, addAt_len]
theorem ofL_hitL {w h : Nat} (hs : sized w h) {d : List Int} (hd : w * h ≤ d.length) {i : Nat} (hi : i < w * h) (n : Int) (j : Nat) (hj : j < w * h) : ofL (hitL w h d i n) j = Sand.hit (pl w h) (ofL d) i n j := by
  have hb := nb_all hs hi
  rw [hitL, ofL_addAll n _ _ j hb.1 fun x hx => by rw [addAt_len]; have := hb.2.1 x hx; omega, ofL_addAt _ _ _ _ (by omega), Sand.hit]
  have e : (if j ∈ nb w h i then n else 0) = (pl w h).a i j * n := by
    show _ = (if near w i j then (1 : Int) else 0) * n
    by_cases hm : j ∈ nb w h i
    · rw [if_pos hm, if_pos ((mem_nb hs hi).1 hm).2, Int.one_mul]
    · rw [if_neg hm, if_neg fun hn => hm ((mem_nb hs hi).2 ⟨hj, hn⟩), Int.zero_mul]
  rw [e]
  by_cases e2 : j = i
  · rw [if_pos e2, if_pos e2]; omega
  · rw [if_neg e2, if_neg e2]; omega
theorem ofL_hitL_out {w h : Nat} (hs : sized w h) {d : List Int} (hd : w * h ≤ d.length) {i : Nat} (hi : i < w * h) (n : Int) (j : Nat) (hj : w * h ≤ j) : ofL (hitL w h d i n) j = ofL d j := by
  have hb := nb_all hs hi
  rw [hitL, ofL_addAll n _ _ j hb.1 fun x hx => by rw [addAt_len]; have := hb.2.1 x hx; omega, ofL_addAt _ _ _ _ (by omega), if_neg (show ¬ j = i by omega), if_neg (show ¬ j ∈ nb w h i from fun hm => by have := hb.2.1 j hm; omega)]
  omega

/-- only the numbers of the places count -/
def agree (w h : Nat) (x : Nat → Int) (d : List Int) : Prop := ∀ j, j < w * h → x j = ofL d j
/-- Possible blows, on lists: u is what has been done, x what has become of d. -/
def RunL (w h : Nat) (d u x : List Int) : Prop := d.length = w * h ∧ u.length = w * h ∧ x.length = w * h ∧ ∃ v y, Sand.Run (pl w h) (ofL d) v y ∧ agree w h v u ∧ agree w h y x
theorem RunL.start {w h : Nat} {d : List Int} (hd : d.length = w * h) : RunL w h d (List.replicate (w * h) 0) d :=
  ⟨hd, by simp, hd, _, _, .start, fun j hj => by simp [ofL, hj], fun j hj => rfl⟩
theorem RunL.blow {w h : Nat} (hs : sized w h) {d u x : List Int} (hr : RunL w h d u x) {i : Nat} (hi : i < w * h) {n : Int} (hn : 0 ≤ n) (hx : 4 * n ≤ ofL x i) : RunL w h d (addAt u i n) (hitL w h x i n) := by
  obtain ⟨h1, h2, h3, v, y, hrun, hv, hy⟩ := hr
  refine ⟨h1, by rw [addAt_len, h2], by rw [hitL_len, h3], _, _, .blow hrun (i := i) (n := n) hi hn (by rw [hy i hi]; exact hx), fun j hj => ?_, fun j hj => ?_⟩
  · rw [ofL_addAt _ _ _ _ (by omega), Sand.plus, Sand.one, hv j hj]
  · rw [ofL_hitL hs (by omega) hi n j hj, Sand.hit, Sand.hit, hy j hj]
theorem RunL.least {w h : Nat} {d u x : List Int} (hr : RunL w h d u x) {v : Nat → Int} (hv : ∀ i, i < w * h → 0 ≤ v i) (hf : ∀ j, j < w * h → Sand.ap (pl w h) (ofL d) v j ≤ 3) : ∀ j, j < w * h → ofL u j ≤ v j := by
  obtain ⟨h1, h2, h3, v', y, hrun, hv', hy⟩ := hr
  intro j hj
  rw [← hv' j hj]
  exact hrun.least hv hf j hj
theorem RunL.pos {w h : Nat} {d u x : List Int} (hr : RunL w h d u x) : ∀ j, j < w * h → 0 ≤ ofL u j := by
  obtain ⟨h1, h2, h3, v', y, hrun, hv', hy⟩ := hr
  intro j hj
  rw [← hv' j hj]
  exact hrun.nonneg j
theorem RunL.dents {w h : Nat} {d u x : List Int} (hr : RunL w h d u x) (hd : ∀ j, j < w * h → 0 ≤ ofL d j) : ∀ j, j < w * h → 0 ≤ ofL x j := by
  obtain ⟨h1, h2, h3, v', y, hrun, hv', hy⟩ := hr
  intro j hj
  rw [← hy j hj]
  refine hrun.dents (fun k => ?_) j
  by_cases hk : k < w * h
  · exact hd k hk
  · simp [ofL, List.getElem?_eq_none (show d.length ≤ k by omega)]
theorem RunL.is {w h : Nat} {d u x : List Int} (hr : RunL w h d u x) : ∀ j, j < w * h → ofL x j = Sand.ap (pl w h) (ofL d) (ofL u) j := by
  obtain ⟨h1, h2, h3, v', y, hrun, hv', hy⟩ := hr
  intro j hj
  rw [← hy j hj, hrun.is j]
  exact Sand.ap_congr rfl (hv' j hj) hv'
/-- .. are never many: 'K' for dents up to 2 K + 3 -/
theorem RunL.bound {w h : Nat} (hs : sized w h) {d u x : List Int} (hr : RunL w h d u x) {K : Int} (hK : 0 ≤ K) (hd : ∀ j, j < w * h → ofL d j ≤ 2 * K + 3) : ∀ j, j < w * h → ofL u j ≤ 12 * K := by
  intro j hj
  have h1 := hr.least (fun i hi => Int.mul_nonneg hK (hill_all hs hi).2.1) (hill_flat hs hK hd) j hj
  have h2 := Int.mul_le_mul_of_nonneg_left (hill_all hs hj).2.2 hK
  omega
/-- What a plate comes to: X is left, by U. -/
structure Ham (w h : Nat) (d X U : List Int) : Prop where
  run : RunL w h d U X
  flat : ∀ j, j < w * h → ofL X j ≤ 3
theorem Ham.least {w h : Nat} {d X U : List Int} (hm : Ham w h d X U) {v : Nat → Int} (hv : ∀ i, i < w * h → 0 ≤ v i) (hf : ∀ j, j < w * h → Sand.ap (pl w h) (ofL d) v j ≤ 3) : ∀ j, j < w * h → ofL U j ≤ v j := hm.run.least hv hf
theorem Ham.unique {w h : Nat} {d X U X' U' : List Int} (h1 : Ham w h d X U) (h2 : Ham w h d X' U') : X = X' ∧ U = U' := by
  have hu : ∀ {X U X' U' : List Int}, Ham w h d X U → Ham w h d X' U' → ∀ j, j < w * h → ofL U j ≤ ofL U' j := fun a b j hj =>
    a.least (fun i hi => b.run.pos i hi) (fun k hk => by rw [← b.run.is k hk]; exact b.flat k hk) j hj
  have e : U = U' := ofL_ext (by rw [h1.run.2.1, h2.run.2.1]) fun j hj => by
    rw [h1.run.2.1] at hj
    exact Int.le_antisymm (hu h1 h2 j hj) (hu h2 h1 j hj)
  subst e
  exact ⟨ofL_ext (by rw [h1.run.2.2.1, h2.run.2.2.1]) fun j hj => by
    rw [h1.run.2.2.1] at hj
    rw [h1.run.is j hj, h2.run.is j hj], rfl⟩
end Go.Proofs.Ytbjmfhlkmklmmaa

/-  The places that burn. Plain lists, no program in sight. -/
namespace Go.Proofs.Ytbjmfhlkmklmmaa

/-- how many neighbours have not burnt yet -/
def leftF (gone : List Int) (l : List Nat) : Int := l.foldl (fun a j => a + (1 - ofL gone j)) 0
def left (w h : Nat) (gone : List Int) (i : Nat) : Int := leftF gone (nb w h i)
def burns (w h : Nat) (d gone : List Int) (i : Nat) : Bool := ofL gone i == 0 && decide (left w h gone i ≤ ofL d i)
def nextB (w h : Nat) (d gone : List Int) : Option Nat := (List.range (w * h)).find? (burns w h d gone)
def burnF (w h : Nat) (d : List Int) : Nat → List Int → List Int → List Int
  | 0, _, out => out
  | f + 1, gone, out => match nextB w h d gone with
    | none => out
    | some i => burnF w h d f (gone.set i 1) (out ++ [(i : Int)])
/-- the places that burn, in their order -/
def burnL (w h : Nat) (d : List Int) : List Int := burnF w h d (w * h) (List.replicate (w * h) 0) []

theorem leftF_add (gone : List Int) : ∀ (l : List Nat) (c : Int), l.foldl (fun a j => a + (1 - ofL gone j)) c = c + leftF gone l
  | [], c => by simp [leftF]
  | x :: l, c => by
    have h1 := leftF_add gone l (c + (1 - ofL gone x))
    have h2 := leftF_add gone l (0 + (1 - ofL gone x))
    rw [List.foldl_cons, h1]
    show _ = c + (x :: l).foldl (fun a j => a + (1 - ofL gone j)) 0
    rw [List.foldl_cons, h2]; omega
theorem leftF_cons (gone : List Int) (x : Nat) (l : List Nat) : leftF gone (x :: l) = (1 - ofL gone x) + leftF gone l := by
  have h := leftF_add gone l (0 + (1 - ofL gone x))
  show (x :: l).foldl (fun a j => a + (1 - ofL gone j)) 0 = _
  rw [List.foldl_cons, h]; omega
theorem leftF_nonneg (gone : List Int) : ∀ l : List Nat, (∀ x ∈ l, ofL gone x ≤ 1) → 0 ≤ leftF gone l
  | [], _ => Int.le_refl _
  | x :: l, h => by
    have h1 := leftF_nonneg gone l fun y hy => h y (by simp [hy])
    have h2 := h x (by simp)
    rw [leftF_cons]; omega
/-- the sum over a list of places -/
theorem sum_mem (f : Nat → Int) : ∀ (N : Nat) (l : List Nat), l.Nodup → (∀ x ∈ l, x < N) → Sand.sum N (fun i => if i ∈ l then f i else 0) = (l.map f).sum
  | N, [], _, _ => by simp [Sand.sum_zero]
  | N, x :: l, hn, hl => by
    rw [List.nodup_cons] at hn
    rw [List.map_cons, List.sum_cons, ← sum_mem f N l hn.2 fun y hy => hl y (by simp [hy]), ← Sand.sum_one N x (f x) (hl x (by simp)), ← Sand.sum_add]
    refine Sand.sum_congr N fun i _ => ?_
    by_cases e : i = x
    · subst e
      rw [if_pos (by simp), if_pos rfl, if_neg hn.1]; omega
    · rw [if_neg e]
      by_cases hm : i ∈ l
      · rw [if_pos hm, if_pos (by simp [hm])]; omega
      · rw [if_neg hm, if_neg (by simp [e, hm])]; omega
theorem leftF_sum (gone : List Int) : ∀ l : List Nat, leftF gone l = (l.map fun j => 1 - ofL gone j).sum
  | [] => rfl
  | x :: l => by rw [leftF_cons, leftF_sum gone l, List.map_cons, List.sum_cons]
theorem left_sum {w h : Nat} (hs : sized w h) (gone : List Int) {i : Nat} (hi : i < w * h) : left w h gone i = Sand.sum (w * h) (fun j => (pl w h).a j i) - Sand.sum (w * h) (fun j => (pl w h).a j i * ofL gone j) := by
  have hb := nb_all hs hi
  rw [left, leftF_sum, ← sum_mem _ (w * h) _ hb.1 hb.2.1, show ∀ a b : Int, a - b = a + - b from fun a b => rfl, ← Sand.sum_neg, ← Sand.sum_add]
  refine Sand.sum_congr _ fun j hj => ?_
  show _ = (if near w j i then (1 : Int) else 0) + - ((if near w j i then 1 else 0) * ofL gone j)
  by_cases hm : j ∈ nb w h i
  · have := ((mem_nb hs hi).1 hm).2
    rw [if_pos hm, near_comm, if_pos this]; omega
  · rw [if_neg hm, near_comm, if_neg fun hn => hm ((mem_nb hs hi).2 ⟨hj, hn⟩)]; omega
theorem rim_left {w h : Nat} (hs : sized w h) (gone : List Int) {i : Nat} (hi : i < w * h) (d : List Int) : ofL d i + Sand.rim (pl w h) i + Sand.sum (w * h) (fun j => (pl w h).a j i * ofL gone j) = ofL d i + 4 - left w h gone i := by
  rw [left_sum hs gone hi, Sand.rim]
  show _ + (4 - Sand.sum (w * h) _) + _ = _
  omega
theorem rim_nonneg {w h : Nat} (hs : sized w h) : ∀ j, j < w * h → 0 ≤ Sand.rim (pl w h) j := by
  intro j hj
  have h1 := left_sum hs [] hj
  rw [Sand.sum_congr (f := fun k => (pl w h).a k j * ofL [] k) (g := fun _ => 0) _ fun k _ => by simp [ofL], Sand.sum_zero] at h1
  have h2 : left w h [] j ≤ 4 := by
    have h3 : ∀ l : List Nat, leftF [] l = l.length := fun l => by
      induction l with
      | nil => rfl
      | cons x l ih => rw [leftF_cons, ih]; simp [ofL]; omega
    rw [left, h3]
    have h4 : (nb w h j).length ≤ 4 := by
      simp only [nb, List.length_append]
      have h5 : ∀ (p : Prop) [Decidable p] (x : Nat), (if p then [x] else ([] : List Nat)).length ≤ 1 := fun p _ x => by split <;> simp
      have a := h5 (0 < j / w) (j - w)
      have b := h5 (0 < j % w) (j - 1)
      have c := h5 (j % w + 1 < w) (j + 1)
      have e := h5 (j / w + 1 < h) (j + w)
      omega
    omega
  rw [Sand.rim]
  show 0 ≤ 4 - Sand.sum (w * h) _
  omega

/-- what has burnt so far -/
structure Fire (w h : Nat) (d gone out : List Int) : Prop where
  lenG : gone.length = w * h
  bits : ∀ i, i < w * h → ofL gone i = 0 ∨ ofL gone i = 1
  count : Sand.sum (w * h) (ofL gone) = out.length
  lit : ∀ v : Nat → Int, (∀ i, i < w * h → 0 ≤ v i) → (∀ j, j < w * h → Sand.ap (pl w h) (Sand.plus (ofL d) (Sand.rim (pl w h))) v j ≤ 3) → ∀ i, i < w * h → ofL gone i = 1 → 1 ≤ v i
theorem Fire.start (w h : Nat) (d : List Int) : Fire w h d (List.replicate (w * h) 0) [] := by
  have e : ∀ i, ofL (List.replicate (w * h) (0 : Int)) i = 0 := fun i => by
    simp only [ofL, List.getD_eq_getElem?_getD, List.getElem?_replicate]
    split <;> rfl
  refine ⟨by simp, fun i _ => .inl (e i), ?_, fun v _ _ i _ h1 => by rw [e] at h1; cases h1⟩
  rw [Sand.sum_congr (g := fun _ => 0) _ fun i _ => e i, Sand.sum_zero]; rfl
theorem Fire.step {w h : Nat} (hs : sized w h) {d gone out : List Int} (hf : Fire w h d gone out) {i : Nat} (hi : i < w * h) (hb : burns w h d gone i = true) : Fire w h d (gone.set i 1) (out ++ [(i : Int)]) := by
  simp only [burns, Bool.and_eq_true, beq_iff_eq, decide_eq_true_iff] at hb
  have hset : ∀ j, ofL (gone.set i 1) j = if j = i then 1 else ofL gone j := fun j => ofL_set gone i 1 j (by rw [hf.lenG]; exact hi)
  refine ⟨by rw [List.length_set, hf.lenG], fun j hj => ?_, ?_, fun v hv hfl j hj h1 => ?_⟩
  · rw [hset]
    split
    · exact .inr rfl
    · exact hf.bits j hj
  · rw [List.length_append, List.length_singleton, Sand.sum_congr (g := fun j => ofL gone j + if j = i then 1 else 0) _ fun j _ => by
      rw [hset]
      by_cases e : j = i
      · subst e; rw [if_pos rfl, if_pos rfl, hb.1]; rfl
      · rw [if_neg e, if_neg e]; omega, Sand.sum_add, Sand.sum_one _ i 1 hi, hf.count]
    omega
  · rw [hset] at h1
    by_cases e : j = i
    · subst e
      apply Classical.byContradiction
      intro hc
      have h2 := hfl j hj
      have h3 := rim_left hs gone hj d
      rw [Sand.ap, Sand.plus] at h2
      have h4 := Sand.sum_mono (f := fun k => (pl w h).a k j * ofL gone k) (g := fun k => (pl w h).a k j * v k) (w * h) fun k hk => by
        refine Int.mul_le_mul_of_nonneg_left ?_ ((pl w h).nn k j)
        rcases hf.bits k hk with h5 | h5
        · rw [h5]; exact hv k hk
        · rw [h5]; exact hf.lit v hv hfl k hk h5
      have h5 : (pl w h).N = w * h := rfl
      rw [h5] at h2
      have := hv j hj
      omega
    · rw [if_neg e] at h1
      exact hf.lit v hv hfl j hj h1
theorem Fire.le {w h : Nat} {d gone out : List Int} (hf : Fire w h d gone out) : out.length ≤ w * h := by
  have h1 := Sand.sum_mono (f := ofL gone) (g := fun _ => 1) (w * h) fun i hi => by rcases hf.bits i hi with h | h <;> omega
  rw [hf.count] at h1
  have h2 : ∀ n, Sand.sum n (fun _ => (1 : Int)) = n := fun n => by
    induction n with
    | zero => rfl
    | succ n ih => rw [Sand.sum, ih]; omega
  rw [h2] at h1
  omega
/-- the fire at its end -/
theorem burnF_end {w h : Nat} (hs : sized w h) {d : List Int} : ∀ (f : Nat) (gone out : List Int), Fire w h d gone out → out.length + f = w * h →
    ∃ gone', Fire w h d gone' (burnF w h d f gone out) ∧ ∀ i, i < w * h → burns w h d gone' i = false
  | 0, gone, out, hf, hl => by
    refine ⟨gone, hf, fun i hi => ?_⟩
    -- all have burnt
    have h1 : ∀ i, i < w * h → ofL gone i = 1 := fun i hi => by
      rcases hf.bits i hi with h0 | h0
      · exfalso
        have h2 := Sand.sum_mono (f := fun j => ofL gone j + if j = i then 1 else 0) (g := fun _ => 1) (w * h) fun j hj => by
          by_cases e : j = i
          · subst e; rw [if_pos rfl, h0]; omega
          · rw [if_neg e]; rcases hf.bits j hj with h | h <;> omega
        rw [Sand.sum_add, Sand.sum_one _ i 1 hi, hf.count] at h2
        have h3 : ∀ n, Sand.sum n (fun _ => (1 : Int)) = n := fun n => by
          induction n with
          | zero => rfl
          | succ n ih => rw [Sand.sum, ih]; omega
        rw [h3] at h2
        omega
      · exact h0
    rw [burns, h1 i hi]; rfl
  | f + 1, gone, out, hf, hl => by
    rw [burnF]
    cases hn : nextB w h d gone with
    | none =>
      refine ⟨gone, hf, fun i hi => ?_⟩
      have := List.find?_eq_none.1 hn i (List.mem_range.2 hi)
      simpa using this
    | some i =>
      have h1 := List.mem_range.1 (List.mem_of_find?_eq_some hn)
      exact burnF_end hs f _ _ (hf.step hs h1 (List.find?_some hn)) (by simp; omega)
/-- **A FLAT PLATE COMES BACK** if all its places burn. -/
theorem burn_rec {w h : Nat} (hs : sized w h) {d : List Int} (hflat : ∀ j, j < w * h → ofL d j ≤ 3) (hpos : ∀ j, j < w * h → 0 ≤ ofL d j) : (burnL w h d).length = w * h ↔ Sand.Rec (pl w h) (ofL d) := by
  obtain ⟨gone, hf, hend⟩ := burnF_end hs (w * h) _ _ (Fire.start w h d) (by simp)
  have hone : (∀ i, i < w * h → ofL gone i = 1) → (burnL w h d).length = w * h := fun h1 => by
    have h2 := hf.count
    rw [Sand.sum_congr (g := fun _ => 1) _ fun i hi => h1 i hi] at h2
    have h3 : ∀ n, Sand.sum n (fun _ => (1 : Int)) = n := fun n => by
      induction n with
      | zero => rfl
      | succ n ih => rw [Sand.sum, ih]; omega
    rw [h3] at h2
    rw [burnL]; omega
  constructor
  · intro hl
    have h1 : ∀ i, i < w * h → ofL gone i = 1 := fun i hi => by
      rcases hf.bits i hi with h0 | h0
      · exfalso
        have h2 := Sand.sum_mono (f := fun j => ofL gone j + if j = i then 1 else 0) (g := fun _ => 1) (w * h) fun j hj => by
          by_cases e : j = i
          · subst e; rw [if_pos rfl, h0]; omega
          · rw [if_neg e]; rcases hf.bits j hj with h | h <;> omega
        rw [Sand.sum_add, Sand.sum_one _ i 1 hi, hf.count] at h2
        have h3 : ∀ n, Sand.sum n (fun _ => (1 : Int)) = n := fun n => by
          induction n with
          | zero => rfl
          | succ n ih => rw [Sand.sum, ih]; omega
        rw [h3] at h2
        rw [burnL] at hl
        omega
      · exact h0
    exact ⟨hflat, hpos, fun v hv hfl i hi => hf.lit v hv hfl i hi (h1 i hi)⟩
  · intro hr
    apply hone
    have h1 := hr.least (ofL gone) (fun i hi => by rcases hf.bits i hi with h | h <;> omega) fun j hj => by
      have hj : j < w * h := hj
      have h2 := rim_left hs gone hj d
      rw [Sand.ap, Sand.plus]
      show _ + Sand.sum (w * h) _ ≤ 3
      rcases hf.bits j hj with h0 | h0
      · have h3 := hend j hj
        rw [burns, h0] at h3
        simp only [beq_self_eq_true, Bool.true_and, decide_eq_false_iff_not] at h3
        omega
      · have h3 := hflat j hj
        have h4 : 0 ≤ left w h gone j := by
          exact leftF_nonneg gone _ fun x hx => by
            rcases hf.bits x ((nb_all hs hj).2.1 x hx) with h | h <;> omega
        omega
    intro i hi
    have := h1 i hi
    rcases hf.bits i hi with h | h <;> omega
end Go.Proofs.Ytbjmfhlkmklmmaa
