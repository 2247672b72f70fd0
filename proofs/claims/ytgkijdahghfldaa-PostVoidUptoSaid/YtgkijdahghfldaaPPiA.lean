/-
  Lists of numbers that rise: how they are put together, and that the program's functions do so.
-/
import Derived.Test.YtgkijdahghfldaaMPi
import Derived.Test.YtgkijdahghfldaaGR
set_option linter.unusedVariables false
set_option linter.unusedSimpArgs false
namespace Go.Proofs.Ytgkijdahghfldaa
open Go.Gx

/-! ### Words -/
theorem wr_i64 {x : Int} (h0 : -9223372036854775808 ≤ x) (h1 : x ≤ 9223372036854775807) : wr .i64 x = x := by
  simp only [wr, IntKind.wrap, IntKind.signed, IntKind.bits]
  simp
  split <;> omega
theorem wr_u64 {x : Int} (h0 : 0 ≤ x) (h1 : x < 18446744073709551616) : wr .u64 x = x := by
  simp only [wr, IntKind.wrap, IntKind.signed, IntKind.bits]
  simp
  omega
theorem u64_ok {x : Int} (h : okInt .u64 x) : 0 ≤ x ∧ x < 18446744073709551616 := by
  simp only [okInt, Lit.wf, IntKind.min, IntKind.max, IntKind.signed, IntKind.bits] at h
  simp at h
  omega
theorem bk_len (xs : List Int) : bkSl (fun _ => 1) xs = xs.length + 1 := by
  unfold bkSl
  congr 1
  induction xs with
  | nil => rfl
  | cons x xs ih => simp only [List.map_cons, List.sum_cons, ih, List.length_cons]; omega
theorem gi_ok {xs : List Int} (h : okSl (okInt .u64) xs) (i : Int) : 0 ≤ gi xs i ∧ gi xs i < 18446744073709551616 := by
  unfold gi
  rw [List.getD_eq_getElem?_getD]
  cases e : xs[i.toNat]? with
  | none => simp
  | some b => exact u64_ok (h b (List.mem_of_getElem? e))
theorem gi_nat (xs : List Int) (i : Nat) (h : i < xs.length) : gi xs (i : Int) = xs[i] := by simp [gi, h]
theorem gi_natL (xs : List (List Int)) (i : Nat) (h : i < xs.length) : gi xs (i : Int) = xs[i] := by simp [gi, h]
theorem gi_zero (x : Int) (xs : List Int) : gi (x :: xs) 0 = x := rfl
theorem sl_tail {α : Type} (x : α) (xs : List α) : sl (x :: xs) 1 (((x :: xs).length : Nat) : Int) = xs := by
  simp only [sl, Int.toNat_natCast, List.take_length]
  rfl

/-! ### Lists that rise -/
abbrev Rz (xs : List Int) : Prop := xs.Pairwise (· < ·)
theorem rz_cons {x : Int} {xs : List Int} : Rz (x :: xs) ↔ (∀ z ∈ xs, x < z) ∧ Rz xs := List.pairwise_cons
theorem rz_ext {a : List Int} : ∀ {b : List Int}, Rz a → Rz b → (∀ v, v ∈ a ↔ v ∈ b) → a = b := by
  induction a with
  | nil =>
    intro b _ _ h
    cases b with
    | nil => rfl
    | cons y ys => exact absurd ((h y).2 (by simp)) (by simp)
  | cons x xs ih =>
    intro b ha hb h
    cases b with
    | nil => exact absurd ((h x).1 (by simp)) (by simp)
    | cons y ys =>
      rw [rz_cons] at ha hb
      have hxy : x = y := by
        rcases List.mem_cons.1 ((h x).1 (by simp)) with e | e
        · exact e
        · rcases List.mem_cons.1 ((h y).2 (by simp)) with e' | e'
          · exact e'.symm
          · have h1 := hb.1 x e
            have h2 := ha.1 y e'
            omega
      subst hxy
      congr 1
      refine ih ha.2 hb.2 fun v => ⟨fun hv => ?_, fun hv => ?_⟩
      · rcases List.mem_cons.1 ((h v).1 (by simp [hv])) with e | e
        · have := ha.1 v hv; omega
        · exact e
      · rcases List.mem_cons.1 ((h v).2 (by simp [hv])) with e | e
        · have := hb.1 v hv; omega
        · exact e
def keep (f : Int → Bool) (m v : Int) : List Int := if f m then [v] else []
def mg (f : Int → Bool) : List Int → List Int → List Int
  | [], [] => []
  | x :: xs, [] => keep f 1 x ++ mg f xs []
  | [], y :: ys => keep f 2 y ++ mg f [] ys
  | x :: xs, y :: ys => if x < y then keep f 1 x ++ mg f xs (y :: ys) else if y < x then keep f 2 y ++ mg f (x :: xs) ys else keep f 3 x ++ mg f xs ys
termination_by a b => a.length + b.length
def mk (a b : List Int) (v : Int) : Int := (if v ∈ a then 1 else 0) + (if v ∈ b then 2 else 0)
theorem mem_keep {f : Int → Bool} {m x v : Int} : v ∈ keep f m x ↔ f m = true ∧ v = x := by unfold keep; split <;> simp_all
theorem mem_mg (f : Int → Bool) (a b : List Int) : Rz a → Rz b → ∀ v, v ∈ mg f a b ↔ (v ∈ a ∨ v ∈ b) ∧ f (mk a b v) = true := by
  fun_induction mg f a b with
  | case1 => intro _ _ v; simp
  | case2 x xs ih =>
    intro ha hb v
    rw [rz_cons] at ha
    rw [List.mem_append, mem_keep, ih ha.2 hb v]
    have hx : x ∉ xs := fun h => absurd (ha.1 x h) (by omega)
    by_cases e : v = x
    · subst e; simp [mk, hx]
    · simp [mk, e]
  | case3 y ys ih =>
    intro ha hb v
    rw [rz_cons] at hb
    rw [List.mem_append, mem_keep, ih ha hb.2 v]
    have hy : y ∉ ys := fun h => absurd (hb.1 y h) (by omega)
    by_cases e : v = y
    · subst e; simp [mk, hy]
    · simp [mk, e]
  | case4 x xs y ys hlt ih =>
    intro ha hb v
    rw [rz_cons] at ha
    rw [List.mem_append, mem_keep, ih ha.2 hb v]
    rw [rz_cons] at hb
    have hx : x ∉ xs := fun h => absurd (ha.1 x h) (by omega)
    have hx2 : x ∉ ys := fun h => by have := hb.1 x h; omega
    by_cases e : v = x
    · subst e
      have : v ≠ y := by omega
      simp [mk, hx, hx2, this]
    · simp [mk, e]
  | case5 x xs y ys hlt hgt ih =>
    intro ha hb v
    rw [rz_cons] at hb
    rw [List.mem_append, mem_keep, ih ha hb.2 v]
    rw [rz_cons] at ha
    have hy : y ∉ ys := fun h => absurd (hb.1 y h) (by omega)
    have hy2 : y ∉ xs := fun h => by have := ha.1 y h; omega
    by_cases e : v = y
    · subst e
      have : v ≠ x := by omega
      simp [mk, hy, hy2, this]
    · simp [mk, e]
  | case6 x xs y ys hlt hgt ih =>
    intro ha hb v
    rw [rz_cons] at ha hb
    rw [List.mem_append, mem_keep, ih ha.2 hb.2 v]
    have hxy : x = y := by omega
    subst hxy
    have hx : x ∉ xs := fun h => absurd (ha.1 x h) (by omega)
    have hy : x ∉ ys := fun h => absurd (hb.1 x h) (by omega)
    by_cases e : v = x
    · subst e; simp [mk, hx, hy]
    · simp [mk, e]
theorem rz_keep {f : Int → Bool} {m x : Int} {l : List Int} (hl : Rz l) (h : ∀ v ∈ l, x < v) : Rz (keep f m x ++ l) := by
  unfold keep
  split
  · exact List.pairwise_cons.2 ⟨h, hl⟩
  · exact hl
theorem rz_mg (f : Int → Bool) (a b : List Int) : Rz a → Rz b → Rz (mg f a b) := by
  fun_induction mg f a b with
  | case1 => intro _ _; exact List.Pairwise.nil
  | case2 x xs ih =>
    intro ha hb
    rw [rz_cons] at ha
    exact rz_keep (ih ha.2 hb) fun v hv => by
      have := ((mem_mg f _ _ ha.2 hb v).1 hv).1
      simp at this; exact ha.1 v this
  | case3 y ys ih =>
    intro ha hb
    rw [rz_cons] at hb
    exact rz_keep (ih ha hb.2) fun v hv => by
      have := ((mem_mg f _ _ ha hb.2 v).1 hv).1
      simp at this; exact hb.1 v this
  | case4 x xs y ys hlt ih =>
    intro ha hb
    rw [rz_cons] at ha
    refine rz_keep (ih ha.2 hb) fun v hv => ?_
    have := ((mem_mg f _ _ ha.2 hb v).1 hv).1
    rw [rz_cons] at hb
    rcases this with h | h
    · exact ha.1 v h
    · rcases List.mem_cons.1 h with h | h
      · omega
      · have := hb.1 v h; omega
  | case5 x xs y ys hlt hgt ih =>
    intro ha hb
    rw [rz_cons] at hb
    refine rz_keep (ih ha hb.2) fun v hv => ?_
    have := ((mem_mg f _ _ ha hb.2 v).1 hv).1
    rw [rz_cons] at ha
    rcases this with h | h
    · rcases List.mem_cons.1 h with h | h
      · omega
      · have := ha.1 v h; omega
    · exact hb.1 v h
  | case6 x xs y ys hlt hgt ih =>
    intro ha hb
    rw [rz_cons] at ha hb
    refine rz_keep (ih ha.2 hb.2) fun v hv => ?_
    rcases ((mem_mg f _ _ ha.2 hb.2 v).1 hv).1 with h | h
    · exact ha.1 v h
    · have := hb.1 v h; omega
theorem len_keep (f : Int → Bool) (m x : Int) : (keep f m x).length ≤ 1 := by unfold keep; split <;> simp
theorem len_mg (f : Int → Bool) (a b : List Int) : (mg f a b).length ≤ a.length + b.length := by
  fun_induction mg f a b with
  | case1 => simp
  | case2 x xs ih => have := len_keep f 1 x; simp at ih ⊢; omega
  | case3 y ys ih => have := len_keep f 2 y; simp at ih ⊢; omega
  | case4 x xs y ys hlt ih => have := len_keep f 1 x; simp at ih ⊢; omega
  | case5 x xs y ys hlt hgt ih => have := len_keep f 2 y; simp at ih ⊢; omega
  | case6 x xs y ys hlt hgt ih => have := len_keep f 3 x; simp at ih ⊢; omega
def fBoth (m : Int) : Bool := decide (m = 3)
def fOne (m : Int) : Bool := !(decide (m = 0))
def fFirst (m : Int) : Bool := decide (m = 1)
theorem mem_both {a b : List Int} (ha : Rz a) (hb : Rz b) (v : Int) : v ∈ mg fBoth a b ↔ v ∈ a ∧ v ∈ b := by
  rw [mem_mg _ _ _ ha hb]; unfold mk fBoth; by_cases h1 : v ∈ a <;> by_cases h2 : v ∈ b <;> simp [h1, h2]
theorem mem_one {a b : List Int} (ha : Rz a) (hb : Rz b) (v : Int) : v ∈ mg fOne a b ↔ v ∈ a ∨ v ∈ b := by
  rw [mem_mg _ _ _ ha hb]; unfold mk fOne; by_cases h1 : v ∈ a <;> by_cases h2 : v ∈ b <;> simp [h1, h2]
theorem mem_first {a b : List Int} (ha : Rz a) (hb : Rz b) (v : Int) : v ∈ mg fFirst a b ↔ v ∈ a ∧ v ∉ b := by
  rw [mem_mg _ _ _ ha hb]; unfold mk fFirst; by_cases h1 : v ∈ a <;> by_cases h2 : v ∈ b <;> simp [h1, h2]

/-! ### The program's -/
theorem o01 : ior .i64 0 1 = 1 := by decide +kernel
theorem o02 : ior .i64 0 2 = 2 := by decide +kernel
theorem o12 : ior .i64 1 2 = 3 := by decide +kernel
theorem a12 : iand .i64 1 2 = 0 := by decide +kernel
theorem a22 : iand .i64 2 2 = 2 := by decide +kernel
theorem a32 : iand .i64 3 2 = 2 := by decide +kernel
theorem a11 : iand .i64 1 1 = 1 := by decide +kernel
theorem a21 : iand .i64 2 1 = 0 := by decide +kernel
theorem a31 : iand .i64 3 1 = 1 := by decide +kernel
theorem thoser_one (acc a b : List Int) (v m : Int) (h : acc.length ≤ 1073741824) : M.post_those_uint64__r acc a b v m = some (acc ++ keep fOne m v) := by
  have e : M.post_one m = some (fOne m) := rfl
  simp only [M.post_those_uint64__r, e, Option.bind_eq_bind, Option.bind_some, keep]
  cases fOne m
  · simp
  · rw [if_pos rfl, if_pos (by simp; omega), if_pos rfl]
theorem merge_one (n : Nat) : ∀ (a b acc : List Int), a.length + b.length ≤ n → acc.length + n ≤ 1073741824 → M.post_merge_uint64_1_l0 (acc, a, b) = some (acc ++ mg fOne a b, [], []) := by
  have z0 : (([] : List Int).length : Int) = 0 := rfl
  induction n with
  | zero =>
    intro a b acc hn hl
    obtain rfl : a = [] := List.eq_nil_of_length_eq_zero (by omega)
    obtain rfl : b = [] := List.eq_nil_of_length_eq_zero (by omega)
    rw [M.post_merge_uint64_1_l0]; try dsimp only
    rw [if_neg (by omega), decide_eq_false (by omega), M.post_merge_uint64_1_l1]; try dsimp only
    rw [if_neg Bool.false_ne_true, mg, List.append_nil]
  | succ n ih =>
    intro a b acc hn hl
    match a, b with
    | [], [] =>
      rw [M.post_merge_uint64_1_l0]; try dsimp only
      rw [if_neg (by omega), decide_eq_false (by omega), M.post_merge_uint64_1_l1]; try dsimp only
      rw [if_neg Bool.false_ne_true, mg, List.append_nil]
    | x :: xs, [] =>
      have hk := len_keep fOne 1 x
      have lx : ((x :: xs).length : Int) = (xs.length : Int) + 1 := by simp
      have ex := sl_tail x xs
      simp only [List.length_cons, List.length_nil] at hn
      have go := ih xs [] (acc ++ keep fOne 1 x) (by simp only [List.length_nil]; omega) (by simp only [List.length_append]; omega)
      rw [M.post_merge_uint64_1_l0]; try dsimp only
      rw [if_pos (by omega)]
      rw [M.post_merge_uint64_1_l1]; try dsimp only
      rw [if_pos rfl, if_pos (by omega)]
      rw [M.post_merge_uint64_1_l2]; try dsimp only
      rw [if_pos rfl, o01]
      rw [M.post_merge_uint64_1_l3]; try dsimp only
      rw [if_neg (by omega), if_neg (by omega)]
      rw [M.post_merge_uint64_1_l4]; try dsimp only
      rw [if_neg Bool.false_ne_true]
      rw [M.post_merge_uint64_1_l5]; try dsimp only
      rw [a12, if_pos rfl]
      rw [M.post_merge_uint64_1_l6]; try dsimp only
      rw [a11, if_neg (by decide), if_pos (by omega), if_pos (by omega), ex, gi_zero]
      rw [M.post_merge_uint64_1_l7]; try dsimp only
      rw [thoser_one _ _ _ _ _ (by omega)]
      simp only [Option.bind_eq_bind, Option.bind_some]
      rw [go, mg, List.append_assoc]
    | [], y :: ys =>
      have hk := len_keep fOne 2 y
      have ly : ((y :: ys).length : Int) = (ys.length : Int) + 1 := by simp
      have ey := sl_tail y ys
      simp only [List.length_cons, List.length_nil] at hn
      have go := ih [] ys (acc ++ keep fOne 2 y) (by simp only [List.length_nil]; omega) (by simp only [List.length_append]; omega)
      rw [M.post_merge_uint64_1_l0]; try dsimp only
      rw [if_neg (by omega), decide_eq_true (by omega)]
      rw [M.post_merge_uint64_1_l1]; try dsimp only
      rw [if_pos rfl, if_neg (by omega), if_neg (by omega)]
      rw [M.post_merge_uint64_1_l2]; try dsimp only
      rw [if_neg Bool.false_ne_true]
      rw [M.post_merge_uint64_1_l3]; try dsimp only
      rw [if_pos (by omega)]
      rw [M.post_merge_uint64_1_l4]; try dsimp only
      rw [if_pos rfl, o02]
      rw [M.post_merge_uint64_1_l5]; try dsimp only
      rw [a22, if_neg (by decide), if_pos (by omega), if_pos (by omega), ey, gi_zero]
      rw [M.post_merge_uint64_1_l6]; try dsimp only
      rw [a21, if_pos rfl]
      rw [M.post_merge_uint64_1_l7]; try dsimp only
      rw [thoser_one _ _ _ _ _ (by omega)]
      simp only [Option.bind_eq_bind, Option.bind_some]
      rw [go, mg, List.append_assoc]
    | x :: xs, y :: ys =>
      have lx : ((x :: xs).length : Int) = (xs.length : Int) + 1 := by simp
      have ly : ((y :: ys).length : Int) = (ys.length : Int) + 1 := by simp
      have ex := sl_tail x xs
      have ey := sl_tail y ys
      simp only [List.length_cons] at hn
      rw [M.post_merge_uint64_1_l0]; try dsimp only
      rw [if_pos (by omega)]
      rw [M.post_merge_uint64_1_l1]; try dsimp only
      rw [if_pos rfl, if_neg (by omega), if_pos (by omega), if_pos (by omega), if_pos (by omega), gi_zero, gi_zero]
      rcases Int.lt_trichotomy x y with hlt | heq | hgt
      · have hk := len_keep fOne 1 x
        have go := ih xs (y :: ys) (acc ++ keep fOne 1 x) (by simp only [List.length_cons]; omega) (by simp only [List.length_append]; omega)
        rw [decide_eq_true (show x ≤ y by omega)]
        rw [M.post_merge_uint64_1_l2]; try dsimp only
        rw [if_pos rfl, o01]
        rw [M.post_merge_uint64_1_l3]; try dsimp only
        rw [if_neg (by omega), if_pos (by omega), if_pos (by omega), if_pos (by omega), gi_zero, gi_zero, decide_eq_false (show ¬ y ≤ x by omega)]
        rw [M.post_merge_uint64_1_l4]; try dsimp only
        rw [if_neg Bool.false_ne_true]
        rw [M.post_merge_uint64_1_l5]; try dsimp only
        rw [a12, if_pos rfl]
        rw [M.post_merge_uint64_1_l6]; try dsimp only
        rw [a11, if_neg (by decide), if_pos (by omega), if_pos (by omega), ex, gi_zero]
        rw [M.post_merge_uint64_1_l7]; try dsimp only
        rw [thoser_one _ _ _ _ _ (by omega)]
        simp only [Option.bind_eq_bind, Option.bind_some]
        rw [go, mg, if_pos hlt, List.append_assoc]
      · subst heq
        have hk := len_keep fOne 3 x
        have go := ih xs ys (acc ++ keep fOne 3 x) (by omega) (by simp only [List.length_append]; omega)
        rw [decide_eq_true (show x ≤ x by omega)]
        rw [M.post_merge_uint64_1_l2]; try dsimp only
        rw [if_pos rfl, o01]
        rw [M.post_merge_uint64_1_l3]; try dsimp only
        rw [if_neg (by omega), if_pos (by omega), if_pos (by omega), if_pos (by omega), gi_zero, gi_zero, decide_eq_true (show x ≤ x by omega)]
        rw [M.post_merge_uint64_1_l4]; try dsimp only
        rw [if_pos rfl, o12]
        rw [M.post_merge_uint64_1_l5]; try dsimp only
        rw [a32, if_neg (by decide), if_pos (by omega), if_pos (by omega), ey]
        rw [M.post_merge_uint64_1_l6]; try dsimp only
        rw [a31, if_neg (by decide), if_pos (by omega), if_pos (by omega), ex, gi_zero]
        rw [M.post_merge_uint64_1_l7]; try dsimp only
        rw [thoser_one _ _ _ _ _ (by omega)]
        simp only [Option.bind_eq_bind, Option.bind_some]
        rw [go, mg, if_neg (Int.lt_irrefl x), if_neg (Int.lt_irrefl x), List.append_assoc]
      · have hk := len_keep fOne 2 y
        have go := ih (x :: xs) ys (acc ++ keep fOne 2 y) (by simp only [List.length_cons]; omega) (by simp only [List.length_append]; omega)
        rw [decide_eq_false (show ¬ x ≤ y by omega)]
        rw [M.post_merge_uint64_1_l2]; try dsimp only
        rw [if_neg Bool.false_ne_true]
        rw [M.post_merge_uint64_1_l3]; try dsimp only
        rw [if_neg (by omega), if_pos (by omega), if_pos (by omega), if_pos (by omega), gi_zero, gi_zero, decide_eq_true (show y ≤ x by omega)]
        rw [M.post_merge_uint64_1_l4]; try dsimp only
        rw [if_pos rfl, o02]
        rw [M.post_merge_uint64_1_l5]; try dsimp only
        rw [a22, if_neg (by decide), if_pos (by omega), if_pos (by omega), ey, gi_zero]
        rw [M.post_merge_uint64_1_l6]; try dsimp only
        rw [a21, if_pos rfl]
        rw [M.post_merge_uint64_1_l7]; try dsimp only
        rw [thoser_one _ _ _ _ _ (by omega)]
        simp only [Option.bind_eq_bind, Option.bind_some]
        rw [go, mg, if_neg (by omega), if_pos (by omega), List.append_assoc]
theorem those_one (a b : List Int) (h : a.length + b.length ≤ 1073741824) : M.post_those_uint64 a b = some (mg fOne a b) := by
  simp only [M.post_those_uint64, M.post_merge_uint64, M.post_merge_uint64_1, Option.bind_eq_bind, Option.bind_some]
  rw [merge_one (a.length + b.length) a b [] (Nat.le_refl _) (by simp; omega)]
  rfl
theorem thoser_first (acc a b : List Int) (v m : Int) (h : acc.length ≤ 1073741824) : M.post_those_uint64__r_2 acc a b v m = some (acc ++ keep fFirst m v) := by
  have e : M.post_first m = some (fFirst m) := rfl
  simp only [M.post_those_uint64__r_2, e, Option.bind_eq_bind, Option.bind_some, keep]
  cases fFirst m
  · simp
  · rw [if_pos rfl, if_pos (by simp; omega), if_pos rfl]
theorem merge_first (n : Nat) : ∀ (a b acc : List Int), a.length + b.length ≤ n → acc.length + n ≤ 1073741824 → M.post_merge_uint64_1_2_l0 (acc, a, b) = some (acc ++ mg fFirst a b, [], []) := by
  have z0 : (([] : List Int).length : Int) = 0 := rfl
  induction n with
  | zero =>
    intro a b acc hn hl
    obtain rfl : a = [] := List.eq_nil_of_length_eq_zero (by omega)
    obtain rfl : b = [] := List.eq_nil_of_length_eq_zero (by omega)
    rw [M.post_merge_uint64_1_2_l0]; try dsimp only
    rw [if_neg (by omega), decide_eq_false (by omega), M.post_merge_uint64_1_2_l1]; try dsimp only
    rw [if_neg Bool.false_ne_true, mg, List.append_nil]
  | succ n ih =>
    intro a b acc hn hl
    match a, b with
    | [], [] =>
      rw [M.post_merge_uint64_1_2_l0]; try dsimp only
      rw [if_neg (by omega), decide_eq_false (by omega), M.post_merge_uint64_1_2_l1]; try dsimp only
      rw [if_neg Bool.false_ne_true, mg, List.append_nil]
    | x :: xs, [] =>
      have hk := len_keep fFirst 1 x
      have lx : ((x :: xs).length : Int) = (xs.length : Int) + 1 := by simp
      have ex := sl_tail x xs
      simp only [List.length_cons, List.length_nil] at hn
      have go := ih xs [] (acc ++ keep fFirst 1 x) (by simp only [List.length_nil]; omega) (by simp only [List.length_append]; omega)
      rw [M.post_merge_uint64_1_2_l0]; try dsimp only
      rw [if_pos (by omega)]
      rw [M.post_merge_uint64_1_2_l1]; try dsimp only
      rw [if_pos rfl, if_pos (by omega)]
      rw [M.post_merge_uint64_1_2_l2]; try dsimp only
      rw [if_pos rfl, o01]
      rw [M.post_merge_uint64_1_2_l3]; try dsimp only
      rw [if_neg (by omega), if_neg (by omega)]
      rw [M.post_merge_uint64_1_2_l4]; try dsimp only
      rw [if_neg Bool.false_ne_true]
      rw [M.post_merge_uint64_1_2_l5]; try dsimp only
      rw [a12, if_pos rfl]
      rw [M.post_merge_uint64_1_2_l6]; try dsimp only
      rw [a11, if_neg (by decide), if_pos (by omega), if_pos (by omega), ex, gi_zero]
      rw [M.post_merge_uint64_1_2_l7]; try dsimp only
      rw [thoser_first _ _ _ _ _ (by omega)]
      simp only [Option.bind_eq_bind, Option.bind_some]
      rw [go, mg, List.append_assoc]
    | [], y :: ys =>
      have hk := len_keep fFirst 2 y
      have ly : ((y :: ys).length : Int) = (ys.length : Int) + 1 := by simp
      have ey := sl_tail y ys
      simp only [List.length_cons, List.length_nil] at hn
      have go := ih [] ys (acc ++ keep fFirst 2 y) (by simp only [List.length_nil]; omega) (by simp only [List.length_append]; omega)
      rw [M.post_merge_uint64_1_2_l0]; try dsimp only
      rw [if_neg (by omega), decide_eq_true (by omega)]
      rw [M.post_merge_uint64_1_2_l1]; try dsimp only
      rw [if_pos rfl, if_neg (by omega), if_neg (by omega)]
      rw [M.post_merge_uint64_1_2_l2]; try dsimp only
      rw [if_neg Bool.false_ne_true]
      rw [M.post_merge_uint64_1_2_l3]; try dsimp only
      rw [if_pos (by omega)]
      rw [M.post_merge_uint64_1_2_l4]; try dsimp only
      rw [if_pos rfl, o02]
      rw [M.post_merge_uint64_1_2_l5]; try dsimp only
      rw [a22, if_neg (by decide), if_pos (by omega), if_pos (by omega), ey, gi_zero]
      rw [M.post_merge_uint64_1_2_l6]; try dsimp only
      rw [a21, if_pos rfl]
      rw [M.post_merge_uint64_1_2_l7]; try dsimp only
      rw [thoser_first _ _ _ _ _ (by omega)]
      simp only [Option.bind_eq_bind, Option.bind_some]
      rw [go, mg, List.append_assoc]
    | x :: xs, y :: ys =>
      have lx : ((x :: xs).length : Int) = (xs.length : Int) + 1 := by simp
      have ly : ((y :: ys).length : Int) = (ys.length : Int) + 1 := by simp
      have ex := sl_tail x xs
      have ey := sl_tail y ys
      simp only [List.length_cons] at hn
      rw [M.post_merge_uint64_1_2_l0]; try dsimp only
      rw [if_pos (by omega)]
      rw [M.post_merge_uint64_1_2_l1]; try dsimp only
      rw [if_pos rfl, if_neg (by omega), if_pos (by omega), if_pos (by omega), if_pos (by omega), gi_zero, gi_zero]
      rcases Int.lt_trichotomy x y with hlt | heq | hgt
      · have hk := len_keep fFirst 1 x
        have go := ih xs (y :: ys) (acc ++ keep fFirst 1 x) (by simp only [List.length_cons]; omega) (by simp only [List.length_append]; omega)
        rw [decide_eq_true (show x ≤ y by omega)]
        rw [M.post_merge_uint64_1_2_l2]; try dsimp only
        rw [if_pos rfl, o01]
        rw [M.post_merge_uint64_1_2_l3]; try dsimp only
        rw [if_neg (by omega), if_pos (by omega), if_pos (by omega), if_pos (by omega), gi_zero, gi_zero, decide_eq_false (show ¬ y ≤ x by omega)]
        rw [M.post_merge_uint64_1_2_l4]; try dsimp only
        rw [if_neg Bool.false_ne_true]
        rw [M.post_merge_uint64_1_2_l5]; try dsimp only
        rw [a12, if_pos rfl]
        rw [M.post_merge_uint64_1_2_l6]; try dsimp only
        rw [a11, if_neg (by decide), if_pos (by omega), if_pos (by omega), ex, gi_zero]
        rw [M.post_merge_uint64_1_2_l7]; try dsimp only
        rw [thoser_first _ _ _ _ _ (by omega)]
        simp only [Option.bind_eq_bind, Option.bind_some]
        rw [go, mg, if_pos hlt, List.append_assoc]
      · subst heq
        have hk := len_keep fFirst 3 x
        have go := ih xs ys (acc ++ keep fFirst 3 x) (by omega) (by simp only [List.length_append]; omega)
        rw [decide_eq_true (show x ≤ x by omega)]
        rw [M.post_merge_uint64_1_2_l2]; try dsimp only
        rw [if_pos rfl, o01]
        rw [M.post_merge_uint64_1_2_l3]; try dsimp only
        rw [if_neg (by omega), if_pos (by omega), if_pos (by omega), if_pos (by omega), gi_zero, gi_zero, decide_eq_true (show x ≤ x by omega)]
        rw [M.post_merge_uint64_1_2_l4]; try dsimp only
        rw [if_pos rfl, o12]
        rw [M.post_merge_uint64_1_2_l5]; try dsimp only
        rw [a32, if_neg (by decide), if_pos (by omega), if_pos (by omega), ey]
        rw [M.post_merge_uint64_1_2_l6]; try dsimp only
        rw [a31, if_neg (by decide), if_pos (by omega), if_pos (by omega), ex, gi_zero]
        rw [M.post_merge_uint64_1_2_l7]; try dsimp only
        rw [thoser_first _ _ _ _ _ (by omega)]
        simp only [Option.bind_eq_bind, Option.bind_some]
        rw [go, mg, if_neg (Int.lt_irrefl x), if_neg (Int.lt_irrefl x), List.append_assoc]
      · have hk := len_keep fFirst 2 y
        have go := ih (x :: xs) ys (acc ++ keep fFirst 2 y) (by simp only [List.length_cons]; omega) (by simp only [List.length_append]; omega)
        rw [decide_eq_false (show ¬ x ≤ y by omega)]
        rw [M.post_merge_uint64_1_2_l2]; try dsimp only
        rw [if_neg Bool.false_ne_true]
        rw [M.post_merge_uint64_1_2_l3]; try dsimp only
        rw [if_neg (by omega), if_pos (by omega), if_pos (by omega), if_pos (by omega), gi_zero, gi_zero, decide_eq_true (show y ≤ x by omega)]
        rw [M.post_merge_uint64_1_2_l4]; try dsimp only
        rw [if_pos rfl, o02]
        rw [M.post_merge_uint64_1_2_l5]; try dsimp only
        rw [a22, if_neg (by decide), if_pos (by omega), if_pos (by omega), ey, gi_zero]
        rw [M.post_merge_uint64_1_2_l6]; try dsimp only
        rw [a21, if_pos rfl]
        rw [M.post_merge_uint64_1_2_l7]; try dsimp only
        rw [thoser_first _ _ _ _ _ (by omega)]
        simp only [Option.bind_eq_bind, Option.bind_some]
        rw [go, mg, if_neg (by omega), if_pos (by omega), List.append_assoc]
theorem those_first (a b : List Int) (h : a.length + b.length ≤ 1073741824) : M.post_those_uint64_2 a b = some (mg fFirst a b) := by
  simp only [M.post_those_uint64_2, M.post_merge_uint64, M.post_merge_uint64_1_2, Option.bind_eq_bind, Option.bind_some]
  rw [merge_first (a.length + b.length) a b [] (Nat.le_refl _) (by simp; omega)]
  rfl
theorem thoser_both (acc a b : List Int) (v m : Int) (h : acc.length ≤ 1073741824) : M.post_those_uint64__r_3 acc a b v m = some (acc ++ keep fBoth m v) := by
  have e : M.post_both m = some (fBoth m) := rfl
  simp only [M.post_those_uint64__r_3, e, Option.bind_eq_bind, Option.bind_some, keep]
  cases fBoth m
  · simp
  · rw [if_pos rfl, if_pos (by simp; omega), if_pos rfl]
theorem merge_both (n : Nat) : ∀ (a b acc : List Int), a.length + b.length ≤ n → acc.length + n ≤ 1073741824 → M.post_merge_uint64_1_3_l0 (acc, a, b) = some (acc ++ mg fBoth a b, [], []) := by
  have z0 : (([] : List Int).length : Int) = 0 := rfl
  induction n with
  | zero =>
    intro a b acc hn hl
    obtain rfl : a = [] := List.eq_nil_of_length_eq_zero (by omega)
    obtain rfl : b = [] := List.eq_nil_of_length_eq_zero (by omega)
    rw [M.post_merge_uint64_1_3_l0]; try dsimp only
    rw [if_neg (by omega), decide_eq_false (by omega), M.post_merge_uint64_1_3_l1]; try dsimp only
    rw [if_neg Bool.false_ne_true, mg, List.append_nil]
  | succ n ih =>
    intro a b acc hn hl
    match a, b with
    | [], [] =>
      rw [M.post_merge_uint64_1_3_l0]; try dsimp only
      rw [if_neg (by omega), decide_eq_false (by omega), M.post_merge_uint64_1_3_l1]; try dsimp only
      rw [if_neg Bool.false_ne_true, mg, List.append_nil]
    | x :: xs, [] =>
      have hk := len_keep fBoth 1 x
      have lx : ((x :: xs).length : Int) = (xs.length : Int) + 1 := by simp
      have ex := sl_tail x xs
      simp only [List.length_cons, List.length_nil] at hn
      have go := ih xs [] (acc ++ keep fBoth 1 x) (by simp only [List.length_nil]; omega) (by simp only [List.length_append]; omega)
      rw [M.post_merge_uint64_1_3_l0]; try dsimp only
      rw [if_pos (by omega)]
      rw [M.post_merge_uint64_1_3_l1]; try dsimp only
      rw [if_pos rfl, if_pos (by omega)]
      rw [M.post_merge_uint64_1_3_l2]; try dsimp only
      rw [if_pos rfl, o01]
      rw [M.post_merge_uint64_1_3_l3]; try dsimp only
      rw [if_neg (by omega), if_neg (by omega)]
      rw [M.post_merge_uint64_1_3_l4]; try dsimp only
      rw [if_neg Bool.false_ne_true]
      rw [M.post_merge_uint64_1_3_l5]; try dsimp only
      rw [a12, if_pos rfl]
      rw [M.post_merge_uint64_1_3_l6]; try dsimp only
      rw [a11, if_neg (by decide), if_pos (by omega), if_pos (by omega), ex, gi_zero]
      rw [M.post_merge_uint64_1_3_l7]; try dsimp only
      rw [thoser_both _ _ _ _ _ (by omega)]
      simp only [Option.bind_eq_bind, Option.bind_some]
      rw [go, mg, List.append_assoc]
    | [], y :: ys =>
      have hk := len_keep fBoth 2 y
      have ly : ((y :: ys).length : Int) = (ys.length : Int) + 1 := by simp
      have ey := sl_tail y ys
      simp only [List.length_cons, List.length_nil] at hn
      have go := ih [] ys (acc ++ keep fBoth 2 y) (by simp only [List.length_nil]; omega) (by simp only [List.length_append]; omega)
      rw [M.post_merge_uint64_1_3_l0]; try dsimp only
      rw [if_neg (by omega), decide_eq_true (by omega)]
      rw [M.post_merge_uint64_1_3_l1]; try dsimp only
      rw [if_pos rfl, if_neg (by omega), if_neg (by omega)]
      rw [M.post_merge_uint64_1_3_l2]; try dsimp only
      rw [if_neg Bool.false_ne_true]
      rw [M.post_merge_uint64_1_3_l3]; try dsimp only
      rw [if_pos (by omega)]
      rw [M.post_merge_uint64_1_3_l4]; try dsimp only
      rw [if_pos rfl, o02]
      rw [M.post_merge_uint64_1_3_l5]; try dsimp only
      rw [a22, if_neg (by decide), if_pos (by omega), if_pos (by omega), ey, gi_zero]
      rw [M.post_merge_uint64_1_3_l6]; try dsimp only
      rw [a21, if_pos rfl]
      rw [M.post_merge_uint64_1_3_l7]; try dsimp only
      rw [thoser_both _ _ _ _ _ (by omega)]
      simp only [Option.bind_eq_bind, Option.bind_some]
      rw [go, mg, List.append_assoc]
    | x :: xs, y :: ys =>
      have lx : ((x :: xs).length : Int) = (xs.length : Int) + 1 := by simp
      have ly : ((y :: ys).length : Int) = (ys.length : Int) + 1 := by simp
      have ex := sl_tail x xs
      have ey := sl_tail y ys
      simp only [List.length_cons] at hn
      rw [M.post_merge_uint64_1_3_l0]; try dsimp only
      rw [if_pos (by omega)]
      rw [M.post_merge_uint64_1_3_l1]; try dsimp only
      rw [if_pos rfl, if_neg (by omega), if_pos (by omega), if_pos (by omega), if_pos (by omega), gi_zero, gi_zero]
      rcases Int.lt_trichotomy x y with hlt | heq | hgt
      · have hk := len_keep fBoth 1 x
        have go := ih xs (y :: ys) (acc ++ keep fBoth 1 x) (by simp only [List.length_cons]; omega) (by simp only [List.length_append]; omega)
        rw [decide_eq_true (show x ≤ y by omega)]
        rw [M.post_merge_uint64_1_3_l2]; try dsimp only
        rw [if_pos rfl, o01]
        rw [M.post_merge_uint64_1_3_l3]; try dsimp only
        rw [if_neg (by omega), if_pos (by omega), if_pos (by omega), if_pos (by omega), gi_zero, gi_zero, decide_eq_false (show ¬ y ≤ x by omega)]
        rw [M.post_merge_uint64_1_3_l4]; try dsimp only
        rw [if_neg Bool.false_ne_true]
        rw [M.post_merge_uint64_1_3_l5]; try dsimp only
        rw [a12, if_pos rfl]
        rw [M.post_merge_uint64_1_3_l6]; try dsimp only
        rw [a11, if_neg (by decide), if_pos (by omega), if_pos (by omega), ex, gi_zero]
        rw [M.post_merge_uint64_1_3_l7]; try dsimp only
        rw [thoser_both _ _ _ _ _ (by omega)]
        simp only [Option.bind_eq_bind, Option.bind_some]
        rw [go, mg, if_pos hlt, List.append_assoc]
      · subst heq
        have hk := len_keep fBoth 3 x
        have go := ih xs ys (acc ++ keep fBoth 3 x) (by omega) (by simp only [List.length_append]; omega)
        rw [decide_eq_true (show x ≤ x by omega)]
        rw [M.post_merge_uint64_1_3_l2]; try dsimp only
        rw [if_pos rfl, o01]
        rw [M.post_merge_uint64_1_3_l3]; try dsimp only
        rw [if_neg (by omega), if_pos (by omega), if_pos (by omega), if_pos (by omega), gi_zero, gi_zero, decide_eq_true (show x ≤ x by omega)]
        rw [M.post_merge_uint64_1_3_l4]; try dsimp only
        rw [if_pos rfl, o12]
        rw [M.post_merge_uint64_1_3_l5]; try dsimp only
        rw [a32, if_neg (by decide), if_pos (by omega), if_pos (by omega), ey]
        rw [M.post_merge_uint64_1_3_l6]; try dsimp only
        rw [a31, if_neg (by decide), if_pos (by omega), if_pos (by omega), ex, gi_zero]
        rw [M.post_merge_uint64_1_3_l7]; try dsimp only
        rw [thoser_both _ _ _ _ _ (by omega)]
        simp only [Option.bind_eq_bind, Option.bind_some]
        rw [go, mg, if_neg (Int.lt_irrefl x), if_neg (Int.lt_irrefl x), List.append_assoc]
      · have hk := len_keep fBoth 2 y
        have go := ih (x :: xs) ys (acc ++ keep fBoth 2 y) (by simp only [List.length_cons]; omega) (by simp only [List.length_append]; omega)
        rw [decide_eq_false (show ¬ x ≤ y by omega)]
        rw [M.post_merge_uint64_1_3_l2]; try dsimp only
        rw [if_neg Bool.false_ne_true]
        rw [M.post_merge_uint64_1_3_l3]; try dsimp only
        rw [if_neg (by omega), if_pos (by omega), if_pos (by omega), if_pos (by omega), gi_zero, gi_zero, decide_eq_true (show y ≤ x by omega)]
        rw [M.post_merge_uint64_1_3_l4]; try dsimp only
        rw [if_pos rfl, o02]
        rw [M.post_merge_uint64_1_3_l5]; try dsimp only
        rw [a22, if_neg (by decide), if_pos (by omega), if_pos (by omega), ey, gi_zero]
        rw [M.post_merge_uint64_1_3_l6]; try dsimp only
        rw [a21, if_pos rfl]
        rw [M.post_merge_uint64_1_3_l7]; try dsimp only
        rw [thoser_both _ _ _ _ _ (by omega)]
        simp only [Option.bind_eq_bind, Option.bind_some]
        rw [go, mg, if_neg (by omega), if_pos (by omega), List.append_assoc]
theorem those_both (a b : List Int) (h : a.length + b.length ≤ 1073741824) : M.post_those_uint64_3 a b = some (mg fBoth a b) := by
  simp only [M.post_those_uint64_3, M.post_merge_uint64, M.post_merge_uint64_1_3, Option.bind_eq_bind, Option.bind_some]
  rw [merge_both (a.length + b.length) a b [] (Nat.le_refl _) (by simp; omega)]
  rfl
theorem rises_l0 (xs : List Int) (hr : Rz xs) (hl : xs.length ≤ 1073741824) (k : Nat) : ∀ i : Nat, 1 ≤ i → xs.length ≤ i + k → M.post_rises_uint64_l0 (xs, (i : Int)) = some true := by
  induction k with
  | zero =>
    intro i h1 hk
    rw [M.post_rises_uint64_l0]; try dsimp only
    rw [if_neg (by omega)]
  | succ k ih =>
    intro i h1 hk
    rw [M.post_rises_uint64_l0]; try dsimp only
    by_cases hi : i < xs.length
    · rw [if_pos (by omega), wr_i64 (by omega) (by omega), if_pos (by omega), if_pos (by omega), if_pos (by omega)]
      have e1 : gi xs ((i : Int) - 1) = xs[i - 1] := by rw [show (i : Int) - 1 = ((i - 1 : Nat) : Int) by omega]; exact gi_nat xs _ (by omega)
      rw [e1, gi_nat xs i hi]
      have hlt := List.pairwise_iff_getElem.1 hr (i - 1) i (by omega) hi (by omega)
      rw [if_neg (by omega), wr_i64 (by omega) (by omega)]
      exact ih (i + 1) (by omega) (by omega)
    · rw [if_neg (by omega)]
theorem check (xs : List Int) (hr : Rz xs) (hl : xs.length ≤ 1073741824) : M.post_Check xs = some 0 := by
  rw [M.post_Check, M.post_rises_uint64, show (1 : Int) = ((1 : Nat) : Int) from rfl, rises_l0 xs hr hl xs.length 1 (by omega) (by omega)]
  rfl
theorem clone (xs : List Int) (hl : xs.length ≤ 1073741824) : M.slices_Clone_uint64_uint64 xs = some xs := by rw [M.slices_Clone_uint64_uint64, if_pos (by omega)]
def tot (l : List (List Int)) : Nat := (l.map List.length).sum
theorem le_tot {x : List Int} {l : List (List Int)} (h : x ∈ l) : x.length ≤ tot l := by
  induction l with
  | nil => cases h
  | cons y l ih =>
    simp only [tot, List.map_cons, List.sum_cons] at ih ⊢
    rcases List.mem_cons.1 h with rfl | h
    · omega
    · have := ih h; omega
theorem fold_one_l1 (l : List (List Int)) (hl : l.length ≤ 4096) (k : Nat) : ∀ (i : Nat) (acc : List Int), i + k = l.length → acc.length + tot (l.drop i) ≤ 1073741824 → M.post_fold_l1 (acc, l, (l.length : Int), (i : Int)) = some ((l.drop i).foldl (mg fOne) acc, 0) := by
  induction k with
  | zero =>
    intro i acc hi hb
    rw [M.post_fold_l1]; try dsimp only
    rw [if_neg (by omega), List.drop_eq_nil_of_le (by omega)]
    rfl
  | succ k ih =>
    intro i acc hi hb
    have hlt : i < l.length := by omega
    rw [M.post_fold_l1]; try dsimp only
    rw [if_pos (by omega), if_pos (by omega), if_pos (by omega), gi_natL l i hlt]
    rw [List.drop_eq_getElem_cons hlt] at hb ⊢
    simp only [tot, List.map_cons, List.sum_cons] at hb
    have hm := len_mg fOne acc l[i]
    rw [those_one acc l[i] (by omega)]
    simp only [Option.bind_eq_bind, Option.bind_some]
    rw [wr_i64 (by omega) (by omega), show (i : Int) + 1 = ((i + 1 : Nat) : Int) by omega, ih (i + 1) _ (by omega) (by unfold tot; omega)]
    rfl
theorem fold_one_l0 (l : List (List Int)) (hd : List Int) (tl : List (List Int)) (he : l = hd :: tl) (hl : l.length ≤ 4096) (hr : ∀ x ∈ l, Rz x) (hb : tot l ≤ 1073741824) (k : Nat) : ∀ i : Nat, i + k = l.length → M.post_fold_l0 (l, l, (l.length : Int), (i : Int)) = some (tl.foldl (mg fOne) hd, 0) := by
  induction k with
  | zero =>
    intro i hi
    have h1 : ((l.length : Nat) : Int) = (tl.length : Int) + 1 := by rw [he]; simp
    rw [M.post_fold_l0]; try dsimp only
    rw [if_neg (by omega), if_neg (by omega), if_pos (by omega)]
    have e0 : gi l 0 = hd := by rw [he]; rfl
    have e1 : sl l 1 (l.length : Int) = tl := by rw [he]; exact sl_tail hd tl
    have hhd := le_tot (show hd ∈ l by rw [he]; simp)
    rw [e0, clone hd (by omega)]
    simp only [Option.bind_eq_bind, Option.bind_some]
    rw [if_pos (by omega), e1]
    have := fold_one_l1 tl (by omega) tl.length 0 hd (by omega) (by rw [he] at hb; simpa [tot] using hb)
    rw [List.drop_zero] at this
    exact this
  | succ k ih =>
    intro i hi
    have hlt : i < l.length := by omega
    rw [M.post_fold_l0]; try dsimp only
    rw [if_pos (by omega), if_pos (by omega), if_pos (by omega), gi_natL l i hlt, check l[i] (hr _ (List.getElem_mem hlt)) (by have := le_tot (List.getElem_mem hlt); omega)]
    simp only [Option.bind_eq_bind, Option.bind_some, if_true]
    rw [wr_i64 (by omega) (by omega), show (i : Int) + 1 = ((i + 1 : Nat) : Int) by omega]
    exact ih (i + 1) (by omega)
theorem fold_one (hd : List Int) (tl : List (List Int)) (hl : tl.length ≤ 4095) (hr : ∀ x ∈ hd :: tl, Rz x) (hb : tot (hd :: tl) ≤ 1073741824) : M.post_fold (hd :: tl) = some (tl.foldl (mg fOne) hd, 0) := by
  have h1 : (((hd :: tl).length : Nat) : Int) = (tl.length : Int) + 1 := by simp
  rw [M.post_fold, if_neg (by omega)]
  exact fold_one_l0 (hd :: tl) hd tl rfl (by simp; omega) hr hb (hd :: tl).length 0 (by omega)
theorem fold_first_l1 (l : List (List Int)) (hl : l.length ≤ 4096) (k : Nat) : ∀ (i : Nat) (acc : List Int), i + k = l.length → acc.length + tot (l.drop i) ≤ 1073741824 → M.post_fold_2_l1 (acc, l, (l.length : Int), (i : Int)) = some ((l.drop i).foldl (mg fFirst) acc, 0) := by
  induction k with
  | zero =>
    intro i acc hi hb
    rw [M.post_fold_2_l1]; try dsimp only
    rw [if_neg (by omega), List.drop_eq_nil_of_le (by omega)]
    rfl
  | succ k ih =>
    intro i acc hi hb
    have hlt : i < l.length := by omega
    rw [M.post_fold_2_l1]; try dsimp only
    rw [if_pos (by omega), if_pos (by omega), if_pos (by omega), gi_natL l i hlt]
    rw [List.drop_eq_getElem_cons hlt] at hb ⊢
    simp only [tot, List.map_cons, List.sum_cons] at hb
    have hm := len_mg fFirst acc l[i]
    rw [those_first acc l[i] (by omega)]
    simp only [Option.bind_eq_bind, Option.bind_some]
    rw [wr_i64 (by omega) (by omega), show (i : Int) + 1 = ((i + 1 : Nat) : Int) by omega, ih (i + 1) _ (by omega) (by unfold tot; omega)]
    rfl
theorem fold_first_l0 (l : List (List Int)) (hd : List Int) (tl : List (List Int)) (he : l = hd :: tl) (hl : l.length ≤ 4096) (hr : ∀ x ∈ l, Rz x) (hb : tot l ≤ 1073741824) (k : Nat) : ∀ i : Nat, i + k = l.length → M.post_fold_2_l0 (l, l, (l.length : Int), (i : Int)) = some (tl.foldl (mg fFirst) hd, 0) := by
  induction k with
  | zero =>
    intro i hi
    have h1 : ((l.length : Nat) : Int) = (tl.length : Int) + 1 := by rw [he]; simp
    rw [M.post_fold_2_l0]; try dsimp only
    rw [if_neg (by omega), if_neg (by omega), if_pos (by omega)]
    have e0 : gi l 0 = hd := by rw [he]; rfl
    have e1 : sl l 1 (l.length : Int) = tl := by rw [he]; exact sl_tail hd tl
    have hhd := le_tot (show hd ∈ l by rw [he]; simp)
    rw [e0, clone hd (by omega)]
    simp only [Option.bind_eq_bind, Option.bind_some]
    rw [if_pos (by omega), e1]
    have := fold_first_l1 tl (by omega) tl.length 0 hd (by omega) (by rw [he] at hb; simpa [tot] using hb)
    rw [List.drop_zero] at this
    exact this
  | succ k ih =>
    intro i hi
    have hlt : i < l.length := by omega
    rw [M.post_fold_2_l0]; try dsimp only
    rw [if_pos (by omega), if_pos (by omega), if_pos (by omega), gi_natL l i hlt, check l[i] (hr _ (List.getElem_mem hlt)) (by have := le_tot (List.getElem_mem hlt); omega)]
    simp only [Option.bind_eq_bind, Option.bind_some, if_true]
    rw [wr_i64 (by omega) (by omega), show (i : Int) + 1 = ((i + 1 : Nat) : Int) by omega]
    exact ih (i + 1) (by omega)
theorem fold_first (hd : List Int) (tl : List (List Int)) (hl : tl.length ≤ 4095) (hr : ∀ x ∈ hd :: tl, Rz x) (hb : tot (hd :: tl) ≤ 1073741824) : M.post_fold_2 (hd :: tl) = some (tl.foldl (mg fFirst) hd, 0) := by
  have h1 : (((hd :: tl).length : Nat) : Int) = (tl.length : Int) + 1 := by simp
  rw [M.post_fold_2, if_neg (by omega)]
  exact fold_first_l0 (hd :: tl) hd tl rfl (by simp; omega) hr hb (hd :: tl).length 0 (by omega)
theorem fold_both_l1 (l : List (List Int)) (hl : l.length ≤ 4096) (k : Nat) : ∀ (i : Nat) (acc : List Int), i + k = l.length → acc.length + tot (l.drop i) ≤ 1073741824 → M.post_fold_3_l1 (acc, l, (l.length : Int), (i : Int)) = some ((l.drop i).foldl (mg fBoth) acc, 0) := by
  induction k with
  | zero =>
    intro i acc hi hb
    rw [M.post_fold_3_l1]; try dsimp only
    rw [if_neg (by omega), List.drop_eq_nil_of_le (by omega)]
    rfl
  | succ k ih =>
    intro i acc hi hb
    have hlt : i < l.length := by omega
    rw [M.post_fold_3_l1]; try dsimp only
    rw [if_pos (by omega), if_pos (by omega), if_pos (by omega), gi_natL l i hlt]
    rw [List.drop_eq_getElem_cons hlt] at hb ⊢
    simp only [tot, List.map_cons, List.sum_cons] at hb
    have hm := len_mg fBoth acc l[i]
    rw [those_both acc l[i] (by omega)]
    simp only [Option.bind_eq_bind, Option.bind_some]
    rw [wr_i64 (by omega) (by omega), show (i : Int) + 1 = ((i + 1 : Nat) : Int) by omega, ih (i + 1) _ (by omega) (by unfold tot; omega)]
    rfl
theorem fold_both_l0 (l : List (List Int)) (hd : List Int) (tl : List (List Int)) (he : l = hd :: tl) (hl : l.length ≤ 4096) (hr : ∀ x ∈ l, Rz x) (hb : tot l ≤ 1073741824) (k : Nat) : ∀ i : Nat, i + k = l.length → M.post_fold_3_l0 (l, l, (l.length : Int), (i : Int)) = some (tl.foldl (mg fBoth) hd, 0) := by
  induction k with
  | zero =>
    intro i hi
    have h1 : ((l.length : Nat) : Int) = (tl.length : Int) + 1 := by rw [he]; simp
    rw [M.post_fold_3_l0]; try dsimp only
    rw [if_neg (by omega), if_neg (by omega), if_pos (by omega)]
    have e0 : gi l 0 = hd := by rw [he]; rfl
    have e1 : sl l 1 (l.length : Int) = tl := by rw [he]; exact sl_tail hd tl
    have hhd := le_tot (show hd ∈ l by rw [he]; simp)
    rw [e0, clone hd (by omega)]
    simp only [Option.bind_eq_bind, Option.bind_some]
    rw [if_pos (by omega), e1]
    have := fold_both_l1 tl (by omega) tl.length 0 hd (by omega) (by rw [he] at hb; simpa [tot] using hb)
    rw [List.drop_zero] at this
    exact this
  | succ k ih =>
    intro i hi
    have hlt : i < l.length := by omega
    rw [M.post_fold_3_l0]; try dsimp only
    rw [if_pos (by omega), if_pos (by omega), if_pos (by omega), gi_natL l i hlt, check l[i] (hr _ (List.getElem_mem hlt)) (by have := le_tot (List.getElem_mem hlt); omega)]
    simp only [Option.bind_eq_bind, Option.bind_some, if_true]
    rw [wr_i64 (by omega) (by omega), show (i : Int) + 1 = ((i + 1 : Nat) : Int) by omega]
    exact ih (i + 1) (by omega)
theorem fold_both (hd : List Int) (tl : List (List Int)) (hl : tl.length ≤ 4095) (hr : ∀ x ∈ hd :: tl, Rz x) (hb : tot (hd :: tl) ≤ 1073741824) : M.post_fold_3 (hd :: tl) = some (tl.foldl (mg fBoth) hd, 0) := by
  have h1 : (((hd :: tl).length : Nat) : Int) = (tl.length : Int) + 1 := by simp
  rw [M.post_fold_3, if_neg (by omega)]
  exact fold_both_l0 (hd :: tl) hd tl rfl (by simp; omega) hr hb (hd :: tl).length 0 (by omega)
theorem and_eq (hd : List Int) (tl : List (List Int)) (hl : tl.length ≤ 4095) (hr : ∀ x ∈ hd :: tl, Rz x) (hb : tot (hd :: tl) ≤ 1073741824) : M.post_And (hd :: tl) = some (tl.foldl (mg fBoth) hd, 0) := by rw [M.post_And, fold_both hd tl hl hr hb]; rfl
theorem or_eq (hd : List Int) (tl : List (List Int)) (hl : tl.length ≤ 4095) (hr : ∀ x ∈ hd :: tl, Rz x) (hb : tot (hd :: tl) ≤ 1073741824) : M.post_Or (hd :: tl) = some (tl.foldl (mg fOne) hd, 0) := by rw [M.post_Or, fold_one hd tl hl hr hb]; rfl
theorem but_eq (a b : List Int) (ha : Rz a) (hb : Rz b) (hn : a.length + b.length ≤ 1073741824) : M.post_But a b = some (mg fFirst a b, 0) := by
  rw [M.post_But, fold_first a [b] (by simp) (by simp [ha, hb]) (by simp [tot]; omega)]; rfl
theorem same_l0 (xs : List Int) (hl : xs.length ≤ 1073741824) (k : Nat) : ∀ i : Nat, i + k = xs.length → M.tidepolelaw13_same_l0 (xs, xs, (i : Int)) = some true := by
  induction k with
  | zero =>
    intro i hi
    rw [M.tidepolelaw13_same_l0]; try dsimp only
    rw [if_neg (by omega)]
  | succ k ih =>
    intro i hi
    rw [M.tidepolelaw13_same_l0]; try dsimp only
    rw [if_pos (by omega), if_pos (by omega), if_pos (by omega)]
    simp only [if_true]
    rw [wr_i64 (by omega) (by omega), show (i : Int) + 1 = ((i + 1 : Nat) : Int) by omega]
    exact ih (i + 1) (by omega)
theorem same_self (xs : List Int) (hl : xs.length ≤ 1073741824) : M.tidepolelaw13_same xs xs = some true := by
  rw [M.tidepolelaw13_same, if_pos rfl]
  exact same_l0 xs hl xs.length 0 (by omega)
end Go.Proofs.Ytgkijdahghfldaa
