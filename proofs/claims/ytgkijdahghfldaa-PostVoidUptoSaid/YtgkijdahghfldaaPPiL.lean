/-
  Lists with a number more, or less: the program's and the reference's are the same.
-/
import Derived.Test.YtgkijdahghfldaaPPiA
set_option linter.unusedVariables false
set_option linter.unusedSimpArgs false
namespace Go.Proofs.Ytgkijdahghfldaa
open Go.Gx

theorem rz_cons2 {x y : Int} {l : List Int} : Rz (x :: y :: l) ↔ x < y ∧ Rz (y :: l) := by
  constructor
  · intro h
    rw [rz_cons] at h
    exact ⟨h.1 y (by simp), h.2⟩
  · rintro ⟨h1, h2⟩
    rw [rz_cons]
    refine ⟨fun z hz => ?_, h2⟩
    rcases List.mem_cons.1 hz with rfl | hz
    · exact h1
    · have := (rz_cons.1 h2).1 z hz; omega
theorem rz_one (l : List Int) (h : l.length ≤ 1) : Rz l := by
  match l, h with
  | [], _ => exact List.Pairwise.nil
  | [x], _ => exact List.pairwise_singleton _ _
theorem rz_drop_step (xs : List Int) (i : Nat) (h1 : 1 ≤ i) (hi : i < xs.length) : Rz (xs.drop (i - 1)) ↔ xs[i - 1] < xs[i] ∧ Rz (xs.drop i) := by
  have e1 : xs.drop (i - 1) = xs[i - 1] :: xs.drop i := by
    rw [List.drop_eq_getElem_cons (by omega)]
    congr 2
    omega
  have e2 : xs.drop i = xs[i] :: xs.drop (i + 1) := List.drop_eq_getElem_cons hi
  rw [e1, e2, rz_cons2]
theorem rises_any (xs : List Int) (hl : xs.length ≤ 1073741824) (k : Nat) : ∀ i : Nat, 1 ≤ i → xs.length ≤ i + k → M.post_rises_uint64_l0 (xs, (i : Int)) = some (decide (Rz (xs.drop (i - 1)))) := by
  induction k with
  | zero =>
    intro i h1 hk
    rw [M.post_rises_uint64_l0]; try dsimp only
    rw [if_neg (by omega), decide_eq_true (rz_one _ (by simp; omega))]
  | succ k ih =>
    intro i h1 hk
    rw [M.post_rises_uint64_l0]; try dsimp only
    by_cases hi : i < xs.length
    · rw [if_pos (by omega), wr_i64 (by omega) (by omega), if_pos (by omega), if_pos (by omega), if_pos (by omega)]
      have e1 : gi xs ((i : Int) - 1) = xs[i - 1] := by rw [show (i : Int) - 1 = ((i - 1 : Nat) : Int) by omega]; exact gi_nat xs _ (by omega)
      rw [e1, gi_nat xs i hi]
      have hst := rz_drop_step xs i h1 hi
      split
      · rw [decide_eq_false (by rw [hst]; intro h; omega)]
      · rw [wr_i64 (by omega) (by omega), show (i : Int) + 1 = ((i + 1 : Nat) : Int) by omega, ih (i + 1) (by omega) (by omega)]
        congr 1
        rw [decide_eq_decide, hst]
        simp only [Nat.add_sub_cancel]
        constructor
        · intro h; exact ⟨by omega, h⟩
        · exact fun h => h.2
    · rw [if_neg (by omega), decide_eq_true (rz_one _ (by simp; omega))]
def chk (xs : List Int) : Int := if Rz xs then 0 else 2
theorem check_any (xs : List Int) (hl : xs.length ≤ 1073741824) : M.post_Check xs = some (chk xs) := by
  rw [M.post_Check, M.post_rises_uint64, show (1 : Int) = ((1 : Nat) : Int) from rfl, rises_any xs hl xs.length 1 (by omega) (by omega)]
  simp only [Nat.sub_self, List.drop_zero, Option.bind_eq_bind, Option.bind_some, decide_eq_true_eq]
  unfold chk
  split <;> rfl
theorem rcheck_l0 (xs : List Int) (hl : xs.length ≤ 1073741824) (k : Nat) : ∀ i : Nat, 1 ≤ i → xs.length ≤ i + k → M.tidepoleref13_Check_l0 (xs, (i : Int)) = some (chk (xs.drop (i - 1))) := by
  induction k with
  | zero =>
    intro i h1 hk
    rw [M.tidepoleref13_Check_l0]; try dsimp only
    rw [if_neg (by omega), chk, if_pos (rz_one _ (by simp; omega))]
  | succ k ih =>
    intro i h1 hk
    rw [M.tidepoleref13_Check_l0]; try dsimp only
    by_cases hi : i < xs.length
    · rw [if_pos (by omega), wr_i64 (by omega) (by omega), if_pos (by omega), if_pos (by omega), if_pos (by omega)]
      have e1 : gi xs ((i : Int) - 1) = xs[i - 1] := by rw [show (i : Int) - 1 = ((i - 1 : Nat) : Int) by omega]; exact gi_nat xs _ (by omega)
      rw [e1, gi_nat xs i hi]
      have hst := rz_drop_step xs i h1 hi
      split
      · rw [chk, if_neg (by rw [hst]; intro h; omega)]
      · rw [wr_i64 (by omega) (by omega), show (i : Int) + 1 = ((i + 1 : Nat) : Int) by omega, ih (i + 1) (by omega) (by omega)]
        simp only [Nat.add_sub_cancel, chk, hst]
        have : xs[i - 1] < xs[i] := by omega
        simp only [this, true_and]
    · rw [if_neg (by omega), chk, if_pos (rz_one _ (by simp; omega))]
theorem rcheck_any (xs : List Int) (hl : xs.length ≤ 1073741824) : M.tidepoleref13_Check xs = some (chk xs) := by
  rw [M.tidepoleref13_Check, show (1 : Int) = ((1 : Nat) : Int) from rfl, rcheck_l0 xs hl xs.length 1 (by omega) (by omega)]
  rfl
theorem chk_cases (xs : List Int) : (Rz xs ∧ chk xs = 0) ∨ (¬ Rz xs ∧ chk xs = 2) := by
  unfold chk
  by_cases h : Rz xs
  · exact .inl ⟨h, if_pos h⟩
  · exact .inr ⟨h, if_neg h⟩

/-! ### The program's calls on lists that do not all rise -/
theorem in_l0 (xs : List Int) (n : Int) (hl : xs.length ≤ 1073741824) (k : Nat) : ∀ i : Nat, i + k = xs.length → M.tidepoleref13_in_l0 (xs, n, (i : Int)) = some (decide (n ∈ xs.drop i)) := by
  induction k with
  | zero =>
    intro i hi
    rw [M.tidepoleref13_in_l0]; try dsimp only
    rw [if_neg (by omega), List.drop_eq_nil_of_le (by omega)]
    simp
  | succ k ih =>
    intro i hi
    have hlt : i < xs.length := by omega
    rw [M.tidepoleref13_in_l0]; try dsimp only
    rw [if_pos (by omega), if_pos (by omega), gi_nat xs i hlt, List.drop_eq_getElem_cons hlt]
    split
    · rename_i h
      rw [decide_eq_true (by simp [h])]
    · rename_i h
      rw [wr_i64 (by omega) (by omega), show (i : Int) + 1 = ((i + 1 : Nat) : Int) by omega, ih (i + 1) (by omega)]
      congr 1
      rw [decide_eq_decide, List.mem_cons]
      constructor
      · exact .inr
      · rintro (h' | h')
        · exact absurd h'.symm h
        · exact h'
theorem in_eq (xs : List Int) (n : Int) (hl : xs.length ≤ 1073741824) : M.tidepoleref13_in xs n = some (decide (n ∈ xs)) := by
  rw [M.tidepoleref13_in]
  exact in_l0 xs n hl xs.length 0 (by omega)
def ins (n : Int) : Bool → List Int → List Int
  | d, [] => if d then [] else [n]
  | d, y :: ys => (if !d && decide (y ≥ n) then [n] else []) ++ (if y = n then [] else [y]) ++ ins n (d || decide (y ≥ n)) ys
theorem len_ins (n : Int) : ∀ (d : Bool) (xs : List Int), (ins n d xs).length ≤ xs.length + (if d then 0 else 1)
  | d, [] => by cases d <;> simp [ins]
  | d, y :: ys => by
    have := len_ins n (d || decide (y ≥ n)) ys
    cases d
    · by_cases h : y ≥ n
      · by_cases h2 : y = n <;> simp [ins, h, h2] at this ⊢ <;> omega
      · by_cases h2 : y = n <;> simp [ins, h, h2] at this ⊢ <;> omega
    · by_cases h2 : y = n <;> simp [ins, h2] at this ⊢ <;> omega
theorem radd_l0 (xs : List Int) (n : Int) (hl : xs.length ≤ 1073741000) (k : Nat) : ∀ (i : Nat) (acc : List Int) (d : Bool), i + k = xs.length → acc.length ≤ i + (if d then 1 else 0) →
    M.tidepoleref13_Add_l0 (xs, n, acc, d, (i : Int)) = some (acc ++ ins n d (xs.drop i), 0) := by
  induction k with
  | zero =>
    intro i acc d hi ha
    rw [M.tidepoleref13_Add_l0]; try dsimp only
    rw [if_neg (by omega), List.drop_eq_nil_of_le (by omega)]
    cases d
    · simp only [Bool.false_eq_true, if_false, Nat.add_zero] at ha
      rw [if_neg (by decide), if_pos (by simp; omega)]
      simp [ins]
    · rw [if_pos rfl]
      simp [ins]
  | succ k ih =>
    intro i acc d hi ha
    have hlt : i < xs.length := by omega
    have key : ∀ (acc2 : List Int) (d2 : Bool), acc2.length ≤ i + (if d2 then 1 else 0) → M.tidepoleref13_Add_l2 (xs, n, acc2, d2, (i : Int)) = some (acc2 ++ (if xs[i] = n then [] else [xs[i]]) ++ ins n d2 (xs.drop (i + 1)), 0) := by
      intro acc2 d2 h2
      have h3 : acc2.length ≤ i + 1 := by split at h2 <;> omega
      rw [M.tidepoleref13_Add_l2]; try dsimp only
      rw [if_pos (by omega), if_pos (by omega), gi_nat xs i hlt]
      split
      · rw [M.tidepoleref13_Add_l3]; try dsimp only
        rw [wr_i64 (by omega) (by omega), show (i : Int) + 1 = ((i + 1 : Nat) : Int) by omega, ih (i + 1) _ _ (by omega) (by omega)]
        simp
      · rw [if_pos (by simp; omega), M.tidepoleref13_Add_l3]; try dsimp only
        rw [wr_i64 (by omega) (by omega), show (i : Int) + 1 = ((i + 1 : Nat) : Int) by omega, ih (i + 1) _ _ (by omega) (by simp; split at h2 <;> simp_all <;> omega)]
    rw [M.tidepoleref13_Add_l0]; try dsimp only
    rw [if_pos (by omega), List.drop_eq_getElem_cons hlt]
    cases d
    · simp only [Bool.false_eq_true, if_false, Nat.add_zero] at ha
      rw [if_neg (by decide), if_pos (by omega), gi_nat xs i hlt, M.tidepoleref13_Add_l1]; try dsimp only
      by_cases hge : xs[i] ≥ n
      · rw [decide_eq_true hge, if_pos rfl, if_pos (by simp; omega), key _ true (by simp; omega)]
        simp [ins, hge]
      · rw [decide_eq_false hge, if_neg (by decide), key _ false (by simp; omega)]
        simp [ins, hge]
    · rw [if_pos rfl, M.tidepoleref13_Add_l1]; try dsimp only
      rw [if_neg (by decide), key _ true ha]
      simp [ins]
theorem mem_ins (n v : Int) : ∀ (d : Bool) (xs : List Int), v ∈ ins n d xs ↔ (v ∈ xs ∧ v ≠ n) ∨ (d = false ∧ v = n)
  | d, [] => by cases d <;> simp [ins]
  | d, y :: ys => by
    have := mem_ins n v (d || decide (y ≥ n)) ys
    simp only [ins, List.mem_append, this]
    cases d <;> by_cases h : y ≥ n <;> by_cases h2 : y = n <;> by_cases h3 : v = n <;> by_cases h4 : v = y <;> simp_all
theorem rz_ins (n : Int) : ∀ (d : Bool) (xs : List Int), Rz xs → (d = true → ∀ v ∈ xs, n ≤ v) → Rz (ins n d xs)
  | d, [], _, _ => by cases d <;> simp [ins]
  | d, y :: ys, hr, hd => by
    rw [rz_cons] at hr
    have ih := rz_ins n (d || decide (y ≥ n)) ys hr.2 (by
      intro h v hv
      have h1 := hr.1 v hv
      cases d
      · simp at h; omega
      · have := hd rfl v (List.mem_cons_of_mem _ hv); exact this)
    have hm : ∀ v ∈ ins n (d || decide (y ≥ n)) ys, (v ∈ ys ∧ v ≠ n) ∨ ((d || decide (y ≥ n)) = false ∧ v = n) := fun v hv => (mem_ins n v _ ys).1 hv
    have hy : Rz ((if y = n then [] else [y]) ++ ins n (d || decide (y ≥ n)) ys) := by
      split
      · exact ih
      · rename_i hne
        refine rz_cons.2 ⟨fun v hv => ?_, ih⟩
        rcases hm v hv with ⟨h1, h2⟩ | ⟨h1, rfl⟩
        · exact hr.1 v h1
        · simp at h1; omega
    simp only [ins, List.append_assoc]
    split
    · rename_i h
      simp at h
      refine (rz_cons (x := n) (xs := (if y = n then [] else [y]) ++ ins n (d || decide (y ≥ n)) ys)).2 ⟨fun v hv => ?_, hy⟩
      rcases List.mem_append.1 hv with h1 | h1
      · split at h1
        · cases h1
        · simp at h1; omega
      · rcases hm v h1 with ⟨h2, h3⟩ | ⟨h2, rfl⟩
        · have := hr.1 v h2; omega
        · simp at h2; omega
    · exact hy
theorem radd_eq (xs : List Int) (n : Int) (hr : Rz xs) (hl : xs.length ≤ 1073741000) : M.tidepoleref13_Add xs n = some (ins n false xs, 0) := by
  rw [M.tidepoleref13_Add, rcheck_any xs (by omega), chk, if_pos hr]
  simp only [Option.bind_eq_bind, Option.bind_some, if_true]
  exact radd_l0 xs n hl xs.length 0 [] false (by omega) (by simp)
theorem rbut_l1 (a b : List Int) (ha : a.length ≤ 1073741000) (hb : b.length ≤ 1073741000) (k : Nat) : ∀ (i : Nat) (acc : List Int), i + k = a.length → acc.length ≤ i →
    M.tidepoleref13_But_l1 (a, b, acc, (i : Int)) = some (acc ++ (a.drop i).filter (fun v => !decide (v ∈ b)), 0) := by
  induction k with
  | zero =>
    intro i acc hi hc
    rw [M.tidepoleref13_But_l1]; try dsimp only
    rw [if_neg (by omega), List.drop_eq_nil_of_le (by omega)]
    simp
  | succ k ih =>
    intro i acc hi hc
    have hlt : i < a.length := by omega
    rw [M.tidepoleref13_But_l1]; try dsimp only
    rw [if_pos (by omega), if_pos (by omega), gi_nat a i hlt, in_eq _ _ (by omega), List.drop_eq_getElem_cons hlt, List.filter_cons]
    simp only [Option.bind_eq_bind, Option.bind_some]
    by_cases h : a[i] ∈ b
    · rw [decide_eq_true h, if_pos rfl, M.tidepoleref13_But_l2]; try dsimp only
      rw [wr_i64 (by omega) (by omega), show (i : Int) + 1 = ((i + 1 : Nat) : Int) by omega, ih (i + 1) _ (by omega) (by omega)]
      simp
    · rw [decide_eq_false h, if_neg (by decide), if_pos (by simp; omega), M.tidepoleref13_But_l2]; try dsimp only
      rw [wr_i64 (by omega) (by omega), show (i : Int) + 1 = ((i + 1 : Nat) : Int) by omega, ih (i + 1) _ (by omega) (by simp; omega)]
      simp
theorem rbut_eq (a b : List Int) (ra : Rz a) (rb : Rz b) (ha : a.length ≤ 1073741000) (hb : b.length ≤ 1073741000) : M.tidepoleref13_But a b = some (a.filter (fun v => !decide (v ∈ b)), 0) := by
  rw [M.tidepoleref13_But, rcheck_any a (by omega), chk, if_pos ra]
  simp only [Option.bind_eq_bind, Option.bind_some, if_true]
  rw [rcheck_any b (by omega), chk, if_pos rb]
  simp only [Option.bind_some, M.tidepoleref13_But_l0]
  rw [if_neg (by decide)]
  exact rbut_l1 a b ha hb a.length 0 [] (by omega) (by simp)
theorem add_ok (a : List Int) (n : Int) (hr : Rz a) (ha : a.length ≤ 1000000) : ∃ X, M.post_Add a n = some (X, 0) ∧ M.tidepoleref13_Add a n = some (X, 0) ∧ X.length ≤ a.length + 1 ∧ Rz X := by
  have rn : Rz [n] := List.pairwise_singleton _ _
  have e : mg fOne a [n] = ins n false a := rz_ext (rz_mg _ _ _ hr rn) (rz_ins n false a hr (by simp)) fun v => by
    rw [mem_one hr rn, mem_ins]
    by_cases h : v = n <;> simp [h]
  have hlen := len_ins n false a
  simp at hlen
  refine ⟨_, ?_, radd_eq a n hr (by omega), hlen, rz_ins n false a hr (by simp)⟩
  rw [M.post_Add, or_eq a [[n]] (by simp) (by simp [hr]) (by simp [tot]; omega)]
  simp only [Option.bind_eq_bind, Option.bind_some, List.foldl_cons, List.foldl_nil, e]
theorem drop_ok (a : List Int) (n : Int) (hr : Rz a) (ha : a.length ≤ 1000000) : ∃ X, M.post_Drop a n = some (X, 0) ∧ M.tidepoleref13_Drop a n = some (X, 0) ∧ X.length ≤ a.length ∧ Rz X := by
  have rn : Rz [n] := List.pairwise_singleton _ _
  have e : mg fFirst a [n] = a.filter (fun v => !decide (v ∈ [n])) := rz_ext (rz_mg _ _ _ hr rn) (hr.sublist List.filter_sublist) fun v => by
    rw [mem_first hr rn, List.mem_filter]; simp
  refine ⟨a.filter (fun v => !decide (v ∈ [n])), ?_, ?_, List.length_filter_le _ _, hr.sublist List.filter_sublist⟩
  · rw [M.post_Drop, but_eq a [n] hr rn (by simp; omega), e]; rfl
  · rw [M.tidepoleref13_Drop, rbut_eq a [n] hr rn (by omega) (by simp)]; rfl
end Go.Proofs.Ytgkijdahghfldaa
