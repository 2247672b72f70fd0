/-
  Any lists are judged, put together and held apart by the program as by the reference.
-/
import Derived.Test.YtgkijdahghfldaaPPstS
set_option linter.unusedVariables false
set_option linter.unusedSimpArgs false
namespace Go.Proofs.Ytgkijdahghfldaa
open Go.Gx

theorem rz_cons2 {x y : Int} {l : List Int} : Rz (x :: y :: l) ↔ x < y ∧ Rz (y :: l) := by
  constructor
  · intro h
    rw [rz_cons] at h
    exact ⟨h.1 y (by simp), h.2⟩
  · rintro ⟨h1, h2⟩
    rw [rz_cons]
    refine ⟨fun z hz => ?_, h2⟩
    rcases List.mem_cons.1 hz with rfl | hz
    · exact h1
    · have := (rz_cons.1 h2).1 z hz; omega
theorem rz_one (l : List Int) (h : l.length ≤ 1) : Rz l := by
  match l, h with
  | [], _ => exact List.Pairwise.nil
  | [x], _ => exact List.pairwise_singleton _ _
theorem rz_drop_step (xs : List Int) (i : Nat) (h1 : 1 ≤ i) (hi : i < xs.length) : Rz (xs.drop (i - 1)) ↔ xs[i - 1] < xs[i] ∧ Rz (xs.drop i) := by
  have e1 : xs.drop (i - 1) = xs[i - 1] :: xs.drop i := by
    rw [List.drop_eq_getElem_cons (by omega)]
    congr 2
    omega
  have e2 : xs.drop i = xs[i] :: xs.drop (i + 1) := List.drop_eq_getElem_cons hi
  rw [e1, e2, rz_cons2]
theorem rises_any (xs : List Int) (hl : xs.length ≤ 1073741824) (k : Nat) : ∀ i : Nat, 1 ≤ i → xs.length ≤ i + k → M.post_rises_uint64_l0 (xs, (i : Int)) = some (decide (Rz (xs.drop (i - 1)))) := by
  induction k with
  | zero =>
    intro i h1 hk
    rw [M.post_rises_uint64_l0]; try dsimp only
    rw [if_neg (by omega), decide_eq_true (rz_one _ (by simp; omega))]
  | succ k ih =>
    intro i h1 hk
    rw [M.post_rises_uint64_l0]; try dsimp only
    by_cases hi : i < xs.length
    · rw [if_pos (by omega), wr_i64 (by omega) (by omega), if_pos (by omega), if_pos (by omega), if_pos (by omega)]
      have e1 : gi xs ((i : Int) - 1) = xs[i - 1] := by rw [show (i : Int) - 1 = ((i - 1 : Nat) : Int) by omega]; exact gi_nat xs _ (by omega)
      rw [e1, gi_nat xs i hi]
      have hst := rz_drop_step xs i h1 hi
      split
      · rw [decide_eq_false (by rw [hst]; intro h; omega)]
      · rw [wr_i64 (by omega) (by omega), show (i : Int) + 1 = ((i + 1 : Nat) : Int) by omega, ih (i + 1) (by omega) (by omega)]
        congr 1
        rw [decide_eq_decide, hst]
        simp only [Nat.add_sub_cancel]
        constructor
        · intro h; exact ⟨by omega, h⟩
        · exact fun h => h.2
    · rw [if_neg (by omega), decide_eq_true (rz_one _ (by simp; omega))]
def chk (xs : List Int) : Int := if Rz xs then 0 else 2
theorem check_any (xs : List Int) (hl : xs.length ≤ 1073741824) : M.post_Check xs = some (chk xs) := by
  rw [M.post_Check, M.post_rises_uint64, show (1 : Int) = ((1 : Nat) : Int) from rfl, rises_any xs hl xs.length 1 (by omega) (by omega)]
  simp only [Nat.sub_self, List.drop_zero, Option.bind_eq_bind, Option.bind_some, decide_eq_true_eq]
  unfold chk
  split <;> rfl
theorem rcheck_l0 (xs : List Int) (hl : xs.length ≤ 1073741824) (k : Nat) : ∀ i : Nat, 1 ≤ i → xs.length ≤ i + k → M.tidepoleref13_Check_l0 (xs, (i : Int)) = some (chk (xs.drop (i - 1))) := by
  induction k with
  | zero =>
    intro i h1 hk
    rw [M.tidepoleref13_Check_l0]; try dsimp only
    rw [if_neg (by omega), chk, if_pos (rz_one _ (by simp; omega))]
  | succ k ih =>
    intro i h1 hk
    rw [M.tidepoleref13_Check_l0]; try dsimp only
    by_cases hi : i < xs.length
    · rw [if_pos (by omega), wr_i64 (by omega) (by omega), if_pos (by omega), if_pos (by omega), if_pos (by omega)]
      have e1 : gi xs ((i : Int) - 1) = xs[i - 1] := by rw [show (i : Int) - 1 = ((i - 1 : Nat) : Int) by omega]; exact gi_nat xs _ (by omega)
      rw [e1, gi_nat xs i hi]
      have hst := rz_drop_step xs i h1 hi
      split
      · rw [chk, if_neg (by rw [hst]; intro h; omega)]
      · rw [wr_i64 (by omega) (by omega), show (i : Int) + 1 = ((i + 1 : Nat) : Int) by omega, ih (i + 1) (by omega) (by omega)]
        simp only [Nat.add_sub_cancel, chk, hst]
        have : xs[i - 1] < xs[i] := by omega
        simp only [this, true_and]
    · rw [if_neg (by omega), chk, if_pos (rz_one _ (by simp; omega))]
theorem rcheck_any (xs : List Int) (hl : xs.length ≤ 1073741824) : M.tidepoleref13_Check xs = some (chk xs) := by
  rw [M.tidepoleref13_Check, show (1 : Int) = ((1 : Nat) : Int) from rfl, rcheck_l0 xs hl xs.length 1 (by omega) (by omega)]
  rfl
theorem chk_cases (xs : List Int) : (Rz xs ∧ chk xs = 0) ∨ (¬ Rz xs ∧ chk xs = 2) := by
  unfold chk
  by_cases h : Rz xs
  · exact .inl ⟨h, if_pos h⟩
  · exact .inr ⟨h, if_neg h⟩

/-! ### The program's calls on lists that do not all rise -/
theorem fold_bad (l : List (List Int)) (hl : l.length ≤ 4096) (hb : ∀ x ∈ l, x.length ≤ 1073741824) (k : Nat) : ∀ i : Nat, i + k = l.length → (∃ x ∈ l.drop i, ¬ Rz x) → M.post_fold_l0 (l, l, (l.length : Int), (i : Int)) = some ([], 2) := by
  induction k with
  | zero =>
    rintro i hi ⟨x, hx, _⟩
    rw [List.drop_eq_nil_of_le (by omega)] at hx
    cases hx
  | succ k ih =>
    rintro i hi ⟨x, hx, hn⟩
    have hlt : i < l.length := by omega
    rw [M.post_fold_l0]; try dsimp only
    rw [if_pos (by omega), if_pos (by omega), if_pos (by omega), gi_natL l i hlt, check_any l[i] (hb _ (List.getElem_mem hlt))]
    simp only [Option.bind_eq_bind, Option.bind_some]
    rcases chk_cases l[i] with ⟨h1, h2⟩ | ⟨h1, h2⟩
    · rw [h2, if_pos rfl, wr_i64 (by omega) (by omega), show (i : Int) + 1 = ((i + 1 : Nat) : Int) by omega]
      refine ih (i + 1) (by omega) ⟨x, ?_, hn⟩
      rw [List.drop_eq_getElem_cons hlt] at hx
      rcases List.mem_cons.1 hx with rfl | h
      · exact absurd h1 hn
      · exact h
    · rw [h2, if_neg (by decide)]
theorem fold_no (l : List (List Int)) (hl : l.length ≤ 4096) (hb : ∀ x ∈ l, x.length ≤ 1073741824) (hn : ∃ x ∈ l, ¬ Rz x) : M.post_fold l = some ([], 2) := by
  rw [M.post_fold, if_neg (by omega)]
  exact fold_bad l hl hb l.length 0 (by omega) (by simpa using hn)
theorem fold_nil : M.post_fold [] = some ([], 0) := by
  rw [M.post_fold, if_neg (by simp), M.post_fold_l0]; try dsimp only
  rw [if_neg (by simp), if_pos (by simp)]
theorem fold_2_bad (l : List (List Int)) (hl : l.length ≤ 4096) (hb : ∀ x ∈ l, x.length ≤ 1073741824) (k : Nat) : ∀ i : Nat, i + k = l.length → (∃ x ∈ l.drop i, ¬ Rz x) → M.post_fold_2_l0 (l, l, (l.length : Int), (i : Int)) = some ([], 2) := by
  induction k with
  | zero =>
    rintro i hi ⟨x, hx, _⟩
    rw [List.drop_eq_nil_of_le (by omega)] at hx
    cases hx
  | succ k ih =>
    rintro i hi ⟨x, hx, hn⟩
    have hlt : i < l.length := by omega
    rw [M.post_fold_2_l0]; try dsimp only
    rw [if_pos (by omega), if_pos (by omega), if_pos (by omega), gi_natL l i hlt, check_any l[i] (hb _ (List.getElem_mem hlt))]
    simp only [Option.bind_eq_bind, Option.bind_some]
    rcases chk_cases l[i] with ⟨h1, h2⟩ | ⟨h1, h2⟩
    · rw [h2, if_pos rfl, wr_i64 (by omega) (by omega), show (i : Int) + 1 = ((i + 1 : Nat) : Int) by omega]
      refine ih (i + 1) (by omega) ⟨x, ?_, hn⟩
      rw [List.drop_eq_getElem_cons hlt] at hx
      rcases List.mem_cons.1 hx with rfl | h
      · exact absurd h1 hn
      · exact h
    · rw [h2, if_neg (by decide)]
theorem fold_2_no (l : List (List Int)) (hl : l.length ≤ 4096) (hb : ∀ x ∈ l, x.length ≤ 1073741824) (hn : ∃ x ∈ l, ¬ Rz x) : M.post_fold_2 l = some ([], 2) := by
  rw [M.post_fold_2, if_neg (by omega)]
  exact fold_2_bad l hl hb l.length 0 (by omega) (by simpa using hn)
theorem fold_2_nil : M.post_fold_2 [] = some ([], 0) := by
  rw [M.post_fold_2, if_neg (by simp), M.post_fold_2_l0]; try dsimp only
  rw [if_neg (by simp), if_pos (by simp)]
theorem fold_3_bad (l : List (List Int)) (hl : l.length ≤ 4096) (hb : ∀ x ∈ l, x.length ≤ 1073741824) (k : Nat) : ∀ i : Nat, i + k = l.length → (∃ x ∈ l.drop i, ¬ Rz x) → M.post_fold_3_l0 (l, l, (l.length : Int), (i : Int)) = some ([], 2) := by
  induction k with
  | zero =>
    rintro i hi ⟨x, hx, _⟩
    rw [List.drop_eq_nil_of_le (by omega)] at hx
    cases hx
  | succ k ih =>
    rintro i hi ⟨x, hx, hn⟩
    have hlt : i < l.length := by omega
    rw [M.post_fold_3_l0]; try dsimp only
    rw [if_pos (by omega), if_pos (by omega), if_pos (by omega), gi_natL l i hlt, check_any l[i] (hb _ (List.getElem_mem hlt))]
    simp only [Option.bind_eq_bind, Option.bind_some]
    rcases chk_cases l[i] with ⟨h1, h2⟩ | ⟨h1, h2⟩
    · rw [h2, if_pos rfl, wr_i64 (by omega) (by omega), show (i : Int) + 1 = ((i + 1 : Nat) : Int) by omega]
      refine ih (i + 1) (by omega) ⟨x, ?_, hn⟩
      rw [List.drop_eq_getElem_cons hlt] at hx
      rcases List.mem_cons.1 hx with rfl | h
      · exact absurd h1 hn
      · exact h
    · rw [h2, if_neg (by decide)]
theorem fold_3_no (l : List (List Int)) (hl : l.length ≤ 4096) (hb : ∀ x ∈ l, x.length ≤ 1073741824) (hn : ∃ x ∈ l, ¬ Rz x) : M.post_fold_3 l = some ([], 2) := by
  rw [M.post_fold_3, if_neg (by omega)]
  exact fold_3_bad l hl hb l.length 0 (by omega) (by simpa using hn)
theorem fold_3_nil : M.post_fold_3 [] = some ([], 0) := by
  rw [M.post_fold_3, if_neg (by simp), M.post_fold_3_l0]; try dsimp only
  rw [if_neg (by simp), if_pos (by simp)]

/-! ### The reference -/
theorem in_l0 (xs : List Int) (n : Int) (hl : xs.length ≤ 1073741824) (k : Nat) : ∀ i : Nat, i + k = xs.length → M.tidepoleref13_in_l0 (xs, n, (i : Int)) = some (decide (n ∈ xs.drop i)) := by
  induction k with
  | zero =>
    intro i hi
    rw [M.tidepoleref13_in_l0]; try dsimp only
    rw [if_neg (by omega), List.drop_eq_nil_of_le (by omega)]
    simp
  | succ k ih =>
    intro i hi
    have hlt : i < xs.length := by omega
    rw [M.tidepoleref13_in_l0]; try dsimp only
    rw [if_pos (by omega), if_pos (by omega), gi_nat xs i hlt, List.drop_eq_getElem_cons hlt]
    split
    · rename_i h
      rw [decide_eq_true (by simp [h])]
    · rename_i h
      rw [wr_i64 (by omega) (by omega), show (i : Int) + 1 = ((i + 1 : Nat) : Int) by omega, ih (i + 1) (by omega)]
      congr 1
      rw [decide_eq_decide, List.mem_cons]
      constructor
      · exact .inr
      · rintro (h' | h')
        · exact absurd h'.symm h
        · exact h'
theorem in_eq (xs : List Int) (n : Int) (hl : xs.length ≤ 1073741824) : M.tidepoleref13_in xs n = some (decide (n ∈ xs)) := by
  rw [M.tidepoleref13_in]
  exact in_l0 xs n hl xs.length 0 (by omega)
theorem all_l0 (l : List (List Int)) (hl : l.length ≤ 4096) (hb : ∀ x ∈ l, x.length ≤ 1073741824) (k : Nat) : ∀ i : Nat, i + k = l.length → M.tidepoleref13_all_l0 (l, (i : Int)) = some (if ∀ x ∈ l.drop i, Rz x then 0 else 2) := by
  induction k with
  | zero =>
    intro i hi
    rw [M.tidepoleref13_all_l0]; try dsimp only
    rw [if_neg (by omega), List.drop_eq_nil_of_le (by omega)]
    simp
  | succ k ih =>
    intro i hi
    have hlt : i < l.length := by omega
    rw [M.tidepoleref13_all_l0]; try dsimp only
    rw [if_pos (by omega), if_pos (by omega), gi_natL l i hlt, rcheck_any l[i] (hb _ (List.getElem_mem hlt)), List.drop_eq_getElem_cons hlt]
    simp only [Option.bind_eq_bind, Option.bind_some, List.mem_cons, forall_eq_or_imp]
    rcases chk_cases l[i] with ⟨h1, h2⟩ | ⟨h1, h2⟩
    · rw [h2, if_pos rfl, wr_i64 (by omega) (by omega), show (i : Int) + 1 = ((i + 1 : Nat) : Int) by omega, ih (i + 1) (by omega)]
      simp only [h1, true_and]
    · rw [h2, if_neg (by decide)]
      simp only [h1, false_and, if_false]
theorem all_eq (l : List (List Int)) (hl : l.length ≤ 4096) (hb : ∀ x ∈ l, x.length ≤ 1073741824) : M.tidepoleref13_all l = some (if ∀ x ∈ l, Rz x then 0 else 2) := by
  rw [M.tidepoleref13_all, if_neg (by omega)]
  exact all_l0 l hl hb l.length 0 (by omega)

/-- What And of the reference keeps. -/
def inAll (l : List (List Int)) (v : Int) : Bool := l.all fun x => decide (v ∈ x)
theorem rand_l2 (l : List (List Int)) (acc : List Int) (hl : l.length ≤ 4096) (hb : ∀ x ∈ l, x.length ≤ 1073741824) (h0 : 0 < l.length) (i : Nat) (hi : i < (gi l 0).length) (hacc : acc.length + 1 ≤ 1073741824)
    (k : Nat) : ∀ (j : Nat) (b : Bool), j + k = l.length → M.tidepoleref13_And_l2 (l, acc, (i : Int), b, (j : Int)) = M.tidepoleref13_And_l4 (l, acc ++ (if b && inAll (l.drop j) (gi (gi l 0) i) then [gi (gi l 0) i] else []), (i : Int)) := by
  induction k with
  | zero =>
    intro j b hj
    rw [M.tidepoleref13_And_l2]; try dsimp only
    rw [if_neg (by omega), List.drop_eq_nil_of_le (by omega)]
    cases b
    · simp
    · rw [if_pos rfl, if_pos (by omega), if_pos (by omega), if_pos (by omega), if_pos (by simp; omega)]
      simp [inAll]
  | succ k ih =>
    intro j b hj
    have hlt : j < l.length := by omega
    rw [M.tidepoleref13_And_l2]; try dsimp only
    rw [if_pos (by omega), List.drop_eq_getElem_cons hlt]
    cases b
    · rw [if_neg (by decide), M.tidepoleref13_And_l3]; try dsimp only
      rw [wr_i64 (by omega) (by omega), show (j : Int) + 1 = ((j + 1 : Nat) : Int) by omega, ih (j + 1) false (by omega)]
      simp
    · rw [if_pos rfl, if_pos (by omega), if_pos (by omega), if_pos (by omega), if_pos (by omega), gi_natL l j hlt, in_eq _ _ (hb _ (List.getElem_mem hlt))]
      simp only [Option.bind_eq_bind, Option.bind_some]
      rw [M.tidepoleref13_And_l3]; try dsimp only
      rw [wr_i64 (by omega) (by omega), show (j : Int) + 1 = ((j + 1 : Nat) : Int) by omega, ih (j + 1) _ (by omega)]
      simp only [inAll, List.all_cons, Bool.true_and]
      rfl
theorem rand_l0 (l : List (List Int)) (hl : l.length ≤ 4096) (hb : ∀ x ∈ l, x.length ≤ 1073741823) (h0 : 0 < l.length) (k : Nat) : ∀ (i : Nat) (acc : List Int), i + k = (gi l 0).length → acc.length ≤ i →
    M.tidepoleref13_And_l0 (l, acc, (i : Int)) = some (acc ++ ((gi l 0).drop i).filter (inAll (l.drop 1)), 0) := by
  have hb' : ∀ x ∈ l, x.length ≤ 1073741824 := fun x hx => by have := hb x hx; omega
  have h00 : (gi l 0).length ≤ 1073741823 := by
    have : gi l 0 = l[0] := gi_natL l 0 h0
    rw [this]; exact hb _ (List.getElem_mem h0)
  induction k with
  | zero =>
    intro i acc hi ha
    rw [M.tidepoleref13_And_l0]; try dsimp only
    rw [if_pos (by omega), if_pos (by omega), M.tidepoleref13_And_l1]; try dsimp only
    rw [decide_eq_false (by omega), if_neg (by decide), List.drop_eq_nil_of_le (show (gi l 0).length ≤ i by omega)]
    simp
  | succ k ih =>
    intro i acc hi ha
    have hlt : i < (gi l 0).length := by omega
    rw [M.tidepoleref13_And_l0]; try dsimp only
    rw [if_pos (by omega), if_pos (by omega), M.tidepoleref13_And_l1]; try dsimp only
    rw [decide_eq_true (by omega), if_pos rfl, show (1 : Int) = ((1 : Nat) : Int) from rfl, rand_l2 l acc hl hb' h0 i hlt (by omega) (l.length - 1) 1 true (by omega), M.tidepoleref13_And_l4]; try dsimp only
    rw [wr_i64 (by omega) (by omega), show (i : Int) + 1 = ((i + 1 : Nat) : Int) by omega, ih (i + 1) _ (by omega) (by split <;> simp <;> omega), List.drop_eq_getElem_cons hlt, List.filter_cons, gi_nat _ i hlt]
    cases inAll (l.drop 1) (gi l 0)[i] <;> simp
theorem rand_nil : M.tidepoleref13_And [] = some ([], 0) := by
  rw [M.tidepoleref13_And, all_eq [] (by simp) (by simp)]
  simp only [Option.bind_eq_bind, Option.bind_some, List.not_mem_nil, false_imp_iff, implies_true, if_true]
  rw [M.tidepoleref13_And_l0]; try dsimp only
  rw [if_neg (by simp), M.tidepoleref13_And_l1]; try dsimp only
  rw [if_neg (by decide)]
theorem rand_no (l : List (List Int)) (hl : l.length ≤ 4096) (hb : ∀ x ∈ l, x.length ≤ 1073741824) (hn : ∃ x ∈ l, ¬ Rz x) : M.tidepoleref13_And l = some ([], 2) := by
  rw [M.tidepoleref13_And, all_eq l hl hb, if_neg (by rintro h; obtain ⟨x, hx, h'⟩ := hn; exact h' (h x hx))]
  rfl
theorem rand_eq (hd : List Int) (tl : List (List Int)) (hl : tl.length ≤ 4095) (hb : ∀ x ∈ hd :: tl, x.length ≤ 1073741823) (hr : ∀ x ∈ hd :: tl, Rz x) : M.tidepoleref13_And (hd :: tl) = some (hd.filter (inAll tl), 0) := by
  rw [M.tidepoleref13_And, all_eq (hd :: tl) (by simp; omega) (fun x hx => by have := hb x hx; omega), if_pos hr]
  simp only [Option.bind_eq_bind, Option.bind_some, if_true]
  exact rand_l0 (hd :: tl) (by simp; omega) hb (by simp) hd.length 0 [] (by simp [gi_zero, gi]) (by simp)

/-- A number put where it belongs. -/
def ins (n : Int) : Bool → List Int → List Int
  | d, [] => if d then [] else [n]
  | d, y :: ys => (if !d && decide (y ≥ n) then [n] else []) ++ (if y = n then [] else [y]) ++ ins n (d || decide (y ≥ n)) ys
theorem len_ins (n : Int) : ∀ (d : Bool) (xs : List Int), (ins n d xs).length ≤ xs.length + (if d then 0 else 1)
  | d, [] => by cases d <;> simp [ins]
  | d, y :: ys => by
    have := len_ins n (d || decide (y ≥ n)) ys
    cases d
    · by_cases h : y ≥ n
      · by_cases h2 : y = n <;> simp [ins, h, h2] at this ⊢ <;> omega
      · by_cases h2 : y = n <;> simp [ins, h, h2] at this ⊢ <;> omega
    · by_cases h2 : y = n <;> simp [ins, h2] at this ⊢ <;> omega
theorem radd_l0 (xs : List Int) (n : Int) (hl : xs.length ≤ 1073741000) (k : Nat) : ∀ (i : Nat) (acc : List Int) (d : Bool), i + k = xs.length → acc.length ≤ i + (if d then 1 else 0) →
    M.tidepoleref13_Add_l0 (xs, n, acc, d, (i : Int)) = some (acc ++ ins n d (xs.drop i), 0) := by
  induction k with
  | zero =>
    intro i acc d hi ha
    rw [M.tidepoleref13_Add_l0]; try dsimp only
    rw [if_neg (by omega), List.drop_eq_nil_of_le (by omega)]
    cases d
    · simp only [Bool.false_eq_true, if_false, Nat.add_zero] at ha
      rw [if_neg (by decide), if_pos (by simp; omega)]
      simp [ins]
    · rw [if_pos rfl]
      simp [ins]
  | succ k ih =>
    intro i acc d hi ha
    have hlt : i < xs.length := by omega
    have key : ∀ (acc2 : List Int) (d2 : Bool), acc2.length ≤ i + (if d2 then 1 else 0) → M.tidepoleref13_Add_l2 (xs, n, acc2, d2, (i : Int)) = some (acc2 ++ (if xs[i] = n then [] else [xs[i]]) ++ ins n d2 (xs.drop (i + 1)), 0) := by
      intro acc2 d2 h2
      have h3 : acc2.length ≤ i + 1 := by split at h2 <;> omega
      rw [M.tidepoleref13_Add_l2]; try dsimp only
      rw [if_pos (by omega), if_pos (by omega), gi_nat xs i hlt]
      split
      · rw [M.tidepoleref13_Add_l3]; try dsimp only
        rw [wr_i64 (by omega) (by omega), show (i : Int) + 1 = ((i + 1 : Nat) : Int) by omega, ih (i + 1) _ _ (by omega) (by omega)]
        simp
      · rw [if_pos (by simp; omega), M.tidepoleref13_Add_l3]; try dsimp only
        rw [wr_i64 (by omega) (by omega), show (i : Int) + 1 = ((i + 1 : Nat) : Int) by omega, ih (i + 1) _ _ (by omega) (by simp; split at h2 <;> simp_all <;> omega)]
    rw [M.tidepoleref13_Add_l0]; try dsimp only
    rw [if_pos (by omega), List.drop_eq_getElem_cons hlt]
    cases d
    · simp only [Bool.false_eq_true, if_false, Nat.add_zero] at ha
      rw [if_neg (by decide), if_pos (by omega), gi_nat xs i hlt, M.tidepoleref13_Add_l1]; try dsimp only
      by_cases hge : xs[i] ≥ n
      · rw [decide_eq_true hge, if_pos rfl, if_pos (by simp; omega), key _ true (by simp; omega)]
        simp [ins, hge]
      · rw [decide_eq_false hge, if_neg (by decide), key _ false (by simp; omega)]
        simp [ins, hge]
    · rw [if_pos rfl, M.tidepoleref13_Add_l1]; try dsimp only
      rw [if_neg (by decide), key _ true ha]
      simp [ins]
theorem mem_ins (n v : Int) : ∀ (d : Bool) (xs : List Int), v ∈ ins n d xs ↔ (v ∈ xs ∧ v ≠ n) ∨ (d = false ∧ v = n)
  | d, [] => by cases d <;> simp [ins]
  | d, y :: ys => by
    have := mem_ins n v (d || decide (y ≥ n)) ys
    simp only [ins, List.mem_append, this]
    cases d <;> by_cases h : y ≥ n <;> by_cases h2 : y = n <;> by_cases h3 : v = n <;> by_cases h4 : v = y <;> simp_all
theorem rz_ins (n : Int) : ∀ (d : Bool) (xs : List Int), Rz xs → (d = true → ∀ v ∈ xs, n ≤ v) → Rz (ins n d xs)
  | d, [], _, _ => by cases d <;> simp [ins]
  | d, y :: ys, hr, hd => by
    rw [rz_cons] at hr
    have ih := rz_ins n (d || decide (y ≥ n)) ys hr.2 (by
      intro h v hv
      have h1 := hr.1 v hv
      cases d
      · simp at h; omega
      · have := hd rfl v (List.mem_cons_of_mem _ hv); exact this)
    have hm : ∀ v ∈ ins n (d || decide (y ≥ n)) ys, (v ∈ ys ∧ v ≠ n) ∨ ((d || decide (y ≥ n)) = false ∧ v = n) := fun v hv => (mem_ins n v _ ys).1 hv
    have hy : Rz ((if y = n then [] else [y]) ++ ins n (d || decide (y ≥ n)) ys) := by
      split
      · exact ih
      · rename_i hne
        refine rz_cons.2 ⟨fun v hv => ?_, ih⟩
        rcases hm v hv with ⟨h1, h2⟩ | ⟨h1, rfl⟩
        · exact hr.1 v h1
        · simp at h1; omega
    simp only [ins, List.append_assoc]
    split
    · rename_i h
      simp at h
      refine (rz_cons (x := n) (xs := (if y = n then [] else [y]) ++ ins n (d || decide (y ≥ n)) ys)).2 ⟨fun v hv => ?_, hy⟩
      rcases List.mem_append.1 hv with h1 | h1
      · split at h1
        · cases h1
        · simp at h1; omega
      · rcases hm v h1 with ⟨h2, h3⟩ | ⟨h2, rfl⟩
        · have := hr.1 v h2; omega
        · simp at h2; omega
    · exact hy
theorem radd_eq (xs : List Int) (n : Int) (hr : Rz xs) (hl : xs.length ≤ 1073741000) : M.tidepoleref13_Add xs n = some (ins n false xs, 0) := by
  rw [M.tidepoleref13_Add, rcheck_any xs (by omega), chk, if_pos hr]
  simp only [Option.bind_eq_bind, Option.bind_some, if_true]
  exact radd_l0 xs n hl xs.length 0 [] false (by omega) (by simp)
theorem radd_no (xs : List Int) (n : Int) (hr : ¬ Rz xs) (hl : xs.length ≤ 1073741000) : M.tidepoleref13_Add xs n = some ([], 2) := by
  rw [M.tidepoleref13_Add, rcheck_any xs (by omega), chk, if_neg hr]
  rfl
def insAll : List Int → List Int → List Int := fun acc xs => xs.foldl (fun a n => ins n false a) acc
theorem insAll_ok : ∀ (xs acc : List Int), Rz acc → Rz (insAll acc xs) ∧ (∀ v, v ∈ insAll acc xs ↔ v ∈ acc ∨ v ∈ xs) ∧ (insAll acc xs).length ≤ acc.length + xs.length
  | [], acc, h => ⟨h, by simp [insAll], by simp [insAll]⟩
  | x :: xs, acc, h => by
    obtain ⟨h1, h2, h3⟩ := insAll_ok xs (ins x false acc) (rz_ins x false acc h (by simp))
    refine ⟨h1, fun v => ?_, ?_⟩
    · rw [show insAll acc (x :: xs) = insAll (ins x false acc) xs from rfl, h2 v, mem_ins]
      by_cases e : v = x <;> simp [e]
    · have := len_ins x false acc
      rw [show insAll acc (x :: xs) = insAll (ins x false acc) xs from rfl]
      simp at this ⊢
      omega
theorem ror_l1 (l : List (List Int)) (hl : l.length ≤ 4096) (i : Nat) (hi : i < l.length) (hx : l[i].length ≤ 1000000000) (k : Nat) : ∀ (j : Nat) (acc : List Int), j + k = l[i].length → Rz acc → acc.length + k ≤ 1073740000 → j ≤ 1073741000 →
    M.tidepoleref13_Or_l1 (l, acc, (i : Int), (j : Int)) = M.tidepoleref13_Or_l0 (l, insAll acc (l[i].drop j), ((i + 1 : Nat) : Int)) := by
  induction k with
  | zero =>
    intro j acc hj hr hb hj2
    rw [M.tidepoleref13_Or_l1]; try dsimp only
    rw [if_pos (by omega), if_pos (by omega), gi_natL l i hi, if_neg (by omega), wr_i64 (by omega) (by omega), List.drop_eq_nil_of_le (by omega)]
    simp [insAll]
  | succ k ih =>
    intro j acc hj hr hb hj2
    have hlt : j < l[i].length := by omega
    have hlen := len_ins l[i][j] false acc
    simp at hlen
    rw [M.tidepoleref13_Or_l1]; try dsimp only
    rw [if_pos (by omega), if_pos (by omega), gi_natL l i hi, if_pos (by omega), if_pos (by omega), gi_nat _ j hlt, radd_eq acc _ hr (by omega)]
    simp only [Option.bind_eq_bind, Option.bind_some]
    rw [wr_i64 (by omega) (by omega), show (j : Int) + 1 = ((j + 1 : Nat) : Int) by omega]
    by_cases hj3 : j + 1 ≤ 1073741000
    · rw [ih (j + 1) _ (by omega) (rz_ins _ _ _ hr (by simp)) (by omega) hj3, List.drop_eq_getElem_cons hlt]
      rfl
    · omega
theorem ror_l0 (l : List (List Int)) (hl : l.length ≤ 4096) (hb : tot l ≤ 1000000000) (k : Nat) : ∀ (i : Nat) (acc : List Int), i + k = l.length → Rz acc → acc.length + tot (l.drop i) ≤ 1000000000 →
    M.tidepoleref13_Or_l0 (l, acc, (i : Int)) = some ((l.drop i).foldl insAll acc, 0) := by
  induction k with
  | zero =>
    intro i acc hi hr ha
    rw [M.tidepoleref13_Or_l0]; try dsimp only
    rw [if_neg (by omega), List.drop_eq_nil_of_le (by omega)]
    rfl
  | succ k ih =>
    intro i acc hi hr ha
    have hlt : i < l.length := by omega
    rw [List.drop_eq_getElem_cons hlt] at ha ⊢
    simp only [tot, List.map_cons, List.sum_cons] at ha
    obtain ⟨h1, h2, h3⟩ := insAll_ok l[i] acc hr
    rw [M.tidepoleref13_Or_l0]; try dsimp only
    rw [if_pos (by omega), show (0 : Int) = ((0 : Nat) : Int) from rfl, ror_l1 l hl i hlt (by omega) l[i].length 0 acc (by omega) hr (by omega) (by omega), List.drop_zero, ih (i + 1) _ (by omega) h1 (by unfold tot; omega)]
    rfl
theorem foldl_insAll : ∀ (l : List (List Int)) (acc : List Int), Rz acc → Rz (l.foldl insAll acc) ∧ ∀ v, v ∈ l.foldl insAll acc ↔ v ∈ acc ∨ ∃ x ∈ l, v ∈ x
  | [], acc, h => ⟨h, by simp⟩
  | x :: l, acc, h => by
    obtain ⟨h1, h2, _⟩ := insAll_ok x acc h
    obtain ⟨h3, h4⟩ := foldl_insAll l (insAll acc x) h1
    refine ⟨h3, fun v => ?_⟩
    rw [List.foldl_cons, h4 v, h2 v]
    simp [or_assoc]
theorem ror_eq (l : List (List Int)) (hl : l.length ≤ 4096) (hb : tot l ≤ 1000000000) (hr : ∀ x ∈ l, Rz x) : M.tidepoleref13_Or l = some (l.foldl insAll [], 0) := by
  have hbx : ∀ x ∈ l, x.length ≤ 1073741824 := fun x hx => by have := le_tot hx; omega
  rw [M.tidepoleref13_Or, all_eq l hl hbx, if_pos hr]
  simp only [Option.bind_eq_bind, Option.bind_some, if_true]
  have := ror_l0 l hl hb l.length 0 [] (by omega) List.Pairwise.nil (by simpa using hb)
  rw [List.drop_zero] at this
  exact this
theorem ror_no (l : List (List Int)) (hl : l.length ≤ 4096) (hb : ∀ x ∈ l, x.length ≤ 1073741824) (hn : ∃ x ∈ l, ¬ Rz x) : M.tidepoleref13_Or l = some ([], 2) := by
  rw [M.tidepoleref13_Or, all_eq l hl hb, if_neg (by rintro h; obtain ⟨x, hx, h'⟩ := hn; exact h' (h x hx))]
  rfl
theorem rbut_l1 (a b : List Int) (ha : a.length ≤ 1073741000) (hb : b.length ≤ 1073741000) (k : Nat) : ∀ (i : Nat) (acc : List Int), i + k = a.length → acc.length ≤ i →
    M.tidepoleref13_But_l1 (a, b, acc, (i : Int)) = some (acc ++ (a.drop i).filter (fun v => !decide (v ∈ b)), 0) := by
  induction k with
  | zero =>
    intro i acc hi hc
    rw [M.tidepoleref13_But_l1]; try dsimp only
    rw [if_neg (by omega), List.drop_eq_nil_of_le (by omega)]
    simp
  | succ k ih =>
    intro i acc hi hc
    have hlt : i < a.length := by omega
    rw [M.tidepoleref13_But_l1]; try dsimp only
    rw [if_pos (by omega), if_pos (by omega), gi_nat a i hlt, in_eq _ _ (by omega), List.drop_eq_getElem_cons hlt, List.filter_cons]
    simp only [Option.bind_eq_bind, Option.bind_some]
    by_cases h : a[i] ∈ b
    · rw [decide_eq_true h, if_pos rfl, M.tidepoleref13_But_l2]; try dsimp only
      rw [wr_i64 (by omega) (by omega), show (i : Int) + 1 = ((i + 1 : Nat) : Int) by omega, ih (i + 1) _ (by omega) (by omega)]
      simp
    · rw [decide_eq_false h, if_neg (by decide), if_pos (by simp; omega), M.tidepoleref13_But_l2]; try dsimp only
      rw [wr_i64 (by omega) (by omega), show (i : Int) + 1 = ((i + 1 : Nat) : Int) by omega, ih (i + 1) _ (by omega) (by simp; omega)]
      simp
theorem rbut_eq (a b : List Int) (ra : Rz a) (rb : Rz b) (ha : a.length ≤ 1073741000) (hb : b.length ≤ 1073741000) : M.tidepoleref13_But a b = some (a.filter (fun v => !decide (v ∈ b)), 0) := by
  rw [M.tidepoleref13_But, rcheck_any a (by omega), chk, if_pos ra]
  simp only [Option.bind_eq_bind, Option.bind_some, if_true]
  rw [rcheck_any b (by omega), chk, if_pos rb]
  simp only [Option.bind_some, M.tidepoleref13_But_l0]
  rw [if_neg (by decide)]
  exact rbut_l1 a b ha hb a.length 0 [] (by omega) (by simp)
theorem rbut_no (a b : List Int) (hn : ¬ (Rz a ∧ Rz b)) (ha : a.length ≤ 1073741000) (hb : b.length ≤ 1073741000) : M.tidepoleref13_But a b = some ([], 2) := by
  rw [M.tidepoleref13_But, rcheck_any a (by omega)]
  simp only [Option.bind_eq_bind, Option.bind_some]
  rcases chk_cases a with ⟨h1, h2⟩ | ⟨h1, h2⟩
  · rw [h2, if_pos rfl, rcheck_any b (by omega)]
    rcases chk_cases b with ⟨h3, h4⟩ | ⟨h3, h4⟩
    · exact absurd ⟨h1, h3⟩ hn
    · simp only [Option.bind_some, M.tidepoleref13_But_l0, h4]
      exact if_pos rfl
  · rw [h2, if_neg (by decide)]
    simp [M.tidepoleref13_But_l0]

/-! ### Both alike -/
theorem foldl_both : ∀ (tl : List (List Int)) (hd : List Int), Rz hd → (∀ x ∈ tl, Rz x) → Rz (tl.foldl (mg fBoth) hd) ∧ ∀ v, v ∈ tl.foldl (mg fBoth) hd ↔ v ∈ hd ∧ ∀ x ∈ tl, v ∈ x
  | [], hd, h, _ => ⟨h, by simp⟩
  | x :: tl, hd, h, hx => by
    have rx := hx x (by simp)
    obtain ⟨h1, h2⟩ := foldl_both tl (mg fBoth hd x) (rz_mg _ _ _ h rx) fun y hy => hx y (by simp [hy])
    refine ⟨h1, fun v => ?_⟩
    rw [List.foldl_cons, h2 v, mem_both h rx]
    simp [and_assoc]
theorem foldl_one : ∀ (tl : List (List Int)) (hd : List Int), Rz hd → (∀ x ∈ tl, Rz x) → Rz (tl.foldl (mg fOne) hd) ∧ ∀ v, v ∈ tl.foldl (mg fOne) hd ↔ v ∈ hd ∨ ∃ x ∈ tl, v ∈ x
  | [], hd, h, _ => ⟨h, by simp⟩
  | x :: tl, hd, h, hx => by
    have rx := hx x (by simp)
    obtain ⟨h1, h2⟩ := foldl_one tl (mg fOne hd x) (rz_mg _ _ _ h rx) fun y hy => hx y (by simp [hy])
    refine ⟨h1, fun v => ?_⟩
    rw [List.foldl_cons, h2 v, mem_one h rx]
    simp [or_assoc]
theorem and_both (l : List (List Int)) (hl : l.length ≤ 4096) (hb : tot l ≤ 1000000000) : ∃ X e, M.post_And l = some (X, e) ∧ M.tidepoleref13_And l = some (X, e) ∧ X.length ≤ tot l := by
  have hbx : ∀ x ∈ l, x.length ≤ 1073741823 := fun x hx => by have := le_tot hx; omega
  have hbx' : ∀ x ∈ l, x.length ≤ 1073741824 := fun x hx => by have := le_tot hx; omega
  by_cases hr : ∀ x ∈ l, Rz x
  · match l with
    | [] => exact ⟨[], 0, by rw [M.post_And, fold_nil]; rfl, rand_nil, by simp⟩
    | hd :: tl =>
      have rh := hr hd (by simp)
      obtain ⟨h1, h2⟩ := foldl_both tl hd rh fun x hx => hr x (by simp [hx])
      have hlt : tl.length ≤ 4095 := by simp at hl; omega
      have e : tl.foldl (mg fBoth) hd = hd.filter (inAll tl) := rz_ext h1 (rh.sublist (List.filter_sublist)) fun v => by
        rw [h2 v, List.mem_filter]; simp [inAll]
      refine ⟨hd.filter (inAll tl), 0, ?_, rand_eq hd tl hlt hbx hr, ?_⟩
      · rw [and_eq hd tl hlt hr (by omega), e]
      · have := List.length_filter_le (inAll tl) hd
        simp only [tot, List.map_cons, List.sum_cons]; omega
  · have hn : ∃ x ∈ l, ¬ Rz x := by
      false_or_by_contra
      rename_i h
      exact hr fun x hx => by
        false_or_by_contra
        rename_i h'
        exact h ⟨x, hx, h'⟩
    exact ⟨[], 2, by rw [M.post_And, fold_no l hl hbx' hn]; rfl, rand_no l hl hbx' hn, by simp⟩
theorem or_both (l : List (List Int)) (hl : l.length ≤ 4096) (hb : tot l ≤ 1000000000) : ∃ X e, M.post_Or l = some (X, e) ∧ M.tidepoleref13_Or l = some (X, e) ∧ X.length ≤ tot l := by
  have hbx' : ∀ x ∈ l, x.length ≤ 1073741824 := fun x hx => by have := le_tot hx; omega
  by_cases hr : ∀ x ∈ l, Rz x
  · match l with
    | [] => exact ⟨[], 0, by rw [M.post_Or, fold_2_nil]; rfl, ror_eq [] (by simp) (by simp [tot]) (by simp), by simp⟩
    | hd :: tl =>
      have rh := hr hd (by simp)
      obtain ⟨h1, h2⟩ := foldl_one tl hd rh fun x hx => hr x (by simp [hx])
      obtain ⟨h3, h4⟩ := foldl_insAll (hd :: tl) [] List.Pairwise.nil
      have hlt : tl.length ≤ 4095 := by simp at hl; omega
      have e : tl.foldl (mg fOne) hd = (hd :: tl).foldl insAll [] := rz_ext h1 h3 fun v => by
        rw [h2 v, h4 v]; simp
      refine ⟨_, 0, ?_, ror_eq (hd :: tl) hl hb hr, ?_⟩
      · rw [or_eq hd tl hlt hr (by omega), e]
      · have : ∀ (l : List (List Int)) (acc : List Int), Rz acc → (l.foldl insAll acc).length ≤ acc.length + tot l := by
          intro l
          induction l with
          | nil => intro acc _; simp [tot]
          | cons x l ih =>
            intro acc ha
            obtain ⟨g1, _, g3⟩ := insAll_ok x acc ha
            have := ih (insAll acc x) g1
            simp only [List.foldl_cons, tot, List.map_cons, List.sum_cons] at this ⊢
            omega
        have := this (hd :: tl) [] List.Pairwise.nil
        simpa using this
  · have hn : ∃ x ∈ l, ¬ Rz x := by
      false_or_by_contra
      rename_i h
      exact hr fun x hx => by
        false_or_by_contra
        rename_i h'
        exact h ⟨x, hx, h'⟩
    exact ⟨[], 2, by rw [M.post_Or, fold_2_no l hl hbx' hn]; rfl, ror_no l hl hbx' hn, by simp⟩
theorem but_both (a b : List Int) (ha : a.length ≤ 1000000) (hb : b.length ≤ 1000000) : ∃ X e, M.post_But a b = some (X, e) ∧ M.tidepoleref13_But a b = some (X, e) ∧ X.length ≤ a.length := by
  by_cases hr : Rz a ∧ Rz b
  · obtain ⟨ra, rb⟩ := hr
    have e : mg fFirst a b = a.filter (fun v => !decide (v ∈ b)) := rz_ext (rz_mg _ _ _ ra rb) (ra.sublist List.filter_sublist) fun v => by
      rw [mem_first ra rb, List.mem_filter]; simp
    refine ⟨_, 0, ?_, rbut_eq a b ra rb (by omega) (by omega), List.length_filter_le _ _⟩
    rw [but_eq a b ra rb (by omega), e]
  · refine ⟨[], 2, ?_, rbut_no a b hr (by omega) (by omega), by simp⟩
    rw [M.post_But, fold_3_no [a, b] (by simp) (by simp; omega) ?_]
    · rfl
    · by_cases h1 : Rz a
      · exact ⟨b, by simp, fun h2 => hr ⟨h1, h2⟩⟩
      · exact ⟨a, by simp, h1⟩
theorem add_both (a : List Int) (n : Int) (ha : a.length ≤ 1000000) : ∃ X e, M.post_Add a n = some (X, e) ∧ M.tidepoleref13_Add a n = some (X, e) ∧ X.length ≤ a.length + 1 := by
  by_cases hr : Rz a
  · have rn : Rz [n] := List.pairwise_singleton _ _
    have e : mg fOne a [n] = ins n false a := rz_ext (rz_mg _ _ _ hr rn) (rz_ins n false a hr (by simp)) fun v => by
      rw [mem_one hr rn, mem_ins]
      by_cases h : v = n <;> simp [h]
    have hlen := len_ins n false a
    simp at hlen
    refine ⟨_, 0, ?_, radd_eq a n hr (by omega), hlen⟩
    rw [M.post_Add, or_eq a [[n]] (by simp) (by simp [hr]) (by simp [tot]; omega)]
    simp only [Option.bind_eq_bind, Option.bind_some, List.foldl_cons, List.foldl_nil, e]
  · refine ⟨[], 2, ?_, radd_no a n hr (by omega), by simp⟩
    rw [M.post_Add, M.post_Or, fold_2_no [a, [n]] (by simp) (by simp; omega) ⟨a, by simp, hr⟩]
    rfl
theorem drop_both (a : List Int) (n : Int) (ha : a.length ≤ 1000000) : ∃ X e, M.post_Drop a n = some (X, e) ∧ M.tidepoleref13_Drop a n = some (X, e) ∧ X.length ≤ a.length := by
  obtain ⟨X, e, h1, h2, h3⟩ := but_both a [n] ha (by simp)
  exact ⟨X, e, by rw [M.post_Drop, h1]; rfl, by rw [M.tidepoleref13_Drop, h2]; rfl, h3⟩

/-! ### Looking for a number -/
theorem less_eq (x y : Int) : M.cmp_Less_uint64 x y = some (decide (x < y)) := by
  rw [M.cmp_Less_uint64, M.cmp_isNaN_uint64]
  simp
theorem half (lo hi : Nat) (h : lo < hi) (hb : hi ≤ 1073741824) : wr .i64 (ishr .u64 (wr .u64 (wr .i64 ((lo : Int) + (hi : Int)))) 1) = (((lo + hi) / 2 : Nat) : Int) := by
  have e1 : wr .i64 ((lo : Int) + (hi : Int)) = (lo : Int) + hi := wr_i64 (by omega) (by omega)
  rw [e1, show wr .u64 ((lo : Int) + (hi : Int)) = (lo : Int) + hi from wr_u64 (by omega) (by omega)]
  have : ishr .u64 ((lo : Int) + (hi : Int)) 1 = (((lo + hi) / 2 : Nat) : Int) := by
    show Int.fdiv _ _ = _
    have e : (2 : Int) ^ (min (Int.toNat 1) IntKind.u64.bits) = 2 := by decide
    rw [e, Int.fdiv_eq_ediv_of_nonneg _ (by omega)]
    omega
  rw [this, wr_i64 (by omega) (by omega)]
theorem search_l0 (xs : List Int) (x : Int) (hr : Rz xs) (hl : xs.length ≤ 1073741824) (k : Nat) : ∀ lo hi : Nat, lo ≤ hi → hi ≤ xs.length → hi - lo ≤ k → (∀ i (h : i < xs.length), i < lo → xs[i] < x) → (∀ i (h : i < xs.length), hi ≤ i → x ≤ xs[i]) →
    ∃ p, M.slices_BinarySearch_uint64_uint64_l0 (xs, x, (xs.length : Int), (lo : Int), (hi : Int)) = some (p, decide (x ∈ xs)) := by
  induction k with
  | zero =>
    intro lo hi h1 h2 h3 h4 h5
    have : hi = lo := by omega
    subst this
    rw [M.slices_BinarySearch_uint64_uint64_l0]; try dsimp only
    rw [if_neg (by omega)]
    by_cases hlt : hi < xs.length
    · rw [if_pos (by omega), if_pos (by omega), if_pos (by omega), gi_nat xs hi hlt]
      split
      · rename_i h
        exact ⟨_, by rw [decide_eq_true (h ▸ List.getElem_mem hlt)]⟩
      · rename_i h
        refine ⟨(hi : Int), ?_⟩
        have hn : x ∉ xs := by
          intro hm
          obtain ⟨i, hi', e⟩ := List.getElem_of_mem hm
          by_cases hc : i < hi
          · have := h4 i hi' hc; omega
          · have hne : hi ≠ i := by rintro rfl; exact h e
            have := List.pairwise_iff_getElem.1 hr hi i hlt hi' (by omega)
            have := h5 hi hlt (by omega)
            omega
        rw [M.slices_isNaN_uint64]
        simp [hn]
    · rw [if_neg (by omega)]
      refine ⟨(hi : Int), ?_⟩
      have hn : x ∉ xs := by
        intro hm
        obtain ⟨i, hi', e⟩ := List.getElem_of_mem hm
        have := h4 i hi' (by omega)
        omega
      simp [hn]
  | succ k ih =>
    intro lo hi h1 h2 h3 h4 h5
    by_cases hlt : lo < hi
    · have hm := half lo hi hlt (by omega)
      have hmid : (lo + hi) / 2 < xs.length := by omega
      rw [M.slices_BinarySearch_uint64_uint64_l0]; try dsimp only
      rw [if_pos (by omega), hm, if_pos (by omega), if_pos (by omega), gi_nat xs _ hmid, less_eq]
      simp only [Option.bind_eq_bind, Option.bind_some, decide_eq_true_eq]
      split
      · rename_i h
        rw [M.slices_BinarySearch_uint64_uint64_l1]; try dsimp only
        rw [wr_i64 (by omega) (by omega), show (((lo + hi) / 2 : Nat) : Int) + 1 = (((lo + hi) / 2 + 1 : Nat) : Int) by omega]
        refine ih _ _ (by omega) h2 (by omega) (fun i hi' hc => ?_) h5
        by_cases e : i = (lo + hi) / 2
        · subst e; exact h
        · have := List.pairwise_iff_getElem.1 hr i ((lo + hi) / 2) hi' hmid (by omega)
          omega
      · rename_i h
        rw [M.slices_BinarySearch_uint64_uint64_l1]; try dsimp only
        refine ih _ _ (by omega) (by omega) (by omega) h4 (fun i hi' hc => ?_)
        by_cases e : i = (lo + hi) / 2
        · subst e; omega
        · have := List.pairwise_iff_getElem.1 hr ((lo + hi) / 2) i hmid hi' (by omega)
          omega
    · exact ih lo hi h1 h2 (by omega) h4 h5
theorem has_both (a : List Int) (n : Int) (ha : a.length ≤ 1000000) : ∃ b e, M.post_Has a n = some (b, e) ∧ M.tidepoleref13_Has a n = some (b, e) := by
  by_cases hr : Rz a
  · obtain ⟨p, hp⟩ := search_l0 a n hr (by omega) a.length 0 a.length (by omega) (by omega) (by omega) (by intro i _ h; omega) (by intro i h h'; omega)
    refine ⟨decide (n ∈ a), 0, ?_, ?_⟩
    · rw [M.post_Has, check_any a (by omega), chk, if_pos hr]
      simp only [Option.bind_eq_bind, Option.bind_some, if_true]
      rw [M.slices_BinarySearch_uint64_uint64, show (0 : Int) = ((0 : Nat) : Int) from rfl, hp]
      rfl
    · rw [M.tidepoleref13_Has, rcheck_any a (by omega), chk, if_pos hr]
      simp only [Option.bind_eq_bind, Option.bind_some, if_true]
      rw [in_eq a n (by omega)]
      rfl
  · refine ⟨false, 2, ?_, ?_⟩
    · rw [M.post_Has, check_any a (by omega), chk, if_neg hr]; rfl
    · rw [M.tidepoleref13_Has, rcheck_any a (by omega), chk, if_neg hr]; rfl

/-! ### The law -/
theorem own_eq (x0 : List Int) (h : x0.length ≤ 1048576) : M.tidepolelaw13_own x0 = some (x0.take 60) := by
  have hm : imn (x0.length : Int) 60 = ((min 60 x0.length : Nat) : Int) := by unfold imn; split <;> omega
  have hs : sl x0 0 ((min 60 x0.length : Nat) : Int) = x0.take 60 := by
    simp only [sl, Int.toNat_natCast]
    rw [show ((0 : Int).toNat) = 0 from rfl, List.drop_zero, Nat.min_def]
    split
    · rfl
    · rw [List.take_length, List.take_of_length_le (by omega)]
  rw [M.tidepolelaw13_own, hm, if_pos (by omega), if_pos (by omega), hs, if_pos (by simp; omega)]
theorem lists_l4 (a : List Int) (n : Int) (ha : a.length ≤ 60) : M.tidepolelaw13_PostLists_l4 (a, n, false) = some true := by
  obtain ⟨X, e, h1, h2, h3⟩ := drop_both a n (by omega)
  obtain ⟨b, e', h4, h5⟩ := has_both a n (by omega)
  rw [M.tidepolelaw13_PostLists_l4]; try dsimp only
  rw [if_neg (by decide), own_eq a (by omega), List.take_of_length_le (by omega)]
  simp only [Option.bind_eq_bind, Option.bind_some, h1, h2, h4, h5]
  rw [same_self X (by omega)]
  simp only [Option.bind_some, if_true, beq_self_eq_true, works_eq]
theorem lists_l3 (a b : List Int) (n : Int) (ha : a.length ≤ 60) (hb : b.length ≤ 60) : M.tidepolelaw13_PostLists_l3 (a, b, n, false) = some true := by
  obtain ⟨X, e, h1, h2, h3⟩ := but_both a b (by omega) (by omega)
  obtain ⟨Y, e', h4, h5, h6⟩ := add_both a n (by omega)
  rw [M.tidepolelaw13_PostLists_l3]; try dsimp only
  rw [if_neg (by decide), own_eq a (by omega), own_eq b (by omega), List.take_of_length_le (show a.length ≤ 60 by omega), List.take_of_length_le (show b.length ≤ 60 by omega)]
  simp only [Option.bind_eq_bind, Option.bind_some, h1, h2, h4, h5]
  rw [same_self X (by omega)]
  simp only [Option.bind_some, if_true]
  rw [same_self Y (by omega)]
  simp only [Option.bind_some, if_true, decide_true, Bool.not_true]
  exact lists_l4 a n ha
theorem lists_end (x0 : List (List Int)) (a b : List Int) (n : Int) (m : List (List Int)) (i : Int) (hm : m.length ≤ 6) (hx : ∀ x ∈ m, x.length ≤ 60) (ha : a.length ≤ 1048576) (hb : b.length ≤ 1048576) :
    M.tidepolelaw13_PostLists_l2 (x0, a, b, n, m, i, false) = some true := by
  have ht : tot m ≤ 1000000000 := by
    have : ∀ (l : List (List Int)), (∀ x ∈ l, x.length ≤ 60) → tot l ≤ 60 * l.length := by
      intro l
      induction l with
      | nil => intro _; simp [tot]
      | cons y l ih =>
        intro h
        have h1 := h y (by simp)
        have h2 := ih fun z hz => h z (by simp [hz])
        simp only [tot, List.map_cons, List.sum_cons, List.length_cons] at h2 ⊢
        omega
    have := this m hx
    omega
  obtain ⟨X, e, h1, h2, h3⟩ := and_both m (by omega) ht
  obtain ⟨Y, e', h4, h5, h6⟩ := or_both m (by omega) ht
  have lx : (a.take 60).length ≤ 60 := by simp; omega
  have ly : (b.take 60).length ≤ 60 := by simp; omega
  rw [M.tidepolelaw13_PostLists_l2]; try dsimp only
  rw [if_neg (by decide), own_eq a ha, own_eq b hb]
  simp only [Option.bind_eq_bind, Option.bind_some, h1, h2, h4, h5]
  rw [same_self X (by omega)]
  simp only [Option.bind_some, if_true]
  rw [same_self Y (by omega)]
  simp only [Option.bind_some, if_true]
  rw [check_any _ (by omega), rcheck_any _ (by omega)]
  simp only [Option.bind_some, decide_true, Bool.not_true]
  exact lists_l3 _ _ n lx ly
theorem lists_l1 (x0 : List (List Int)) (a b : List Int) (n : Int) (h0 : x0.length ≤ 4096) (hx0 : ∀ x ∈ x0, x.length ≤ 1048576) (ha : a.length ≤ 1048576) (hb : b.length ≤ 1048576) (k : Nat) : ∀ (i : Nat) (m : List (List Int)), i + k = 6 → m.length ≤ i → (∀ x ∈ m, x.length ≤ 60) →
    M.tidepolelaw13_PostLists_l1 (x0, a, b, n, m, (i : Int)) = some true := by
  induction k with
  | zero =>
    intro i m hi hm hx
    rw [M.tidepolelaw13_PostLists_l1]; try dsimp only
    split
    · rw [decide_eq_false (by omega)]
      exact lists_end x0 a b n m i (by omega) hx ha hb
    · exact lists_end x0 a b n m i (by omega) hx ha hb
  | succ k ih =>
    intro i m hi hm hx
    rw [M.tidepolelaw13_PostLists_l1]; try dsimp only
    split
    · have hlt : i < x0.length := by omega
      rw [decide_eq_true (by omega), M.tidepolelaw13_PostLists_l2]; try dsimp only
      rw [if_pos rfl, if_pos (by omega), if_pos (by omega), gi_natL x0 i hlt, own_eq _ (hx0 _ (List.getElem_mem hlt))]
      simp only [Option.bind_eq_bind, Option.bind_some]
      rw [if_pos (by simp; omega), wr_i64 (by omega) (by omega), show (i : Int) + 1 = ((i + 1 : Nat) : Int) by omega]
      refine ih (i + 1) _ (by omega) (by simp; omega) fun x hxm => ?_
      rcases List.mem_append.1 hxm with h | h
      · exact hx x h
      · simp at h; subst h; simp; omega
    · exact lists_end x0 a b n m i (by omega) hx ha hb
theorem bk_lens (x0 : List (List Int)) : x0.length + tot x0 + 1 ≤ (bkSl (bkSl fun _ => 1)) x0 := by
  unfold bkSl
  induction x0 with
  | nil => simp [tot]
  | cons x l ih =>
    have := bk_len x
    unfold bkSl at this
    simp only [List.map_cons, List.sum_cons, tot, List.length_cons] at ih this ⊢
    omega
theorem purePostLists (x0 : List (List Int)) (x1 x2 : List Int) (x3 : Int) (o0 : (okSl (okSl (okInt .u64))) x0) (o1 : (okSl (okInt .u64)) x1) (o2 : (okSl (okInt .u64)) x2) (o3 : (okInt .u64) x3)
    (hb : (bkSl (bkSl fun _ => 1)) x0 + (bkSl fun _ => 1) x1 + (bkSl fun _ => 1) x2 + 1 ≤ 1048576) : M.tidepolelaw13_PostLists x0 x1 x2 x3 = some true := by
  have b0 := bk_lens x0
  rw [bk_len, bk_len] at hb
  rw [M.tidepolelaw13_PostLists]
  split
  · rename_i hbig
    have hlen : (sl x0 0 4097).length = 4097 := by
      simp only [sl, List.length_drop, List.length_take]
      omega
    rw [if_pos (by omega), M.post_And, M.post_fold, if_pos (by omega), M.post_Or, M.post_fold_2, if_pos (by omega)]
    simp only [Option.bind_eq_bind, Option.bind_some, if_true, works_eq, M.tidepolelaw13_PostLists_l0]
  · exact lists_l1 x0 x1 x2 x3 (by omega) (fun x hx => by have := le_tot hx; omega) (by omega) (by omega) 6 0 [] (by omega) (by simp) (by simp)
end Go.Proofs.Ytgkijdahghfldaa
