/-
  And, Or and But are those of sets.
-/
import Derived.Test.YtgkijdahghfldaaPPst
set_option linter.unusedVariables false
set_option linter.unusedSimpArgs false
namespace Go.Proofs.Ytgkijdahghfldaa
open Go.Gx

theorem rising_l0 (x0 : List Int) (ok : okSl (okInt .u64) x0) (k : Nat) : ∀ (i : Nat) (acc : List Int) (m : Int), i + k = 40 → Rz acc → (∀ v ∈ acc, v ≤ m) → 0 ≤ m → m ≤ 5 * i → acc.length ≤ i →
    ∃ ys, M.tidepolelaw13_rising_l0 (x0, acc, m, (i : Int)) = some ys ∧ Rz ys ∧ ys.length ≤ 40 := by
  induction k with
  | zero =>
    intro i acc m hi hr hm h0 h5 hl
    refine ⟨acc, ?_, hr, by omega⟩
    rw [M.tidepolelaw13_rising_l0]; try dsimp only
    have e : ∀ p : Bool, p = false → M.tidepolelaw13_rising_l1 (x0, acc, m, (i : Int), p) = some acc := by
      rintro _ rfl
      rw [M.tidepolelaw13_rising_l1]; try dsimp only
      rw [if_neg Bool.false_ne_true]
    split
    · exact e _ (decide_eq_false (by omega))
    · exact e _ rfl
  | succ k ih =>
    intro i acc m hi hr hm h0 h5 hl
    rw [M.tidepolelaw13_rising_l0]; try dsimp only
    by_cases hlt : i < x0.length
    · rw [if_pos (by omega), decide_eq_true (by omega), M.tidepolelaw13_rising_l1]; try dsimp only
      have hv := gi_ok ok (i : Int)
      have hrem : irem .u64 (gi x0 (i : Int)) 5 = gi x0 (i : Int) % 5 := by
        simp only [irem]; rw [Int.tmod_eq_emod_of_nonneg hv.1]
      have h1 : wr .u64 (1 + irem .u64 (gi x0 (i : Int)) 5) = 1 + gi x0 (i : Int) % 5 := by rw [hrem]; exact wr_u64 (by omega) (by omega)
      have h2 : wr .u64 (m + wr .u64 (1 + irem .u64 (gi x0 (i : Int)) 5)) = m + (1 + gi x0 (i : Int) % 5) := by rw [h1]; exact wr_u64 (by omega) (by omega)
      rw [if_pos rfl, if_pos (by omega), if_pos (by omega), h2, if_pos (by simp; omega), wr_i64 (by omega) (by omega), show (i : Int) + 1 = ((i + 1 : Nat) : Int) by omega]
      refine ih (i + 1) _ _ (by omega) ?_ ?_ (by omega) (by omega) (by simp; omega)
      · refine List.pairwise_append.2 ⟨hr, by simp, fun a ha b hb => ?_⟩
        simp at hb
        have := hm a ha
        omega
      · intro v hv'
        rcases List.mem_append.1 hv' with h | h
        · have := hm v h; omega
        · simp at h; omega
    · refine ⟨acc, ?_, hr, by omega⟩
      rw [if_neg (by omega), M.tidepolelaw13_rising_l1]; try dsimp only
      rw [if_neg Bool.false_ne_true]
theorem rising_eq (x0 : List Int) (ok : okSl (okInt .u64) x0) : ∃ ys, M.tidepolelaw13_rising x0 = some ys ∧ Rz ys ∧ ys.length ≤ 40 := by
  rw [M.tidepolelaw13_rising]
  exact rising_l0 x0 ok 40 0 [] 0 (by omega) List.Pairwise.nil (by simp) (by omega) (by omega) (by simp)

theorem and2 {a b : List Int} (ha : Rz a) (hb : Rz b) (la : a.length ≤ 1000) (lb : b.length ≤ 1000) : M.tidepolelaw13_and [a, b] = some (mg fBoth a b) := by
  rw [M.tidepolelaw13_and, and_eq a [b] (by simp) (by simp [ha, hb]) (by simp [tot]; omega)]; rfl
theorem and3 {a b c : List Int} (ha : Rz a) (hb : Rz b) (hc : Rz c) (la : a.length ≤ 1000) (lb : b.length ≤ 1000) (lc : c.length ≤ 1000) : M.tidepolelaw13_and [a, b, c] = some (mg fBoth (mg fBoth a b) c) := by
  rw [M.tidepolelaw13_and, and_eq a [b, c] (by simp) (by simp [ha, hb, hc]) (by simp [tot]; omega)]; rfl
theorem or2 {a b : List Int} (ha : Rz a) (hb : Rz b) (la : a.length ≤ 1000) (lb : b.length ≤ 1000) : M.tidepolelaw13_or [a, b] = some (mg fOne a b) := by
  rw [M.tidepolelaw13_or, or_eq a [b] (by simp) (by simp [ha, hb]) (by simp [tot]; omega)]; rfl
theorem or3 {a b c : List Int} (ha : Rz a) (hb : Rz b) (hc : Rz c) (la : a.length ≤ 1000) (lb : b.length ≤ 1000) (lc : c.length ≤ 1000) : M.tidepolelaw13_or [a, b, c] = some (mg fOne (mg fOne a b) c) := by
  rw [M.tidepolelaw13_or, or_eq a [b, c] (by simp) (by simp [ha, hb, hc]) (by simp [tot]; omega)]; rfl
theorem works_eq : M.tidepolelaw13_works = some true := by
  have r1 : Rz [1, 3, 5] := by decide
  have r2 : Rz [3, 4, 5] := by decide
  have e1 : mg fBoth [1, 3, 5] [3, 4, 5] = [3, 5] := by simp [mg, keep, fBoth]
  have e2 : mg fOne [1, 3, 5] [3, 4, 5] = [1, 3, 4, 5] := by simp [mg, keep, fOne]
  have e3 : mg fFirst [1, 3, 5] [3, 4, 5] = [1] := by simp [mg, keep, fFirst]
  rw [M.tidepolelaw13_works, and_eq [1, 3, 5] [[3, 4, 5]] (by simp) (by simp only [List.mem_cons, List.not_mem_nil, or_false]; rintro x (rfl | rfl); exact r1; exact r2) (by simp [tot])]
  simp only [Option.bind_eq_bind, Option.bind_some, List.foldl_cons, List.foldl_nil, e1]
  rw [or_eq [1, 3, 5] [[3, 4, 5]] (by simp) (by simp only [List.mem_cons, List.not_mem_nil, or_false]; rintro x (rfl | rfl); exact r1; exact r2) (by simp [tot])]
  simp only [Option.bind_eq_bind, Option.bind_some, List.foldl_cons, List.foldl_nil, e2]
  rw [but_eq _ _ r1 r2 (by simp)]
  simp only [Option.bind_eq_bind, Option.bind_some, e3]
  rw [same_self _ (by simp)]
  simp only [Option.bind_eq_bind, Option.bind_some, if_true]
  rw [same_self _ (by simp)]
  simp only [Option.bind_eq_bind, Option.bind_some, if_true]
  rw [same_self _ (by simp)]
  simp
theorem purePostSets (x0 x1 x2 : List Int) (o0 : (okSl (okInt .u64)) x0) (o1 : (okSl (okInt .u64)) x1) (o2 : (okSl (okInt .u64)) x2)
    (hb : (bkSl (fun _ => 1)) x0 + (bkSl (fun _ => 1)) x1 + (bkSl (fun _ => 1)) x2 ≤ 1048576) : M.tidepolelaw13_PostSets x0 x1 x2 = some true := by
  obtain ⟨A, hA, rA, lA⟩ := rising_eq x0 o0
  obtain ⟨B, hB, rB, lB⟩ := rising_eq x1 o1
  obtain ⟨C, hC, rC, lC⟩ := rising_eq x2 o2
  have rAB := rz_mg fBoth A B rA rB
  have rAC := rz_mg fBoth A C rA rC
  have rBC := rz_mg fBoth B C rB rC
  have rCA := rz_mg fBoth C A rC rA
  have sAB := rz_mg fOne A B rA rB
  have sAC := rz_mg fOne A C rA rC
  have sBC := rz_mg fOne B C rB rC
  have sCB := rz_mg fOne C B rC rB
  have dAB := rz_mg fFirst A B rA rB
  have l1 := len_mg fBoth A B
  have l2 := len_mg fBoth A C
  have l3 := len_mg fBoth B C
  have l4 := len_mg fBoth C A
  have m1 := len_mg fOne A B
  have m2 := len_mg fOne A C
  have m3 := len_mg fOne B C
  have m4 := len_mg fOne C B
  have d1 := len_mg fFirst A B
  have q1 := len_mg fBoth (mg fBoth A B) C
  have q2 := len_mg fOne (mg fOne A B) C
  have q3 := len_mg fBoth A (mg fOne B C)
  have q4 := len_mg fOne A (mg fBoth B C)
  have q5 := len_mg fOne (mg fFirst A B) (mg fBoth A B)
  have E1 : mg fBoth (mg fBoth C A) B = mg fBoth (mg fBoth A B) C := rz_ext (rz_mg _ _ _ rCA rB) (rz_mg _ _ _ rAB rC) fun v => by
    rw [mem_both rCA rB, mem_both rC rA, mem_both rAB rC, mem_both rA rB]; constructor <;> (intro h; simp_all)
  have E2 : mg fOne (mg fOne C B) A = mg fOne (mg fOne A B) C := rz_ext (rz_mg _ _ _ sCB rA) (rz_mg _ _ _ sAB rC) fun v => by
    rw [mem_one sCB rA, mem_one rC rB, mem_one sAB rC, mem_one rA rB]
    constructor
    · rintro ((h | h) | h) <;> simp [h]
    · rintro ((h | h) | h) <;> simp [h]
  have E3 : mg fOne (mg fBoth A B) (mg fBoth A C) = mg fBoth A (mg fOne B C) := rz_ext (rz_mg _ _ _ rAB rAC) (rz_mg _ _ _ rA sBC) fun v => by
    rw [mem_one rAB rAC, mem_both rA rB, mem_both rA rC, mem_both rA sBC, mem_one rB rC]
    constructor
    · rintro (⟨h, h'⟩ | ⟨h, h'⟩) <;> simp [h, h']
    · rintro ⟨h, (h' | h')⟩ <;> simp [h, h']
  have E4 : mg fBoth (mg fOne A B) (mg fOne A C) = mg fOne A (mg fBoth B C) := rz_ext (rz_mg _ _ _ sAB sAC) (rz_mg _ _ _ rA rBC) fun v => by
    rw [mem_both sAB sAC, mem_one rA rB, mem_one rA rC, mem_one rA rBC, mem_both rB rC]
    constructor
    · rintro ⟨(h | h), (h' | h')⟩ <;> simp [h, h']
    · rintro (h | ⟨h, h'⟩) <;> simp_all
  have E5 : mg fOne (mg fFirst A B) (mg fBoth A B) = A := rz_ext (rz_mg _ _ _ dAB rAB) rA fun v => by
    rw [mem_one dAB rAB, mem_first rA rB, mem_both rA rB]
    by_cases h : v ∈ B <;> simp [h]
  have E6 : mg fBoth (mg fFirst A B) B = [] := rz_ext (rz_mg _ _ _ dAB rB) List.Pairwise.nil fun v => by
    rw [mem_both dAB rB, mem_first rA rB]
    by_cases h : v ∈ B <;> simp [h]
  rw [M.tidepolelaw13_PostSets, works_eq]
  simp only [Option.bind_eq_bind, Option.bind_some, if_true, hA, hB, hC]
  rw [but_eq A B rA rB (by omega)]
  simp only [Option.bind_eq_bind, Option.bind_some]
  rw [and3 rA rB rC (by omega) (by omega) (by omega), Option.bind_some, and3 rC rA rB (by omega) (by omega) (by omega), Option.bind_some, E1, same_self _ (by omega)]
  simp only [Option.bind_eq_bind, Option.bind_some, if_true]
  rw [or3 rA rB rC (by omega) (by omega) (by omega), Option.bind_some, or3 rC rB rA (by omega) (by omega) (by omega), Option.bind_some, E2, same_self _ (by omega)]
  simp only [Option.bind_eq_bind, Option.bind_some, if_true]
  rw [or2 rB rC (by omega) (by omega), Option.bind_some, and2 rA sBC (by omega) (by omega), Option.bind_some, and2 rA rB (by omega) (by omega), Option.bind_some, and2 rA rC (by omega) (by omega), Option.bind_some, or2 rAB rAC (by omega) (by omega), Option.bind_some, E3, same_self _ (by omega)]
  simp only [Option.bind_eq_bind, Option.bind_some, if_true]
  rw [and2 rB rC (by omega) (by omega), Option.bind_some, or2 rA rBC (by omega) (by omega), Option.bind_some, or2 rA rB (by omega) (by omega), Option.bind_some, or2 rA rC (by omega) (by omega), Option.bind_some, and2 sAB sAC (by omega) (by omega), Option.bind_some, E4, same_self _ (by omega)]
  simp only [Option.bind_eq_bind, Option.bind_some, if_true]
  rw [or2 dAB rAB (by omega) (by omega), Option.bind_some, E5, same_self _ (by omega)]
  simp only [Option.bind_eq_bind, Option.bind_some, if_true]
  rw [and2 dAB rB (by omega) (by omega), Option.bind_some, E6]
  simp
end Go.Proofs.Ytgkijdahghfldaa
