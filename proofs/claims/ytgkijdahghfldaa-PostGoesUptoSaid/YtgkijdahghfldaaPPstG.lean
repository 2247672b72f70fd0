/-
  A list is gone through in order, as far as one likes.
-/
import Derived.Test.YtgkijdahghfldaaPPstS
set_option linter.unusedVariables false
set_option linter.unusedSimpArgs false
namespace Go.Proofs.Ytgkijdahghfldaa
open Go.Gx

theorem own_eq (x0 : List Int) (h : x0.length ≤ 1048576) : M.tidepolelaw13_own x0 = some (x0.take 60) := by
  have hm : imn (x0.length : Int) 60 = ((min 60 x0.length : Nat) : Int) := by unfold imn; split <;> omega
  have hs : sl x0 0 ((min 60 x0.length : Nat) : Int) = x0.take 60 := by
    simp only [sl, Int.toNat_natCast]
    rw [show ((0 : Int).toNat) = 0 from rfl, List.drop_zero, Nat.min_def]
    split
    · rfl
    · rw [List.take_length, List.take_of_length_le (by omega)]
  rw [M.tidepolelaw13_own, hm, if_pos (by omega), if_pos (by omega), hs, if_pos (by simp; omega)]
theorem goes_l0 (l : List Int) (hl : l.length ≤ 60) (p : Nat) (k : Nat) : ∀ i : Nat, i + k = l.length → i ≤ p → M.post_All_1_l0 (l.take i, (p : Int), l, (l.length : Int), (i : Int), l) = some (l.take (p + 1), (p : Int), l) := by
  induction k with
  | zero =>
    intro i hi hp
    rw [M.post_All_1_l0]; try dsimp only
    rw [if_neg (by omega), List.take_of_length_le (show l.length ≤ i by omega), List.take_of_length_le (show l.length ≤ p + 1 by omega)]
  | succ k ih =>
    intro i hi hp
    have hlt : i < l.length := by omega
    have ht : l.take i ++ [l[i]] = l.take (i + 1) := by rw [List.take_add_one, List.getElem?_eq_getElem hlt]; rfl
    have hlen : (l.take (i + 1)).length = i + 1 := by rw [List.length_take]; omega
    rw [M.post_All_1_l0]; try dsimp only
    rw [if_pos (by omega), if_pos (by omega), if_pos (by omega), gi_nat l i hlt, M.tidepolelaw13_PostGoes_1, ht, hlen, if_pos (by omega)]
    simp only [Option.bind_eq_bind, Option.bind_some]
    by_cases hc : i + 1 ≤ p
    · rw [decide_eq_true (by omega), if_pos rfl, wr_i64 (by omega) (by omega), show (i : Int) + 1 = ((i + 1 : Nat) : Int) by omega]
      exact ih (i + 1) (by omega) hc
    · rw [decide_eq_false (by omega), if_neg Bool.false_ne_true, show p = i by omega]
theorem goes2_l0 (l : List Int) (hl : l.length ≤ 60) (k : Nat) : ∀ i : Nat, i + k = l.length → M.post_All_1_2_l0 (l.take i, l, (l.length : Int), (i : Int), l) = some (l, l) := by
  induction k with
  | zero =>
    intro i hi
    rw [M.post_All_1_2_l0]; try dsimp only
    rw [if_neg (by omega), List.take_of_length_le (show l.length ≤ i by omega)]
  | succ k ih =>
    intro i hi
    have hlt : i < l.length := by omega
    have ht : l.take i ++ [l[i]] = l.take (i + 1) := by rw [List.take_add_one, List.getElem?_eq_getElem hlt]; rfl
    have hlen : (l.take (i + 1)).length = i + 1 := by rw [List.length_take]; omega
    rw [M.post_All_1_2_l0]; try dsimp only
    rw [if_pos (by omega), if_pos (by omega), if_pos (by omega), gi_nat l i hlt, M.tidepolelaw13_PostGoes_2, ht, hlen, if_pos (by omega)]
    simp only [Option.bind_eq_bind, Option.bind_some, if_true]
    rw [wr_i64 (by omega) (by omega), show (i : Int) + 1 = ((i + 1 : Nat) : Int) by omega]
    exact ih (i + 1) (by omega)
theorem among_eq (x : Int) (n : Nat) (hn : 1 ≤ n) (hn2 : n < 1000000) : ∃ p : Nat, M.tidepolebase_Among x (n : Int) = some (p : Int) ∧ p < n := by
  have e1 : wr .u64 ((n : Nat) : Int) = ((n : Nat) : Int) := wr_u64 (by omega) (by omega)
  have e2 : ∃ q : Nat, wr .u64 x = ((q : Nat) : Int) := by
    refine ⟨(wr .u64 x).toNat, ?_⟩
    rw [Int.toNat_of_nonneg]
    simp only [wr, IntKind.wrap, IntKind.signed, IntKind.bits]
    simp
    omega
  obtain ⟨q, hq⟩ := e2
  have hlt : q % n < n := Nat.mod_lt _ hn
  refine ⟨q % n, ?_, hlt⟩
  rw [M.tidepolebase_Among, if_neg (by omega), e1, hq, if_pos (by omega)]
  simp only [irem]
  rw [Int.tmod_eq_emod_of_nonneg (Int.natCast_nonneg _), ← Int.natCast_emod, wr_i64 (by omega) (by omega)]
theorem purePostGoes (x0 : List Int) (x1 : Int) (o0 : (okSl (okInt .u64)) x0) (o1 : (okInt .i64) x1) (hb : (bkSl (fun _ => 1)) x0 + 1 ≤ 1048576) : M.tidepolelaw13_PostGoes x0 x1 = some true := by
  rw [bk_len] at hb
  obtain ⟨p, hp, hpl⟩ := among_eq x1 70 (by omega) (by omega)
  have hp' : M.tidepolebase_Among x1 70 = some (p : Int) := hp
  have hl : (x0.take 60).length ≤ 60 := by simp; omega
  rw [M.tidepolelaw13_PostGoes, works_eq]
  simp only [Option.bind_eq_bind, Option.bind_some, if_true, own_eq x0 (by omega)]
  generalize x0.take 60 = l at hl
  rw [own_eq l (by omega), List.take_of_length_le hl]
  simp only [Option.bind_eq_bind, Option.bind_some, M.post_All, hp', M.post_All_1, M.post_All_1_2]
  have h1 := goes_l0 l hl p l.length 0 (by omega) (by omega)
  have h2 := goes2_l0 l hl l.length 0 (by omega)
  rw [List.take_zero] at h1 h2
  rw [show (0 : Int) = ((0 : Nat) : Int) from rfl, h1]
  simp only [Option.bind_eq_bind, Option.bind_some]
  rw [h2]
  simp only [Option.bind_eq_bind, Option.bind_some]
  rw [wr_i64 (by omega) (by omega)]
  have hm : imn (l.length : Int) ((p : Int) + 1) = ((min (p + 1) l.length : Nat) : Int) := by unfold imn; split <;> omega
  have hs : sl l ((0 : Nat) : Int) ((min (p + 1) l.length : Nat) : Int) = l.take (p + 1) := by
    simp only [sl, Int.toNat_natCast]
    rw [List.drop_zero, Nat.min_def]
    split
    · rfl
    · rw [List.take_length, List.take_of_length_le (by omega)]
  rw [hm, if_pos (by omega), if_pos (by omega), hs, same_self _ (by rw [List.length_take]; omega)]
  simp only [Option.bind_eq_bind, Option.bind_some, if_true]
  rw [same_self l (by omega)]
  rfl
end Go.Proofs.Ytgkijdahghfldaa
