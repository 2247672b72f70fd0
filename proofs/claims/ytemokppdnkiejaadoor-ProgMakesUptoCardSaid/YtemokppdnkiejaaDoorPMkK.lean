/-
  What a law's pattern is cut to. Pure.
-/
import Derived.Test.YtemokppdnkiejaaDoorPMkM
set_option linter.unusedVariables false
set_option linter.unusedSimpArgs false
namespace Go.Proofs.YtemokppdnkiejaaDoor
open Go.Gx
theorem cut_ok (left : Nat) : left ≤ 130 → ∀ (r : T27) (b : Int), (∀ e, Fit e r) → 1 ≤ b → b ≤ 100 → ∃ (o : T27) (b' : Int), M.tidepolelaw11_cut (r, (left : Int), b) = some (o, b') ∧ 0 ≤ b' ∧ b' ≤ b - nd o ∧ Dp (left + 1) o ∧ ∀ e, Fit e o := by
  induction left with
  | zero =>
    intro hl r b hf h1 h2
    refine ⟨⟨r.Kind, r.Set, [], r.Min, r.Max⟩, b - 1, ?_, by omega, by rw [nd_eq, nds]; omega, by simp [Dp], fun e => ?_⟩
    · rw [M.tidepolelaw11_cut]; try dsimp only
      rw [wr_i64 (by omega) (by omega), M.tidepolelaw11_cut_l0]; try dsimp only
      have l1 : M.tidepolelaw11_cut_l1 (0, r, ⟨0, [0, 0, 0, 0], [], 0, 0⟩, ⟨r.Kind, r.Set, [], r.Min, r.Max⟩, 0, false, b - 1) = some (⟨r.Kind, r.Set, [], r.Min, r.Max⟩, b - 1) := by
        rw [M.tidepolelaw11_cut_l1]; try dsimp only
        rw [if_neg (by decide)]
      by_cases hL : (0 : Int) < (r.L.length : Int)
      · rw [if_pos hL, if_neg (by omega)]; exact l1
      · rw [if_neg hL]; exact l1
    · cases e with
      | zero => trivial
      | succ e => exact ⟨(hf 1).1, by simp, by simp⟩
  | succ left ih =>
    intro hl r b hf h1 h2
    have hS := (hf 1).1
    have hlen := (hf 1).2.1
    have loop : ∀ (R pre : List T27) (acc : T27) (c : Int), r.L = pre ++ R → 0 ≤ c → c + (acc.L.length : Int) ≤ 100 →
        ∃ (ys : List T27) (c' : Int), M.tidepolelaw11_cut_l0 (((left + 1 : Nat) : Int), r, ⟨0, [0, 0, 0, 0], [], 0, 0⟩, acc, (pre.length : Int), c) = some (⟨acc.Kind, acc.Set, acc.L ++ ys, acc.Min, acc.Max⟩, c') ∧ 0 ≤ c' ∧ c' ≤ c - nds ys ∧ (∀ y ∈ ys, Dp (left + 1) y) ∧ (acc.L ++ ys).length ≤ 100 ∧ ∀ e, ∀ y ∈ ys, Fit e y := by
      intro R
      induction R with
      | nil =>
        intro pre acc c e hc ha
        refine ⟨[], c, ?_, hc, by rw [nds]; omega, by simp, by simp; omega, by simp⟩
        rw [M.tidepolelaw11_cut_l0]; try dsimp only
        rw [if_neg (by rw [e]; simp), M.tidepolelaw11_cut_l1]; try dsimp only
        rw [if_neg (by decide), List.append_nil, eta27]
      | cons x R ihR =>
        intro pre acc c e hc ha
        have hl2 : r.L.length = pre.length + (R.length + 1) := by rw [e]; simp
        have hx : x ∈ r.L := by rw [e]; simp
        rw [M.tidepolelaw11_cut_l0]; try dsimp only
        rw [if_pos (by omega), if_pos (by omega)]
        by_cases hc0 : c > 0
        · rw [decide_eq_true hc0, M.tidepolelaw11_cut_l1]; try dsimp only
          obtain ⟨o, c1, k1, k2, k3, k4, k5⟩ := ih (by omega) x c (fun e' => (hf (e' + 1)).2.2 x hx) (by omega) (by omega)
          have hno := nd_pos o
          rw [if_pos rfl, if_pos (by omega), if_pos (by omega), show gi r.L (pre.length : Int) = x by rw [e]; exact gi_mid pre x R, eta27, wr_i64 (x := ((left + 1 : Nat) : Int) - 1) (by omega) (by omega), show ((left + 1 : Nat) : Int) - 1 = (left : Int) by omega, k1, bnd]; try dsimp only
          rw [if_pos (by simp; omega), wr_i64 (by omega) (by omega)]
          obtain ⟨ys, c2, g1, g2, g3, g4, g5, g6⟩ := ihR (pre ++ [x]) ⟨acc.Kind, acc.Set, acc.L ++ [o], acc.Min, acc.Max⟩ c1 (by rw [e]; simp) k2 (by simp; omega)
          rw [show (((pre ++ [x]).length : Nat) : Int) = (pre.length : Int) + 1 by simp] at g1
          refine ⟨o :: ys, c2, ?_, g2, by rw [nds]; omega, fun y hy => ?_, by simpa using g5, fun e' y hy => ?_⟩
          · rw [g1]; simp
          · rcases List.mem_cons.1 hy with rfl | hy
            · exact k4
            · exact g4 y hy
          · rcases List.mem_cons.1 hy with rfl | hy
            · exact k5 e'
            · exact g6 e' y hy
        · rw [decide_eq_false hc0, M.tidepolelaw11_cut_l1]; try dsimp only
          refine ⟨[], c, ?_, hc, by rw [nds]; omega, by simp, by simp; omega, by simp⟩
          rw [if_neg (by decide), List.append_nil, eta27]
    obtain ⟨ys, c', g1, g2, g3, g4, g5, g6⟩ := loop r.L [] ⟨r.Kind, r.Set, [], r.Min, r.Max⟩ (b - 1) rfl (by omega) (by simp; omega)
    refine ⟨⟨r.Kind, r.Set, ys, r.Min, r.Max⟩, c', ?_, g2, by rw [nd_eq]; push_cast; omega, g4, fun e => ?_⟩
    · rw [M.tidepolelaw11_cut]; try dsimp only
      rw [wr_i64 (by omega) (by omega)]
      have g1' : M.tidepolelaw11_cut_l0 (((left + 1 : Nat) : Int), r, ⟨0, [0, 0, 0, 0], [], 0, 0⟩, ⟨r.Kind, r.Set, [], r.Min, r.Max⟩, 0, b - 1) = _ := g1
      rw [g1']
      rfl
    · cases e with
      | zero => trivial
      | succ e => exact ⟨hS, by simp at g5; show ys.length ≤ _; omega, fun y hy => g6 e y hy⟩

/-- a pattern cut to size -/
theorem some_ok (r : T27) (hf : ∀ e, Fit e r) : ∃ o : T27, M.tidepolelaw11_some r = some o ∧ ∀ e, Fit e o := by
  obtain ⟨o, b', k1, k2, k3, k4, k5⟩ := cut_ok 130 (by omega) r 100 hf (by omega) (by omega)
  have k1' : M.tidepolelaw11_cut (r, 130, 100) = some (o, b') := k1
  exact ⟨o, by rw [M.tidepolelaw11_some, k1', bnd], k5⟩
end Go.Proofs.YtemokppdnkiejaaDoor
