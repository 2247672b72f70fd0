/-
  Any pattern's program, and how many instructions it has, is what the document says, or it is refused. Pure.
-/
import Derived.Test.YtemokppdnkiejaaDoorPMkM
import Derived.Test.YtemokppdnkiejaaDoorPMkK
set_option linter.unusedVariables false
set_option linter.unusedSimpArgs false
namespace Go.Proofs.YtemokppdnkiejaaDoor
open Go.Gx

/-! ### May a pattern be: by the document -/
theorem deep_tot (left : Nat) : left ≤ 128 → ∀ r : T27, nd r ≤ 4096 → ∃ d n : Int, M.tidepoleref10_deep (r, (left : Int)) = some (d, n) ∧
    ((Dp (left + 1) r ∧ n = (nd r : Int) ∧ 1 ≤ d ∧ d ≤ (left : Int) + 1 ∧ ∀ k : Nat, Dp k r ↔ d ≤ (k : Int)) ∨ (¬ Dp (left + 1) r ∧ d = 999 ∧ n = 9999)) := by
  induction left with
  | zero =>
    intro hl r hn
    rw [M.tidepoleref10_deep]; try dsimp only
    rw [M.tidepoleref10_deep_l0]; try dsimp only
    by_cases hL : r.L = []
    · rw [if_neg (by rw [hL]; simp), M.tidepoleref10_deep_l1]; try dsimp only
      rw [if_neg (by decide), wr_i64 (by omega) (by omega)]
      refine ⟨0 + 1, 1, rfl, .inl ⟨by simp [Dp, hL], by rw [nd_eq, hL, nds]; rfl, by omega, by omega, fun k => ?_⟩⟩
      cases k with
      | zero => simp [Dp]
      | succ k => simp only [Dp, hL, List.not_mem_nil, false_implies, implies_true, true_iff]; omega
    · have : 0 < r.L.length := List.length_pos_iff.2 hL
      rw [if_pos (by omega), decide_eq_true (by omega), M.tidepoleref10_deep_l1]; try dsimp only
      rw [if_pos rfl, if_pos (by rfl)]
      refine ⟨999, 9999, rfl, .inr ⟨?_, rfl, rfl⟩⟩
      intro h
      obtain ⟨x, hx⟩ := List.exists_mem_of_ne_nil _ hL
      exact h x hx
  | succ left ih =>
    intro hl r hn
    rw [nd_eq] at hn
    have loop : ∀ (L pre : List T27) (d : Int), r.L = pre ++ L → 0 ≤ d → d ≤ (left : Int) + 1 → (∀ k : Nat, (∀ x ∈ pre, Dp k x) ↔ d ≤ (k : Int)) →
        ∃ d' n' : Int, M.tidepoleref10_deep_l0 (((left + 1 : Nat) : Int), r, d, ((1 + nds pre : Nat) : Int), (pre.length : Int)) = some (d', n') ∧
        ((Dp (left + 2) r ∧ n' = (nd r : Int) ∧ 1 ≤ d' ∧ d' ≤ (left : Int) + 2 ∧ ∀ k : Nat, Dp k r ↔ d' ≤ (k : Int)) ∨ (¬ Dp (left + 2) r ∧ d' = 999 ∧ n' = 9999)) := by
      intro L
      induction L with
      | nil =>
        intro pre d e h0 h1 hk
        rw [List.append_nil] at e
        rw [M.tidepoleref10_deep_l0]; try dsimp only
        rw [if_neg (by rw [e]; simp), M.tidepoleref10_deep_l1]; try dsimp only
        rw [if_neg (by decide), wr_i64 (by omega) (by omega)]
        refine ⟨d + 1, _, rfl, .inl ⟨?_, by rw [nd_eq, e], by omega, by omega, fun k => ?_⟩⟩
        · show ∀ x ∈ r.L, Dp (left + 1) x
          rw [e]; exact (hk (left + 1)).2 (by omega)
        · cases k with
          | zero => simp only [Dp]; constructor
                    · exact fun h => h.elim
                    · intro h; omega
          | succ k =>
            show (∀ x ∈ r.L, Dp k x) ↔ _
            rw [e, hk k]; omega
      | cons x L ihL =>
        intro pre d e h0 h1 hk
        have hlen : r.L.length = pre.length + (L.length + 1) := by rw [e]; simp
        have hx : x ∈ r.L := by rw [e]; simp
        have hl2 := nds_len r.L
        have hnx := nd_mem hx
        have hsum : nds r.L = nds pre + (nd x + nds L) := by rw [e, nds_append, nds]
        obtain ⟨dx, nx, k1, k2⟩ := ih (by omega) x (by omega)
        rw [M.tidepoleref10_deep_l0]; try dsimp only
        rw [if_pos (by omega), decide_eq_true (by omega), M.tidepoleref10_deep_l1]; try dsimp only
        rw [if_pos rfl, if_neg (by omega), if_pos (by omega), if_pos (by omega), show gi r.L (pre.length : Int) = x by rw [e]; exact gi_mid pre x L, eta27, wr_i64 (x := ((left + 1 : Nat) : Int) - 1) (by omega) (by omega), show ((left + 1 : Nat) : Int) - 1 = (left : Int) by omega, k1, bnd]; try dsimp only
        rcases k2 with ⟨g1, rfl, g3, g4, g5⟩ | ⟨g1, rfl, rfl⟩
        · rw [wr_i64 (x := ((1 + nds pre : Nat) : Int) + _) (by omega) (by omega), if_neg (by omega)]
          have hmx : 0 ≤ imx d dx ∧ imx d dx ≤ (left : Int) + 1 := by simp only [imx]; split <;> omega
          rw [decide_eq_false (by omega), M.tidepoleref10_deep_l2]; try dsimp only
          rw [if_neg (by decide), wr_i64 (x := (pre.length : Int) + 1) (by omega) (by omega)]
          have := ihL (pre ++ [x]) (imx d dx) (by rw [e]; simp) hmx.1 hmx.2 (fun k => by
            have hh : (∀ y ∈ pre ++ [x], Dp k y) ↔ (∀ y ∈ pre, Dp k y) ∧ Dp k x := by
              constructor
              · intro h; exact ⟨fun y hy => h y (by simp [hy]), h x (by simp)⟩
              · rintro ⟨h1, h2⟩ y hy
                rcases List.mem_append.1 hy with hy | hy
                · exact h1 y hy
                · simp at hy; rw [hy]; exact h2
            rw [hh, hk k, g5 k]
            simp only [imx]
            split <;> omega)
          rw [show (((pre ++ [x]).length : Nat) : Int) = (pre.length : Int) + 1 by simp, show ((1 + nds (pre ++ [x]) : Nat) : Int) = ((1 + nds pre : Nat) : Int) + (nd x : Int) by rw [nds_append, nds, nds]; push_cast; omega] at this
          exact this
        · rw [wr_i64 (x := ((1 + nds pre : Nat) : Int) + 9999) (by omega) (by omega), if_pos (by omega), M.tidepoleref10_deep_l2]; try dsimp only
          rw [if_pos rfl]
          exact ⟨999, 9999, rfl, .inr ⟨fun h => g1 (h x hx), rfl, rfl⟩⟩
    rw [M.tidepoleref10_deep]; try dsimp only
    obtain ⟨d', n', k1, k2⟩ := loop r.L [] 0 rfl (by omega) (by omega) (fun k => by simp)
    exact ⟨d', n', k1, by rcases k2 with ⟨a, b, c, d, f⟩ | h
                          · exact .inl ⟨a, b, c, by push_cast; omega, f⟩
                          · exact .inr h⟩
theorem shape_un (r : T27) : (∃ b, M.tidepoleref10_shape r = M.tidepoleref10_shape_l1 (r, b) ∧ (b = true ↔ Shp r)) ∨ (M.tidepoleref10_shape r = some false ∧ ¬ Shp r) := by
  have e0 : M.tidepoleref10_shape r = M.tidepoleref10_shape_l0 (r, decide (r.Set = [0, 0, 0, 0]), decide (r.Min = 0 ∧ r.Max = 0)) := by
    rw [M.tidepoleref10_shape]; try dsimp only
    by_cases h : r.Min = 0
    · rw [if_pos h]; simp [h]
    · rw [if_neg h]; simp [h]
  rw [e0, M.tidepoleref10_shape_l0]; try dsimp only
  by_cases h1 : r.Kind = 1
  · rw [if_pos h1]
    left
    by_cases hL : r.L = []
    · rw [if_pos (by rw [hL]; rfl)]
      refine ⟨_, rfl, ?_⟩
      rw [decide_eq_true_eq]
      constructor
      · exact fun h => .inl ⟨h1, hL, h.1, h.2⟩
      · rintro (h | h | h)
        · exact h.2.2
        · omega
        · omega
    · have : 0 < r.L.length := List.length_pos_iff.2 hL
      rw [if_neg (by omega)]
      refine ⟨_, rfl, ?_⟩
      simp only [Bool.false_eq_true, false_iff]
      rintro (h | h | h)
      · exact hL h.2.1
      · omega
      · omega
  rw [if_neg h1]
  by_cases h23 : r.Kind = 2 ∨ r.Kind = 3
  · left
    have e1 : (if r.Kind = 2 then M.tidepoleref10_shape_l2 (r, decide (r.Set = [0, 0, 0, 0]), decide (r.Min = 0 ∧ r.Max = 0), r.Kind, true) else M.tidepoleref10_shape_l2 (r, decide (r.Set = [0, 0, 0, 0]), decide (r.Min = 0 ∧ r.Max = 0), r.Kind, decide (r.Kind = 3))) = M.tidepoleref10_shape_l2 (r, decide (r.Set = [0, 0, 0, 0]), decide (r.Min = 0 ∧ r.Max = 0), r.Kind, true) := by
      rcases h23 with h | h
      · rw [if_pos h]
      · rw [if_neg (by omega), decide_eq_true h]
    rw [e1, M.tidepoleref10_shape_l2]; try dsimp only
    rw [if_pos rfl]
    by_cases hS : r.Set = [0, 0, 0, 0]
    · rw [decide_eq_true hS, if_pos rfl]
      refine ⟨_, rfl, ?_⟩
      rw [decide_eq_true_eq]
      constructor
      · exact fun h => .inr (.inl ⟨h23, hS, h.1, h.2⟩)
      · rintro (h | h | h)
        · omega
        · exact h.2.2
        · omega
    · rw [decide_eq_false hS, if_neg (by decide)]
      refine ⟨_, rfl, ?_⟩
      simp only [Bool.false_eq_true, false_iff]
      rintro (h | h | h)
      · omega
      · exact hS h.2.1
      · omega
  rw [if_neg (by omega), show decide (r.Kind = 3) = false from decide_eq_false (by omega), M.tidepoleref10_shape_l2]; try dsimp only
  rw [if_neg Bool.false_ne_true]
  by_cases h4 : r.Kind = 4
  · rw [if_pos h4]
    left
    have ex : r.L.length = 1 ↔ ∃ x, r.L = [x] := List.length_eq_one_iff
    have key : Shp r ↔ (r.L.length = 1 ∧ r.Set = [0, 0, 0, 0] ∧ 0 ≤ r.Min ∧ r.Min ≤ 64 ∧ (r.Max = -1 ∨ (r.Min ≤ r.Max ∧ r.Max ≤ 64))) := by
      rw [ex]
      constructor
      · rintro (h | h | h)
        · omega
        · omega
        · exact ⟨h.2.1, h.2.2.1, h.2.2.2⟩
      · exact fun h => .inr (.inr ⟨h4, h.1, h.2.1, h.2.2⟩)
    have no : ¬ Shp r → ∃ b, M.tidepoleref10_shape_l1 (r, false) = M.tidepoleref10_shape_l1 (r, b) ∧ (b = true ↔ Shp r) := fun h => ⟨false, rfl, by simp [h]⟩
    by_cases a1 : r.L.length = 1
    · rw [if_pos (by omega)]
      by_cases a2 : r.Set = [0, 0, 0, 0]
      · rw [decide_eq_true a2, if_pos rfl]
        by_cases a3 : r.Min ≥ 0
        · rw [if_pos a3]
          by_cases a4 : r.Min ≤ 64
          · rw [if_pos a4]
            by_cases a5 : r.Max ≤ 64
            · rw [if_pos a5]
              by_cases a6 : r.Max = -1
              · rw [if_pos a6]
                exact ⟨true, rfl, by rw [key]; simp only [true_iff]; exact ⟨a1, a2, a3, a4, .inl a6⟩⟩
              · rw [if_neg a6]
                refine ⟨_, rfl, ?_⟩
                rw [key, decide_eq_true_eq]
                constructor
                · exact fun h => ⟨a1, a2, a3, a4, .inr ⟨h, a5⟩⟩
                · rintro ⟨_, _, _, _, h | h⟩
                  · exact absurd h a6
                  · exact h.1
            · rw [if_neg a5]
              exact no (by rw [key]; rintro ⟨_, _, _, _, h | h⟩ <;> omega)
          · rw [if_neg a4]
            exact no (by rw [key]; rintro ⟨_, _, _, h, _⟩; exact a4 h)
        · rw [if_neg a3]
          exact no (by rw [key]; rintro ⟨_, _, h, _⟩; exact a3 h)
      · rw [decide_eq_false a2, if_neg (by decide)]
        exact no (by rw [key]; rintro ⟨_, h, _⟩; exact a2 h)
    · rw [if_neg (by omega)]
      exact no (by rw [key]; rintro ⟨h, _⟩; exact a1 h)
  · right
    rw [if_neg h4]
    refine ⟨rfl, ?_⟩
    rintro (h | h | h)
    · omega
    · omega
    · omega
theorem shape_tot (d : Nat) : ∀ r : T27, Dp d r → nd r ≤ 4096 → ∃ b, M.tidepoleref10_shape r = some b ∧ (b = true ↔ Rt d r) := by
  induction d with
  | zero => intro r h; exact absurd h id
  | succ d ih =>
    intro r hd hn
    rw [nd_eq] at hn
    have loop : ∀ (L pre : List T27) (b : Bool), r.L = pre ++ L → ∃ b', M.tidepoleref10_shape_l3 (r, b, (pre.length : Int)) = some b' ∧ (b' = true ↔ b = true ∧ ∀ x ∈ L, Rt d x) := by
      intro L
      induction L with
      | nil =>
        intro pre b e
        rw [M.tidepoleref10_shape_l3]; try dsimp only
        rw [if_neg (by rw [e]; simp), M.tidepoleref10_shape_l4]; try dsimp only
        exact ⟨b, by rw [if_neg (by decide)], by simp⟩
      | cons x L ihL =>
        intro pre b e
        have hlen : r.L.length = pre.length + (L.length + 1) := by rw [e]; simp
        have hx : x ∈ r.L := by rw [e]; simp
        have hl2 := nds_len r.L
        have hnx := nd_mem hx
        rw [M.tidepoleref10_shape_l3]; try dsimp only
        rw [if_pos (by omega), M.tidepoleref10_shape_l4]; try dsimp only
        cases b with
        | false => exact ⟨false, by rw [if_neg (by decide)], by simp⟩
        | true =>
          obtain ⟨bx, g1, g2⟩ := ih x (hd x hx) (by omega)
          rw [if_pos rfl, if_pos (by omega), if_pos (by omega), show gi r.L (pre.length : Int) = x by rw [e]; exact gi_mid pre x L, eta27, g1, bnd, wr_i64 (by omega) (by omega)]
          obtain ⟨b', k1, k2⟩ := ihL (pre ++ [x]) bx (by rw [e]; simp)
          rw [show (((pre ++ [x]).length : Nat) : Int) = (pre.length : Int) + 1 by simp] at k1
          exact ⟨b', k1, by rw [k2, g2]; simp⟩
    rcases shape_un r with ⟨b, e1, e2⟩ | ⟨e1, e2⟩
    · obtain ⟨b', k1, k2⟩ := loop r.L [] b rfl
      refine ⟨b', ?_, ?_⟩
      · rw [e1, M.tidepoleref10_shape_l1]; exact k1
      · rw [k2, e2]
        exact ⟨fun h => ⟨h.1, SetQ.any _, h.2⟩, fun h => ⟨h.1, h.2.2⟩⟩
    · exact ⟨false, e1, by simp only [Bool.false_eq_true, false_iff]; exact fun h => e2 h.1⟩
theorem rcheck_tot (r : T27) (hn : nd r ≤ 4096) : M.tidepoleref10_Check r = some (@decide (Rt 128 r) (Classical.propDecidable _)) := by
  obtain ⟨d, n, k1, k2⟩ := deep_tot 128 (by omega) r hn
  have k1' : M.tidepoleref10_deep (r, 128) = some (d, n) := k1
  rw [M.tidepoleref10_Check, k1', bnd]; try dsimp only
  rcases k2 with ⟨g1, rfl, g3, g4, g5⟩ | ⟨g1, rfl, rfl⟩
  · by_cases hd : d ≤ 128
    · rw [if_pos hd, if_pos (by omega)]
      obtain ⟨b, h1, h2⟩ := shape_tot 128 r ((g5 128).2 hd) hn
      rw [h1, bnd]
      congr 1
      cases b with
      | true => exact (@decide_eq_true _ (Classical.propDecidable _) (h2.1 rfl)).symm
      | false => exact (@decide_eq_false _ (Classical.propDecidable _) (fun h => by have := h2.2 h; cases this)).symm
    · rw [if_neg hd, @decide_eq_false _ (Classical.propDecidable _) (fun h => hd ((g5 128).1 h.dp))]
  · rw [if_neg (by omega), @decide_eq_false _ (Classical.propDecidable _) (fun h => g1 (h.dp.mono (by omega)))]

/-! ### How many instructions -/
theorem mxn (x : Int) : imx 1 (imn 1048576 x) = imn 1048576 (imx 1 x) := by simp only [imn, imx]; (repeat' split) <;> omega
theorem rcount_ok (d : Nat) : ∀ r : T27, Rt d r → nd r ≤ 4096 → M.tidepoleref11_count r = some ((min 1048576 (sz r) : Nat) : Int) := by
  induction d with
  | zero => intro r h; exact absurd h id
  | succ d ih =>
    intro r hr hn
    have hs := size_ok (d + 1) r hr hn
    rw [nd_eq] at hn
    have loop : ∀ (L pre : List T27) (a : Nat), r.L = pre ++ L → M.tidepoleref11_count_l1 (r, ((min 1048576 a : Nat) : Int), (pre.length : Int)) = M.tidepoleref11_count_l1 (r, ((min 1048576 (a + szs L) : Nat) : Int), (r.L.length : Int)) := by
      intro L
      induction L with
      | nil => intro pre a e; rw [e]; simp [szs]
      | cons x L ihL =>
        intro pre a e
        have hlen : r.L.length = pre.length + (L.length + 1) := by rw [e]; simp
        have hx : x ∈ r.L := by rw [e]; simp
        have hl := nds_len r.L
        have hnx := nd_mem hx
        rw [M.tidepoleref11_count_l1]; try dsimp only
        rw [if_pos (by omega), if_pos (by omega), show gi r.L (pre.length : Int) = x by rw [e]; exact gi_mid pre x L, eta27, ih x (hr.2.2 x hx) (by omega), bnd, wr_i64 (x := (pre.length : Int) + 1) (by omega) (by omega),
          wr_i64 (x := ((min 1048576 a : Nat) : Int) + _) (by omega) (by omega)]
        have := ihL (pre ++ [x]) (a + sz x) (by rw [e]; simp)
        rw [show (((pre ++ [x]).length : Nat) : Int) = (pre.length : Int) + 1 by simp] at this
        rw [szs, show a + (sz x + szs L) = a + sz x + szs L by omega, ← this]
        have e2 : imn 1048576 (((min 1048576 a : Nat) : Int) + ((min 1048576 (sz x) : Nat) : Int)) = ((min 1048576 (a + sz x) : Nat) : Int) := by
          simp only [imn]
          split <;> omega
        rw [e2]
    have hll := nds_len r.L
    have hfin : ∀ a : Nat, M.tidepoleref11_count_l1 (r, ((min 1048576 a : Nat) : Int), (r.L.length : Int)) = some ((min 1048576 (max 1 (if r.Kind = 3 ∧ 0 < r.L.length then a + (r.L.length - 1) else a)) : Nat) : Int) := by
      intro a
      rw [M.tidepoleref11_count_l1]; try dsimp only
      rw [if_neg (by omega)]
      have l2f : M.tidepoleref11_count_l2 (r, ((min 1048576 a : Nat) : Int), false) = some ((min 1048576 (max 1 a) : Nat) : Int) := by
        rw [M.tidepoleref11_count_l2]; try dsimp only
        rw [if_neg (by decide)]
        refine congrArg some ?_
        unfold imn imx
        (repeat' split) <;> omega
      by_cases h3 : r.Kind = 3
      · rw [if_pos h3]
        by_cases hl : 0 < r.L.length
        · rw [decide_eq_true (by omega), if_pos ⟨h3, hl⟩, M.tidepoleref11_count_l2]; try dsimp only
          rw [if_pos rfl, wr_i64 (x := ((min 1048576 a : Nat) : Int) + _) (by omega) (by omega), wr_i64 (by omega) (by omega)]
          refine congrArg some ?_
          have em : ∀ x : Int, imn 1048576 (imn 1048576 x) = imn 1048576 x := fun x => by unfold imn; (repeat' split) <;> omega
          rw [em]
          generalize hq : (min 1048576 a : Nat) = q
          have : q ≤ 1048576 := by omega
          unfold imn imx
          (repeat' split) <;> omega
        · rw [decide_eq_false (by omega), if_neg (by omega)]; exact l2f
      · rw [if_neg h3, if_neg (by omega)]; exact l2f
    have hl1 := (loop r.L [] 0 rfl).trans (hfin _)
    have hl1' : M.tidepoleref11_count_l1 (r, 0, 0) = _ := hl1
    rw [M.tidepoleref11_count]; try dsimp only
    rw [sz_eq]
    by_cases h3 : r.Kind = 3
    · rw [if_neg (by omega), decide_eq_true h3, M.tidepoleref11_count_l0]; try dsimp only
      rw [if_pos rfl, hl1', if_pos h3]
      refine congrArg some ?_
      split <;> omega
    rw [if_neg h3]
    by_cases h2 : r.Kind = 2
    · rw [if_pos h2, if_pos h2, M.tidepoleref11_count_l0]; try dsimp only
      rw [if_pos rfl, hl1', if_neg (by omega)]
      simp
    rw [if_neg h2, if_neg h2, decide_eq_false h3, M.tidepoleref11_count_l0]; try dsimp only
    rw [if_neg (by decide)]
    by_cases h4 : r.Kind = 4
    · rw [if_pos h4]
      rw [sz_eq, if_neg h3, if_neg h2, if_pos h4, M.prog_size] at hs; try dsimp only at hs
      rw [if_neg h3, if_neg h2, if_pos h4] at hs
      rw [if_pos h4]
      rcases hr.1 with ⟨h, _⟩ | ⟨h | h, _⟩ | ⟨_, ⟨x, hL⟩, _, g0, g1, g2⟩
      · omega
      · omega
      · omega
      have hx : x ∈ r.L := by rw [hL]; simp
      have hnx := nd_mem hx
      have hg : gi r.L 0 = x := by rw [hL]; rfl
      have hp : (0 : Int) < (r.L.length : Int) := by rw [hL]; simp
      rw [if_pos hp, hg, eta27, size_ok d x (hr.2.2 x hx) (by omega), bnd] at hs
      rw [if_pos hp, hg, eta27, ih x (hr.2.2 x hx) (by omega), bnd, ← hs]
      split
      · rw [mxn]
      · rw [mxn]
    · rw [if_neg h4, if_neg h4]
      rfl
theorem cnt_c {d : Nat} {r : T27} (hr : Rt d r) (hn : nd r ≤ 4096) {a n : Nat} {c : List T48} (h : Cd r a n c) (hc : c.length ≤ 4096) : M.tidepoleref11_count r = some (c.length : Int) := by
  have := h.len
  rw [rcount_ok d r hr hn]
  congr 1
  omega

/-! ### The code -/
def sp (l : List T48) (a : Nat) (c : List T48) : List T48 := l.take a ++ (c ++ l.drop (a + c.length))
theorem sp_len {l : List T48} {a : Nat} {c : List T48} (h : a + c.length ≤ l.length) : (sp l a c).length = l.length := by simp [sp]; omega
theorem sp_nil (l : List T48) (a : Nat) : sp l a [] = l := by simp [sp]
theorem si_sp {l : List T48} {a : Nat} (x : T48) (h : a < l.length) : si l (a : Int) x = sp l a [x] := by
  simp only [si, sp, Int.toNat_natCast, List.length_singleton, List.singleton_append]
  rw [List.set_eq_take_append_cons_drop, if_pos h]
theorem sp_sp {l : List T48} {a : Nat} (c d : List T48) (h : a + c.length + d.length ≤ l.length) : sp (sp l a c) (a + c.length) d = sp l a (c ++ d) := by
  have h1 : (l.take a ++ c).length = a + c.length := by simp; omega
  have h2 : (l.take a ++ c ++ l.drop (a + c.length)).drop (a + c.length + d.length) = l.drop (a + c.length + d.length) := by
    rw [List.drop_append, h1, List.drop_eq_nil_of_le (by omega), List.nil_append, List.drop_drop]; congr 1; omega
  simp only [sp]
  rw [← List.append_assoc (l.take a), h2, List.take_append_of_le_length (by omega), List.take_of_length_le (by omega)]
  simp [Nat.add_assoc]
theorem Row.un {p : Pa} {R : List Pa} {al a n : Nat} {c : List T48} (h : Row (p :: R) al a n c) : (R = [] ∧ Pc p al a n c) ∨ (R ≠ [] ∧ ∃ c1 c2, c = c1 ++ c2 ∧ Pc p al a (a + c1.length) c1 ∧ Row R al (a + c1.length) n c2) := by
  cases h with
  | last h => exact .inl ⟨rfl, h⟩
  | cons h1 h2 => exact .inr ⟨by simp, _, _, rfl, h1, h2⟩
theorem rcode_ok (d : Nat) : ∀ r : T27, Rt d r → nd r ≤ 4096 → ∀ (a n : Nat) (c l : List T48), Cd r a n c → a + c.length ≤ l.length → l.length ≤ 2048 → n ≤ 2048 → M.tidepoleref11_code (l, r, (a : Int), (n : Int)) = some (sp l a c) := by
  induction d with
  | zero => intro r h; exact absurd h id
  | succ d ih =>
    intro r hr hn a n c l hc hal hl hn2
    rw [nd_eq] at hn
    have hcl := hc.len
    have sub : ∀ x ∈ r.L, Rt d x ∧ nd x ≤ 4096 := fun x hx => ⟨hr.2.2 x hx, by have := nd_mem hx; omega⟩
    have hll := nds_len r.L
    have four : ∀ {x : T27}, r.Kind = 4 → r.L = [x] → (0 : Int) < (r.L.length : Int) ∧ gi r.L 0 = x ∧ ∃ cx : Int, M.tidepoleref11_count x = some cx ∧ (0 ≤ r.Min ∧ r.Min ≤ 64) ∧
        ∀ (T : List Pa) (n : Nat), n ≤ 2048 → (T = [] → r.Max = r.Min) → (T ≠ [] → r.Max ≠ r.Min) → (∀ (a : Nat) (c l : List T48), Row T n a n c → a + c.length ≤ l.length → l.length ≤ 2048 → M.tidepoleref11_code_l2 ((a : Int), (n : Int), r, cx, r.Min, l) = some (sp l a c)) →
        ∀ (m i a : Nat) (c l : List T48), (i : Int) + m = r.Min → List.replicate m (Pa.of x) ++ T ≠ [] → Row (List.replicate m (Pa.of x) ++ T) n a n c → a + c.length ≤ l.length → l.length ≤ 2048 → M.tidepoleref11_code_l2 ((a : Int), (n : Int), r, cx, (i : Int), l) = some (sp l a c) := by
      intro x hk hL
      have hx : x ∈ r.L := by rw [hL]; simp
      obtain ⟨s1, s2⟩ := sub x hx
      have hg : gi r.L 0 = x := by rw [hL]; rfl
      have hp : (0 : Int) < (r.L.length : Int) := by rw [hL]; simp
      have hmin : 0 ≤ r.Min ∧ r.Min ≤ 64 := by
        rcases hr.1 with ⟨h, _⟩ | ⟨h | h, _⟩ | ⟨_, _, _, g0, g1, _⟩
        · omega
        · omega
        · omega
        · exact ⟨g0, g1⟩
      obtain ⟨cx, hcx⟩ : ∃ k : Int, M.tidepoleref11_count x = some k := ⟨_, rcount_ok d x s1 s2⟩
      have hcl' : ∀ {a n : Nat} {c : List T48}, Cd x a n c → c.length ≤ 4096 → cx = (c.length : Int) := fun h h' => by
        have := cnt_c s1 s2 h h'; rw [hcx] at this; exact Option.some.inj this
      refine ⟨hp, hg, cx, hcx, hmin, ?_⟩
      intro T n hn2 hT1 hT2 hfin m
      induction m with
      | zero =>
        intro i a c l hi _ hrow hal hl
        rw [show (i : Int) = r.Min by omega]
        exact hfin a c l hrow hal hl
      | succ m ihm =>
        intro i a c l hi _ hrow hal hl
        rw [List.replicate_succ, List.cons_append] at hrow
        have e5 : M.tidepoleref11_code_l2 ((a : Int), (n : Int), r, cx, (i : Int), l) = M.tidepoleref11_code_l9 ((a : Int), (n : Int), r, cx, (i : Int), (if (i : Int) = r.Min - 1 ∧ r.Max = r.Min then (n : Int) else wr .i64 ((a : Int) + cx)), l) := by
          rw [M.tidepoleref11_code_l2]; try dsimp only
          rw [if_pos (by omega), wr_i64 (x := r.Min - 1) (by omega) (by omega)]
          by_cases h1 : (i : Int) = r.Min - 1
          · rw [if_pos h1, M.tidepoleref11_code_l5]; try dsimp only
            by_cases h2 : r.Max = r.Min
            · rw [decide_eq_true h2, if_pos rfl, if_pos ⟨h1, h2⟩]
            · rw [decide_eq_false h2, if_neg (by decide), if_neg (fun h => h2 h.2)]
          · rw [if_neg h1, M.tidepoleref11_code_l5]; try dsimp only
            rw [if_neg (by decide), if_neg (fun h => h1 h.1)]
        rw [e5, M.tidepoleref11_code_l9]; try dsimp only
        rw [if_pos hp, hg, eta27]
        rcases hrow.un with ⟨hR, hp'⟩ | ⟨hR, c1, c2, rfl, hp', hrest⟩
        · cases hp' with
          | of hc1 =>
            obtain ⟨h1, h2⟩ := List.append_eq_nil_iff.1 hR
            have hm0 : m = 0 := by have := congrArg List.length h1; simpa using this
            have hmm := hT1 h2
            have hcc := hcl' hc1 (by omega)
            rw [if_pos ⟨by omega, hmm⟩, ih x s1 s2 a n c l hc1 hal hl hn2, bnd, hcc, wr_i64 (x := (i : Int) + 1) (by omega) (by omega), wr_i64 (x := (a : Int) + (c.length : Int)) (by omega) (by omega), M.tidepoleref11_code_l2]; try dsimp only
            rw [if_neg (by omega), if_neg (by omega), M.tidepoleref11_code_l6]; try dsimp only
            rw [M.tidepoleref11_code_l10]; try dsimp only
            rw [if_neg (by omega)]
        · cases hp' with
          | of hc1 =>
            simp only [List.length_append] at hal
            have hcc := hcl' hc1 (by omega)
            have hne : ¬ ((i : Int) = r.Min - 1 ∧ r.Max = r.Min) := by
              rintro ⟨h1, h2⟩
              have hm0 : m = 0 := by omega
              subst hm0
              exact hT2 (by simpa using hR) h2
            rw [if_neg hne, hcc, wr_i64 (x := (a : Int) + (c1.length : Int)) (by omega) (by omega), show (a : Int) + (c1.length : Int) = ((a + c1.length : Nat) : Int) by push_cast; rfl, ih x s1 s2 a (a + c1.length) c1 l hc1 (by omega) hl (by omega), bnd, wr_i64 (x := (i : Int) + 1) (by omega) (by omega)]
            have := ihm (i + 1) (a + c1.length) c2 (sp l a c1) (by omega) hR hrest (by rw [sp_len (by omega)]; omega) (by rw [sp_len (by omega)]; omega)
            rw [hcc, show ((i + 1 : Nat) : Int) = (i : Int) + 1 by push_cast; rfl] at this
            rw [this, sp_sp _ _ (by omega)]
    rw [M.tidepoleref11_code]; try dsimp only
    rcases hc.inv with ⟨hk, rfl⟩ | ⟨hk, hL, hrow⟩ | ⟨hk, hL, rfl⟩ | ⟨hk, hL, han⟩ | ⟨hk, hL, rfl⟩ | ⟨hk, hm, x, hL, hrow⟩ | ⟨hk, hm, x, hL, hrow⟩ | ⟨hk, hm, rfl⟩
    · simp only [List.length_singleton] at hal
      rw [if_pos hk, if_pos (by omega), if_pos (by omega), si_sp _ (by omega)]
    · -- one behind the other
      have hlp : 0 < r.L.length := List.length_pos_iff.2 hL
      rw [if_neg (by omega), if_pos hk, if_neg (by omega), M.tidepoleref11_code_l0]; try dsimp only
      have loop : ∀ (xs pre : List T27) (a : Nat) (c l : List T48), r.L = pre ++ xs → xs ≠ [] → Row (xs.map Pa.of) n a n c → a + c.length ≤ l.length → l.length ≤ 2048 → M.tidepoleref11_code_l3 ((a : Int), (n : Int), r, (pre.length : Int), l) = some (sp l a c) := by
        intro xs
        induction xs with
        | nil => intro pre a c l _ h; exact absurd rfl h
        | cons x xs ihx =>
          intro pre a c l e _ hrow hal hl
          have hlen : r.L.length = pre.length + (xs.length + 1) := by rw [e]; simp
          have hx : x ∈ r.L := by rw [e]; simp
          obtain ⟨s1, s2⟩ := sub x hx
          rw [M.tidepoleref11_code_l3]; try dsimp only
          rw [if_pos (by omega), if_pos (by omega), show gi r.L (pre.length : Int) = x by rw [e]; exact gi_mid pre x xs, eta27, wr_i64 (x := (r.L.length : Int) - 1) (by omega) (by omega)]
          cases xs with
          | nil =>
            cases hrow with
            | last hp =>
              cases hp with
              | of hcx =>
                rw [cnt_c s1 s2 hcx (by omega), bnd, if_pos (by simp at hlen; omega), ih x s1 s2 a n c l hcx hal hl hn2, bnd, M.tidepoleref11_code_l7]; try dsimp only
                rw [wr_i64 (x := (pre.length : Int) + 1) (by omega) (by omega), M.tidepoleref11_code_l3]; try dsimp only
                rw [if_neg (by simp at hlen; omega)]
          | cons y ys =>
            cases hrow with
            | @cons p q ps al' a' n' c1 c2 hp hrest =>
              cases hp with
              | of hcx =>
                simp only [List.length_append] at hal
                simp only [List.length_cons] at hlen
                rw [cnt_c s1 s2 hcx (by omega), bnd, if_neg (by omega), wr_i64 (x := (a : Int) + (c1.length : Int)) (by omega) (by omega), show (a : Int) + (c1.length : Int) = ((a + c1.length : Nat) : Int) by push_cast; rfl, ih x s1 s2 a (a + c1.length) c1 l hcx (by omega) hl (by omega), bnd, M.tidepoleref11_code_l7]; try dsimp only
                rw [wr_i64 (x := (pre.length : Int) + 1) (by omega) (by omega)]
                have := ihx (pre ++ [x]) (a + c1.length) c2 (sp l a c1) (by rw [e]; simp) (by simp) hrest (by rw [sp_len (by omega)]; omega) (by rw [sp_len (by omega)]; omega)
                rw [show (((pre ++ [x]).length : Nat) : Int) = (pre.length : Int) + 1 by simp] at this
                rw [this, sp_sp _ _ (by omega)]
      exact loop r.L [] a c l rfl hL hrow hal hl
    · simp only [List.length_singleton] at hal
      rw [if_neg (by omega), if_pos hk, if_pos (by rw [hL]; rfl), if_pos (by omega), if_pos (by omega), M.tidepoleref11_code_l0]; try dsimp only
      rw [M.tidepoleref11_code_l3]; try dsimp only
      rw [if_neg (by rw [hL]; simp), si_sp _ (by omega)]
      rfl
    · -- one of some
      have hlp : 0 < r.L.length := List.length_pos_iff.2 hL
      rw [if_neg (by omega), if_neg (by omega), if_pos hk, if_neg (by omega), M.tidepoleref11_code_l1]; try dsimp only
      have loop : ∀ (xs pre : List T27) (a : Nat) (c l : List T48), r.L = pre ++ xs → xs ≠ [] → An xs a n c → a + c.length ≤ l.length → l.length ≤ 2048 → M.tidepoleref11_code_l4 ((a : Int), (n : Int), r, (pre.length : Int), l) = some (sp l a c) := by
        intro xs
        induction xs with
        | nil => intro pre a c l _ h; exact absurd rfl h
        | cons x xs ihx =>
          intro pre a c l e _ hrow hal hl
          have hlen : r.L.length = pre.length + (xs.length + 1) := by rw [e]; simp
          have hx : x ∈ r.L := by rw [e]; simp
          obtain ⟨s1, s2⟩ := sub x hx
          have hgi : gi r.L (pre.length : Int) = x := by rw [e]; exact gi_mid pre x xs
          rw [M.tidepoleref11_code_l4]; try dsimp only
          rw [if_pos (by omega), wr_i64 (x := (r.L.length : Int) - 1) (by omega) (by omega)]
          cases xs with
          | nil =>
            cases hrow with
            | one hcx =>
              simp only [List.length_nil] at hlen
              rw [if_neg (by omega), M.tidepoleref11_code_l8]; try dsimp only
              rw [if_pos (by omega), if_pos (by omega), hgi, eta27, ih x s1 s2 a n c l hcx hal hl hn2, bnd, cnt_c s1 s2 hcx (by omega), bnd, wr_i64 (x := (pre.length : Int) + 1) (by omega) (by omega), M.tidepoleref11_code_l4]; try dsimp only
              rw [if_neg (by omega)]
          | cons y ys =>
            cases hrow with
            | @more x' y' ys' a' n' c1 c2 hcx hrest =>
              simp only [List.length_append, List.length_cons] at hal
              simp only [List.length_cons] at hlen
              rw [if_pos (by omega), if_pos (by omega), hgi, eta27, cnt_c s1 s2 hcx (by omega), bnd, if_pos (by omega), if_pos (by omega), wr_i64 (x := (a : Int) + 1) (by omega) (by omega), wr_i64 (x := (a : Int) + 1 + (c1.length : Int)) (by omega) (by omega), si_sp _ (by omega), bnd, M.tidepoleref11_code_l8]; try dsimp only
              rw [if_pos (by omega), if_pos (by omega), hgi, eta27, show (a : Int) + 1 = ((a + 1 : Nat) : Int) by push_cast; rfl, ih x s1 s2 (a + 1) n c1 _ hcx (by rw [sp_len (by simp; omega)]; omega) (by rw [sp_len (by simp; omega)]; omega) hn2, bnd, cnt_c s1 s2 hcx (by omega), bnd, wr_i64 (x := (pre.length : Int) + 1) (by omega) (by omega), wr_i64 (x := ((a + 1 : Nat) : Int) + (c1.length : Int)) (by omega) (by omega),
                show ((a + 1 : Nat) : Int) + (c1.length : Int) = ((a + 1 + c1.length : Nat) : Int) by push_cast; rfl]
              have e1 := sp_sp (l := l) (a := a) [(⟨2, [0, 0, 0, 0], ((a + 1 : Nat) : Int), ((a + 1 + c1.length : Nat) : Int)⟩ : T48)] c1 (by simp; omega)
              simp only [List.length_singleton, List.singleton_append] at e1
              rw [e1]
              have := ihx (pre ++ [x]) (a + 1 + c1.length) c2 (sp l a ((⟨2, [0, 0, 0, 0], ((a + 1 : Nat) : Int), ((a + 1 + c1.length : Nat) : Int)⟩ : T48) :: c1)) (by rw [e]; simp) (by simp) hrest (by rw [sp_len (by simp; omega)]; omega) (by rw [sp_len (by simp; omega)]; omega)
              rw [show (((pre ++ [x]).length : Nat) : Int) = (pre.length : Int) + 1 by simp] at this
              rw [this]
              have e2 := sp_sp (l := l) (a := a) ((⟨2, [0, 0, 0, 0], ((a + 1 : Nat) : Int), ((a + 1 + c1.length : Nat) : Int)⟩ : T48) :: c1) c2 (by simp; omega)
              rw [show a + ((⟨2, [0, 0, 0, 0], ((a + 1 : Nat) : Int), ((a + 1 + c1.length : Nat) : Int)⟩ : T48) :: c1).length = a + 1 + c1.length by simp; omega] at e2
              rw [e2]
              rfl
      exact loop r.L [] a c l rfl hL han hal hl
    · simp only [List.length_singleton] at hal
      rw [if_neg (by omega), if_neg (by omega), if_pos hk, if_pos (by rw [hL]; rfl), if_pos (by omega), if_pos (by omega), M.tidepoleref11_code_l1]; try dsimp only
      rw [M.tidepoleref11_code_l4]; try dsimp only
      rw [if_neg (by rw [hL]; simp), si_sp _ (by omega)]
      rfl
    · -- as often as one likes
      obtain ⟨hp, hg, cx, hcx, hmin, f1⟩ := four hk hL
      rw [if_neg (by omega), if_neg (by omega), if_neg (by omega), if_pos hk, if_pos hp, hg, eta27, hcx, bnd, if_neg (by omega)]
      have s := f1 [Pa.lp x] n hn2 (by simp) (fun _ => by omega) ?_ r.Min.toNat 0 a c l (by omega) (by simp) hrow hal hl
      · exact s
      intro a c l hrow hal hl
      rw [M.tidepoleref11_code_l2]; try dsimp only
      rw [if_neg (by omega), if_pos hm]
      rcases hrow.un with ⟨_, hp'⟩ | ⟨h, _⟩
      · cases hp' with
        | @lp r' al' a' n' c1 hc1 =>
          simp only [List.length_cons] at hal
          obtain ⟨s1, s2⟩ := sub x (by rw [hL]; simp)
          rw [if_pos (by omega), if_pos (by omega), wr_i64 (x := (a : Int) + 1) (by omega) (by omega), si_sp _ (by omega), bnd, if_pos hp, hg, eta27, show (a : Int) + 1 = ((a + 1 : Nat) : Int) by push_cast; rfl, ih x s1 s2 (a + 1) a c1 _ hc1 (by rw [sp_len (by simp; omega)]; omega) (by rw [sp_len (by simp; omega)]; omega) (by omega), bnd, M.tidepoleref11_code_l6]; try dsimp only
          rw [M.tidepoleref11_code_l10]; try dsimp only
          rw [if_neg (by omega)]
          have e1 := sp_sp (l := l) (a := a) [(⟨2, [0, 0, 0, 0], ((a + 1 : Nat) : Int), (n : Int)⟩ : T48)] c1 (by simp; omega)
          simp only [List.length_singleton, List.singleton_append] at e1
          rw [e1]
          rfl
      · exact absurd rfl h
    · -- as often as is told
      obtain ⟨hp, hg, cx, hcx, hmin, f1⟩ := four hk hL
      obtain ⟨s1, s2⟩ := sub x (by rw [hL]; simp)
      have hmx : r.Min ≤ r.Max ∧ r.Max ≤ 64 := by
        rcases hr.1 with ⟨h, _⟩ | ⟨h | h, _⟩ | ⟨_, _, _, g0, g1, g2 | g2⟩
        · omega
        · omega
        · omega
        · omega
        · exact g2
      have hcl' : ∀ {a n : Nat} {c : List T48}, Cd x a n c → c.length ≤ 4096 → cx = (c.length : Int) := fun h h' => by
        have := cnt_c s1 s2 h h'; rw [hcx] at this; exact Option.some.inj this
      rw [if_neg (by omega), if_neg (by omega), if_neg (by omega), if_pos hk, if_pos hp, hg, eta27, hcx, bnd, if_neg (by omega)]
      have loopK : ∀ (k : Nat) (j : Int) (a : Nat) (c l : List T48), 0 ≤ j → j + k = r.Max → 0 < k → Row (List.replicate k (Pa.ph x)) n a n c → a + c.length ≤ l.length → l.length ≤ 2048 → M.tidepoleref11_code_l10 ((a : Int), (n : Int), r, cx, j, l) = some (sp l a c) := by
        intro k
        induction k with
        | zero => intro j a c l _ _ h; omega
        | succ k ihk =>
          intro j a c l h0 hj _ hrow hal hl
          rw [List.replicate_succ] at hrow
          have e7 : M.tidepoleref11_code_l10 ((a : Int), (n : Int), r, cx, j, l) = (if 0 ≤ (a : Int) then if (a : Int) < (l.length : Int) then some (si l (a : Int) (⟨2, [0, 0, 0, 0], wr .i64 ((a : Int) + 1), (n : Int)⟩ : T48)) >>= fun v215 =>
              M.tidepoleref11_code_l11 ((a : Int), (n : Int), r, cx, j, (if j = r.Max - 1 then (n : Int) else wr .i64 (wr .i64 ((a : Int) + 1) + cx)), v215) else none else none) := by
            rw [M.tidepoleref11_code_l10]; try dsimp only
            rw [if_pos (by omega), wr_i64 (x := r.Max - 1) (by omega) (by omega)]
            by_cases h : j = r.Max - 1
            · simp only [h, if_true]
            · simp only [h, if_false]
          rw [e7]
          rcases hrow.un with ⟨hR, hp'⟩ | ⟨hR, c1, c2, rfl, hp', hrest⟩
          · cases hp' with
            | @ph r' al' a' n' c1 hc1 =>
              have hk0 : k = 0 := by cases k with
                | zero => rfl
                | succ k => simp [List.replicate_succ] at hR
              simp only [List.length_cons] at hal
              have hcc := hcl' hc1 (by omega)
              rw [if_pos (by omega), if_pos (by omega), wr_i64 (x := (a : Int) + 1) (by omega) (by omega), si_sp _ (by omega), bnd, if_pos (by omega), M.tidepoleref11_code_l11]; try dsimp only
              rw [if_pos hp, hg, eta27, wr_i64 (x := (a : Int) + 1) (by omega) (by omega), show (a : Int) + 1 = ((a + 1 : Nat) : Int) by push_cast; rfl, ih x s1 s2 (a + 1) n c1 _ hc1 (by rw [sp_len (by simp; omega)]; omega) (by rw [sp_len (by simp; omega)]; omega) hn2, bnd, M.tidepoleref11_code_l10]; try dsimp only
              rw [wr_i64 (x := j + 1) (by omega) (by omega), if_neg (by omega)]
              have e1 := sp_sp (l := l) (a := a) [(⟨2, [0, 0, 0, 0], ((a + 1 : Nat) : Int), (n : Int)⟩ : T48)] c1 (by simp; omega)
              simp only [List.length_singleton, List.singleton_append] at e1
              rw [e1]
              rfl
          · cases hp' with
            | @ph r' al' a' n' c1 hc1 =>
              have hk0 : 0 < k := by cases k with
                | zero => exact absurd rfl hR
                | succ k => omega
              simp only [List.length_append, List.length_cons] at hal
              have hcc := hcl' hc1 (by omega)
              rw [show a + ((⟨2, Z4, ((a + 1 : Nat) : Int), (n : Int)⟩ : T48) :: c1).length = a + 1 + c1.length by simp; omega] at hc1 hrest
              rw [if_pos (by omega), if_pos (by omega), wr_i64 (x := (a : Int) + 1) (by omega) (by omega), si_sp _ (by omega), bnd, if_neg (by omega), hcc, wr_i64 (x := (a : Int) + 1 + (c1.length : Int)) (by omega) (by omega), M.tidepoleref11_code_l11]; try dsimp only
              rw [if_pos hp, hg, eta27, wr_i64 (x := (a : Int) + 1) (by omega) (by omega), show (a : Int) + 1 + (c1.length : Int) = ((a + 1 + c1.length : Nat) : Int) by push_cast; rfl, show (a : Int) + 1 = ((a + 1 : Nat) : Int) by push_cast; rfl, ih x s1 s2 (a + 1) (a + 1 + c1.length) c1 _ hc1 (by rw [sp_len (by simp; omega)]; omega) (by rw [sp_len (by simp; omega)]; omega) (by omega), bnd, wr_i64 (x := (c1.length : Int) + 1) (by omega) (by omega), wr_i64 (x := (a : Int) + ((c1.length : Int) + 1)) (by omega) (by omega), wr_i64 (x := j + 1) (by omega) (by omega)]
              have e1 := sp_sp (l := l) (a := a) [(⟨2, [0, 0, 0, 0], ((a + 1 : Nat) : Int), (n : Int)⟩ : T48)] c1 (by simp; omega)
              simp only [List.length_singleton, List.singleton_append] at e1
              rw [e1]
              have := ihk (j + 1) (a + 1 + c1.length) c2 (sp l a ((⟨2, [0, 0, 0, 0], ((a + 1 : Nat) : Int), (n : Int)⟩ : T48) :: c1)) (by omega) (by omega) hk0 hrest (by rw [sp_len (by simp; omega)]; omega) (by rw [sp_len (by simp; omega)]; omega)
              rw [hcc, show ((a + 1 + c1.length : Nat) : Int) = (a : Int) + ((c1.length : Int) + 1) by push_cast; omega] at this
              rw [this]
              have e2 := sp_sp (l := l) (a := a) ((⟨2, [0, 0, 0, 0], ((a + 1 : Nat) : Int), (n : Int)⟩ : T48) :: c1) c2 (by simp; omega)
              rw [show a + ((⟨2, [0, 0, 0, 0], ((a + 1 : Nat) : Int), (n : Int)⟩ : T48) :: c1).length = a + 1 + c1.length by simp; omega] at e2
              rw [e2]
              rfl
      have hT : (List.replicate (r.Max - r.Min).toNat (Pa.ph x) = [] ↔ r.Max = r.Min) := by
        constructor
        · intro h
          have := congrArg List.length h
          simp at this; omega
        · intro h; rw [h]; simp
      have s := f1 (List.replicate (r.Max - r.Min).toNat (Pa.ph x)) n hn2 (fun h => hT.1 h) (fun h h' => h (hT.2 h')) ?_ r.Min.toNat 0 a c l (by omega) (by
        intro h
        have := congrArg List.length h
        simp at this; omega) hrow hal hl
      · exact s
      intro a c l hrow hal hl
      by_cases hk0 : r.Max = r.Min
      · rw [hT.2 hk0] at hrow; cases hrow
      · rw [M.tidepoleref11_code_l2]; try dsimp only
        rw [if_neg (by omega), if_neg (by omega), M.tidepoleref11_code_l6]; try dsimp only
        exact loopK (r.Max - r.Min).toNat r.Min a c l (by omega) (by omega) (by omega) hrow hal hl
    · obtain ⟨hp, cx, hcx⟩ : (0 : Int) < (r.L.length : Int) ∧ ∃ cx, M.tidepoleref11_count (gi r.L 0) = some cx := by
        rcases hr.1 with ⟨h, _⟩ | ⟨h | h, _⟩ | ⟨_, ⟨x, hL⟩, _⟩
        · omega
        · omega
        · omega
        · obtain ⟨s1, s2⟩ := sub x (by rw [hL]; simp)
          exact ⟨by rw [hL]; simp, _, by rw [show gi r.L 0 = x by rw [hL]; rfl]; exact rcount_ok d x s1 s2⟩
      simp only [List.length_singleton] at hal
      rw [if_neg (by omega), if_neg (by omega), if_neg (by omega), if_pos hk, if_pos hp, eta27, hcx, bnd, if_pos hm, if_pos (by omega), if_pos (by omega), si_sp _ (by omega)]
      rfl
theorem rmake3 (r : T27) (hn : nd r ≤ 4096) : (¬ (Rt 128 r ∧ nd r ≤ 4096) ∧ M.tidepoleref11_Make r = some ([], 2) ∧ M.tidepoleref11_Count r = some (0, 2)) ∨
    (Rt 128 r ∧ nd r ≤ 4096 ∧ 2048 < sz r + 1 ∧ M.tidepoleref11_Make r = some ([], 110) ∧ M.tidepoleref11_Count r = some (((min 1048576 (sz r + 1) : Nat) : Int), 0)) ∨
    (Good r ∧ ∀ c, Cd r 0 (sz r) c → M.tidepoleref11_Make r = some (c ++ [fin'], 0) ∧ M.tidepoleref11_Count r = some (((min 1048576 (sz r + 1) : Nat) : Int), 0)) := by
  have hck := rcheck_tot r hn
  by_cases hr : Rt 128 r
  · rw [@decide_eq_true _ (Classical.propDecidable _) hr] at hck
    have hc : M.tidepoleref11_Count r = some (((min 1048576 (sz r + 1) : Nat) : Int), 0) := by
      rw [M.tidepoleref11_Count, hck, bnd, if_pos rfl, rcount_ok 128 r hr hn, bnd, wr_i64 (x := ((min 1048576 (sz r) : Nat) : Int) + 1) (by omega) (by omega)]
      have e1 : imn 1048576 (((min 1048576 (sz r) : Nat) : Int) + 1) = ((min 1048576 (sz r + 1) : Nat) : Int) := by
        unfold imn
        split <;> omega
      rw [e1]
    by_cases hs : sz r + 1 ≤ 2048
    · right; right
      refine ⟨⟨hr, hn, hs⟩, fun c hcd => ⟨?_, hc⟩⟩
      have hcl := hcd.len
      have e2 : ((min 1048576 (sz r + 1) : Nat) : Int) = ((sz r + 1 : Nat) : Int) := by congr 1; omega
      rw [M.tidepoleref11_Make, hc, bnd, if_pos rfl, e2]
      rw [if_neg (show ¬ ((sz r + 1 : Nat) : Int) > 2048 by omega), if_pos (show (0 : Int) ≤ ((sz r + 1 : Nat) : Int) by omega), if_pos (show ((sz r + 1 : Nat) : Int) ≤ 1099511627776 by omega), bnd]; try dsimp only
      rw [wr_i64 (x := ((sz r + 1 : Nat) : Int) - 1) (by omega) (by omega), show ((sz r + 1 : Nat) : Int) - 1 = ((sz r : Nat) : Int) by omega, Int.toNat_natCast]
      have := rcode_ok 128 r hr hn 0 (sz r) c (List.replicate (sz r + 1) (⟨0, [0, 0, 0, 0], 0, 0⟩ : T48)) hcd (by simp; omega) (by simp; omega) (by omega)
      rw [show ((0 : Nat) : Int) = 0 from rfl] at this
      rw [this, bnd, if_pos (by omega), if_pos (by rw [List.length_replicate]; omega)]
      rw [bnd]
      have e3 : sp (List.replicate (sz r + 1) (⟨0, [0, 0, 0, 0], 0, 0⟩ : T48)) 0 c = c ++ [⟨0, [0, 0, 0, 0], 0, 0⟩] := by
        simp only [sp, List.take_zero, List.nil_append, Nat.zero_add, List.drop_replicate]
        rw [show sz r + 1 - c.length = 1 by omega]
        rfl
      rw [e3]
      have e4 : si (c ++ [(⟨0, [0, 0, 0, 0], 0, 0⟩ : T48)]) ((sz r : Nat) : Int) ⟨3, [0, 0, 0, 0], 0, 0⟩ = c ++ [fin'] := by
        simp only [si, Int.toNat_natCast]
        rw [← hcl, List.set_append_right _ _ (Nat.le_refl _)]
        simp [fin', Z4]
      rw [e4]
    · right; left
      refine ⟨hr, hn, by omega, ?_, hc⟩
      rw [M.tidepoleref11_Make, hc, bnd, if_pos rfl, if_pos (by show ((min 1048576 (sz r + 1) : Nat) : Int) > 2048; omega)]
  · rw [@decide_eq_false _ (Classical.propDecidable _) hr] at hck
    left
    have hc : M.tidepoleref11_Count r = some (0, 2) := by rw [M.tidepoleref11_Count, hck, bnd, if_neg (by decide)]
    refine ⟨fun h => hr h.1, ?_, hc⟩
    rw [M.tidepoleref11_Make, hc, bnd, if_neg (by decide)]
theorem same_l0 (l : List T48) (hl : l.length ≤ 4096) (k : Nat) : ∀ i : Nat, i + k = l.length → M.tidepolelaw11_same_l0 (l, l, (i : Int)) = some true := by
  induction k with
  | zero =>
    intro i hi
    rw [M.tidepolelaw11_same_l0]; try dsimp only
    rw [if_neg (by omega)]
  | succ k ih =>
    intro i hi
    rw [M.tidepolelaw11_same_l0]; try dsimp only
    rw [if_pos (by omega), if_pos (by omega), if_pos (by omega), if_pos rfl, wr_i64 (by omega) (by omega), show (i : Int) + 1 = ((i + 1 : Nat) : Int) by omega]
    exact ih (i + 1) (by omega)
theorem same_self (l : List T48) (hl : l.length ≤ 4096) : M.tidepolelaw11_same l l = some true := by
  rw [M.tidepolelaw11_same, if_pos rfl]
  exact same_l0 l hl l.length 0 (by omega)
theorem makes_law (x0 : T27) (hf : ∀ e, Fit e x0) : M.tidepolelaw11_ProgMakes x0 = some true := by
  obtain ⟨o, b', k1, k2, k3, k4, k5⟩ := cut_ok 130 (by omega) x0 100 hf (by omega) (by omega)
  have k1' : M.tidepolelaw11_cut (x0, 130, 100) = some (o, b') := k1
  have hs : M.tidepolelaw11_some x0 = some o := by rw [M.tidepolelaw11_some, k1', bnd]
  have hn : nd o ≤ 4096 := by omega
  rw [M.tidepolelaw11_ProgMakes, hs, bnd]
  rcases make3 o (k5 128) with ⟨h, m1, m2⟩ | ⟨h1, h2, h3, m1, m2⟩ | ⟨hg, c, hc, hcl, m1, m2⟩
  · rcases rmake3 o hn with ⟨_, r1, r2⟩ | ⟨h1, h2, _⟩ | ⟨hg, _⟩
    · rw [m1, bnd, r1, bnd, m2, bnd, r2, bnd, same_self [] (by simp), bnd, if_pos rfl, if_pos rfl, if_pos rfl, if_pos rfl, works_ok, bnd]
    · exact absurd ⟨h1, h2⟩ h
    · exact absurd ⟨hg.1, hg.2.1⟩ h
  · rcases rmake3 o hn with ⟨h, _⟩ | ⟨_, _, _, r1, r2⟩ | ⟨hg, _⟩
    · exact absurd ⟨h1, h2⟩ h
    · rw [m1, bnd, r1, bnd, m2, bnd, r2, bnd, same_self [] (by simp), bnd, if_pos rfl, if_pos rfl, if_pos rfl, if_pos rfl, works_ok, bnd]
    · have := hg.2.2; omega
  · rcases rmake3 o hn with ⟨h, _⟩ | ⟨_, _, h3, _⟩ | ⟨_, hr⟩
    · exact absurd ⟨hg.1, hg.2.1⟩ h
    · have := hg.2.2; omega
    · obtain ⟨r1, r2⟩ := hr c hc
      have := hg.2.2
      rw [m1, bnd, r1, bnd, m2, bnd, r2, bnd, same_self (c ++ [fin']) (by simp; omega), bnd, if_pos rfl, if_pos rfl, if_pos rfl, if_pos rfl, works_ok, bnd]
end Go.Proofs.YtemokppdnkiejaaDoor
