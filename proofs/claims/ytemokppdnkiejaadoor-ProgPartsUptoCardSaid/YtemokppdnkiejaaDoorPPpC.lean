/-
  The program of two patterns, one behind the other, has theirs, one behind the other, without the first one's end. Pure.
-/
import Derived.Test.YtemokppdnkiejaaDoorPPpK
set_option linter.unusedVariables false
set_option linter.unusedSimpArgs false
namespace Go.Proofs.YtemokppdnkiejaaDoor
open Go.Gx
theorem parts_law (x0 x1 : T27) (hf : ∀ e, Fit e x0) (hg : ∀ e, Fit e x1) : M.tidepolelaw11_ProgParts x0 x1 = some true := by
  obtain ⟨a, ha, fa⟩ := some_ok x0 hf
  obtain ⟨b, hb, fb⟩ := some_ok x1 hg
  rw [M.tidepolelaw11_ProgParts, works_ok, bnd, if_pos rfl, ha, bnd, hb, bnd]
  have fs : ∀ e, Fit e ⟨2, Z4, [a, b], 0, 0⟩ := by
    intro e
    cases e with
    | zero => trivial
    | succ e =>
      refine ⟨SetQ.any _, by simp, fun x hx => ?_⟩
      simp only [List.mem_cons, List.not_mem_nil, or_false] at hx
      rcases hx with h | h
      · rw [h]; exact fa e
      · rw [h]; exact fb e
  have hsz : sz ⟨2, Z4, [a, b], 0, 0⟩ = sz a + sz b := by
    have := sz_pos a
    rw [sz_eq]
    simp only [szs]
    rw [if_neg (by simp), if_pos (by simp)]
    omega
  -- of two patterns that may be together each may be
  have sub : Good ⟨2, Z4, [a, b], 0, 0⟩ → Good a ∧ Good b := by
    rintro ⟨h1, h2, h3⟩
    have ra : Rt 127 a := h1.2.2 a (by simp)
    have rb : Rt 127 b := h1.2.2 b (by simp)
    rw [nd_eq] at h2
    simp only [nds] at h2
    have := sz_pos a
    have := sz_pos b
    exact ⟨⟨ra.mono (by omega), by omega, by omega⟩, ⟨rb.mono (by omega), by omega, by omega⟩⟩
  have made : ∀ r : T27, (∀ e, Fit e r) → (∃ e, e ≠ 0 ∧ M.prog_Make r = some ([], e) ∧ ¬ Good r) ∨ (Good r ∧ ∃ c, Cd r 0 (sz r) c ∧ c.length = sz r ∧ M.prog_Make r = some (c ++ [fin'], 0)) := fun r h => make_tot r (h 128)
  have dead : ∀ (l m n : List T48) (e : Int), e ≠ 0 → M.tidepolelaw11_ProgParts_l0 (l, m, n, e, true) = some true := by
    intro l m n e h
    rw [M.tidepolelaw11_ProgParts_l0]; try dsimp only
    rw [if_pos rfl, decide_eq_false h]
    rfl
  have seqE : M.prog_Make ⟨2, [0, 0, 0, 0], [a, b], 0, 0⟩ = M.prog_Make ⟨2, Z4, [a, b], 0, 0⟩ := rfl
  rcases made a fa with ⟨ea, ha0, ha1, ha2⟩ | ⟨ga, ca, ha1, ha2, ha3⟩
  · rcases made b fb with ⟨eb, hb0, hb1, hb2⟩ | ⟨gb, cb, hb1, hb2, hb3⟩ <;> rcases made _ fs with ⟨es, hs0, hs1, hs2⟩ | ⟨gs, cs, hs1, hs2, hs3⟩
    · rw [ha1, bnd, hb1, bnd, seqE, hs1, bnd]; try dsimp only
      rw [if_neg ha0]; exact dead _ _ _ _ hs0
    · exact absurd (sub gs).1 ha2
    · rw [ha1, bnd, hb3, bnd, seqE, hs1, bnd]; try dsimp only
      rw [if_neg ha0]; exact dead _ _ _ _ hs0
    · exact absurd (sub gs).1 ha2
  · rcases made b fb with ⟨eb, hb0, hb1, hb2⟩ | ⟨gb, cb, hb1, hb2, hb3⟩ <;> rcases made _ fs with ⟨es, hs0, hs1, hs2⟩ | ⟨gs, cs, hs1, hs2, hs3⟩
    · rw [ha3, bnd, hb1, bnd, seqE, hs1, bnd]; try dsimp only
      rw [if_pos rfl, if_neg hb0]; exact dead _ _ _ _ hs0
    · exact absurd (sub gs).2 hb2
    · rw [ha3, bnd, hb3, bnd, seqE, hs1, bnd]; try dsimp only
      rw [if_pos rfl, if_pos rfl, decide_eq_false hs0]; exact dead _ _ _ _ hs0
    · rw [ha3, bnd, hb3, bnd, seqE, hs3, bnd]; try dsimp only
      rw [if_pos rfl, if_pos rfl, decide_eq_true rfl]
      -- the whole's code is theirs
      have e : cs = ca ++ cb.map (sh (sz a)) := by
        rcases hs1.inv with k | k | k | k | k | k | k | k
        · exfalso; have := k.1; simp at this
        · have k := k.2.2
          simp only [List.map_cons, List.map_nil] at k
          cases k with
          | @cons _ _ _ _ _ _ c d h1 h2 =>
            cases h1 with
            | of h1 =>
              have l1 := h1.len
              have e1 := h1.det ca (by rw [l1, Nat.zero_add]; exact ha1)
              subst e1
              cases h2 with
              | last h2 =>
                cases h2 with
                | of h2 =>
                  have h3 := hb1.sh (sz a)
                  rw [l1, Nat.zero_add, hsz] at h2
                  rw [Nat.zero_add, Nat.add_comm] at h3
                  rw [h2.det _ h3]
        · exfalso; have := k.2.1; simp at this
        · exfalso; have := k.1; simp at this
        · exfalso; have := k.1; simp at this
        · exfalso; have := k.1; simp at this
        · exfalso; have := k.1; simp at this
        · exfalso; have := k.1; simp at this
      have za := ga.2.2
      have zb := gb.2.2
      have bri := (prog_ri gb hb1 hb2)
      rw [M.tidepolelaw11_ProgParts_l0]; try dsimp only
      have n1 : (ca ++ [fin']).length = sz a + 1 := by simp [ha2]
      have n2 : (cb ++ [fin']).length = sz b + 1 := by simp [hb2]
      have n3 : (cs ++ [fin']).length = sz a + sz b + 1 := by simp [hs2, hsz]
      rw [if_neg (by decide), wr_i64 (x := ((ca ++ [fin']).length : Int) + ((cb ++ [fin']).length : Int)) (by omega) (by omega), wr_i64 (x := ((ca ++ [fin']).length : Int) + ((cb ++ [fin']).length : Int) - 1) (by omega) (by omega), if_pos (by omega), wr_i64 (x := ((ca ++ [fin']).length : Int) - 1) (by omega) (by omega), show ((ca ++ [fin']).length : Int) - 1 = (sz a : Int) by omega]
      generalize hl : cs ++ [fin'] = l at *
      have whole : l = ca ++ (cb ++ [fin']).map (fun x => if x.Op = 3 then x else sh (sz a) x) := by
        rw [← hl, e, List.append_assoc, List.map_append]
        congr 1
        have : cb.map (sh (sz a)) = cb.map (fun x => if x.Op = 3 then x else sh (sz a) x) := List.map_congr_left fun x hx => by rw [if_neg (hb1.op x hx)]
        rw [this]
        rfl
      have loop : ∀ (k i : Nat), i + k = l.length → M.tidepolelaw11_ProgParts_l1 (ca ++ [fin'], cb ++ [fin'], l, (sz a : Int), (i : Int)) = some true := by
        intro k
        induction k with
        | zero =>
          intro i hi
          rw [M.tidepolelaw11_ProgParts_l1]; try dsimp only
          rw [if_neg (by omega)]
        | succ k ih =>
          intro i hi
          have next := ih (i + 1) (by omega)
          rw [show ((i + 1 : Nat) : Int) = (i : Int) + 1 by push_cast; rfl] at next
          have l2 : ∀ x : T48, gi l (i : Int) = x → M.tidepolelaw11_ProgParts_l2 (ca ++ [fin'], cb ++ [fin'], l, (sz a : Int), (i : Int), x) = some true := by
            intro x hx
            rw [M.tidepolelaw11_ProgParts_l2]; try dsimp only
            rw [if_pos (by omega), if_pos (by omega), hx, if_pos rfl, wr_i64 (by omega) (by omega)]
            exact next
          rw [M.tidepolelaw11_ProgParts_l1]; try dsimp only
          rw [if_pos (by omega)]
          by_cases h : i < sz a
          · have g1 : gi (ca ++ [fin']) (i : Int) = gi l (i : Int) := by
              rw [gi_nat _ _ (by omega), gi_nat _ _ (by omega)]
              simp only [whole]
              rw [List.getElem_append_left (by omega), List.getElem_append_left (by omega)]
            rw [if_pos (by omega), if_pos (by omega), if_pos (by omega), g1, eta88]
            exact l2 _ rfl
          · have hj : i - sz a < (cb ++ [fin']).length := by omega
            have g2 : gi l (i : Int) = (fun x : T48 => if x.Op = 3 then x else sh (sz a) x) (gi (cb ++ [fin']) ((i - sz a : Nat) : Int)) := by
              rw [gi_nat _ _ (by omega), gi_nat _ _ hj]
              simp only [whole]
              rw [List.getElem_append_right (by omega), List.getElem_map]
              simp only [ha2]
            have hm : gi (cb ++ [fin']) ((i - sz a : Nat) : Int) ∈ cb ++ [fin'] := gi_mem _ _ (by omega) (by omega)
            have hr := bri.2 _ hm
            rw [if_neg (by omega), wr_i64 (x := (i : Int) - (sz a : Int)) (by omega) (by omega), show (i : Int) - (sz a : Int) = ((i - sz a : Nat) : Int) by omega, if_pos (by omega), if_pos (by omega), eta88]
            generalize gi (cb ++ [fin']) ((i - sz a : Nat) : Int) = x at g2 hr
            dsimp only at g2
            have hX : 0 ≤ x.X ∧ x.X ≤ 4000 ∧ 0 ≤ x.Y ∧ x.Y ≤ 4000 := by
              rcases hr with ⟨_, h | h | h | h⟩ <;> omega
            by_cases h3 : x.Op = 3
            · rw [if_pos h3, M.tidepolelaw11_ProgParts_l3]; try dsimp only
              rw [if_neg (by omega)]
              exact l2 _ (by rw [g2, if_pos h3])
            · rw [if_neg h3] at g2 ⊢
              rw [wr_i64 (x := x.X + (sz a : Int)) (by omega) (by omega), M.tidepolelaw11_ProgParts_l3]; try dsimp only
              by_cases h2 : x.Op = 2
              · rw [if_pos h2, wr_i64 (x := x.Y + (sz a : Int)) (by omega) (by omega)]
                exact l2 _ (by rw [g2]; simp only [sh, if_pos h2])
              · rw [if_neg h2]
                exact l2 _ (by rw [g2]; simp only [sh, if_neg h2])
      exact loop l.length 0 (by omega)
end Go.Proofs.YtemokppdnkiejaaDoor
