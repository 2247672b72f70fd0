/-
  The parser's greater parts, and what it reads.
-/
import Derived.Test.YtemokppdnkiejaaPSyn
set_option linter.unusedVariables false
set_option linter.unusedSimpArgs false
namespace Go.Proofs.Ytemokppdnkiejaa
open Go.Gx

theorem seq_open (x : T27) (p : T48) (acc : List T27) : M.syntax_parser_sequence_l0 (x, acc, p) = if p.bad = none then (if p.at_ < (p.s.size : Int) then M.syntax_parser_peek p >>= fun y16 => if y16.1 = 124 then M.syntax_parser_sequence_l1 (x, acc, false, y16.2) else M.syntax_parser_peek y16.2 >>= fun y22 => M.syntax_parser_sequence_l1 (x, acc, !(decide (y22.1 = 41)), y22.2) else M.syntax_parser_sequence_l1 (x, acc, false, p)) else M.syntax_parser_sequence_l1 (x, acc, false, p) := by
  rw [M.syntax_parser_sequence_l0]; try dsimp only
  obtain ⟨s', a, d, b⟩ := p
  cases b with
  | none => rw [bnd, if_pos rfl]
  | some w => rw [bnd, if_neg (show ¬ ((⟨s', a, d, some w⟩ : T48).bad = none) by simp)]
theorem pair_ok {s : ByteArray} {p : T48} (h : Good s p) : ∃ l q, M.syntax_parser_pair p = some (l, q) ∧ Ok s p q 1 := by
  obtain ⟨t, q, e1, k1, hb0, hb1⟩ := item_ok h
  rw [M.syntax_parser_pair, e1, bnd]; dsimp only
  rw [peek_eq k1.good, bnd]; dsimp only
  by_cases h45 : pk q = 45
  · rw [if_pos h45, adv_eq k1.good]
    by_cases hs : t.single = true
    · rw [if_pos hs]
      have ha := adv_ok k1.good (by omega)
      obtain ⟨u, r, e2, k2, hc0, hc1⟩ := item_ok ha.good
      rw [e2, bnd]; dsimp only
      have hw : wr .i64 (q.at_ + 1) = q.at_ + 1 := by have g := k1.good; exact wr_i64 (by have := g.2.1; omega) (by have := g.2.2.1; have := g.2.2.2.1; omega)
      rw [hw]
      have kk := k1.trans (ha.trans k2)
      cases hbad : r.bad with
      | none =>
        rw [bnd]; try dsimp only
        rw [show (⟨r.s, r.at_, r.deep, none⟩ : T48) = r by rw [← hbad], M.syntax_parser_pair_l0]; try dsimp only
        rw [if_neg (by decide)]
        by_cases hu : u.single = true
        · rw [if_pos hu]
          by_cases hgt : t.b > u.b
          · rw [if_pos hgt, fail_eq, bnd]
            have hf := fl_ok kk.good p.at_ h.2.1 h.2.2.1 1
            exact ⟨_, _, rfl, (kk.trans hf).weak (by omega)⟩
          · obtain ⟨l, hl⟩ := span_ok t.b u.b ⟨hb0, hb1⟩ ⟨hc0, hc1⟩
            rw [if_neg hgt, hl, bnd]
            exact ⟨_, _, rfl, kk.weak (by omega)⟩
        · have hp := (k2.prog hbad).2
          have hg := k2.good
          have hq := k1.good
          have hat : (adv q).at_ = q.at_ + 1 := rfl
          rw [if_neg hu, wr_i64 (by have := hq.2.1; omega) (by have := hg.2.2.1; have := hg.2.2.2.1; omega), fail_eq, bnd]
          have hf := fl_ok kk.good (q.at_ + 1 + 1) (by have := hq.2.1; omega) (by have := hg.2.2.1; omega) 1
          exact ⟨_, _, rfl, (kk.trans hf).weak (by omega)⟩
      | some w =>
        rw [bnd]; try dsimp only
        rw [show (⟨r.s, r.at_, r.deep, some w⟩ : T48) = r by rw [← hbad], M.syntax_parser_pair_l0]; try dsimp only
        rw [if_pos rfl]
        exact ⟨_, _, rfl, kk.weak (by omega)⟩
    · rw [if_neg hs, fail_eq, bnd]
      have hf := fl_ok k1.good q.at_ k1.good.2.1 k1.good.2.2.1 1
      exact ⟨_, _, rfl, (k1.trans hf).weak (by omega)⟩
  · rw [if_neg h45]
    exact ⟨_, _, rfl, k1⟩
theorem items_l0 {s : ByteArray} (e : T27) (f : Bool) (k : Nat) : ∀ (p : T48) (first : Bool) (set : List Int), Good s p → (p.bad = none → (s.size : Int) - p.at_ < k) → ∃ l q, M.syntax_parser_items_1_l0 (first, set, p, e, f) = some (l, q) ∧ Ok s p q 0 := by
  have stop : ∀ (p : T48) (set : List Int), Good s p → ∃ l q, M.syntax_parser_items_1_l1 (false, set, p, e, f) = some (l, q) ∧ Ok s p q 0 := by
    intro p set h
    rw [M.syntax_parser_items_1_l1]; try dsimp only
    rw [if_neg (by decide)]
    exact ⟨_, _, rfl, Ok.refl h⟩
  have un : ∀ (p : T48) (first : Bool) (set : List Int), M.syntax_parser_items_1_l0 (first, set, p, e, f) = if p.bad = none then (if first = true then M.syntax_parser_items_1_l1 (true, set, p, e, f) else M.syntax_parser_take p 93 >>= fun y => M.syntax_parser_items_1_l1 (!y.1, set, y.2, e, f)) else M.syntax_parser_items_1_l1 (false, set, p, e, f) := by
    intro p first set
    rw [M.syntax_parser_items_1_l0]; try dsimp only
    obtain ⟨s', a, d, b⟩ := p
    cases b with
    | none => rw [bnd, if_pos rfl]
    | some w => rw [bnd, if_neg (show ¬ ((⟨s', a, d, some w⟩ : T48).bad = none) by simp)]
  induction k with
  | zero =>
    intro p first set h hk
    have hb : ¬ p.bad = none := fun hb => by have := hk hb; have := h.2.2.1; omega
    rw [un, if_neg hb]
    exact stop p set h
  | succ k ih =>
    intro p first set h hk
    rw [un]
    by_cases hb : p.bad = none
    · rw [if_pos hb]
      have go : ∃ l q, M.syntax_parser_items_1_l1 (true, set, p, e, f) = some (l, q) ∧ Ok s p q 0 := by
        obtain ⟨l, q, e1, k1⟩ := pair_ok h
        obtain ⟨j, hj⟩ := join_ok [set, l] (by simp)
        rw [M.syntax_parser_items_1_l1]; try dsimp only
        rw [if_pos rfl, e1, bnd]; dsimp only
        rw [M.syntax_parser_class_r_2, hj, bnd, bnd]; try dsimp only
        obtain ⟨l2, q2, e2, k2⟩ := ih q false j k1.good (fun hq => by have := (k1.prog hq).2; have := hk hb; omega)
        exact ⟨_, _, e2, (k1.trans k2).weak (by omega)⟩
      by_cases hf : first = true
      · rw [if_pos hf]; exact go
      · rw [if_neg hf, take_ok h 93 (by omega)]
        by_cases hq : pk p = 93
        · rw [if_pos hq, bnd]
          have ha := adv_ok h (by omega)
          obtain ⟨l, q, e1, k1⟩ := stop (adv p) set ha.good
          exact ⟨_, _, e1, (ha.trans k1).weak (by omega)⟩
        · rw [if_neg hq, bnd]; exact go
    · rw [if_neg hb]
      exact stop p set h
theorem pclass_ok {s : ByteArray} {p : T48} (h : Good s p) : ∃ l q, M.syntax_parser_class p = some (⟨1, l, [], 0, 0⟩, q) ∧ Ok s p q 0 := by
  have go : ∀ (f : Bool) (q : T48), Ok s p q 0 → ∃ l r, (M.syntax_parser_items q >>= fun y8 => M.syntax_parser_items_1 (⟨0, [0, 0, 0, 0], ([] : List T27), 0, 0⟩ : T27) f [0, 0, 0, 0] q >>= fun y17 =>
      if f = true then M.syntax_not y17.1 >>= fun y21 => some ((⟨1, y21, ([] : List T27), 0, 0⟩ : T27), y17.2) else some ((⟨1, y17.1, ([] : List T27), 0, 0⟩ : T27), y17.2)) = some (⟨1, l, [], 0, 0⟩, r) ∧ Ok s p r 0 := by
    intro f q hq
    obtain ⟨l, r, e1, k1⟩ := items_l0 (s := s) ⟨0, [0, 0, 0, 0], ([] : List T27), 0, 0⟩ f 300 q true [0, 0, 0, 0] hq.good (fun _ => by have := hq.good.2.1; have := hq.good.2.2.2.1; omega)
    rw [M.syntax_parser_items, bnd, M.syntax_parser_items_1, e1, bnd]; dsimp only
    obtain ⟨n, hn⟩ := not_ok l
    by_cases hf : f = true
    · rw [if_pos hf, hn, bnd]; exact ⟨_, _, rfl, hq.trans k1⟩
    · rw [if_neg hf]; exact ⟨_, _, rfl, hq.trans k1⟩
  rw [M.syntax_parser_class, take_ok h 94 (by omega)]
  by_cases hq : pk p = 94
  · rw [if_pos hq, bnd]; exact go true (adv p) ((adv_ok h (by omega)).weak (by omega))
  · rw [if_neg hq, bnd]; exact go false p (Ok.refl h)

/-! ### Numbers -/
theorem number1_ok {s : ByteArray} {p : T48} (h : Good s p) : M.syntax_parser_number_1 p = some (decide (48 ≤ pk p ∧ pk p ≤ 57), p) := by
  rw [M.syntax_parser_number_1, peek_eq h, bnd]; dsimp only
  by_cases h1 : pk p ≥ 48
  · rw [if_pos h1, peek_eq h, bnd]; dsimp only
    congr 2
    rw [decide_eq_decide]; omega
  · rw [if_neg h1, decide_eq_false (by omega)]
theorem dig {c : Int} (h : 48 ≤ c ∧ c ≤ 57) : wr .i64 (wr .u8 (c - 48)) = c - 48 := by
  have : wr .u8 (c - 48) = c - 48 := by
    simp only [wr, IntKind.wrap, IntKind.signed, IntKind.bits]
    simp
    omega
  rw [this, wr_i64 (by omega) (by omega)]
theorem number_ok {s : ByteArray} {p : T48} (h : Good s p) : ∃ n q, M.syntax_parser_number p = some (n, q) ∧ Ok s p q 0 ∧ -1 ≤ n ∧ n ≤ 99 := by
  rw [M.syntax_parser_number, number1_ok h, bnd]; dsimp only
  by_cases h1 : 48 ≤ pk p ∧ pk p ≤ 57
  · rw [decide_eq_true h1, if_pos rfl, peek_eq h, bnd]; dsimp only
    rw [dig h1, adv_eq h]
    have ha := adv_ok h (by omega)
    by_cases h2 : pk p - 48 > 0
    · rw [if_pos h2, number1_ok ha.good, bnd]; dsimp only
      rw [M.syntax_parser_number_l0]; try dsimp only
      by_cases h3 : 48 ≤ pk (adv p) ∧ pk (adv p) ≤ 57
      · rw [decide_eq_true h3, if_pos rfl, peek_eq ha.good, bnd]; dsimp only
        rw [dig h3, adv_eq ha.good, wr_i64 (x := 10 * (pk p - 48)) (by omega) (by omega), wr_i64 (by omega) (by omega)]
        exact ⟨_, _, rfl, (ha.trans (adv_ok ha.good (by omega))).weak (by omega), by omega, by omega⟩
      · rw [decide_eq_false h3, if_neg (by decide)]
        exact ⟨_, _, rfl, ha.weak (by omega), by omega, by omega⟩
    · rw [if_neg h2, M.syntax_parser_number_l0]; try dsimp only
      rw [if_neg (by decide)]
      exact ⟨_, _, rfl, ha.weak (by omega), by omega, by omega⟩
  · rw [decide_eq_false h1, if_neg (by decide)]
    exact ⟨_, _, rfl, Ok.refl h, by omega, by omega⟩
theorem counted_l1_ok {s : ByteArray} {p : T48} (h : Good s p) (a : Int) (ha : 0 ≤ a ∧ a ≤ s.size) (lo hi : Int) (hhi : -1 ≤ hi) :
    ∃ q, M.syntax_parser_counted_l1 (a, lo, hi, p) = some (lo, hi, q) ∧ Ok s p q 0 ∧ (q.bad = none → lo ≤ 64 ∧ (hi = -1 ∨ (lo ≤ hi ∧ hi ≤ 64))) := by
  obtain ⟨q, e1, k1⟩ := need_ok h 125 (by omega)
  have hf := fl_ok k1.good a ha.1 ha.2 0
  have k0 : Ok s p q 0 := k1.weak (by omega)
  rw [M.syntax_parser_counted_l1]; try dsimp only
  rw [e1, bnd]
  by_cases h1 : lo > 64
  · rw [if_pos h1, fail_eq, bnd]; exact ⟨_, rfl, k0.trans hf, fun hb => absurd hb (fl_bad _ _)⟩
  rw [if_neg h1]
  by_cases h2 : hi > 64
  · rw [if_pos h2, fail_eq, bnd]; exact ⟨_, rfl, k0.trans hf, fun hb => absurd hb (fl_bad _ _)⟩
  rw [if_neg h2]
  by_cases h3 : hi ≥ 0
  · rw [if_pos h3]
    by_cases h4 : lo > hi
    · rw [if_pos h4, fail_eq, bnd]; exact ⟨_, rfl, k0.trans hf, fun hb => absurd hb (fl_bad _ _)⟩
    · rw [if_neg h4]; exact ⟨_, rfl, k0, fun _ => ⟨by omega, .inr ⟨by omega, by omega⟩⟩⟩
  · rw [if_neg h3]; exact ⟨_, rfl, k0, fun _ => ⟨by omega, .inl (by omega)⟩⟩
theorem counted_l0_ok {s : ByteArray} {p : T48} (h : Good s p) (a : Int) (ha : 0 ≤ a ∧ a ≤ s.size) (lo : Int) (hlo : -1 ≤ lo) :
    ∃ hi q, M.syntax_parser_counted_l0 (a, lo, p) = some (lo, hi, q) ∧ Ok s p q 0 ∧ (q.bad = none → lo ≤ 64 ∧ (hi = -1 ∨ (lo ≤ hi ∧ hi ≤ 64))) := by
  rw [M.syntax_parser_counted_l0]; try dsimp only
  rw [take_ok h 44 (by omega)]
  by_cases hq : pk p = 44
  · rw [if_pos hq, bnd]; dsimp only
    have hv := adv_ok h (by omega)
    obtain ⟨n, q, e1, k1, n0, n1⟩ := number_ok hv.good
    rw [if_pos rfl, e1, bnd]; dsimp only
    obtain ⟨r, e2, k2, k3⟩ := counted_l1_ok k1.good a ha lo n n0
    exact ⟨_, _, e2, (hv.trans (k1.trans k2)).weak (by omega), k3⟩
  · rw [if_neg hq, bnd]; dsimp only
    rw [if_neg (by decide)]
    obtain ⟨r, e2, k2, k3⟩ := counted_l1_ok h a ha lo lo hlo
    exact ⟨_, _, e2, k2, k3⟩
theorem counted_ok {s : ByteArray} {p : T48} (h : Good s p) (a : Int) (ha : 0 ≤ a ∧ a ≤ s.size) :
    ∃ lo hi q, M.syntax_parser_counted p a = some (lo, hi, q) ∧ Ok s p q 0 ∧ (q.bad = none → 0 ≤ lo ∧ lo ≤ 64 ∧ (hi = -1 ∨ (lo ≤ hi ∧ hi ≤ 64))) := by
  obtain ⟨n, q, e1, k1, n0, n1⟩ := number_ok h
  rw [M.syntax_parser_counted, e1, bnd]; dsimp only
  by_cases hn : n < 0
  · rw [if_pos hn, fail_eq, bnd]; dsimp only
    have hf := fl_ok k1.good q.at_ k1.good.2.1 k1.good.2.2.1 0
    obtain ⟨hi, r, e2, k2, k3⟩ := counted_l0_ok hf.good a ha n n0
    exact ⟨_, _, _, e2, k1.trans (hf.trans k2), fun hb => absurd (k2.prog hb).1 (fl_bad _ _)⟩
  · rw [if_neg hn]
    obtain ⟨hi, r, e2, k2, k3⟩ := counted_l0_ok k1.good a ha n n0
    exact ⟨_, _, _, e2, k1.trans k2, fun hb => ⟨by omega, k3 hb⟩⟩

/-! ### What may be -/
mutual
inductive V : T27 → Nat → Nat → Prop
  | leaf (l : List Int) : V ⟨1, l, [], 0, 0⟩ 1 1
  | many (k : Int) (hk : k = 2 ∨ k = 3) {L : List T27} {c d : Nat} (h : VL L c d) : V ⟨k, [0, 0, 0, 0], L, 0, 0⟩ (c + 1) (d + 1)
  | times {r : T27} {c d : Nat} (h : V r c d) (lo hi : Int) (h0 : 0 ≤ lo) (h1 : lo ≤ 64) (h2 : hi = -1 ∨ (lo ≤ hi ∧ hi ≤ 64)) : V ⟨4, [0, 0, 0, 0], [r], lo, hi⟩ (c + 1) (d + 1)
inductive VL : List T27 → Nat → Nat → Prop
  | nil : VL [] 0 0
  | cons {r : T27} {t : List T27} {c d c' d' : Nat} (h : V r c d) (ht : VL t c' d') : VL (r :: t) (c + c') (max d d')
end
theorem VL.snoc {r : T27} {c d : Nat} (h : V r c d) : ∀ {L : List T27} {c' d' : Nat}, VL L c' d' → ∃ d'', VL (L ++ [r]) (c' + c) d'' ∧ d'' ≤ max d d'
  | _, _, _, .nil => ⟨_, by have := VL.cons h .nil; simpa [Nat.add_comm] using this, by simp⟩
  | _, _, _, .cons h1 ht => by
    obtain ⟨d2, h2, h3⟩ := VL.snoc h ht
    refine ⟨_, by have := VL.cons h1 h2; rw [← Nat.add_assoc] at this; exact this, by omega⟩
theorem VL.one {r : T27} {c d : Nat} (h : VL [r] c d) : V r c d := by
  cases h with
  | cons h1 ht =>
    cases ht
    simpa using h1
theorem eta27 (r : T27) : (⟨r.Kind, r.Set, r.L, r.Min, r.Max⟩ : T27) = r := by cases r; rfl
theorem several_ok (k : Int) (hk : k = 2 ∨ k = 3) (L : List T27) (c d : Nat) (h : VL L c d) : ∃ r c' d', M.syntax_several k L = some r ∧ V r c' d' ∧ ((L.length = 1 ∧ c' = c ∧ d' = d) ∨ (L.length ≠ 1 ∧ c' = c + 1 ∧ d' = d + 1)) := by
  rw [M.syntax_several]
  by_cases h1 : L.length = 1
  · rw [if_pos (by omega), if_pos (by omega)]
    match L, h1, h with
    | [r], _, h => exact ⟨r, c, d, (by rw [show gi [r] 0 = r from rfl, eta27]), h.one, .inl ⟨rfl, rfl, rfl⟩⟩
  · rw [if_neg (by omega)]
    exact ⟨_, c + 1, d + 1, rfl, .many k hk h, .inr ⟨h1, rfl, rfl⟩⟩
theorem several_any (k : Int) (L : List T27) : ∃ r, M.syntax_several k L = some r := by
  rw [M.syntax_several]
  by_cases h1 : L.length = 1
  · rw [if_pos (by omega), if_pos (by omega)]; exact ⟨_, rfl⟩
  · rw [if_neg (by omega)]; exact ⟨_, rfl⟩
end Go.Proofs.Ytemokppdnkiejaa
