/-
  The parser's recursion.
-/
import Derived.Test.YtemokppdnkiejaaPSyn2
set_option linter.unusedVariables false
set_option linter.unusedSimpArgs false
namespace Go.Proofs.Ytemokppdnkiejaa
open Go.Gx

def AltOk (s : ByteArray) (p : T48) : Prop := ∃ r q, M.syntax_parser_alternation p = some (r, q) ∧ Ok s p q 0 ∧ (q.bad = none → ∃ c d : Nat, V r c d ∧ (c : Int) ≤ 2 * (q.at_ - p.at_) + 1 ∧ (d : Int) ≤ 4 + 3 * (32 - p.deep))
def SeqOk (s : ByteArray) (p : T48) : Prop := ∃ r q, M.syntax_parser_sequence p = some (r, q) ∧ Ok s p q 0 ∧ (q.bad = none → ∃ c d : Nat, V r c d ∧ (c : Int) ≤ 2 * (q.at_ - p.at_) + 1 ∧ (d : Int) ≤ 3 + 3 * (32 - p.deep))
def AtomOk (s : ByteArray) (p : T48) : Prop := ∃ r q, M.syntax_parser_atom p = some (r, q) ∧ Ok s p q 1 ∧ (q.bad = none → ∃ c d : Nat, V r c d ∧ (c : Int) + 1 ≤ 2 * (q.at_ - p.at_) ∧ (d : Int) ≤ 1 + 3 * (32 - p.deep))
def PieceOk (s : ByteArray) (p : T48) : Prop := ∃ r q, M.syntax_parser_piece p = some (r, q) ∧ Ok s p q 1 ∧ (q.bad = none → ∃ c d : Nat, V r c d ∧ (c : Int) + 1 ≤ 2 * (q.at_ - p.at_) ∧ (d : Int) ≤ 2 + 3 * (32 - p.deep))
variable {s : ByteArray}
theorem group_ok (p : T48) (h : Good s p) (hd : 0 ≤ p.deep ∧ p.deep ≤ 31) (alt : ∀ q, Good s q → 0 ≤ q.deep ∧ q.deep ≤ 32 → p.at_ ≤ q.at_ → AltOk s q) :
    ∃ r q, M.syntax_parser_group p = some (r, q) ∧ Ok s p q 1 ∧ (q.bad = none → ∃ c d : Nat, V r c d ∧ (c : Int) + 1 ≤ 2 * (q.at_ - p.at_) ∧ (d : Int) ≤ 1 + 3 * (32 - p.deep)) := by
  have l0 : ∀ x q, Ok s p q 0 → ∃ r q', M.syntax_parser_group_l0 (x, q) = some (r, q') ∧ Ok s p q' 1 ∧ (q'.bad = none → ∃ c d : Nat, V r c d ∧ (c : Int) + 1 ≤ 2 * (q'.at_ - p.at_) ∧ (d : Int) ≤ 1 + 3 * (32 - p.deep)) := by
    intro x q hq
    have hqd := hq.deep
    have hg := hq.good
    rw [M.syntax_parser_group_l0]; try dsimp only
    rw [wr_i64 (x := q.deep + 1) (by omega) (by omega)]
    obtain ⟨r, t, e1, k1, k2⟩ := alt ⟨q.s, q.at_, q.deep + 1, q.bad⟩ hg (by dsimp only; omega) (by dsimp only; exact hq.le)
    rw [e1, bnd]; dsimp only
    have htd : t.deep = q.deep + 1 := k1.deep
    rw [wr_i64 (x := t.deep - 1) (by omega) (by omega)]
    have k1' : Ok s q ⟨t.s, t.at_, t.deep - 1, t.bad⟩ 0 := ⟨k1.good, by dsimp only; omega, k1.le, k1.prog⟩
    obtain ⟨u, e2, k3⟩ := need_ok k1'.good 41 (by omega)
    rw [e2, bnd]
    have kk := hq.trans (k1'.trans k3)
    refine ⟨_, _, rfl, kk.weak (by omega), fun hb => ?_⟩
    have p3 := k3.prog hb
    obtain ⟨c, d, v, hc, hd'⟩ := k2 p3.1
    have hle := hq.le
    dsimp only at hc hd' p3
    exact ⟨c, d, v, by omega, by omega⟩
  rw [M.syntax_parser_group, take_ok h 63 (by omega)]
  by_cases hq : pk p = 63
  · rw [if_pos hq, bnd]; dsimp only
    have ha := adv_ok h (by omega)
    obtain ⟨q, e1, k1⟩ := need_ok ha.good 58 (by omega)
    rw [if_pos rfl, e1, bnd]
    exact l0 _ q ((ha.trans k1).weak (by omega))
  · rw [if_neg hq, bnd]; dsimp only
    rw [if_neg (by decide)]
    exact l0 _ p (Ok.refl h)
theorem atom_ok (p : T48) (h : Good s p) (hd : 0 ≤ p.deep ∧ p.deep ≤ 32) (alt : ∀ q, Good s q → 0 ≤ q.deep ∧ q.deep ≤ 32 → p.at_ + 1 ≤ q.at_ → AltOk s q) : AtomOk s p := by
  have hp := pk_range p
  unfold AtomOk
  rw [M.syntax_parser_atom, peek_eq h, bnd]; dsimp only
  have hfail : ∀ x c, ∃ r q, M.syntax_parser_atom_l0 (x, c, true, p) = some (r, q) ∧ Ok s p q 1 ∧ (q.bad = none → ∃ c d : Nat, V r c d ∧ (c : Int) + 1 ≤ 2 * (q.at_ - p.at_) ∧ (d : Int) ≤ 1 + 3 * (32 - p.deep)) := by
    intro x c
    rw [M.syntax_parser_atom_l0]; try dsimp only
    rw [if_pos rfl, fail_eq, bnd]
    exact ⟨_, _, rfl, fl_ok h _ h.2.1 h.2.2.1 1, fun hb => absurd hb (fl_bad _ _)⟩
  by_cases h1 : pk p < 32
  · rw [if_pos h1]; exact hfail _ _
  rw [if_neg h1]
  by_cases h2 : pk p > 126
  · rw [if_pos h2]; exact hfail _ _
  rw [if_neg h2, idx_eq, bnd]
  by_cases h3 : ixB (⟨#[93, 41, 42, 43, 63, 123, 125, 94, 36, 124]⟩ : ByteArray) (pk p) ≥ 0
  · rw [decide_eq_true h3]; exact hfail _ _
  rw [decide_eq_false h3, M.syntax_parser_atom_l0]; try dsimp only
  rw [if_neg (by decide)]
  have ha := adv_ok h (by omega)
  have hat : (adv p).at_ = p.at_ + 1 := rfl
  have leaf : ∀ (l : List Int) (q : T48), Ok s (adv p) q 0 → ∃ r q', some ((⟨1, l, [], 0, 0⟩ : T27), q) = some (r, q') ∧ Ok s p q' 1 ∧ (q'.bad = none → ∃ c d : Nat, V r c d ∧ (c : Int) + 1 ≤ 2 * (q'.at_ - p.at_) ∧ (d : Int) ≤ 1 + 3 * (32 - p.deep)) := by
    intro l q hq
    have hle := hq.le
    refine ⟨_, _, rfl, (ha.trans hq).weak (by omega), fun _ => ⟨1, 1, .leaf l, by omega, by omega⟩⟩
  have l1 : ∀ x, ∃ r q, M.syntax_parser_atom_l1 (x, pk p, decide (pk p = 40 ∧ p.deep = 32), p) = some (r, q) ∧ Ok s p q 1 ∧ (q.bad = none → ∃ c d : Nat, V r c d ∧ (c : Int) + 1 ≤ 2 * (q.at_ - p.at_) ∧ (d : Int) ≤ 1 + 3 * (32 - p.deep)) := by
    intro x
    rw [M.syntax_parser_atom_l1]; try dsimp only
    by_cases h4 : pk p = 40 ∧ p.deep = 32
    · rw [decide_eq_true h4, if_pos rfl, fail_eq, bnd]
      exact ⟨_, _, rfl, fl_ok h _ h.2.1 h.2.2.1 1, fun hb => absurd hb (fl_bad _ _)⟩
    rw [decide_eq_false h4, if_neg (by decide), take_ok h 46 (by omega)]
    by_cases h5 : pk p = 46
    · obtain ⟨l, hl⟩ := one_ok 10 (by omega) (by omega)
      obtain ⟨n, hn⟩ := not_ok l
      rw [if_pos h5, bnd]; dsimp only
      rw [if_pos rfl, hl, bnd, hn, bnd]
      exact leaf n _ (Ok.refl ha.good)
    rw [if_neg h5, bnd]; dsimp only
    rw [if_neg (by decide), take_ok h 91 (by omega)]
    by_cases h6 : pk p = 91
    · rw [if_pos h6, bnd]; dsimp only
      obtain ⟨l, q, e1, k1⟩ := pclass_ok ha.good
      rw [if_pos rfl, e1, bnd]
      exact leaf l q k1
    rw [if_neg h6, bnd]; dsimp only
    rw [if_neg (by decide), take_ok h 40 (by omega)]
    by_cases h7 : pk p = 40
    · rw [if_pos h7, bnd]; dsimp only
      have hne : p.deep ≠ 32 := fun hh => h4 ⟨h7, hh⟩
      have hdd : (adv p).deep = p.deep := rfl
      obtain ⟨r, q, e1, k1, k2⟩ := group_ok (adv p) ha.good (by omega) (fun q hq1 hq2 hq3 => alt q hq1 hq2 (by omega))
      rw [if_pos rfl, e1, bnd]
      refine ⟨r, q, rfl, (ha.trans k1).weak (by omega), fun hb => ?_⟩
      obtain ⟨c, d, v, hc, hd'⟩ := k2 hb
      exact ⟨c, d, v, by omega, by omega⟩
    rw [if_neg h7, bnd]; dsimp only
    rw [if_neg (by decide), take_ok h 92 (by omega)]
    by_cases h8 : pk p = 92
    · rw [if_pos h8, bnd]; dsimp only
      obtain ⟨t, q, e1, k1, _⟩ := escape_ok ha.good
      rw [if_pos rfl, e1, bnd]
      exact leaf t.set_ q (k1.weak (by omega))
    · obtain ⟨l, hl⟩ := one_ok (pk p) hp.1 hp.2
      rw [if_neg h8, bnd]; dsimp only
      rw [if_neg (by decide), hl, bnd, adv_eq h]
      exact leaf l _ (Ok.refl ha.good)
  by_cases h9 : pk p = 40
  · rw [if_pos h9]
    have := l1 ⟨0, [0, 0, 0, 0], [], 0, 0⟩
    rw [show decide (pk p = 40 ∧ p.deep = 32) = decide (p.deep = 32) by simp [h9]] at this
    exact this
  · rw [if_neg h9]
    have := l1 ⟨0, [0, 0, 0, 0], [], 0, 0⟩
    rw [decide_eq_false (fun hh => h9 hh.1)] at this
    exact this
theorem piece_ok (p : T48) (h : Good s p) (hd : 0 ≤ p.deep ∧ p.deep ≤ 32) (alt : ∀ q, Good s q → 0 ≤ q.deep ∧ q.deep ≤ 32 → p.at_ + 1 ≤ q.at_ → AltOk s q) : PieceOk s p := by
  obtain ⟨r, q, e1, k1, k2⟩ := atom_ok p h hd alt
  have hg := k1.good
  unfold PieceOk
  rw [M.syntax_parser_piece, e1, bnd]; dsimp only
  have tim : ∀ (lo hi : Int) (t : T48), Ok s q t 1 → (t.bad = none → 0 ≤ lo ∧ lo ≤ 64 ∧ (hi = -1 ∨ (lo ≤ hi ∧ hi ≤ 64))) → ∃ r' t', some ((⟨4, [0, 0, 0, 0], [r], lo, hi⟩ : T27), t) = some (r', t') ∧ Ok s p t' 1 ∧ (t'.bad = none → ∃ c d : Nat, V r' c d ∧ (c : Int) + 1 ≤ 2 * (t'.at_ - p.at_) ∧ (d : Int) ≤ 2 + 3 * (32 - p.deep)) := by
    intro lo hi t ht hb
    refine ⟨_, _, rfl, (k1.trans ht).weak (by omega), fun hbt => ?_⟩
    have p1 := ht.prog hbt
    obtain ⟨c, d, v, hc, hd'⟩ := k2 p1.1
    obtain ⟨b1, b2, b3⟩ := hb hbt
    exact ⟨c + 1, d + 1, .times v lo hi b1 b2 b3, by omega, by omega⟩
  have one : ∀ c : Int, c ≠ 0 → pk q = c → Ok s q (adv q) 1 := fun c hc hq => adv_ok hg (by omega)
  rw [take_ok hg 42 (by omega)]
  by_cases h1 : pk q = 42
  · rw [if_pos h1, bnd]; dsimp only
    rw [if_pos rfl]; exact tim 0 (-1) _ (one 42 (by omega) h1) (fun _ => ⟨by omega, by omega, .inl rfl⟩)
  rw [if_neg h1, bnd]; dsimp only
  rw [if_neg (by decide), take_ok hg 43 (by omega)]
  by_cases h2 : pk q = 43
  · rw [if_pos h2, bnd]; dsimp only
    rw [if_pos rfl]; exact tim 1 (-1) _ (one 43 (by omega) h2) (fun _ => ⟨by omega, by omega, .inl rfl⟩)
  rw [if_neg h2, bnd]; dsimp only
  rw [if_neg (by decide), take_ok hg 63 (by omega)]
  by_cases h3 : pk q = 63
  · rw [if_pos h3, bnd]; dsimp only
    rw [if_pos rfl]; exact tim 0 1 _ (one 63 (by omega) h3) (fun _ => ⟨by omega, by omega, .inr ⟨by omega, by omega⟩⟩)
  rw [if_neg h3, bnd]; dsimp only
  rw [if_neg (by decide), take_ok hg 123 (by omega)]
  by_cases h4 : pk q = 123
  · rw [if_pos h4, bnd]; dsimp only
    have ha := one 123 (by omega) h4
    obtain ⟨lo, hi, t, e2, k3, k4⟩ := counted_ok ha.good q.at_ ⟨hg.2.1, hg.2.2.1⟩
    rw [if_pos rfl, e2, bnd]; dsimp only
    exact tim lo hi t ((ha.trans k3).weak (by omega)) k4
  · rw [if_neg h4, bnd]; dsimp only
    rw [if_neg (by decide)]
    refine ⟨_, _, rfl, k1, fun hb => ?_⟩
    obtain ⟨c, d, v, hc, hd'⟩ := k2 hb
    exact ⟨c, d, v, hc, by omega⟩
theorem seq_l0 (a0 : Int) (D : Int) (x : T27) (dp : Int) (k : Nat) : ∀ (p : T48) (acc : List T27), Good s p → p.deep = dp → D = 2 + 3 * (32 - dp) → (s.size : Int) - p.at_ < k →
    (∀ q, Good s q → q.deep = dp → p.at_ ≤ q.at_ → PieceOk s q) → acc.length ≤ 1000 → (p.bad = none → (acc.length : Int) ≤ p.at_) → (p.bad = none → ∃ c d : Nat, VL acc c d ∧ (c : Int) + acc.length ≤ 2 * (p.at_ - a0) ∧ (d : Int) ≤ D) → a0 ≤ p.at_ →
    ∃ r q, M.syntax_parser_sequence_l0 (x, acc, p) = some (r, q) ∧ Ok s p q 0 ∧ (q.bad = none → ∃ c d : Nat, V r c d ∧ (c : Int) ≤ 2 * (q.at_ - a0) + 1 ∧ (d : Int) ≤ D + 1) := by
  have stop : ∀ (p : T48) (acc : List T27), Good s p → p.deep = dp → D = 2 + 3 * (32 - dp) → (p.bad = none → ∃ c d : Nat, VL acc c d ∧ (c : Int) + acc.length ≤ 2 * (p.at_ - a0) ∧ (d : Int) ≤ D) → a0 ≤ p.at_ →
      ∃ r q, M.syntax_parser_sequence_l1 (x, acc, false, p) = some (r, q) ∧ Ok s p q 0 ∧ (q.bad = none → ∃ c d : Nat, V r c d ∧ (c : Int) ≤ 2 * (q.at_ - a0) + 1 ∧ (d : Int) ≤ D + 1) := by
    intro p acc h hdp hD hV h0
    rw [M.syntax_parser_sequence_l1]; try dsimp only
    rw [if_neg (by decide)]
    by_cases hb : p.bad = none
    · obtain ⟨c, d, v, hc, hd⟩ := hV hb
      obtain ⟨r, c', d', e1, v', hh⟩ := several_ok 2 (.inl rfl) acc c d v
      rw [e1, bnd]
      refine ⟨_, _, rfl, Ok.refl h, fun _ => ⟨c', d', v', ?_, ?_⟩⟩ <;> omega
    · obtain ⟨r, e1⟩ := several_any 2 acc
      rw [e1, bnd]
      exact ⟨_, _, rfl, Ok.refl h, fun h' => absurd h' hb⟩
  have un : ∀ (p : T48) (acc : List T27), Good s p → M.syntax_parser_sequence_l0 (x, acc, p) = M.syntax_parser_sequence_l1 (x, acc, decide (p.bad = none ∧ p.at_ < p.s.size ∧ pk p ≠ 124 ∧ pk p ≠ 41), p) := by
    intro p acc h
    have := seq_open x p acc
    refine this.trans ?_
    by_cases hb : p.bad = none
    · rw [if_pos hb]
      by_cases hl : p.at_ < (p.s.size : Int)
      · rw [if_pos hl, peek_eq h, bnd]; dsimp only
        by_cases h1 : pk p = 124
        · rw [if_pos h1, decide_eq_false (by omega)]
        · rw [if_neg h1, peek_eq h, bnd]; dsimp only
          by_cases h2 : pk p = 41
          · rw [decide_eq_true h2, decide_eq_false (by omega)]; rfl
          · rw [decide_eq_false h2, decide_eq_true ⟨hb, hl, h1, h2⟩]; rfl
      · rw [if_neg hl, decide_eq_false (by omega)]
    · rw [if_neg hb, decide_eq_false (fun hh => hb hh.1)]
  induction k with
  | zero => intro p acc h _ _ hk; have := h.2.2.1; omega
  | succ k ih =>
    intro p acc h hdp hD hk pie hlen hat hV h0
    rw [un p acc h]
    by_cases hgo : p.bad = none ∧ p.at_ < p.s.size ∧ pk p ≠ 124 ∧ pk p ≠ 41
    · obtain ⟨r, q, e1, k1, k2⟩ := pie p h hdp (Int.le_refl _)
      obtain ⟨c, d, v, hc, hd⟩ := hV hgo.1
      have hq := k1.le
      have hps := h.2.2.1
      have hs := h.2.2.2.1
      have ha := hat hgo.1
      rw [decide_eq_true hgo, M.syntax_parser_sequence_l1]; try dsimp only
      rw [if_pos rfl, e1, bnd]; dsimp only
      have hl2 : (acc ++ [r]).length = acc.length + 1 := by simp
      rw [if_pos (by rw [hl2]; omega)]
      by_cases hb : q.bad = none
      · obtain ⟨c', d', v', hc', hd'⟩ := k2 hb
        have hp1 := (k1.prog hb).2
        obtain ⟨d'', hv'', hd''⟩ := VL.snoc v' v
        obtain ⟨r2, q2, e2, k3, k4⟩ := ih q (acc ++ [r]) k1.good (k1.deep.trans hdp) hD (by omega) (fun z z1 z2 z3 => pie z z1 z2 (by omega)) (by rw [hl2]; omega) (fun _ => by rw [hl2]; omega)
          (fun _ => ⟨c + c', d'', hv'', by rw [hl2]; omega, by omega⟩) (by omega)
        exact ⟨_, _, e2, (k1.trans k3).weak (by omega), k4⟩
      · rw [un q _ k1.good, decide_eq_false (fun hh => hb hh.1)]
        obtain ⟨r2, q2, e2, k3, k4⟩ := stop q (acc ++ [r]) k1.good (k1.deep.trans hdp) hD (fun hh => absurd hh hb) (by omega)
        exact ⟨_, _, e2, (k1.trans k3).weak (by omega), k4⟩
    · rw [decide_eq_false hgo]
      exact stop p acc h hdp hD hV h0
theorem seq_ok (p : T48) (h : Good s p) (hd : 0 ≤ p.deep ∧ p.deep ≤ 32) (alt : ∀ q, Good s q → 0 ≤ q.deep ∧ q.deep ≤ 32 → p.at_ + 1 ≤ q.at_ → AltOk s q) : SeqOk s p := by
  unfold SeqOk
  rw [M.syntax_parser_sequence]
  have hp := h.2.1
  obtain ⟨r, q, e1, k1, k2⟩ := seq_l0 p.at_ (2 + 3 * (32 - p.deep)) ⟨0, [0, 0, 0, 0], [], 0, 0⟩ p.deep 300 p [] h rfl rfl (by have := h.2.2.2.1; omega)
    (fun q hq hdq hle => piece_ok q hq (by omega) (fun z z1 z2 z3 => alt z z1 z2 (by omega))) (by simp) (fun _ => by simpa using hp) (fun _ => ⟨0, 0, .nil, by simp, by omega⟩) (Int.le_refl _)
  refine ⟨_, _, e1, k1, fun hb => ?_⟩
  obtain ⟨c, d, v, hc, hd'⟩ := k2 hb
  exact ⟨c, d, v, hc, by omega⟩
theorem alt_l0 (a0 : Int) (D : Int) (x : T27) (dp : Int) (k : Nat) : ∀ (p : T48) (acc : List T27), Good s p → p.deep = dp → D = 3 + 3 * (32 - dp) → (s.size : Int) - p.at_ < k →
    (∀ q, Good s q → q.deep = dp → p.at_ ≤ q.at_ → SeqOk s q) → 1 ≤ acc.length → acc.length ≤ 1000 → (p.bad = none → (acc.length : Int) ≤ p.at_ + 1) → (p.bad = none → ∃ c d : Nat, VL acc c d ∧ (c : Int) + acc.length ≤ 2 * (p.at_ - a0) + 2 ∧ (d : Int) ≤ D) → a0 ≤ p.at_ →
    ∃ r q, M.syntax_parser_alternation_l0 (x, acc, p) = some (r, q) ∧ Ok s p q 0 ∧ (q.bad = none → ∃ c d : Nat, V r c d ∧ (c : Int) ≤ 2 * (q.at_ - a0) + 1 ∧ (d : Int) ≤ D + 1) := by
  induction k with
  | zero => intro p acc h _ _ hk; have := h.2.2.1; omega
  | succ k ih =>
    intro p acc h hdp hD hk sq hlen1 hlen hat hV h0
    rw [M.syntax_parser_alternation_l0]; try dsimp only
    rw [take_ok h 124 (by omega)]
    by_cases hq : pk p = 124
    · have ha := adv_ok h (by omega)
      have hpb := (pk_ne (p := p) (by omega)).1
      have hat1 : (adv p).at_ = p.at_ + 1 := rfl
      have hps := h.2.2.1
      have hs := h.2.2.2.1
      have hla := hat hpb
      rw [if_pos hq, bnd]; dsimp only
      obtain ⟨r, q, e1, k1, k2⟩ := sq (adv p) ha.good (ha.deep.trans hdp) (by omega)
      obtain ⟨c, d, v, hc, hd⟩ := hV hpb
      have hl2 : (acc ++ [r]).length = acc.length + 1 := by simp
      have hle := k1.le
      rw [if_pos rfl, e1, bnd]; dsimp only
      rw [if_pos (by rw [hl2]; omega)]
      obtain ⟨r2, q2, e2, k3, k4⟩ := ih q (acc ++ [r]) k1.good (k1.deep.trans (ha.deep.trans hdp)) hD (by omega) (fun z z1 z2 z3 => sq z z1 z2 (by omega)) (by rw [hl2]; omega) (by rw [hl2]; omega) (fun _ => by rw [hl2]; omega)
        (fun hb => by
          obtain ⟨c', d', v', hc', hd'⟩ := k2 hb
          obtain ⟨d'', hv'', hd''⟩ := VL.snoc v' v
          have hdd : (adv p).deep = p.deep := rfl
          exact ⟨c + c', d'', hv'', by rw [hl2]; omega, by omega⟩) (by omega)
      exact ⟨_, _, e2, (ha.trans (k1.trans k3)).weak (by omega), k4⟩
    · rw [if_neg hq, bnd]; dsimp only
      rw [if_neg (by decide)]
      by_cases hb : p.bad = none
      · obtain ⟨c, d, v, hc, hd⟩ := hV hb
        obtain ⟨r, c', d', e1, v', hh⟩ := several_ok 3 (.inr rfl) acc c d v
        rw [e1, bnd]
        refine ⟨_, _, rfl, Ok.refl h, fun _ => ⟨c', d', v', ?_, ?_⟩⟩ <;> omega
      · obtain ⟨r, e1⟩ := several_any 3 acc
        rw [e1, bnd]
        exact ⟨_, _, rfl, Ok.refl h, fun h' => absurd h' hb⟩
theorem alt_ok (k : Nat) : ∀ p : T48, Good s p → 0 ≤ p.deep ∧ p.deep ≤ 32 → (s.size : Int) - p.at_ < k → AltOk s p := by
  induction k with
  | zero => intro p h _ hk; have := h.2.2.1; omega
  | succ k ih =>
    intro p h hd hk
    have alt : ∀ a : Int, p.at_ ≤ a → ∀ q, Good s q → 0 ≤ q.deep ∧ q.deep ≤ 32 → a + 1 ≤ q.at_ → AltOk s q := fun a ha q hq hdq hle => ih q hq hdq (by omega)
    obtain ⟨r, q, e1, k1, k2⟩ := seq_ok p h hd (alt p.at_ (Int.le_refl _))
    have hle := k1.le
    have hqd := k1.deep
    have hp := h.2.1
    unfold AltOk
    rw [M.syntax_parser_alternation, e1, bnd]; dsimp only
    obtain ⟨r2, q2, e2, k3, k4⟩ := alt_l0 p.at_ (3 + 3 * (32 - p.deep)) ⟨0, [0, 0, 0, 0], [], 0, 0⟩ p.deep 300 q [r] k1.good k1.deep rfl (by have := h.2.2.2.1; omega)
      (fun z z1 z2 z3 => seq_ok z z1 (by omega) (alt z.at_ (by omega))) (by simp) (by simp) (fun _ => by simp; omega) (fun hb => by
        obtain ⟨c, d, v, hc, hd'⟩ := k2 hb
        exact ⟨c + 0, max d 0, .cons v .nil, by simp; omega, by omega⟩) (by omega)
    refine ⟨_, _, e2, (k1.trans k3).weak (by omega), fun hb => ?_⟩
    obtain ⟨c, d, v, hc, hd'⟩ := k4 hb
    exact ⟨c, d, v, hc, by omega⟩
end Go.Proofs.Ytemokppdnkiejaa
