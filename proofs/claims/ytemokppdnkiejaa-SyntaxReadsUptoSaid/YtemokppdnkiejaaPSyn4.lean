/-
  What is read may be; the law.
-/
import Derived.Test.YtemokppdnkiejaaPSyn3
set_option linter.unusedVariables false
set_option linter.unusedSimpArgs false
namespace Go.Proofs.Ytemokppdnkiejaa
open Go.Gx

theorem V.pos {r : T27} {c d : Nat} (h : V r c d) : 1 ≤ c ∧ 1 ≤ d := by cases h <;> omega
theorem VL.len : ∀ {L : List T27} {c d : Nat}, VL L c d → L.length ≤ c
  | _, _, _, .nil => by simp
  | _, _, _, .cons h ht => by have := VL.len ht; have := h.pos; simp; omega
mutual
theorem count_V {r : T27} {c d : Nat} : V r c d → ∀ (left n : Int), (d : Int) ≤ left → left ≤ 128 → 0 ≤ n → n + c ≤ 4096 → M.syntax_count (r, left, n) = some (true, n + c)
  | .leaf l, left, n, h1, h2, h3, h4 => by
    rw [M.syntax_count]; try dsimp only
    rw [if_neg (by omega), wr_i64 (by omega) (by omega), decide_eq_false (by omega), M.syntax_count_l0]; try dsimp only
    rw [if_neg (by decide), M.syntax_count_l1]; try dsimp only
    rw [if_neg (by simp)]
    congr 2
  | .many (L := L) (c := c) k hk h, left, n, h1, h2, h3, h4 => by
    have hl := h.len
    rw [M.syntax_count]; try dsimp only
    rw [if_neg (by omega), wr_i64 (by omega) (by omega), decide_eq_false (by omega), M.syntax_count_l0]; try dsimp only
    rw [if_neg (by decide)]
    have := count_VL h L [] rfl (by omega) left (n + 1) (by omega) h2 (by omega) (by omega)
    rw [show ((([] : List T27).length : Nat) : Int) = 0 from rfl] at this
    rw [this]
    congr 2
    push_cast
    omega
  | .times (r := r) (c := c) h lo hi _ _ _, left, n, h1, h2, h3, h4 => by
    rw [M.syntax_count]; try dsimp only
    rw [if_neg (by omega), wr_i64 (by omega) (by omega), decide_eq_false (by omega), M.syntax_count_l0]; try dsimp only
    rw [if_neg (by decide), M.syntax_count_l1]; try dsimp only
    rw [if_pos (by simp), if_pos (by omega), if_pos (by simp), show gi [r] 0 = r from rfl, eta27, wr_i64 (by omega) (by omega), count_V h (left - 1) (n + 1) (by omega) (by omega) (by omega) (by omega), bnd]
    dsimp only
    rw [if_pos rfl, show wr .i64 (0 + 1) = 1 from rfl, M.syntax_count_l1]; try dsimp only
    rw [if_neg (by simp)]
    congr 2
    push_cast
    omega
theorem count_VL {L : List T27} {c d : Nat} : VL L c d → ∀ (L0 pre : List T27), L0 = pre ++ L → L0.length ≤ 5000 → ∀ (left n : Int), (d : Int) + 1 ≤ left → left ≤ 128 → 0 ≤ n → n + c ≤ 4096 → M.syntax_count_l1 (left, L0, (L0.length : Int), (pre.length : Int), n) = some (true, n + c)
  | .nil, L0, pre, e, hl, left, n, h1, h2, h3, h4 => by
    rw [M.syntax_count_l1]; try dsimp only
    subst e
    rw [if_neg (by simp)]
    congr 2
    push_cast
    omega
  | .cons (r := r) (t := t) (c := c) (c' := c') h ht, L0, pre, e, hl, left, n, h1, h2, h3, h4 => by
    have hlen : L0.length = pre.length + (t.length + 1) := by rw [e]; simp
    have hg : gi L0 (pre.length : Int) = r := by rw [e]; simp [gi]
    rw [M.syntax_count_l1]; try dsimp only
    rw [if_pos (by omega), if_pos (by omega), if_pos (by omega), hg, eta27, wr_i64 (x := left - 1) (by omega) (by omega), count_V h (left - 1) n (by omega) (by omega) h3 (by omega), bnd]
    dsimp only
    rw [if_pos rfl, wr_i64 (by omega) (by omega)]
    have := count_VL ht L0 (pre ++ [r]) (by rw [e]; simp) hl left (n + c) (by omega) h2 (by omega) (by omega)
    rw [show (((pre ++ [r]).length : Nat) : Int) = (pre.length : Int) + 1 by simp] at this
    rw [this]
    congr 2
    push_cast
    omega
end
theorem shaped_leaf (l : List Int) : M.syntax_shaped ⟨1, l, [], 0, 0⟩ = some true := by
  rw [M.syntax_shaped, if_pos rfl, M.syntax_shaped_l0]; try dsimp only
  rw [if_pos rfl, if_pos (by simp)]; rfl
theorem shaped_many (k : Int) (hk : k = 2 ∨ k = 3) (L : List T27) : M.syntax_shaped ⟨k, [0, 0, 0, 0], L, 0, 0⟩ = some true := by
  rw [M.syntax_shaped, if_pos rfl, M.syntax_shaped_l0]; try dsimp only
  rcases hk with rfl | rfl
  · rw [if_neg (by decide), if_pos rfl, M.syntax_shaped_l1]; try dsimp only
    rw [if_pos rfl, if_pos rfl]; rfl
  · rw [if_neg (by decide), if_neg (by decide), M.syntax_shaped_l1]; try dsimp only
    rw [if_pos (by rfl), if_pos rfl]; rfl
theorem shaped_times (r : T27) (lo hi : Int) (h0 : 0 ≤ lo) (h1 : lo ≤ 64) (h2 : hi = -1 ∨ (lo ≤ hi ∧ hi ≤ 64)) : M.syntax_shaped ⟨4, [0, 0, 0, 0], [r], lo, hi⟩ = some true := by
  have go : ∀ b : Bool, M.syntax_shaped_l0 (⟨4, [0, 0, 0, 0], [r], lo, hi⟩, [0, 0, 0, 0], b) = some true := by
    intro b
    have l3 : M.syntax_shaped_l3 (⟨4, [0, 0, 0, 0], [r], lo, hi⟩, [0, 0, 0, 0], true, true) = some true := by
      rw [M.syntax_shaped_l3]; try dsimp only
      rw [if_pos (by simp), if_pos rfl, if_pos rfl]
    rw [M.syntax_shaped_l0]; try dsimp only
    rw [if_neg (by decide), if_neg (by decide), decide_eq_false (by decide), M.syntax_shaped_l1]; try dsimp only
    rw [if_neg (by decide), if_pos rfl, if_pos h0, decide_eq_true h1, M.syntax_shaped_l2]; try dsimp only
    by_cases hm : hi = -1
    · rw [if_pos hm, l3]
    · rw [if_neg hm, if_pos (by omega), decide_eq_true (by omega), l3]
  rw [M.syntax_shaped]; dsimp only
  by_cases hz : lo = 0
  · rw [if_pos hz, go]
  · rw [if_neg hz, go]
mutual
theorem right_V {r : T27} {c d : Nat} : V r c d → c ≤ 4096 → M.syntax_right r = some true
  | .leaf l, _ => by
    rw [M.syntax_right]; try dsimp only
    rw [M.syntax_right_l0]; try dsimp only
    rw [if_neg (by simp), shaped_leaf, bnd]
  | .many (L := L) (c := c) k hk h, hc => by
    have hl := h.len
    rw [M.syntax_right]; try dsimp only
    exact right_VL h (by omega) L [] _ rfl (by omega) (shaped_many k hk L)
  | .times (r := r) h lo hi h0 h1 h2, hc => by
    rw [M.syntax_right]; try dsimp only
    rw [M.syntax_right_l0]; try dsimp only
    rw [if_pos (by simp), if_pos (by omega), if_pos (by simp), show gi [r] 0 = r from rfl, eta27, right_V h (by omega), bnd, if_pos rfl, show wr .i64 (0 + 1) = 1 from rfl]
    rw [M.syntax_right_l0]; try dsimp only
    rw [if_neg (by simp), shaped_times r lo hi h0 h1 h2, bnd]
theorem right_VL {L : List T27} {c d : Nat} : VL L c d → c ≤ 4096 → ∀ (L0 pre : List T27) (x : T27), L0 = pre ++ L → L0.length ≤ 5000 → M.syntax_shaped x = some true → M.syntax_right_l0 (x, L0, (L0.length : Int), (pre.length : Int)) = some true
  | .nil, hc, L0, pre, x, e, hl, hs => by
    rw [M.syntax_right_l0]; try dsimp only
    subst e
    rw [if_neg (by simp), hs, bnd]
  | .cons (r := r) (t := t) h ht, hc, L0, pre, x, e, hl, hs => by
    have hlen : L0.length = pre.length + (t.length + 1) := by rw [e]; simp
    have hg : gi L0 (pre.length : Int) = r := by rw [e]; simp [gi]
    rw [M.syntax_right_l0]; try dsimp only
    rw [if_pos (by omega), if_pos (by omega), if_pos (by omega), hg, eta27, right_V h (by omega), bnd, if_pos rfl, wr_i64 (by omega) (by omega)]
    have := right_VL ht (by omega) L0 (pre ++ [r]) x (by rw [e]; simp) hl hs
    rw [show (((pre ++ [r]).length : Nat) : Int) = (pre.length : Int) + 1 by simp] at this
    exact this
end
theorem size_ok {r : T27} {c d : Nat} (h : V r c d) (hc : c ≤ 4096) (hd : d ≤ 128) : M.syntax_Size r = some (c : Int) := by
  rw [M.syntax_Size, count_V h 128 0 (by omega) (by omega) (by omega) (by omega), bnd]
  dsimp only
  rw [if_pos rfl, right_V h hc, bnd, if_pos rfl, Int.zero_add]

/-! ### Parse -/
theorem parse_of (x : ByteArray) (hx : x.size ≤ 256) (r : T27) (q : T48) (e : M.syntax_parser_alternation ⟨x, 0, 0, none⟩ = some (r, q)) :
    M.syntax_Parse x = some (match q.bad with | some w => (re0, w.at_, 100) | none => if q.at_ < x.size then (re0, q.at_, 100) else (r, 0, 0)) := by
  rw [M.syntax_Parse, if_neg (by omega), e, bnd]; dsimp only
  obtain ⟨s', a, d, b⟩ := q
  cases b with
  | some w =>
    rw [bnd]; try dsimp only
    rw [M.syntax_Parse_l0]; try dsimp only
    rw [if_neg (by decide), M.syntax_Parse_l1]; try dsimp only
    rw [bnd]; try dsimp only
    rw [M.syntax_Parse_l2]; try dsimp only
    rw [if_pos rfl]; rfl
  | none =>
    rw [bnd]; try dsimp only
    rw [M.syntax_Parse_l0]; try dsimp only
    by_cases h : a < (x.size : Int)
    · rw [decide_eq_true h, if_pos rfl, fail_eq, bnd, if_pos h, M.syntax_Parse_l1]; try dsimp only
      dsimp only [fl]; rw [bnd]; try dsimp only
      rw [M.syntax_Parse_l2]; try dsimp only
      rw [if_pos rfl]; rfl
    · rw [decide_eq_false h, if_neg (by decide), if_neg h, M.syntax_Parse_l1]; try dsimp only
      rw [bnd]; try dsimp only
      rw [M.syntax_Parse_l2]; try dsimp only
      rw [if_neg (by decide)]

/-! ### The chapter's examples -/
theorem seq_un {s : ByteArray} (x : T27) (p : T48) (acc : List T27) (h : Good s p) : M.syntax_parser_sequence_l0 (x, acc, p) = M.syntax_parser_sequence_l1 (x, acc, decide (p.bad = none ∧ p.at_ < p.s.size ∧ pk p ≠ 124 ∧ pk p ≠ 41), p) := by
  have := seq_open x p acc
  refine this.trans ?_
  by_cases hb : p.bad = none
  · rw [if_pos hb]
    by_cases hl : p.at_ < (p.s.size : Int)
    · rw [if_pos hl, peek_eq h, bnd]; dsimp only
      by_cases h1 : pk p = 124
      · rw [if_pos h1, decide_eq_false (by omega)]
      · rw [if_neg h1, peek_eq h, bnd]; dsimp only
        by_cases h2 : pk p = 41
        · rw [decide_eq_true h2, decide_eq_false (by omega)]; rfl
        · rw [decide_eq_false h2, decide_eq_true ⟨hb, hl, h1, h2⟩]; rfl
    · rw [if_neg hl, decide_eq_false (by omega)]
  · rw [if_neg hb, decide_eq_false (fun hh => hb hh.1)]
theorem atom_plain {s : ByteArray} {p : T48} (h : Good s p) (h1 : ¬ pk p < 32) (h2 : ¬ pk p > 126) (h3 : ¬ ixB (⟨#[93, 41, 42, 43, 63, 123, 125, 94, 36, 124]⟩ : ByteArray) (pk p) ≥ 0) (h4 : pk p ≠ 40 ∧ pk p ≠ 46 ∧ pk p ≠ 91 ∧ pk p ≠ 92) :
    ∃ l, M.syntax_parser_atom p = some (⟨1, l, [], 0, 0⟩, adv p) := by
  obtain ⟨l, hl⟩ := one_ok (pk p) (pk_range p).1 (pk_range p).2
  rw [M.syntax_parser_atom, peek_eq h, bnd]; dsimp only
  rw [if_neg h1, if_neg h2, idx_eq, bnd, decide_eq_false h3, M.syntax_parser_atom_l0]; try dsimp only
  rw [if_neg (by decide), if_neg h4.1, M.syntax_parser_atom_l1]; try dsimp only
  rw [if_neg (by decide), take_ok h 46 (by omega), if_neg h4.2.1, bnd]; dsimp only
  rw [if_neg (by decide), take_ok h 91 (by omega), if_neg h4.2.2.1, bnd]; dsimp only
  rw [if_neg (by decide), take_ok h 40 (by omega), if_neg h4.1, bnd]; dsimp only
  rw [if_neg (by decide), take_ok h 92 (by omega), if_neg h4.2.2.2, bnd]; dsimp only
  rw [if_neg (by decide), hl, bnd, adv_eq h]
  exact ⟨_, rfl⟩
theorem piece_bare {s : ByteArray} {p q : T48} {r : T27} (e : M.syntax_parser_atom p = some (r, q)) (h : Good s q) (h4 : pk q ≠ 42 ∧ pk q ≠ 43 ∧ pk q ≠ 63 ∧ pk q ≠ 123) : M.syntax_parser_piece p = some (r, q) := by
  rw [M.syntax_parser_piece, e, bnd]; dsimp only
  rw [take_ok h 42 (by omega), if_neg h4.1, bnd]; dsimp only
  rw [if_neg (by decide), take_ok h 43 (by omega), if_neg h4.2.1, bnd]; dsimp only
  rw [if_neg (by decide), take_ok h 63 (by omega), if_neg h4.2.2.1, bnd]; dsimp only
  rw [if_neg (by decide), take_ok h 123 (by omega), if_neg h4.2.2.2, bnd]; dsimp only
  rw [if_neg (by decide)]
theorem piece_star {s : ByteArray} {p q : T48} {r : T27} (e : M.syntax_parser_atom p = some (r, q)) (h : Good s q) (h4 : pk q = 42) : M.syntax_parser_piece p = some (⟨4, [0, 0, 0, 0], [r], 0, -1⟩, adv q) := by
  rw [M.syntax_parser_piece, e, bnd]; dsimp only
  rw [take_ok h 42 (by omega), if_pos h4, bnd]; dsimp only
  rw [if_pos rfl]
theorem seq_more {s : ByteArray} (x : T27) {p q : T48} {r : T27} (acc : List T27) (hl : acc.length ≤ 1000) (h : Good s p) (hg : p.bad = none ∧ p.at_ < p.s.size ∧ pk p ≠ 124 ∧ pk p ≠ 41) (e : M.syntax_parser_piece p = some (r, q)) : M.syntax_parser_sequence_l0 (x, acc, p) = M.syntax_parser_sequence_l0 (x, acc ++ [r], q) := by
  rw [seq_un x p acc h, decide_eq_true hg, M.syntax_parser_sequence_l1]; try dsimp only
  rw [if_pos rfl, e, bnd]; dsimp only
  rw [if_pos (by simp; omega)]
theorem seq_stop {s : ByteArray} (x : T27) {p : T48} (acc : List T27) (h : Good s p) (hg : ¬ (p.bad = none ∧ p.at_ < p.s.size ∧ pk p ≠ 124 ∧ pk p ≠ 41)) : ∃ r, M.syntax_several 2 acc = some r ∧ M.syntax_parser_sequence_l0 (x, acc, p) = some (r, p) := by
  obtain ⟨r, hr⟩ := several_any 2 acc
  refine ⟨r, hr, ?_⟩
  rw [seq_un x p acc h, decide_eq_false hg, M.syntax_parser_sequence_l1]; try dsimp only
  rw [if_neg (by decide), hr, bnd]
theorem several_one (k : Int) (r : T27) : M.syntax_several k [r] = some r := by
  rw [M.syntax_several, if_pos (by simp), if_pos (by simp), show gi [r] 0 = r from rfl, eta27]
theorem alt_stop {s : ByteArray} (x : T27) {p : T48} (acc : List T27) (h : Good s p) (hg : pk p ≠ 124) : ∃ r, M.syntax_several 3 acc = some r ∧ M.syntax_parser_alternation_l0 (x, acc, p) = some (r, p) := by
  obtain ⟨r, hr⟩ := several_any 3 acc
  refine ⟨r, hr, ?_⟩
  rw [M.syntax_parser_alternation_l0]; try dsimp only
  rw [take_ok h 124 (by omega), if_neg hg, bnd]; dsimp only
  rw [if_neg (by decide), hr, bnd]
def P (s : ByteArray) (i : Int) : T48 := ⟨s, i, 0, none⟩
theorem P_good (s : ByteArray) (i : Int) (h0 : 0 ≤ i) (h1 : i ≤ s.size) (h2 : s.size ≤ 256) : Good s (P s i) := ⟨rfl, h0, h1, h2, fun w hw => by cases hw⟩
theorem ex1 : ∃ l1 l2, M.syntax_Parse (⟨#[97, 124, 98, 42]⟩ : ByteArray) = some (⟨3, [0, 0, 0, 0], [⟨1, l1, [], 0, 0⟩, ⟨4, [0, 0, 0, 0], [⟨1, l2, [], 0, 0⟩], 0, -1⟩], 0, 0⟩, 0, 0) := by
  generalize hs : (⟨#[97, 124, 98, 42]⟩ : ByteArray) = s
  have hz : s.size = 4 := by rw [← hs]; rfl
  have g0 := P_good s 0 (by omega) (by omega) (by omega)
  have g1 := P_good s 1 (by omega) (by omega) (by omega)
  have g2 := P_good s 2 (by omega) (by omega) (by omega)
  have g3 := P_good s 3 (by omega) (by omega) (by omega)
  have g4 := P_good s 4 (by omega) (by omega) (by omega)
  have k0 : pk (P s 0) = 97 := by rw [← hs]; decide
  have k1 : pk (P s 1) = 124 := by rw [← hs]; decide
  have k2 : pk (P s 2) = 98 := by rw [← hs]; decide
  have k3 : pk (P s 3) = 42 := by rw [← hs]; decide
  have k4 : pk (P s 4) = 0 := by rw [← hs]; decide
  obtain ⟨l1, e1⟩ := atom_plain g0 (by omega) (by omega) (by rw [k0]; decide) (by omega)
  obtain ⟨l2, e2⟩ := atom_plain g2 (by omega) (by omega) (by rw [k2]; decide) (by omega)
  have p1 := piece_bare e1 g1 (by rw [show adv (P s 0) = P s 1 from rfl, k1]; omega)
  have p2 := piece_star e2 g3 k3
  refine ⟨l1, l2, ?_⟩
  have s1 : M.syntax_parser_sequence (P s 0) = some (⟨1, l1, [], 0, 0⟩, P s 1) := by
    rw [M.syntax_parser_sequence, seq_more _ [] (by simp) g0 ⟨rfl, by simp only [P]; omega, by omega, by omega⟩ p1]
    obtain ⟨r, h1, h2⟩ := seq_stop ⟨0, [0, 0, 0, 0], [], 0, 0⟩ ([] ++ [⟨1, l1, [], 0, 0⟩]) g1 (fun hh => hh.2.2.1 k1)
    rw [show adv (P s 0) = P s 1 from rfl, h2]
    rw [List.nil_append, several_one] at h1
    rw [Option.some.inj h1]
  have s2 : M.syntax_parser_sequence (P s 2) = some (⟨4, [0, 0, 0, 0], [⟨1, l2, [], 0, 0⟩], 0, -1⟩, P s 4) := by
    rw [M.syntax_parser_sequence, seq_more _ [] (by simp) g2 ⟨rfl, by simp only [P]; omega, by omega, by omega⟩ p2]
    obtain ⟨r, h1, h2⟩ := seq_stop ⟨0, [0, 0, 0, 0], [], 0, 0⟩ ([] ++ [⟨4, [0, 0, 0, 0], [⟨1, l2, [], 0, 0⟩], 0, -1⟩]) g4 (fun hh => by have := hh.2.1; simp only [P] at this; omega)
    rw [show adv (adv (P s 2)) = P s 4 from rfl, h2]
    rw [List.nil_append, several_one] at h1
    rw [Option.some.inj h1]
  have a1 : M.syntax_parser_alternation (P s 0) = some (⟨3, [0, 0, 0, 0], [⟨1, l1, [], 0, 0⟩, ⟨4, [0, 0, 0, 0], [⟨1, l2, [], 0, 0⟩], 0, -1⟩], 0, 0⟩, P s 4) := by
    rw [M.syntax_parser_alternation, s1, bnd]; dsimp only
    rw [M.syntax_parser_alternation_l0]; try dsimp only
    rw [take_ok g1 124 (by omega), if_pos k1, bnd]; dsimp only
    rw [if_pos rfl, show adv (P s 1) = P s 2 from rfl, s2, bnd]; dsimp only
    rw [if_pos (by simp)]
    obtain ⟨r, h1, h2⟩ := alt_stop ⟨0, [0, 0, 0, 0], [], 0, 0⟩ ([⟨1, l1, [], 0, 0⟩] ++ [⟨4, [0, 0, 0, 0], [⟨1, l2, [], 0, 0⟩], 0, -1⟩]) g4 (by omega)
    rw [h2]
    rw [M.syntax_several, if_neg (by simp)] at h1
    rw [← Option.some.inj h1]
    rfl
  rw [parse_of s (by omega) _ _ a1]
  simp only [P, hz]
  rfl
theorem ex2 : ∃ r, M.syntax_Parse (⟨#[97, 42, 42]⟩ : ByteArray) = some (r, 2, 100) := by
  generalize hs : (⟨#[97, 42, 42]⟩ : ByteArray) = s
  have hz : s.size = 3 := by rw [← hs]; rfl
  have g0 := P_good s 0 (by omega) (by omega) (by omega)
  have g1 := P_good s 1 (by omega) (by omega) (by omega)
  have g2 := P_good s 2 (by omega) (by omega) (by omega)
  have k0 : pk (P s 0) = 97 := by rw [← hs]; decide
  have k1 : pk (P s 1) = 42 := by rw [← hs]; decide
  have k2 : pk (P s 2) = 42 := by rw [← hs]; decide
  have gf := (fl_ok g2 2 (by omega) (by omega) 0).good
  have kf : pk (fl (P s 2) 2) = 0 := by rw [pk, if_neg (fun hh => fl_bad _ _ hh.1)]
  obtain ⟨l1, e1⟩ := atom_plain g0 (by omega) (by omega) (by rw [k0]; decide) (by omega)
  have p1 := piece_star e1 g1 k1
  have e2 : M.syntax_parser_atom (P s 2) = some (re0, fl (P s 2) 2) := by
    rw [M.syntax_parser_atom, peek_eq g2, bnd]; dsimp only
    rw [if_neg (by omega), if_neg (by omega), idx_eq, bnd, decide_eq_true (by rw [k2]; decide), M.syntax_parser_atom_l0]; try dsimp only
    rw [if_pos rfl, fail_eq, bnd]
    rfl
  have p2 := piece_bare e2 gf (by rw [kf]; omega)
  have s1 : ∃ r, M.syntax_parser_sequence (P s 0) = some (r, fl (P s 2) 2) := by
    rw [M.syntax_parser_sequence, seq_more _ [] (by simp) g0 ⟨rfl, by simp only [P]; omega, by omega, by omega⟩ p1, show adv (adv (P s 0)) = P s 2 from rfl, seq_more _ _ (by simp) g2 ⟨rfl, by simp only [P]; omega, by omega, by omega⟩ p2]
    obtain ⟨r, h1, h2⟩ := seq_stop ⟨0, [0, 0, 0, 0], [], 0, 0⟩ ([] ++ [⟨4, [0, 0, 0, 0], [⟨1, l1, [], 0, 0⟩], 0, -1⟩] ++ [re0]) gf (fun hh => fl_bad _ _ hh.1)
    exact ⟨r, h2⟩
  obtain ⟨r1, s1⟩ := s1
  obtain ⟨r, h1, h2⟩ := alt_stop ⟨0, [0, 0, 0, 0], [], 0, 0⟩ [r1] gf (by omega)
  have a1 : M.syntax_parser_alternation (P s 0) = some (r, fl (P s 2) 2) := by
    rw [M.syntax_parser_alternation, s1, bnd]
    exact h2
  rw [parse_of s (by omega) _ _ a1]
  exact ⟨_, rfl⟩
theorem item_plain {s : ByteArray} {p : T48} (h : Good s p) (h1 : ¬ pk p < 32) (h2 : ¬ pk p > 126) (h3 : ¬ ixB (⟨#[93, 91, 45]⟩ : ByteArray) (pk p) ≥ 0) (h4 : pk p ≠ 92) : ∃ l, M.syntax_parser_item p = some (⟨l, pk p, true⟩, adv p) := by
  obtain ⟨l, hl⟩ := one_ok (pk p) (pk_range p).1 (pk_range p).2
  rw [M.syntax_parser_item, peek_eq h, bnd]; dsimp only
  rw [take_ok h 92 (by omega), if_neg h4, bnd]; dsimp only
  rw [if_neg (by decide), if_neg h1, if_neg h2, idx_eq, bnd, decide_eq_false h3, M.syntax_parser_item_l0]; try dsimp only
  rw [if_neg (by decide), M.syntax_of, hl, bnd, bnd, adv_eq h]
  exact ⟨_, rfl⟩
theorem ex3 : ∃ r e, M.syntax_Parse (⟨#[91, 98, 45, 97, 93]⟩ : ByteArray) = some (r, 1, e) := by
  generalize hs : (⟨#[91, 98, 45, 97, 93]⟩ : ByteArray) = s
  have hz : s.size = 5 := by rw [← hs]; rfl
  have g0 := P_good s 0 (by omega) (by omega) (by omega)
  have g1 := P_good s 1 (by omega) (by omega) (by omega)
  have g2 := P_good s 2 (by omega) (by omega) (by omega)
  have g3 := P_good s 3 (by omega) (by omega) (by omega)
  have g4 := P_good s 4 (by omega) (by omega) (by omega)
  have k0 : pk (P s 0) = 91 := by rw [← hs]; decide
  have k1 : pk (P s 1) = 98 := by rw [← hs]; decide
  have k2 : pk (P s 2) = 45 := by rw [← hs]; decide
  have k3 : pk (P s 3) = 97 := by rw [← hs]; decide
  have gf := (fl_ok g4 1 (by omega) (by omega) 0).good
  have kf : pk (fl (P s 4) 1) = 0 := by rw [pk, if_neg (fun hh => fl_bad _ _ hh.1)]
  obtain ⟨l1, e1⟩ := item_plain g1 (by omega) (by omega) (by rw [k1]; decide) (by omega)
  obtain ⟨l2, e2⟩ := item_plain g3 (by omega) (by omega) (by rw [k3]; decide) (by omega)
  have pr : M.syntax_parser_pair (P s 1) = some (l1, fl (P s 4) 1) := by
    rw [M.syntax_parser_pair, e1, bnd]; dsimp only
    rw [show adv (P s 1) = P s 2 from rfl, peek_eq g2, bnd]; dsimp only
    rw [if_pos k2, if_pos rfl, adv_eq g2, show adv (P s 2) = P s 3 from rfl, e2, bnd]
    dsimp only [adv, P]; rw [bnd]; try dsimp only
    rw [M.syntax_parser_pair_l0]; try dsimp only
    have k1' : pk { s := s, at_ := 1, deep := 0, bad := none } = 98 := k1
    have k3' : pk { s := s, at_ := 3, deep := 0, bad := none } = 97 := k3
    rw [if_neg (by decide), if_pos rfl, k1', k3', if_pos (by omega), fail_eq, bnd]
    rfl
  have cl : ∃ l, M.syntax_parser_class (P s 1) = some (⟨1, l, [], 0, 0⟩, fl (P s 4) 1) := by
    obtain ⟨j, hj⟩ := join_ok [[0, 0, 0, 0], l1] (by simp)
    rw [M.syntax_parser_class, take_ok g1 94 (by omega), if_neg (by omega), bnd]; dsimp only
    rw [M.syntax_parser_items, bnd, M.syntax_parser_items_1, M.syntax_parser_items_1_l0]; try dsimp only
    dsimp only [P]; rw [bnd]; try dsimp only
    rw [if_pos rfl, M.syntax_parser_items_1_l1]; try dsimp only
    have pr' : M.syntax_parser_pair { s := s, at_ := 1, deep := 0, bad := none } = some (l1, fl (P s 4) 1) := pr
    rw [if_pos rfl, pr', bnd]; dsimp only
    rw [M.syntax_parser_class_r_2, hj, bnd, bnd]; try dsimp only
    rw [M.syntax_parser_items_1_l0]; try dsimp only
    dsimp only [fl, P]; rw [bnd]; try dsimp only
    rw [M.syntax_parser_items_1_l1]; try dsimp only
    rw [if_neg (by decide), bnd]; dsimp only
    rw [if_neg (by decide)]
    exact ⟨_, rfl⟩
  obtain ⟨l, cl⟩ := cl
  have at_ : M.syntax_parser_atom (P s 0) = some (⟨1, l, [], 0, 0⟩, fl (P s 4) 1) := by
    rw [M.syntax_parser_atom, peek_eq g0, bnd]; dsimp only
    rw [if_neg (by omega), if_neg (by omega), idx_eq, bnd, decide_eq_false (by rw [k0]; decide), M.syntax_parser_atom_l0]; try dsimp only
    rw [if_neg (by decide), if_neg (by omega), M.syntax_parser_atom_l1]; try dsimp only
    rw [if_neg (by decide), take_ok g0 46 (by omega), if_neg (by omega), bnd]; dsimp only
    rw [if_neg (by decide), take_ok g0 91 (by omega), if_pos k0, bnd]; dsimp only
    rw [if_pos rfl, show adv (P s 0) = P s 1 from rfl, cl, bnd]
  have p1 := piece_bare at_ gf (by rw [kf]; omega)
  obtain ⟨r1, _, h1⟩ := seq_stop ⟨0, [0, 0, 0, 0], [], 0, 0⟩ ([] ++ [⟨1, l, [], 0, 0⟩]) gf (fun hh => fl_bad _ _ hh.1)
  obtain ⟨r, _, h2⟩ := alt_stop ⟨0, [0, 0, 0, 0], [], 0, 0⟩ [r1] gf (by omega)
  have a1 : M.syntax_parser_alternation (P s 0) = some (r, fl (P s 4) 1) := by
    rw [M.syntax_parser_alternation, M.syntax_parser_sequence, seq_more _ [] (by simp) g0 ⟨rfl, by simp only [P]; omega, by omega, by omega⟩ p1, h1, bnd]
    exact h2
  rw [parse_of s (by omega) _ _ a1]
  exact ⟨_, _, rfl⟩
theorem works_eq : M.tidepolelaw10_works = some true := by
  obtain ⟨l1, l2, h1⟩ := ex1
  obtain ⟨r2, h2⟩ := ex2
  obtain ⟨r3, e3, h3⟩ := ex3
  rw [M.tidepolelaw10_works, h1, bnd, h2, bnd, h3, bnd]; dsimp only
  have hg : ∀ a b : T27, gi [a, b] 1 = b := fun _ _ => rfl
  rw [hg]; dsimp only
  rw [if_pos rfl, if_pos rfl, if_pos (by simp), if_pos (by simp), if_pos rfl, if_pos rfl, if_pos rfl, if_pos rfl, decide_eq_true rfl]

/-! ### The law -/
theorem pureSyntaxReads (x0 : ByteArray) (o0 : (fun s : ByteArray => s.size ≤ maxLen) x0) (hb : x0.size + 1 ≤ 1048576) : M.tidepolelaw10_SyntaxReads x0 = some true := by
  have hm : imn (x0.size : Int) 257 = ((min x0.size 257 : Nat) : Int) := by unfold imn; split <;> omega
  rw [M.tidepolelaw10_SyntaxReads, works_eq, bnd, if_pos rfl, hm, if_pos (by omega), if_pos (by omega)]
  generalize hx : ss x0 0 ((min x0.size 257 : Nat) : Int) = x
  have hsz : x.size ≤ 257 := by
    rw [← hx]
    simp [ss, ByteArray.size_extract]; omega
  by_cases h256 : x.size ≤ 256
  · obtain ⟨r, q, e, k1, k2⟩ := alt_ok (s := x) 300 (P x 0) (P_good x 0 (by omega) (by omega) h256) ⟨Int.le_refl _, by simp [P]⟩ (by simp only [P]; omega)
    rw [parse_of x h256 r q e, bnd]
    have hgood := k1.good
    have bad : ∀ a : Int, 0 ≤ a → a ≤ x.size → (if ((re0, a, 100) : T27 × Int × Int).2.2 = 0 then (if ((re0, a, 100) : T27 × Int × Int).2.1 = 0 then M.syntax_Check re0 >>= fun y12 => if y12 = true then M.syntax_Size re0 >>= fun y15 => if y15 ≥ 1 then M.syntax_Size re0 >>= fun y18 => some (decide (y18 ≤ wr .i64 ((wr .i64 (2 * (x.size : Int))) + 1))) else some false else some false else some false) else
        if a ≥ 0 then if a ≤ (x.size : Int) then M.tidepolelaw10_SyntaxReads_l0 true else M.tidepolelaw10_SyntaxReads_l0 false else M.tidepolelaw10_SyntaxReads_l0 false) = some true := by
      intro a h0 h1
      rw [if_neg (by dsimp only; omega), if_pos h0, if_pos h1]
      rfl
    cases hq : q.bad with
    | some w =>
      obtain ⟨w0, w1⟩ := hgood.2.2.2.2 w hq
      dsimp only
      rw [if_neg (by omega), if_pos w0, if_pos w1, if_pos rfl]
      rfl
    | none =>
      dsimp only
      by_cases hlt : q.at_ < (x.size : Int)
      · rw [if_pos hlt]; dsimp only
        rw [if_neg (by omega), if_pos hgood.2.1, if_pos (by omega), if_pos rfl]
        rfl
      · obtain ⟨c, d, v, hc, hd⟩ := k2 hq
        have hle := hgood.2.2.1
        have hP : (P x 0).at_ = 0 ∧ (P x 0).deep = 0 := ⟨rfl, rfl⟩
        have hpos := v.pos
        have hS := size_ok v (by omega) (by omega)
        rw [if_neg hlt]; dsimp only
        rw [if_pos rfl, if_pos rfl, M.syntax_Check, hS, bnd, bnd, decide_eq_true (by omega), if_pos rfl, bnd, if_pos (by omega), bnd, wr_i64 (x := 2 * (x.size : Int)) (by omega) (by omega), wr_i64 (by omega) (by omega), decide_eq_true (by omega)]
  · rw [M.syntax_Parse, if_pos (by omega), bnd]; dsimp only
    rw [if_neg (by omega), if_pos (by omega), if_pos (by omega), if_neg (by omega), if_pos rfl, if_pos rfl, decide_eq_true (by omega)]
    rfl
end Go.Proofs.Ytemokppdnkiejaa
