/-
  The parser: it ends, tells places that are there, and what it reads may be.
-/
import Derived.Test.YtemokppdnkiejaaMSyn
import Derived.Test.YtemokppdnkiejaaGR
set_option linter.unusedVariables false
set_option linter.unusedSimpArgs false
namespace Go.Proofs.Ytemokppdnkiejaa
open Go.Gx

theorem bnd {α β : Type} (a : α) (f : α → Option β) : (some a >>= f) = f a := rfl
theorem wr_i64 {x : Int} (h0 : -9223372036854775808 ≤ x) (h1 : x ≤ 9223372036854775807) : wr .i64 x = x := by
  simp only [wr, IntKind.wrap, IntKind.signed, IntKind.bits]
  simp
  split <;> omega
theorem wr_u8_range (x : Int) : 0 ≤ IntKind.u8.wrap x ∧ IntKind.u8.wrap x ≤ 255 := by
  simp only [IntKind.wrap, IntKind.signed, IntKind.bits]
  simp
  omega
theorem bt_range (s : ByteArray) (i : Int) : 0 ≤ bt s i ∧ bt s i ≤ 255 := by
  unfold bt
  split
  · rename_i h
    have := (s[i.toNat]'h).toNat_lt
    omega
  · omega

/-! ### Sets -/
theorem one_ok (x : Int) (h0 : 0 ≤ x) (h1 : x ≤ 255) : ∃ l, M.syntax_one x = some l := by
  obtain ⟨n, rfl⟩ := Int.eq_ofNat_of_zero_le h0
  have e1 : irem .u8 (n : Int) 64 = ((n % 64 : Nat) : Int) := by
    simp only [irem]
    rw [Int.tmod_eq_emod_of_nonneg (Int.natCast_nonneg _)]
    rfl
  have e2 : iquo .u8 (n : Int) 64 = ((n / 64 : Nat) : Int) := by
    simp only [iquo]
    rw [Int.tdiv_eq_ediv_of_nonneg (Int.natCast_nonneg _)]
    simp only [IntKind.wrap, IntKind.signed, IntKind.bits]
    simp
    omega
  rw [M.syntax_one, e1, e2, if_pos (by omega), if_pos (by omega), if_pos (by omega)]
  exact ⟨_, rfl⟩
theorem span_l0_ok (b : Int) (hb : 0 ≤ b ∧ b ≤ 255) (z : List Int) (k : Nat) : ∀ (x : Nat) (l : List Int), b - x < k → ∃ r, M.syntax_span_l0 (b, z, l, (x : Int)) = some r := by
  have stop : ∀ (x : Nat) (l : List Int), b < x → ∃ r, M.syntax_span_l0 (b, z, l, (x : Int)) = some r := by
    intro x l h
    rw [M.syntax_span_l0]; try dsimp only
    rw [wr_i64 (by omega) (by omega), if_neg (by omega)]
    exact ⟨_, rfl⟩
  induction k with
  | zero => intro x l h; exact stop x l (by omega)
  | succ k ih =>
    intro x l h
    by_cases hx : b < x
    · exact stop x l hx
    have e1 : irem .i64 (x : Int) 64 = ((x % 64 : Nat) : Int) := by
      simp only [irem]
      rw [Int.tmod_eq_emod_of_nonneg (Int.natCast_nonneg _)]
      rfl
    have e2 : iquo .i64 (x : Int) 64 = ((x / 64 : Nat) : Int) := by
      simp only [iquo]
      rw [Int.tdiv_eq_ediv_of_nonneg (Int.natCast_nonneg _)]
      exact wr_i64 (x := (x : Int) / 64) (by omega) (by omega)
    rw [M.syntax_span_l0]; try dsimp only
    rw [wr_i64 (x := b) (by omega) (by omega), if_pos (by omega), e1, e2, if_pos (by omega), if_pos (by omega), if_pos (by omega), bnd, wr_i64 (by omega) (by omega), show (x : Int) + 1 = ((x + 1 : Nat) : Int) by omega]
    exact ih (x + 1) _ (by omega)
theorem span_ok (a b : Int) (ha : 0 ≤ a ∧ a ≤ 255) (hb : 0 ≤ b ∧ b ≤ 255) : ∃ r, M.syntax_span a b = some r := by
  obtain ⟨n, rfl⟩ := Int.eq_ofNat_of_zero_le ha.1
  rw [M.syntax_span, wr_i64 (by omega) (by omega)]
  exact span_l0_ok b hb _ 300 n _ (by omega)
theorem join_l0_ok (z : List Int) (l : List (List Int)) (hl : l.length ≤ 1000) (k : Nat) : ∀ (i : Nat) (x : List Int), i + k = l.length → ∃ r, M.syntax_join_l0 (z, x, l, (l.length : Int), (i : Int)) = some r := by
  induction k with
  | zero =>
    intro i x hi
    rw [M.syntax_join_l0]; try dsimp only
    rw [if_neg (by omega)]
    exact ⟨_, rfl⟩
  | succ k ih =>
    intro i x hi
    rw [M.syntax_join_l0]; try dsimp only
    rw [if_pos (by omega), if_pos (by omega), if_pos (by omega)]
    rw [M.syntax_join_l1]; try dsimp only
    rw [if_pos (by omega), if_pos (by omega), bnd, show wr .i64 (0 + 1) = 1 from rfl]
    rw [M.syntax_join_l1]; try dsimp only
    rw [if_pos (by omega), if_pos (by omega), bnd, show wr .i64 (1 + 1) = 2 from rfl]
    rw [M.syntax_join_l1]; try dsimp only
    rw [if_pos (by omega), if_pos (by omega), bnd, show wr .i64 (2 + 1) = 3 from rfl]
    rw [M.syntax_join_l1]; try dsimp only
    rw [if_pos (by omega), if_pos (by omega), bnd, show wr .i64 (3 + 1) = 4 from rfl]
    rw [M.syntax_join_l1]; try dsimp only
    rw [if_neg (by omega), wr_i64 (by omega) (by omega), show (i : Int) + 1 = ((i + 1 : Nat) : Int) by omega]
    exact ih (i + 1) _ (by omega)
theorem join_ok (l : List (List Int)) (hl : l.length ≤ 1000) : ∃ r, M.syntax_join l = some r := by
  rw [M.syntax_join]
  exact join_l0_ok _ l hl l.length 0 _ (by omega)
theorem not_ok (l : List Int) : ∃ r, M.syntax_not l = some r := by
  rw [M.syntax_not]
  rw [M.syntax_not_l0]; try dsimp only
  rw [if_pos (by omega), if_pos (by omega), bnd, show wr .i64 (0 + 1) = 1 from rfl]
  rw [M.syntax_not_l0]; try dsimp only
  rw [if_pos (by omega), if_pos (by omega), bnd, show wr .i64 (1 + 1) = 2 from rfl]
  rw [M.syntax_not_l0]; try dsimp only
  rw [if_pos (by omega), if_pos (by omega), bnd, show wr .i64 (2 + 1) = 3 from rfl]
  rw [M.syntax_not_l0]; try dsimp only
  rw [if_pos (by omega), if_pos (by omega), bnd, show wr .i64 (3 + 1) = 4 from rfl]
  rw [M.syntax_not_l0]; try dsimp only
  rw [if_neg (by omega)]
  exact ⟨_, rfl⟩
theorem class_ok (c : Int) : ∃ l b, M.syntax_class c = some (l, b) ∧ (b = true → c ≠ 0) := by
  have hc : c = 0 → ior .u8 c 32 = 32 := by rintro rfl; rfl
  obtain ⟨a1, h1⟩ := span_ok 97 122 (by omega) (by omega)
  obtain ⟨a2, h2⟩ := span_ok 65 90 (by omega) (by omega)
  obtain ⟨a3, h3⟩ := one_ok 95 (by omega) (by omega)
  obtain ⟨a4, h4⟩ := span_ok 48 57 (by omega) (by omega)
  obtain ⟨a5, h5⟩ := span_ok 9 10 (by omega) (by omega)
  obtain ⟨a6, h6⟩ := span_ok 12 13 (by omega) (by omega)
  obtain ⟨a7, h7⟩ := one_ok 32 (by omega) (by omega)
  obtain ⟨b1, g1⟩ := join_ok [[0, 0, 0, 0], a1, a2, a3] (by simp)
  obtain ⟨b2, g2⟩ := join_ok [b1, a4] (by simp)
  obtain ⟨b3, g3⟩ := join_ok [[0, 0, 0, 0], a4] (by simp)
  obtain ⟨b4, g4⟩ := join_ok [a5, a6, a7] (by simp)
  obtain ⟨c1, k1⟩ := not_ok b2
  obtain ⟨c2, k2⟩ := not_ok b3
  obtain ⟨c3, k3⟩ := not_ok b4
  rw [M.syntax_class, h1, h2, h3, h4, h5, h6, h7]
  simp only [bnd, g1, g2, g3, g4, k1, k2, k3]
  by_cases e1 : ior .u8 c 32 = 119
  · rw [if_pos e1]
    have : c ≠ 0 := fun h => by have := hc h; omega
    split <;> exact ⟨_, _, rfl, fun _ => this⟩
  rw [if_neg e1]
  by_cases e2 : ior .u8 c 32 = 100
  · rw [if_pos e2]
    have : c ≠ 0 := fun h => by have := hc h; omega
    split <;> exact ⟨_, _, rfl, fun _ => this⟩
  rw [if_neg e2]
  by_cases e3 : ior .u8 c 32 = 115
  · rw [if_pos e3]
    have : c ≠ 0 := fun h => by have := hc h; omega
    split <;> exact ⟨_, _, rfl, fun _ => this⟩
  rw [if_neg e3]
  exact ⟨_, _, rfl, fun h => by cases h⟩
theorem idx_eq (s : ByteArray) (c : Int) : M.strings_IndexByte s c = some (ixB s c) := rfl

/-! ### Where the parser stands -/
def Good (s : ByteArray) (p : T48) : Prop := p.s = s ∧ 0 ≤ p.at_ ∧ p.at_ ≤ s.size ∧ s.size ≤ 256 ∧ ∀ w, p.bad = some w → 0 ≤ w.at_ ∧ w.at_ ≤ s.size
structure Ok (s : ByteArray) (p q : T48) (n : Nat) : Prop where
  good : Good s q
  deep : q.deep = p.deep
  le : p.at_ ≤ q.at_
  prog : q.bad = none → p.bad = none ∧ p.at_ + n ≤ q.at_
theorem Ok.refl {s : ByteArray} {p : T48} (h : Good s p) : Ok s p p 0 := ⟨h, rfl, Int.le_refl _, fun hb => ⟨hb, by omega⟩⟩
theorem Ok.trans {s : ByteArray} {p q r : T48} {n m : Nat} (h : Ok s p q n) (k : Ok s q r m) : Ok s p r (n + m) :=
  ⟨k.good, k.deep.trans h.deep, Int.le_trans h.le k.le, fun hb => ⟨(h.prog (k.prog hb).1).1, by have := (k.prog hb).2; have := (h.prog (k.prog hb).1).2; omega⟩⟩
theorem Ok.weak {s : ByteArray} {p q : T48} {n m : Nat} (h : Ok s p q n) (hm : m ≤ n) : Ok s p q m := ⟨h.good, h.deep, h.le, fun hb => ⟨(h.prog hb).1, by have := (h.prog hb).2; omega⟩⟩
def pk (p : T48) : Int := if p.bad = none ∧ p.at_ < p.s.size then bt p.s p.at_ else 0
instance (p : T48) : Decidable (p.bad = none) := match p.bad with | none => .isTrue rfl | some _ => .isFalse (by simp)
theorem pk_range (p : T48) : 0 ≤ pk p ∧ pk p ≤ 255 := by
  unfold pk
  split
  · exact bt_range _ _
  · omega
theorem pk_ne {p : T48} (h : pk p ≠ 0) : p.bad = none ∧ p.at_ < p.s.size := by
  unfold pk at h
  split at h
  · assumption
  · exact absurd rfl h
theorem peek_eq {s : ByteArray} {p : T48} (h : Good s p) : M.syntax_parser_peek p = some (pk p, p) := by
  obtain ⟨s', a, d, b⟩ := p
  obtain ⟨h1, h2, h3, h4, h5⟩ := h
  dsimp only at h1 h2 h3 h5
  subst h1
  rw [M.syntax_parser_peek]
  cases b with
  | some w =>
    rw [bnd]; try dsimp only
    rw [M.syntax_parser_peek_l0]; try dsimp only
    rw [if_pos rfl, pk, if_neg (by simp)]
  | none =>
    rw [bnd]; try dsimp only
    rw [M.syntax_parser_peek_l0]; try dsimp only
    by_cases hl : a ≥ (s'.size : Int)
    · rw [decide_eq_true hl, if_pos rfl, pk, if_neg (by dsimp only; omega)]
    · rw [decide_eq_false hl, if_neg (by decide), if_pos h2, if_pos (by omega), pk, if_pos ⟨rfl, by dsimp only; omega⟩]
def adv (p : T48) : T48 := ⟨p.s, p.at_ + 1, p.deep, p.bad⟩
theorem adv_eq {s : ByteArray} {p : T48} (h : Good s p) : (⟨p.s, wr .i64 (p.at_ + 1), p.deep, p.bad⟩ : T48) = adv p := by
  obtain ⟨h1, h2, h3, h4, h5⟩ := h
  rw [adv, wr_i64 (by omega) (by omega)]
theorem adv_ok {s : ByteArray} {p : T48} (h : Good s p) (hn : pk p ≠ 0) : Ok s p (adv p) 1 := by
  obtain ⟨hb, hl⟩ := pk_ne hn
  obtain ⟨h1, h2, h3, h4, h5⟩ := h
  rw [h1] at hl
  exact ⟨⟨h1, by simp only [adv]; omega, by simp only [adv]; omega, h4, h5⟩, rfl, by simp only [adv]; omega, fun _ => ⟨hb, by simp only [adv]; omega⟩⟩
def re0 : T27 := ⟨0, [0, 0, 0, 0], [], 0, 0⟩
def fl (p : T48) (a : Int) : T48 := ⟨p.s, p.at_, p.deep, some (p.bad.getD ⟨a⟩)⟩
theorem fail_eq (p : T48) (a : Int) : M.syntax_parser_fail p a = some (re0, fl p a) := by
  obtain ⟨s', at', d, b⟩ := p
  rw [M.syntax_parser_fail]
  cases b <;> rfl
theorem fl_ok {s : ByteArray} {p : T48} (h : Good s p) (a : Int) (h0 : 0 ≤ a) (h1 : a ≤ s.size) (n : Nat) : Ok s p (fl p a) n := by
  obtain ⟨g1, g2, g3, g4, g5⟩ := h
  refine ⟨⟨g1, g2, g3, g4, ?_⟩, rfl, Int.le_refl _, fun hb => by simp [fl] at hb⟩
  intro w hw
  simp only [fl, Option.some.injEq] at hw
  subst hw
  cases hb : p.bad with
  | none => exact ⟨h0, h1⟩
  | some w => exact g5 w hb
theorem fl_bad (p : T48) (a : Int) : (fl p a).bad ≠ none := by simp [fl]
theorem take_ok {s : ByteArray} {p : T48} (h : Good s p) (c : Int) (hc : c ≠ 0) : M.syntax_parser_take p c = some (if pk p = c then (true, adv p) else (false, p)) := by
  rw [M.syntax_parser_take, if_neg hc, peek_eq h, bnd]
  dsimp only
  rw [M.syntax_parser_take_l0]; try dsimp only
  by_cases hq : pk p = c
  · rw [decide_eq_true hq, if_neg (by decide), if_pos hq, adv_eq h]
  · rw [decide_eq_false hq, if_pos (by decide), if_neg hq]
theorem need_ok {s : ByteArray} {p : T48} (h : Good s p) (c : Int) (hc : c ≠ 0) : ∃ q, M.syntax_parser_need p c = some q ∧ Ok s p q 1 := by
  rw [M.syntax_parser_need, take_ok h c hc]
  by_cases hq : pk p = c
  · rw [if_pos hq, bnd, if_pos rfl]
    exact ⟨_, rfl, adv_ok h (by omega)⟩
  · rw [if_neg hq, bnd, if_neg (by simp), fail_eq, bnd]
    exact ⟨_, rfl, fl_ok h _ h.2.1 h.2.2.1 1⟩
theorem digit_ok {s : ByteArray} {p : T48} (h : Good s p) : ∃ n q, M.syntax_parser_digit p = some (n, q) ∧ Ok s p q 1 := by
  rw [M.syntax_parser_digit, peek_eq h, bnd]
  dsimp only
  have hl : ∃ y, M.syntax_lower (pk p) = some y ∧ (pk p = 0 → y = 0) := by
    have hp := pk_range p
    rw [M.syntax_lower]
    by_cases h1 : pk p ≥ 65
    · rw [if_pos h1]
      split <;> exact ⟨_, rfl, fun hh => by omega⟩
    · rw [if_neg h1]; exact ⟨_, rfl, id⟩
  obtain ⟨y, hy, hy0⟩ := hl
  rw [M.syntax_nibble, hy, bnd, idx_eq, bnd, bnd]
  by_cases hn : ixB (⟨#[48, 49, 50, 51, 52, 53, 54, 55, 56, 57, 97, 98, 99, 100, 101, 102]⟩ : ByteArray) y < 0
  · rw [if_pos hn, fail_eq, bnd]
    exact ⟨_, _, rfl, fl_ok h _ h.2.1 h.2.2.1 1⟩
  · rw [if_neg hn, adv_eq h]
    refine ⟨_, _, rfl, adv_ok h fun h0 => hn ?_⟩
    rw [hy0 h0]; decide
theorem of_ok (c : Int) (h0 : 0 ≤ c) (h1 : c ≤ 255) : ∃ t, M.syntax_of c = some t ∧ t.b = c ∧ t.single = true := by
  obtain ⟨l, hl⟩ := one_ok c h0 h1
  rw [M.syntax_of, hl, bnd]
  exact ⟨_, rfl, rfl, rfl⟩
theorem escape_ok {s : ByteArray} {p : T48} (h : Good s p) : ∃ t q, M.syntax_parser_escape p = some (t, q) ∧ Ok s p q 1 ∧ 0 ≤ t.b ∧ t.b ≤ 255 := by
  have hp := pk_range p
  obtain ⟨l, b, hc, hb⟩ := class_ok (pk p)
  rw [M.syntax_parser_escape, peek_eq h, bnd]
  dsimp only
  rw [hc, bnd]
  dsimp only
  by_cases hbt : b = true
  · rw [if_pos hbt, adv_eq h]
    exact ⟨_, _, rfl, adv_ok h (hb hbt), by simp, by simp⟩
  rw [if_neg hbt]
  by_cases h1 : pk p = 120
  · rw [if_pos h1, adv_eq h]
    have ha := adv_ok h (by omega)
    obtain ⟨n1, q1, e1, k1⟩ := digit_ok ha.good
    obtain ⟨n2, q2, e2, k2⟩ := digit_ok k1.good
    obtain ⟨t, e3, e4, e5⟩ := of_ok (ior .u8 (ishl .u8 n1 4) n2) (wr_u8_range _).1 (wr_u8_range _).2
    rw [e1, bnd]; dsimp only
    rw [e2, bnd]; dsimp only
    rw [e3, bnd]
    refine ⟨_, _, rfl, (ha.trans (k1.trans k2)).weak (by omega), ?_⟩
    rw [e4]; exact wr_u8_range _
  rw [if_neg h1]
  by_cases h2 : pk p = 110
  · obtain ⟨t, e3, e4, e5⟩ := of_ok 10 (by omega) (by omega)
    rw [if_pos h2, e3, bnd, adv_eq h]
    exact ⟨_, _, rfl, adv_ok h (by omega), by omega, by omega⟩
  rw [if_neg h2]
  by_cases h3 : pk p = 116
  · obtain ⟨t, e3, e4, e5⟩ := of_ok 9 (by omega) (by omega)
    rw [if_pos h3, e3, bnd, adv_eq h]
    exact ⟨_, _, rfl, adv_ok h (by omega), by omega, by omega⟩
  rw [if_neg h3]
  have hfail : ∃ t q, M.syntax_parser_escape_l0 (⟨[0, 0, 0, 0], 0, false⟩, pk p, true, p) = some (t, q) ∧ Ok s p q 1 ∧ 0 ≤ t.b ∧ t.b ≤ 255 := by
    rw [M.syntax_parser_escape_l0]; try dsimp only
    rw [if_pos rfl, fail_eq, bnd]
    exact ⟨_, _, rfl, fl_ok h _ h.2.1 h.2.2.1 1, by simp, by simp⟩
  by_cases h4 : pk p = 0
  · rw [if_pos h4]; exact hfail
  rw [if_neg h4, idx_eq, bnd]
  by_cases h5 : ixB (⟨#[92, 46, 91, 93, 40, 41, 42, 43, 63, 123, 125, 94, 36, 45, 47, 124]⟩ : ByteArray) (pk p) < 0
  · rw [decide_eq_true h5]; exact hfail
  · obtain ⟨t, e3, e4, e5⟩ := of_ok (pk p) (by omega) (by omega)
    rw [decide_eq_false h5, M.syntax_parser_escape_l0]; try dsimp only
    rw [if_neg (by decide), e3, bnd, adv_eq h]
    exact ⟨_, _, rfl, adv_ok h (by omega), by omega, by omega⟩
theorem item_ok {s : ByteArray} {p : T48} (h : Good s p) : ∃ t q, M.syntax_parser_item p = some (t, q) ∧ Ok s p q 1 ∧ 0 ≤ t.b ∧ t.b ≤ 255 := by
  have hp := pk_range p
  rw [M.syntax_parser_item, peek_eq h, bnd]
  dsimp only
  rw [take_ok h 92 (by omega)]
  by_cases h1 : pk p = 92
  · rw [if_pos h1, bnd]; dsimp only
    have ha := adv_ok h (by omega)
    obtain ⟨t, q, e1, k1, k2⟩ := escape_ok ha.good
    rw [if_pos rfl, e1, bnd]
    exact ⟨_, _, rfl, (ha.trans k1).weak (by omega), k2⟩
  rw [if_neg h1, bnd]; dsimp only
  rw [if_neg (by decide)]
  have hfail : ∃ t q, M.syntax_parser_item_l0 (⟨[0, 0, 0, 0], 0, false⟩, pk p, true, p) = some (t, q) ∧ Ok s p q 1 ∧ 0 ≤ t.b ∧ t.b ≤ 255 := by
    rw [M.syntax_parser_item_l0]; try dsimp only
    rw [if_pos rfl, fail_eq, bnd]
    exact ⟨_, _, rfl, fl_ok h _ h.2.1 h.2.2.1 1, by simp, by simp⟩
  by_cases h2 : pk p < 32
  · rw [if_pos h2]; exact hfail
  rw [if_neg h2]
  by_cases h3 : pk p > 126
  · rw [if_pos h3]; exact hfail
  rw [if_neg h3, idx_eq, bnd]
  by_cases h5 : ixB (⟨#[93, 91, 45]⟩ : ByteArray) (pk p) ≥ 0
  · rw [decide_eq_true h5]; exact hfail
  · obtain ⟨t, e3, e4, e5⟩ := of_ok (pk p) (by omega) (by omega)
    rw [decide_eq_false h5, M.syntax_parser_item_l0]; try dsimp only
    rw [if_neg (by decide), e3, bnd, adv_eq h]
    exact ⟨_, _, rfl, adv_ok h (by omega), by omega, by omega⟩
end Go.Proofs.Ytemokppdnkiejaa
