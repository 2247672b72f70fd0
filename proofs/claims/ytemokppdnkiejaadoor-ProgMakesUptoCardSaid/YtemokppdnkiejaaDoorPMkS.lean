/-
  Reading a pattern: what is read may be.
-/
import Derived.Test.YtemokppdnkiejaaDoorMMk
import Derived.Test.YtemokppdnkiejaaDoorGS
set_option linter.unusedVariables false
set_option linter.unusedSimpArgs false
namespace Go.Proofs.YtemokppdnkiejaaDoor.Syn
open Go.Gx
theorem bnd {α β : Type} (a : α) (f : α → Option β) : (some a >>= f) = f a := rfl
theorem wr_i64 {x : Int} (h0 : -9223372036854775808 ≤ x) (h1 : x ≤ 9223372036854775807) : wr .i64 x = x := by
  simp only [wr, IntKind.wrap, IntKind.signed, IntKind.bits]
  simp
  split <;> omega
theorem wr_u8_range (x : Int) : 0 ≤ IntKind.u8.wrap x ∧ IntKind.u8.wrap x ≤ 255 := by
  simp only [IntKind.wrap, IntKind.signed, IntKind.bits]
  simp
  omega
theorem bt_range (s : ByteArray) (i : Int) : 0 ≤ bt s i ∧ bt s i ≤ 255 := by
  unfold bt
  split
  · rename_i h
    have := (s[i.toNat]'h).toNat_lt
    omega
  · omega
theorem one_ok (x : Int) (h0 : 0 ≤ x) (h1 : x ≤ 255) : ∃ l, M.syntax_one x = some l := by
  obtain ⟨n, rfl⟩ := Int.eq_ofNat_of_zero_le h0
  have e1 : irem .u8 (n : Int) 64 = ((n % 64 : Nat) : Int) := by
    simp only [irem]
    rw [Int.tmod_eq_emod_of_nonneg (Int.natCast_nonneg _)]
    rfl
  have e2 : iquo .u8 (n : Int) 64 = ((n / 64 : Nat) : Int) := by
    simp only [iquo]
    rw [Int.tdiv_eq_ediv_of_nonneg (Int.natCast_nonneg _)]
    simp only [IntKind.wrap, IntKind.signed, IntKind.bits]
    simp
    omega
  rw [M.syntax_one, e1, e2, if_pos (by omega), if_pos (by omega), if_pos (by omega)]
  exact ⟨_, rfl⟩
theorem span_l0_ok (b : Int) (hb : 0 ≤ b ∧ b ≤ 255) (z : List Int) (k : Nat) : ∀ (x : Nat) (l : List Int), b - x < k → ∃ r, M.syntax_span_l0 (b, z, l, (x : Int)) = some r := by
  have stop : ∀ (x : Nat) (l : List Int), b < x → ∃ r, M.syntax_span_l0 (b, z, l, (x : Int)) = some r := by
    intro x l h
    rw [M.syntax_span_l0]; try dsimp only
    rw [wr_i64 (by omega) (by omega), if_neg (by omega)]
    exact ⟨_, rfl⟩
  induction k with
  | zero => intro x l h; exact stop x l (by omega)
  | succ k ih =>
    intro x l h
    by_cases hx : b < x
    · exact stop x l hx
    have e1 : irem .i64 (x : Int) 64 = ((x % 64 : Nat) : Int) := by
      simp only [irem]
      rw [Int.tmod_eq_emod_of_nonneg (Int.natCast_nonneg _)]
      rfl
    have e2 : iquo .i64 (x : Int) 64 = ((x / 64 : Nat) : Int) := by
      simp only [iquo]
      rw [Int.tdiv_eq_ediv_of_nonneg (Int.natCast_nonneg _)]
      exact wr_i64 (x := (x : Int) / 64) (by omega) (by omega)
    rw [M.syntax_span_l0]; try dsimp only
    rw [wr_i64 (x := b) (by omega) (by omega), if_pos (by omega), e1, e2, if_pos (by omega), if_pos (by omega), if_pos (by omega), bnd, wr_i64 (by omega) (by omega), show (x : Int) + 1 = ((x + 1 : Nat) : Int) by omega]
    exact ih (x + 1) _ (by omega)
theorem span_ok (a b : Int) (ha : 0 ≤ a ∧ a ≤ 255) (hb : 0 ≤ b ∧ b ≤ 255) : ∃ r, M.syntax_span a b = some r := by
  obtain ⟨n, rfl⟩ := Int.eq_ofNat_of_zero_le ha.1
  rw [M.syntax_span, wr_i64 (by omega) (by omega)]
  exact span_l0_ok b hb _ 300 n _ (by omega)
theorem join_l0_ok (z : List Int) (l : List (List Int)) (hl : l.length ≤ 1000) (k : Nat) : ∀ (i : Nat) (x : List Int), i + k = l.length → ∃ r, M.syntax_join_l0 (z, x, l, (l.length : Int), (i : Int)) = some r := by
  induction k with
  | zero =>
    intro i x hi
    rw [M.syntax_join_l0]; try dsimp only
    rw [if_neg (by omega)]
    exact ⟨_, rfl⟩
  | succ k ih =>
    intro i x hi
    rw [M.syntax_join_l0]; try dsimp only
    rw [if_pos (by omega), if_pos (by omega), if_pos (by omega)]
    rw [M.syntax_join_l1]; try dsimp only
    rw [if_pos (by omega), if_pos (by omega), bnd, show wr .i64 (0 + 1) = 1 from rfl]
    rw [M.syntax_join_l1]; try dsimp only
    rw [if_pos (by omega), if_pos (by omega), bnd, show wr .i64 (1 + 1) = 2 from rfl]
    rw [M.syntax_join_l1]; try dsimp only
    rw [if_pos (by omega), if_pos (by omega), bnd, show wr .i64 (2 + 1) = 3 from rfl]
    rw [M.syntax_join_l1]; try dsimp only
    rw [if_pos (by omega), if_pos (by omega), bnd, show wr .i64 (3 + 1) = 4 from rfl]
    rw [M.syntax_join_l1]; try dsimp only
    rw [if_neg (by omega), wr_i64 (by omega) (by omega), show (i : Int) + 1 = ((i + 1 : Nat) : Int) by omega]
    exact ih (i + 1) _ (by omega)
theorem join_ok (l : List (List Int)) (hl : l.length ≤ 1000) : ∃ r, M.syntax_join l = some r := by
  rw [M.syntax_join]
  exact join_l0_ok _ l hl l.length 0 _ (by omega)
theorem not_ok (l : List Int) : ∃ r, M.syntax_not l = some r := by
  rw [M.syntax_not]
  rw [M.syntax_not_l0]; try dsimp only
  rw [if_pos (by omega), if_pos (by omega), bnd, show wr .i64 (0 + 1) = 1 from rfl]
  rw [M.syntax_not_l0]; try dsimp only
  rw [if_pos (by omega), if_pos (by omega), bnd, show wr .i64 (1 + 1) = 2 from rfl]
  rw [M.syntax_not_l0]; try dsimp only
  rw [if_pos (by omega), if_pos (by omega), bnd, show wr .i64 (2 + 1) = 3 from rfl]
  rw [M.syntax_not_l0]; try dsimp only
  rw [if_pos (by omega), if_pos (by omega), bnd, show wr .i64 (3 + 1) = 4 from rfl]
  rw [M.syntax_not_l0]; try dsimp only
  rw [if_neg (by omega)]
  exact ⟨_, rfl⟩
theorem class_ok (c : Int) : ∃ l b, M.syntax_class c = some (l, b) ∧ (b = true → c ≠ 0) := by
  have hc : c = 0 → ior .u8 c 32 = 32 := by rintro rfl; rfl
  obtain ⟨a1, h1⟩ := span_ok 97 122 (by omega) (by omega)
  obtain ⟨a2, h2⟩ := span_ok 65 90 (by omega) (by omega)
  obtain ⟨a3, h3⟩ := one_ok 95 (by omega) (by omega)
  obtain ⟨a4, h4⟩ := span_ok 48 57 (by omega) (by omega)
  obtain ⟨a5, h5⟩ := span_ok 9 10 (by omega) (by omega)
  obtain ⟨a6, h6⟩ := span_ok 12 13 (by omega) (by omega)
  obtain ⟨a7, h7⟩ := one_ok 32 (by omega) (by omega)
  obtain ⟨b1, g1⟩ := join_ok [[0, 0, 0, 0], a1, a2, a3] (by simp)
  obtain ⟨b2, g2⟩ := join_ok [b1, a4] (by simp)
  obtain ⟨b3, g3⟩ := join_ok [[0, 0, 0, 0], a4] (by simp)
  obtain ⟨b4, g4⟩ := join_ok [a5, a6, a7] (by simp)
  obtain ⟨c1, k1⟩ := not_ok b2
  obtain ⟨c2, k2⟩ := not_ok b3
  obtain ⟨c3, k3⟩ := not_ok b4
  rw [M.syntax_class, h1, h2, h3, h4, h5, h6, h7]
  simp only [bnd, g1, g2, g3, g4, k1, k2, k3]
  by_cases e1 : ior .u8 c 32 = 119
  · rw [if_pos e1]
    have : c ≠ 0 := fun h => by have := hc h; omega
    split <;> exact ⟨_, _, rfl, fun _ => this⟩
  rw [if_neg e1]
  by_cases e2 : ior .u8 c 32 = 100
  · rw [if_pos e2]
    have : c ≠ 0 := fun h => by have := hc h; omega
    split <;> exact ⟨_, _, rfl, fun _ => this⟩
  rw [if_neg e2]
  by_cases e3 : ior .u8 c 32 = 115
  · rw [if_pos e3]
    have : c ≠ 0 := fun h => by have := hc h; omega
    split <;> exact ⟨_, _, rfl, fun _ => this⟩
  rw [if_neg e3]
  exact ⟨_, _, rfl, fun h => by cases h⟩
theorem idx_eq (s : ByteArray) (c : Int) : M.strings_IndexByte s c = some (ixB s c) := rfl
def Good (s : ByteArray) (p : T68) : Prop := p.s = s ∧ 0 ≤ p.at_ ∧ p.at_ ≤ s.size ∧ s.size ≤ 256 ∧ ∀ w, p.bad = some w → 0 ≤ w.at_ ∧ w.at_ ≤ s.size
structure Ok (s : ByteArray) (p q : T68) (n : Nat) : Prop where
  good : Good s q
  deep : q.deep = p.deep
  le : p.at_ ≤ q.at_
  prog : q.bad = none → p.bad = none ∧ p.at_ + n ≤ q.at_
theorem Ok.refl {s : ByteArray} {p : T68} (h : Good s p) : Ok s p p 0 := ⟨h, rfl, Int.le_refl _, fun hb => ⟨hb, by omega⟩⟩
theorem Ok.trans {s : ByteArray} {p q r : T68} {n m : Nat} (h : Ok s p q n) (k : Ok s q r m) : Ok s p r (n + m) :=
  ⟨k.good, k.deep.trans h.deep, Int.le_trans h.le k.le, fun hb => ⟨(h.prog (k.prog hb).1).1, by have := (k.prog hb).2; have := (h.prog (k.prog hb).1).2; omega⟩⟩
theorem Ok.weak {s : ByteArray} {p q : T68} {n m : Nat} (h : Ok s p q n) (hm : m ≤ n) : Ok s p q m := ⟨h.good, h.deep, h.le, fun hb => ⟨(h.prog hb).1, by have := (h.prog hb).2; omega⟩⟩
def pk (p : T68) : Int := if p.bad = none ∧ p.at_ < p.s.size then bt p.s p.at_ else 0
theorem pk_range (p : T68) : 0 ≤ pk p ∧ pk p ≤ 255 := by
  unfold pk
  split
  · exact bt_range _ _
  · omega
theorem pk_ne {p : T68} (h : pk p ≠ 0) : p.bad = none ∧ p.at_ < p.s.size := by
  unfold pk at h
  split at h
  · assumption
  · exact absurd rfl h
theorem peek_eq {s : ByteArray} {p : T68} (h : Good s p) : M.syntax_parser_peek p = some (pk p, p) := by
  obtain ⟨s', a, d, b⟩ := p
  obtain ⟨h1, h2, h3, h4, h5⟩ := h
  dsimp only at h1 h2 h3 h5
  subst h1
  rw [M.syntax_parser_peek]
  cases b with
  | some w =>
    rw [bnd]; try dsimp only
    rw [M.syntax_parser_peek_l0]; try dsimp only
    rw [if_pos rfl, pk, if_neg (by simp)]
  | none =>
    rw [bnd]; try dsimp only
    rw [M.syntax_parser_peek_l0]; try dsimp only
    by_cases hl : a ≥ (s'.size : Int)
    · rw [decide_eq_true hl, if_pos rfl, pk, if_neg (by dsimp only; omega)]
    · rw [decide_eq_false hl, if_neg (by decide), if_pos h2, if_pos (by omega), pk, if_pos ⟨rfl, by dsimp only; omega⟩]
def adv (p : T68) : T68 := ⟨p.s, p.at_ + 1, p.deep, p.bad⟩
theorem adv_eq {s : ByteArray} {p : T68} (h : Good s p) : (⟨p.s, wr .i64 (p.at_ + 1), p.deep, p.bad⟩ : T68) = adv p := by
  obtain ⟨h1, h2, h3, h4, h5⟩ := h
  rw [adv, wr_i64 (by omega) (by omega)]
theorem adv_ok {s : ByteArray} {p : T68} (h : Good s p) (hn : pk p ≠ 0) : Ok s p (adv p) 1 := by
  obtain ⟨hb, hl⟩ := pk_ne hn
  obtain ⟨h1, h2, h3, h4, h5⟩ := h
  rw [h1] at hl
  exact ⟨⟨h1, by simp only [adv]; omega, by simp only [adv]; omega, h4, h5⟩, rfl, by simp only [adv]; omega, fun _ => ⟨hb, by simp only [adv]; omega⟩⟩
def re0 : T27 := ⟨0, [0, 0, 0, 0], [], 0, 0⟩
def fl (p : T68) (a : Int) : T68 := ⟨p.s, p.at_, p.deep, some (p.bad.getD ⟨a⟩)⟩
theorem fail_eq (p : T68) (a : Int) : M.syntax_parser_fail p a = some (re0, fl p a) := by
  obtain ⟨s', at', d, b⟩ := p
  rw [M.syntax_parser_fail]
  cases b <;> rfl
theorem fl_ok {s : ByteArray} {p : T68} (h : Good s p) (a : Int) (h0 : 0 ≤ a) (h1 : a ≤ s.size) (n : Nat) : Ok s p (fl p a) n := by
  obtain ⟨g1, g2, g3, g4, g5⟩ := h
  refine ⟨⟨g1, g2, g3, g4, ?_⟩, rfl, Int.le_refl _, fun hb => by simp [fl] at hb⟩
  intro w hw
  simp only [fl, Option.some.injEq] at hw
  subst hw
  cases hb : p.bad with
  | none => exact ⟨h0, h1⟩
  | some w => exact g5 w hb
theorem fl_bad (p : T68) (a : Int) : (fl p a).bad ≠ none := by simp [fl]
theorem take_ok {s : ByteArray} {p : T68} (h : Good s p) (c : Int) (hc : c ≠ 0) : M.syntax_parser_take p c = some (if pk p = c then (true, adv p) else (false, p)) := by
  rw [M.syntax_parser_take, if_neg hc, peek_eq h, bnd]
  dsimp only
  rw [M.syntax_parser_take_l0]; try dsimp only
  by_cases hq : pk p = c
  · rw [decide_eq_true hq, if_neg (by decide), if_pos hq, adv_eq h]
  · rw [decide_eq_false hq, if_pos (by decide), if_neg hq]
theorem need_ok {s : ByteArray} {p : T68} (h : Good s p) (c : Int) (hc : c ≠ 0) : ∃ q, M.syntax_parser_need p c = some q ∧ Ok s p q 1 := by
  rw [M.syntax_parser_need, take_ok h c hc]
  by_cases hq : pk p = c
  · rw [if_pos hq, bnd, if_pos rfl]
    exact ⟨_, rfl, adv_ok h (by omega)⟩
  · rw [if_neg hq, bnd, if_neg (by simp), fail_eq, bnd]
    exact ⟨_, rfl, fl_ok h _ h.2.1 h.2.2.1 1⟩
theorem digit_ok {s : ByteArray} {p : T68} (h : Good s p) : ∃ n q, M.syntax_parser_digit p = some (n, q) ∧ Ok s p q 1 := by
  rw [M.syntax_parser_digit, peek_eq h, bnd]
  dsimp only
  have hl : ∃ y, M.syntax_lower (pk p) = some y ∧ (pk p = 0 → y = 0) := by
    have hp := pk_range p
    rw [M.syntax_lower]
    by_cases h1 : pk p ≥ 65
    · rw [if_pos h1]
      split <;> exact ⟨_, rfl, fun hh => by omega⟩
    · rw [if_neg h1]; exact ⟨_, rfl, id⟩
  obtain ⟨y, hy, hy0⟩ := hl
  rw [M.syntax_nibble, hy, bnd, idx_eq, bnd, bnd]
  by_cases hn : ixB (⟨#[48, 49, 50, 51, 52, 53, 54, 55, 56, 57, 97, 98, 99, 100, 101, 102]⟩ : ByteArray) y < 0
  · rw [if_pos hn, fail_eq, bnd]
    exact ⟨_, _, rfl, fl_ok h _ h.2.1 h.2.2.1 1⟩
  · rw [if_neg hn, adv_eq h]
    refine ⟨_, _, rfl, adv_ok h fun h0 => hn ?_⟩
    rw [hy0 h0]; decide
theorem of_ok (c : Int) (h0 : 0 ≤ c) (h1 : c ≤ 255) : ∃ t, M.syntax_of c = some t ∧ t.b = c ∧ t.single = true := by
  obtain ⟨l, hl⟩ := one_ok c h0 h1
  rw [M.syntax_of, hl, bnd]
  exact ⟨_, rfl, rfl, rfl⟩
theorem escape_ok {s : ByteArray} {p : T68} (h : Good s p) : ∃ t q, M.syntax_parser_escape p = some (t, q) ∧ Ok s p q 1 ∧ 0 ≤ t.b ∧ t.b ≤ 255 := by
  have hp := pk_range p
  obtain ⟨l, b, hc, hb⟩ := class_ok (pk p)
  rw [M.syntax_parser_escape, peek_eq h, bnd]
  dsimp only
  rw [hc, bnd]
  dsimp only
  by_cases hbt : b = true
  · rw [if_pos hbt, adv_eq h]
    exact ⟨_, _, rfl, adv_ok h (hb hbt), by simp, by simp⟩
  rw [if_neg hbt]
  by_cases h1 : pk p = 120
  · rw [if_pos h1, adv_eq h]
    have ha := adv_ok h (by omega)
    obtain ⟨n1, q1, e1, k1⟩ := digit_ok ha.good
    obtain ⟨n2, q2, e2, k2⟩ := digit_ok k1.good
    obtain ⟨t, e3, e4, e5⟩ := of_ok (ior .u8 (ishl .u8 n1 4) n2) (wr_u8_range _).1 (wr_u8_range _).2
    rw [e1, bnd]; dsimp only
    rw [e2, bnd]; dsimp only
    rw [e3, bnd]
    refine ⟨_, _, rfl, (ha.trans (k1.trans k2)).weak (by omega), ?_⟩
    rw [e4]; exact wr_u8_range _
  rw [if_neg h1]
  by_cases h2 : pk p = 110
  · obtain ⟨t, e3, e4, e5⟩ := of_ok 10 (by omega) (by omega)
    rw [if_pos h2, e3, bnd, adv_eq h]
    exact ⟨_, _, rfl, adv_ok h (by omega), by omega, by omega⟩
  rw [if_neg h2]
  by_cases h3 : pk p = 116
  · obtain ⟨t, e3, e4, e5⟩ := of_ok 9 (by omega) (by omega)
    rw [if_pos h3, e3, bnd, adv_eq h]
    exact ⟨_, _, rfl, adv_ok h (by omega), by omega, by omega⟩
  rw [if_neg h3]
  have hfail : ∃ t q, M.syntax_parser_escape_l0 (⟨[0, 0, 0, 0], 0, false⟩, pk p, true, p) = some (t, q) ∧ Ok s p q 1 ∧ 0 ≤ t.b ∧ t.b ≤ 255 := by
    rw [M.syntax_parser_escape_l0]; try dsimp only
    rw [if_pos rfl, fail_eq, bnd]
    exact ⟨_, _, rfl, fl_ok h _ h.2.1 h.2.2.1 1, by simp, by simp⟩
  by_cases h4 : pk p = 0
  · rw [if_pos h4]; exact hfail
  rw [if_neg h4, idx_eq, bnd]
  by_cases h5 : ixB (⟨#[92, 46, 91, 93, 40, 41, 42, 43, 63, 123, 125, 94, 36, 45, 47, 124]⟩ : ByteArray) (pk p) < 0
  · rw [decide_eq_true h5]; exact hfail
  · obtain ⟨t, e3, e4, e5⟩ := of_ok (pk p) (by omega) (by omega)
    rw [decide_eq_false h5, M.syntax_parser_escape_l0]; try dsimp only
    rw [if_neg (by decide), e3, bnd, adv_eq h]
    exact ⟨_, _, rfl, adv_ok h (by omega), by omega, by omega⟩
theorem item_ok {s : ByteArray} {p : T68} (h : Good s p) : ∃ t q, M.syntax_parser_item p = some (t, q) ∧ Ok s p q 1 ∧ 0 ≤ t.b ∧ t.b ≤ 255 := by
  have hp := pk_range p
  rw [M.syntax_parser_item, peek_eq h, bnd]
  dsimp only
  rw [take_ok h 92 (by omega)]
  by_cases h1 : pk p = 92
  · rw [if_pos h1, bnd]; dsimp only
    have ha := adv_ok h (by omega)
    obtain ⟨t, q, e1, k1, k2⟩ := escape_ok ha.good
    rw [if_pos rfl, e1, bnd]
    exact ⟨_, _, rfl, (ha.trans k1).weak (by omega), k2⟩
  rw [if_neg h1, bnd]; dsimp only
  rw [if_neg (by decide)]
  have hfail : ∃ t q, M.syntax_parser_item_l0 (⟨[0, 0, 0, 0], 0, false⟩, pk p, true, p) = some (t, q) ∧ Ok s p q 1 ∧ 0 ≤ t.b ∧ t.b ≤ 255 := by
    rw [M.syntax_parser_item_l0]; try dsimp only
    rw [if_pos rfl, fail_eq, bnd]
    exact ⟨_, _, rfl, fl_ok h _ h.2.1 h.2.2.1 1, by simp, by simp⟩
  by_cases h2 : pk p < 32
  · rw [if_pos h2]; exact hfail
  rw [if_neg h2]
  by_cases h3 : pk p > 126
  · rw [if_pos h3]; exact hfail
  rw [if_neg h3, idx_eq, bnd]
  by_cases h5 : ixB (⟨#[93, 91, 45]⟩ : ByteArray) (pk p) ≥ 0
  · rw [decide_eq_true h5]; exact hfail
  · obtain ⟨t, e3, e4, e5⟩ := of_ok (pk p) (by omega) (by omega)
    rw [decide_eq_false h5, M.syntax_parser_item_l0]; try dsimp only
    rw [if_neg (by decide), e3, bnd, adv_eq h]
    exact ⟨_, _, rfl, adv_ok h (by omega), by omega, by omega⟩
theorem seq_open (x : T27) (p : T68) (acc : List T27) : M.syntax_parser_sequence_l0 (x, acc, p) = if p.bad = none then (if p.at_ < (p.s.size : Int) then M.syntax_parser_peek p >>= fun y16 => if y16.1 = 124 then M.syntax_parser_sequence_l1 (x, acc, false, y16.2) else M.syntax_parser_peek y16.2 >>= fun y22 => M.syntax_parser_sequence_l1 (x, acc, !(decide (y22.1 = 41)), y22.2) else M.syntax_parser_sequence_l1 (x, acc, false, p)) else M.syntax_parser_sequence_l1 (x, acc, false, p) := by
  rw [M.syntax_parser_sequence_l0]; try dsimp only
  obtain ⟨s', a, d, b⟩ := p
  cases b with
  | none => rw [bnd, if_pos rfl]
  | some w => rw [bnd, if_neg (show ¬ ((⟨s', a, d, some w⟩ : T68).bad = none) by simp)]
theorem pair_ok {s : ByteArray} {p : T68} (h : Good s p) : ∃ l q, M.syntax_parser_pair p = some (l, q) ∧ Ok s p q 1 := by
  obtain ⟨t, q, e1, k1, hb0, hb1⟩ := item_ok h
  rw [M.syntax_parser_pair, e1, bnd]; dsimp only
  rw [peek_eq k1.good, bnd]; dsimp only
  by_cases h45 : pk q = 45
  · rw [if_pos h45, adv_eq k1.good]
    by_cases hs : t.single = true
    · rw [if_pos hs]
      have ha := adv_ok k1.good (by omega)
      obtain ⟨u, r, e2, k2, hc0, hc1⟩ := item_ok ha.good
      rw [e2, bnd]; dsimp only
      have hw : wr .i64 (q.at_ + 1) = q.at_ + 1 := by have g := k1.good; exact wr_i64 (by have := g.2.1; omega) (by have := g.2.2.1; have := g.2.2.2.1; omega)
      rw [hw]
      have kk := k1.trans (ha.trans k2)
      cases hbad : r.bad with
      | none =>
        rw [bnd]; try dsimp only
        rw [show (⟨r.s, r.at_, r.deep, none⟩ : T68) = r by rw [← hbad], M.syntax_parser_pair_l0]; try dsimp only
        rw [if_neg (by decide)]
        by_cases hu : u.single = true
        · rw [if_pos hu]
          by_cases hgt : t.b > u.b
          · rw [if_pos hgt, fail_eq, bnd]
            have hf := fl_ok kk.good p.at_ h.2.1 h.2.2.1 1
            exact ⟨_, _, rfl, (kk.trans hf).weak (by omega)⟩
          · obtain ⟨l, hl⟩ := span_ok t.b u.b ⟨hb0, hb1⟩ ⟨hc0, hc1⟩
            rw [if_neg hgt, hl, bnd]
            exact ⟨_, _, rfl, kk.weak (by omega)⟩
        · have hp := (k2.prog hbad).2
          have hg := k2.good
          have hq := k1.good
          have hat : (adv q).at_ = q.at_ + 1 := rfl
          rw [if_neg hu, wr_i64 (by have := hq.2.1; omega) (by have := hg.2.2.1; have := hg.2.2.2.1; omega), fail_eq, bnd]
          have hf := fl_ok kk.good (q.at_ + 1 + 1) (by have := hq.2.1; omega) (by have := hg.2.2.1; omega) 1
          exact ⟨_, _, rfl, (kk.trans hf).weak (by omega)⟩
      | some w =>
        rw [bnd]; try dsimp only
        rw [show (⟨r.s, r.at_, r.deep, some w⟩ : T68) = r by rw [← hbad], M.syntax_parser_pair_l0]; try dsimp only
        rw [if_pos rfl]
        exact ⟨_, _, rfl, kk.weak (by omega)⟩
    · rw [if_neg hs, fail_eq, bnd]
      have hf := fl_ok k1.good q.at_ k1.good.2.1 k1.good.2.2.1 1
      exact ⟨_, _, rfl, (k1.trans hf).weak (by omega)⟩
  · rw [if_neg h45]
    exact ⟨_, _, rfl, k1⟩
theorem items_l0 {s : ByteArray} (e : T27) (f : Bool) (k : Nat) : ∀ (p : T68) (first : Bool) (set : List Int), Good s p → (p.bad = none → (s.size : Int) - p.at_ < k) → ∃ l q, M.syntax_parser_items_1_l0 (first, set, p, e, f) = some (l, q) ∧ Ok s p q 0 := by
  have stop : ∀ (p : T68) (set : List Int), Good s p → ∃ l q, M.syntax_parser_items_1_l1 (false, set, p, e, f) = some (l, q) ∧ Ok s p q 0 := by
    intro p set h
    rw [M.syntax_parser_items_1_l1]; try dsimp only
    rw [if_neg (by decide)]
    exact ⟨_, _, rfl, Ok.refl h⟩
  have un : ∀ (p : T68) (first : Bool) (set : List Int), M.syntax_parser_items_1_l0 (first, set, p, e, f) = if p.bad = none then (if first = true then M.syntax_parser_items_1_l1 (true, set, p, e, f) else M.syntax_parser_take p 93 >>= fun y => M.syntax_parser_items_1_l1 (!y.1, set, y.2, e, f)) else M.syntax_parser_items_1_l1 (false, set, p, e, f) := by
    intro p first set
    rw [M.syntax_parser_items_1_l0]; try dsimp only
    obtain ⟨s', a, d, b⟩ := p
    cases b with
    | none => rw [bnd, if_pos rfl]
    | some w => rw [bnd, if_neg (show ¬ ((⟨s', a, d, some w⟩ : T68).bad = none) by simp)]
  induction k with
  | zero =>
    intro p first set h hk
    have hb : ¬ p.bad = none := fun hb => by have := hk hb; have := h.2.2.1; omega
    rw [un, if_neg hb]
    exact stop p set h
  | succ k ih =>
    intro p first set h hk
    rw [un]
    by_cases hb : p.bad = none
    · rw [if_pos hb]
      have go : ∃ l q, M.syntax_parser_items_1_l1 (true, set, p, e, f) = some (l, q) ∧ Ok s p q 0 := by
        obtain ⟨l, q, e1, k1⟩ := pair_ok h
        obtain ⟨j, hj⟩ := join_ok [set, l] (by simp)
        rw [M.syntax_parser_items_1_l1]; try dsimp only
        rw [if_pos rfl, e1, bnd]; dsimp only
        rw [M.syntax_parser_class_r_2, hj, bnd, bnd]; try dsimp only
        obtain ⟨l2, q2, e2, k2⟩ := ih q false j k1.good (fun hq => by have := (k1.prog hq).2; have := hk hb; omega)
        exact ⟨_, _, e2, (k1.trans k2).weak (by omega)⟩
      by_cases hf : first = true
      · rw [if_pos hf]; exact go
      · rw [if_neg hf, take_ok h 93 (by omega)]
        by_cases hq : pk p = 93
        · rw [if_pos hq, bnd]
          have ha := adv_ok h (by omega)
          obtain ⟨l, q, e1, k1⟩ := stop (adv p) set ha.good
          exact ⟨_, _, e1, (ha.trans k1).weak (by omega)⟩
        · rw [if_neg hq, bnd]; exact go
    · rw [if_neg hb]
      exact stop p set h
theorem pclass_ok {s : ByteArray} {p : T68} (h : Good s p) : ∃ l q, M.syntax_parser_class p = some (⟨1, l, [], 0, 0⟩, q) ∧ Ok s p q 0 := by
  have go : ∀ (f : Bool) (q : T68), Ok s p q 0 → ∃ l r, (M.syntax_parser_items q >>= fun y8 => M.syntax_parser_items_1 (⟨0, [0, 0, 0, 0], ([] : List T27), 0, 0⟩ : T27) f [0, 0, 0, 0] q >>= fun y17 =>
      if f = true then M.syntax_not y17.1 >>= fun y21 => some ((⟨1, y21, ([] : List T27), 0, 0⟩ : T27), y17.2) else some ((⟨1, y17.1, ([] : List T27), 0, 0⟩ : T27), y17.2)) = some (⟨1, l, [], 0, 0⟩, r) ∧ Ok s p r 0 := by
    intro f q hq
    obtain ⟨l, r, e1, k1⟩ := items_l0 (s := s) ⟨0, [0, 0, 0, 0], ([] : List T27), 0, 0⟩ f 300 q true [0, 0, 0, 0] hq.good (fun _ => by have := hq.good.2.1; have := hq.good.2.2.2.1; omega)
    rw [M.syntax_parser_items, bnd, M.syntax_parser_items_1, e1, bnd]; dsimp only
    obtain ⟨n, hn⟩ := not_ok l
    by_cases hf : f = true
    · rw [if_pos hf, hn, bnd]; exact ⟨_, _, rfl, hq.trans k1⟩
    · rw [if_neg hf]; exact ⟨_, _, rfl, hq.trans k1⟩
  rw [M.syntax_parser_class, take_ok h 94 (by omega)]
  by_cases hq : pk p = 94
  · rw [if_pos hq, bnd]; exact go true (adv p) ((adv_ok h (by omega)).weak (by omega))
  · rw [if_neg hq, bnd]; exact go false p (Ok.refl h)
theorem number1_ok {s : ByteArray} {p : T68} (h : Good s p) : M.syntax_parser_number_1 p = some (decide (48 ≤ pk p ∧ pk p ≤ 57), p) := by
  rw [M.syntax_parser_number_1, peek_eq h, bnd]; dsimp only
  by_cases h1 : pk p ≥ 48
  · rw [if_pos h1, peek_eq h, bnd]; dsimp only
    congr 2
    rw [decide_eq_decide]; omega
  · rw [if_neg h1, decide_eq_false (by omega)]
theorem dig {c : Int} (h : 48 ≤ c ∧ c ≤ 57) : wr .i64 (wr .u8 (c - 48)) = c - 48 := by
  have : wr .u8 (c - 48) = c - 48 := by
    simp only [wr, IntKind.wrap, IntKind.signed, IntKind.bits]
    simp
    omega
  rw [this, wr_i64 (by omega) (by omega)]
theorem number_ok {s : ByteArray} {p : T68} (h : Good s p) : ∃ n q, M.syntax_parser_number p = some (n, q) ∧ Ok s p q 0 ∧ -1 ≤ n ∧ n ≤ 99 := by
  rw [M.syntax_parser_number, number1_ok h, bnd]; dsimp only
  by_cases h1 : 48 ≤ pk p ∧ pk p ≤ 57
  · rw [decide_eq_true h1, if_pos rfl, peek_eq h, bnd]; dsimp only
    rw [dig h1, adv_eq h]
    have ha := adv_ok h (by omega)
    by_cases h2 : pk p - 48 > 0
    · rw [if_pos h2, number1_ok ha.good, bnd]; dsimp only
      rw [M.syntax_parser_number_l0]; try dsimp only
      by_cases h3 : 48 ≤ pk (adv p) ∧ pk (adv p) ≤ 57
      · rw [decide_eq_true h3, if_pos rfl, peek_eq ha.good, bnd]; dsimp only
        rw [dig h3, adv_eq ha.good, wr_i64 (x := 10 * (pk p - 48)) (by omega) (by omega), wr_i64 (by omega) (by omega)]
        exact ⟨_, _, rfl, (ha.trans (adv_ok ha.good (by omega))).weak (by omega), by omega, by omega⟩
      · rw [decide_eq_false h3, if_neg (by decide)]
        exact ⟨_, _, rfl, ha.weak (by omega), by omega, by omega⟩
    · rw [if_neg h2, M.syntax_parser_number_l0]; try dsimp only
      rw [if_neg (by decide)]
      exact ⟨_, _, rfl, ha.weak (by omega), by omega, by omega⟩
  · rw [decide_eq_false h1, if_neg (by decide)]
    exact ⟨_, _, rfl, Ok.refl h, by omega, by omega⟩
theorem counted_l1_ok {s : ByteArray} {p : T68} (h : Good s p) (a : Int) (ha : 0 ≤ a ∧ a ≤ s.size) (lo hi : Int) (hhi : -1 ≤ hi) :
    ∃ q, M.syntax_parser_counted_l1 (a, lo, hi, p) = some (lo, hi, q) ∧ Ok s p q 0 ∧ (q.bad = none → lo ≤ 64 ∧ (hi = -1 ∨ (lo ≤ hi ∧ hi ≤ 64))) := by
  obtain ⟨q, e1, k1⟩ := need_ok h 125 (by omega)
  have hf := fl_ok k1.good a ha.1 ha.2 0
  have k0 : Ok s p q 0 := k1.weak (by omega)
  rw [M.syntax_parser_counted_l1]; try dsimp only
  rw [e1, bnd]
  by_cases h1 : lo > 64
  · rw [if_pos h1, fail_eq, bnd]; exact ⟨_, rfl, k0.trans hf, fun hb => absurd hb (fl_bad _ _)⟩
  rw [if_neg h1]
  by_cases h2 : hi > 64
  · rw [if_pos h2, fail_eq, bnd]; exact ⟨_, rfl, k0.trans hf, fun hb => absurd hb (fl_bad _ _)⟩
  rw [if_neg h2]
  by_cases h3 : hi ≥ 0
  · rw [if_pos h3]
    by_cases h4 : lo > hi
    · rw [if_pos h4, fail_eq, bnd]; exact ⟨_, rfl, k0.trans hf, fun hb => absurd hb (fl_bad _ _)⟩
    · rw [if_neg h4]; exact ⟨_, rfl, k0, fun _ => ⟨by omega, .inr ⟨by omega, by omega⟩⟩⟩
  · rw [if_neg h3]; exact ⟨_, rfl, k0, fun _ => ⟨by omega, .inl (by omega)⟩⟩
theorem counted_l0_ok {s : ByteArray} {p : T68} (h : Good s p) (a : Int) (ha : 0 ≤ a ∧ a ≤ s.size) (lo : Int) (hlo : -1 ≤ lo) :
    ∃ hi q, M.syntax_parser_counted_l0 (a, lo, p) = some (lo, hi, q) ∧ Ok s p q 0 ∧ (q.bad = none → lo ≤ 64 ∧ (hi = -1 ∨ (lo ≤ hi ∧ hi ≤ 64))) := by
  rw [M.syntax_parser_counted_l0]; try dsimp only
  rw [take_ok h 44 (by omega)]
  by_cases hq : pk p = 44
  · rw [if_pos hq, bnd]; dsimp only
    have hv := adv_ok h (by omega)
    obtain ⟨n, q, e1, k1, n0, n1⟩ := number_ok hv.good
    rw [if_pos rfl, e1, bnd]; dsimp only
    obtain ⟨r, e2, k2, k3⟩ := counted_l1_ok k1.good a ha lo n n0
    exact ⟨_, _, e2, (hv.trans (k1.trans k2)).weak (by omega), k3⟩
  · rw [if_neg hq, bnd]; dsimp only
    rw [if_neg (by decide)]
    obtain ⟨r, e2, k2, k3⟩ := counted_l1_ok h a ha lo lo hlo
    exact ⟨_, _, e2, k2, k3⟩
theorem counted_ok {s : ByteArray} {p : T68} (h : Good s p) (a : Int) (ha : 0 ≤ a ∧ a ≤ s.size) :
    ∃ lo hi q, M.syntax_parser_counted p a = some (lo, hi, q) ∧ Ok s p q 0 ∧ (q.bad = none → 0 ≤ lo ∧ lo ≤ 64 ∧ (hi = -1 ∨ (lo ≤ hi ∧ hi ≤ 64))) := by
  obtain ⟨n, q, e1, k1, n0, n1⟩ := number_ok h
  rw [M.syntax_parser_counted, e1, bnd]; dsimp only
  by_cases hn : n < 0
  · rw [if_pos hn, fail_eq, bnd]; dsimp only
    have hf := fl_ok k1.good q.at_ k1.good.2.1 k1.good.2.2.1 0
    obtain ⟨hi, r, e2, k2, k3⟩ := counted_l0_ok hf.good a ha n n0
    exact ⟨_, _, _, e2, k1.trans (hf.trans k2), fun hb => absurd (k2.prog hb).1 (fl_bad _ _)⟩
  · rw [if_neg hn]
    obtain ⟨hi, r, e2, k2, k3⟩ := counted_l0_ok k1.good a ha n n0
    exact ⟨_, _, _, e2, k1.trans k2, fun hb => ⟨by omega, k3 hb⟩⟩
mutual
inductive V : T27 → Nat → Nat → Prop
  | leaf (l : List Int) : V ⟨1, l, [], 0, 0⟩ 1 1
  | many (k : Int) (hk : k = 2 ∨ k = 3) {L : List T27} {c d : Nat} (h : VL L c d) : V ⟨k, [0, 0, 0, 0], L, 0, 0⟩ (c + 1) (d + 1)
  | times {r : T27} {c d : Nat} (h : V r c d) (lo hi : Int) (h0 : 0 ≤ lo) (h1 : lo ≤ 64) (h2 : hi = -1 ∨ (lo ≤ hi ∧ hi ≤ 64)) : V ⟨4, [0, 0, 0, 0], [r], lo, hi⟩ (c + 1) (d + 1)
inductive VL : List T27 → Nat → Nat → Prop
  | nil : VL [] 0 0
  | cons {r : T27} {t : List T27} {c d c' d' : Nat} (h : V r c d) (ht : VL t c' d') : VL (r :: t) (c + c') (max d d')
end
theorem VL.snoc {r : T27} {c d : Nat} (h : V r c d) : ∀ {L : List T27} {c' d' : Nat}, VL L c' d' → ∃ d'', VL (L ++ [r]) (c' + c) d'' ∧ d'' ≤ max d d'
  | _, _, _, .nil => ⟨_, by have := VL.cons h .nil; simpa [Nat.add_comm] using this, by simp⟩
  | _, _, _, .cons h1 ht => by
    obtain ⟨d2, h2, h3⟩ := VL.snoc h ht
    refine ⟨_, by have := VL.cons h1 h2; rw [← Nat.add_assoc] at this; exact this, by omega⟩
theorem VL.one {r : T27} {c d : Nat} (h : VL [r] c d) : V r c d := by
  cases h with
  | cons h1 ht =>
    cases ht
    simpa using h1
theorem eta27 (r : T27) : (⟨r.Kind, r.Set, r.L, r.Min, r.Max⟩ : T27) = r := by cases r; rfl
theorem several_ok (k : Int) (hk : k = 2 ∨ k = 3) (L : List T27) (c d : Nat) (h : VL L c d) : ∃ r c' d', M.syntax_several k L = some r ∧ V r c' d' ∧ ((L.length = 1 ∧ c' = c ∧ d' = d) ∨ (L.length ≠ 1 ∧ c' = c + 1 ∧ d' = d + 1)) := by
  rw [M.syntax_several]
  by_cases h1 : L.length = 1
  · rw [if_pos (by omega), if_pos (by omega)]
    match L, h1, h with
    | [r], _, h => exact ⟨r, c, d, (by rw [show gi [r] 0 = r from rfl, eta27]), h.one, .inl ⟨rfl, rfl, rfl⟩⟩
  · rw [if_neg (by omega)]
    exact ⟨_, c + 1, d + 1, rfl, .many k hk h, .inr ⟨h1, rfl, rfl⟩⟩
theorem several_any (k : Int) (L : List T27) : ∃ r, M.syntax_several k L = some r := by
  rw [M.syntax_several]
  by_cases h1 : L.length = 1
  · rw [if_pos (by omega), if_pos (by omega)]; exact ⟨_, rfl⟩
  · rw [if_neg (by omega)]; exact ⟨_, rfl⟩
def AltOk (s : ByteArray) (p : T68) : Prop := ∃ r q, M.syntax_parser_alternation p = some (r, q) ∧ Ok s p q 0 ∧ (q.bad = none → ∃ c d : Nat, V r c d ∧ (c : Int) ≤ 2 * (q.at_ - p.at_) + 1 ∧ (d : Int) ≤ 4 + 3 * (32 - p.deep))
def SeqOk (s : ByteArray) (p : T68) : Prop := ∃ r q, M.syntax_parser_sequence p = some (r, q) ∧ Ok s p q 0 ∧ (q.bad = none → ∃ c d : Nat, V r c d ∧ (c : Int) ≤ 2 * (q.at_ - p.at_) + 1 ∧ (d : Int) ≤ 3 + 3 * (32 - p.deep))
def AtomOk (s : ByteArray) (p : T68) : Prop := ∃ r q, M.syntax_parser_atom p = some (r, q) ∧ Ok s p q 1 ∧ (q.bad = none → ∃ c d : Nat, V r c d ∧ (c : Int) + 1 ≤ 2 * (q.at_ - p.at_) ∧ (d : Int) ≤ 1 + 3 * (32 - p.deep))
def PieceOk (s : ByteArray) (p : T68) : Prop := ∃ r q, M.syntax_parser_piece p = some (r, q) ∧ Ok s p q 1 ∧ (q.bad = none → ∃ c d : Nat, V r c d ∧ (c : Int) + 1 ≤ 2 * (q.at_ - p.at_) ∧ (d : Int) ≤ 2 + 3 * (32 - p.deep))
variable {s : ByteArray}
theorem group_ok (p : T68) (h : Good s p) (hd : 0 ≤ p.deep ∧ p.deep ≤ 31) (alt : ∀ q, Good s q → 0 ≤ q.deep ∧ q.deep ≤ 32 → p.at_ ≤ q.at_ → AltOk s q) :
    ∃ r q, M.syntax_parser_group p = some (r, q) ∧ Ok s p q 1 ∧ (q.bad = none → ∃ c d : Nat, V r c d ∧ (c : Int) + 1 ≤ 2 * (q.at_ - p.at_) ∧ (d : Int) ≤ 1 + 3 * (32 - p.deep)) := by
  have l0 : ∀ x q, Ok s p q 0 → ∃ r q', M.syntax_parser_group_l0 (x, q) = some (r, q') ∧ Ok s p q' 1 ∧ (q'.bad = none → ∃ c d : Nat, V r c d ∧ (c : Int) + 1 ≤ 2 * (q'.at_ - p.at_) ∧ (d : Int) ≤ 1 + 3 * (32 - p.deep)) := by
    intro x q hq
    have hqd := hq.deep
    have hg := hq.good
    rw [M.syntax_parser_group_l0]; try dsimp only
    rw [wr_i64 (x := q.deep + 1) (by omega) (by omega)]
    obtain ⟨r, t, e1, k1, k2⟩ := alt ⟨q.s, q.at_, q.deep + 1, q.bad⟩ hg (by dsimp only; omega) (by dsimp only; exact hq.le)
    rw [e1, bnd]; dsimp only
    have htd : t.deep = q.deep + 1 := k1.deep
    rw [wr_i64 (x := t.deep - 1) (by omega) (by omega)]
    have k1' : Ok s q ⟨t.s, t.at_, t.deep - 1, t.bad⟩ 0 := ⟨k1.good, by dsimp only; omega, k1.le, k1.prog⟩
    obtain ⟨u, e2, k3⟩ := need_ok k1'.good 41 (by omega)
    rw [e2, bnd]
    have kk := hq.trans (k1'.trans k3)
    refine ⟨_, _, rfl, kk.weak (by omega), fun hb => ?_⟩
    have p3 := k3.prog hb
    obtain ⟨c, d, v, hc, hd'⟩ := k2 p3.1
    have hle := hq.le
    dsimp only at hc hd' p3
    exact ⟨c, d, v, by omega, by omega⟩
  rw [M.syntax_parser_group, take_ok h 63 (by omega)]
  by_cases hq : pk p = 63
  · rw [if_pos hq, bnd]; dsimp only
    have ha := adv_ok h (by omega)
    obtain ⟨q, e1, k1⟩ := need_ok ha.good 58 (by omega)
    rw [if_pos rfl, e1, bnd]
    exact l0 _ q ((ha.trans k1).weak (by omega))
  · rw [if_neg hq, bnd]; dsimp only
    rw [if_neg (by decide)]
    exact l0 _ p (Ok.refl h)
theorem atom_ok (p : T68) (h : Good s p) (hd : 0 ≤ p.deep ∧ p.deep ≤ 32) (alt : ∀ q, Good s q → 0 ≤ q.deep ∧ q.deep ≤ 32 → p.at_ + 1 ≤ q.at_ → AltOk s q) : AtomOk s p := by
  have hp := pk_range p
  unfold AtomOk
  rw [M.syntax_parser_atom, peek_eq h, bnd]; dsimp only
  have hfail : ∀ x c, ∃ r q, M.syntax_parser_atom_l0 (x, c, true, p) = some (r, q) ∧ Ok s p q 1 ∧ (q.bad = none → ∃ c d : Nat, V r c d ∧ (c : Int) + 1 ≤ 2 * (q.at_ - p.at_) ∧ (d : Int) ≤ 1 + 3 * (32 - p.deep)) := by
    intro x c
    rw [M.syntax_parser_atom_l0]; try dsimp only
    rw [if_pos rfl, fail_eq, bnd]
    exact ⟨_, _, rfl, fl_ok h _ h.2.1 h.2.2.1 1, fun hb => absurd hb (fl_bad _ _)⟩
  by_cases h1 : pk p < 32
  · rw [if_pos h1]; exact hfail _ _
  rw [if_neg h1]
  by_cases h2 : pk p > 126
  · rw [if_pos h2]; exact hfail _ _
  rw [if_neg h2, idx_eq, bnd]
  by_cases h3 : ixB (⟨#[93, 41, 42, 43, 63, 123, 125, 94, 36, 124]⟩ : ByteArray) (pk p) ≥ 0
  · rw [decide_eq_true h3]; exact hfail _ _
  rw [decide_eq_false h3, M.syntax_parser_atom_l0]; try dsimp only
  rw [if_neg (by decide)]
  have ha := adv_ok h (by omega)
  have hat : (adv p).at_ = p.at_ + 1 := rfl
  have leaf : ∀ (l : List Int) (q : T68), Ok s (adv p) q 0 → ∃ r q', some ((⟨1, l, [], 0, 0⟩ : T27), q) = some (r, q') ∧ Ok s p q' 1 ∧ (q'.bad = none → ∃ c d : Nat, V r c d ∧ (c : Int) + 1 ≤ 2 * (q'.at_ - p.at_) ∧ (d : Int) ≤ 1 + 3 * (32 - p.deep)) := by
    intro l q hq
    have hle := hq.le
    refine ⟨_, _, rfl, (ha.trans hq).weak (by omega), fun _ => ⟨1, 1, .leaf l, by omega, by omega⟩⟩
  have l1 : ∀ x, ∃ r q, M.syntax_parser_atom_l1 (x, pk p, decide (pk p = 40 ∧ p.deep = 32), p) = some (r, q) ∧ Ok s p q 1 ∧ (q.bad = none → ∃ c d : Nat, V r c d ∧ (c : Int) + 1 ≤ 2 * (q.at_ - p.at_) ∧ (d : Int) ≤ 1 + 3 * (32 - p.deep)) := by
    intro x
    rw [M.syntax_parser_atom_l1]; try dsimp only
    by_cases h4 : pk p = 40 ∧ p.deep = 32
    · rw [decide_eq_true h4, if_pos rfl, fail_eq, bnd]
      exact ⟨_, _, rfl, fl_ok h _ h.2.1 h.2.2.1 1, fun hb => absurd hb (fl_bad _ _)⟩
    rw [decide_eq_false h4, if_neg (by decide), take_ok h 46 (by omega)]
    by_cases h5 : pk p = 46
    · obtain ⟨l, hl⟩ := one_ok 10 (by omega) (by omega)
      obtain ⟨n, hn⟩ := not_ok l
      rw [if_pos h5, bnd]; dsimp only
      rw [if_pos rfl, hl, bnd, hn, bnd]
      exact leaf n _ (Ok.refl ha.good)
    rw [if_neg h5, bnd]; dsimp only
    rw [if_neg (by decide), take_ok h 91 (by omega)]
    by_cases h6 : pk p = 91
    · rw [if_pos h6, bnd]; dsimp only
      obtain ⟨l, q, e1, k1⟩ := pclass_ok ha.good
      rw [if_pos rfl, e1, bnd]
      exact leaf l q k1
    rw [if_neg h6, bnd]; dsimp only
    rw [if_neg (by decide), take_ok h 40 (by omega)]
    by_cases h7 : pk p = 40
    · rw [if_pos h7, bnd]; dsimp only
      have hne : p.deep ≠ 32 := fun hh => h4 ⟨h7, hh⟩
      have hdd : (adv p).deep = p.deep := rfl
      obtain ⟨r, q, e1, k1, k2⟩ := group_ok (adv p) ha.good (by omega) (fun q hq1 hq2 hq3 => alt q hq1 hq2 (by omega))
      rw [if_pos rfl, e1, bnd]
      refine ⟨r, q, rfl, (ha.trans k1).weak (by omega), fun hb => ?_⟩
      obtain ⟨c, d, v, hc, hd'⟩ := k2 hb
      exact ⟨c, d, v, by omega, by omega⟩
    rw [if_neg h7, bnd]; dsimp only
    rw [if_neg (by decide), take_ok h 92 (by omega)]
    by_cases h8 : pk p = 92
    · rw [if_pos h8, bnd]; dsimp only
      obtain ⟨t, q, e1, k1, _⟩ := escape_ok ha.good
      rw [if_pos rfl, e1, bnd]
      exact leaf t.set_ q (k1.weak (by omega))
    · obtain ⟨l, hl⟩ := one_ok (pk p) hp.1 hp.2
      rw [if_neg h8, bnd]; dsimp only
      rw [if_neg (by decide), hl, bnd, adv_eq h]
      exact leaf l _ (Ok.refl ha.good)
  by_cases h9 : pk p = 40
  · rw [if_pos h9]
    have := l1 ⟨0, [0, 0, 0, 0], [], 0, 0⟩
    rw [show decide (pk p = 40 ∧ p.deep = 32) = decide (p.deep = 32) by simp [h9]] at this
    exact this
  · rw [if_neg h9]
    have := l1 ⟨0, [0, 0, 0, 0], [], 0, 0⟩
    rw [decide_eq_false (fun hh => h9 hh.1)] at this
    exact this
theorem piece_ok (p : T68) (h : Good s p) (hd : 0 ≤ p.deep ∧ p.deep ≤ 32) (alt : ∀ q, Good s q → 0 ≤ q.deep ∧ q.deep ≤ 32 → p.at_ + 1 ≤ q.at_ → AltOk s q) : PieceOk s p := by
  obtain ⟨r, q, e1, k1, k2⟩ := atom_ok p h hd alt
  have hg := k1.good
  unfold PieceOk
  rw [M.syntax_parser_piece, e1, bnd]; dsimp only
  have tim : ∀ (lo hi : Int) (t : T68), Ok s q t 1 → (t.bad = none → 0 ≤ lo ∧ lo ≤ 64 ∧ (hi = -1 ∨ (lo ≤ hi ∧ hi ≤ 64))) → ∃ r' t', some ((⟨4, [0, 0, 0, 0], [r], lo, hi⟩ : T27), t) = some (r', t') ∧ Ok s p t' 1 ∧ (t'.bad = none → ∃ c d : Nat, V r' c d ∧ (c : Int) + 1 ≤ 2 * (t'.at_ - p.at_) ∧ (d : Int) ≤ 2 + 3 * (32 - p.deep)) := by
    intro lo hi t ht hb
    refine ⟨_, _, rfl, (k1.trans ht).weak (by omega), fun hbt => ?_⟩
    have p1 := ht.prog hbt
    obtain ⟨c, d, v, hc, hd'⟩ := k2 p1.1
    obtain ⟨b1, b2, b3⟩ := hb hbt
    exact ⟨c + 1, d + 1, .times v lo hi b1 b2 b3, by omega, by omega⟩
  have one : ∀ c : Int, c ≠ 0 → pk q = c → Ok s q (adv q) 1 := fun c hc hq => adv_ok hg (by omega)
  rw [take_ok hg 42 (by omega)]
  by_cases h1 : pk q = 42
  · rw [if_pos h1, bnd]; dsimp only
    rw [if_pos rfl]; exact tim 0 (-1) _ (one 42 (by omega) h1) (fun _ => ⟨by omega, by omega, .inl rfl⟩)
  rw [if_neg h1, bnd]; dsimp only
  rw [if_neg (by decide), take_ok hg 43 (by omega)]
  by_cases h2 : pk q = 43
  · rw [if_pos h2, bnd]; dsimp only
    rw [if_pos rfl]; exact tim 1 (-1) _ (one 43 (by omega) h2) (fun _ => ⟨by omega, by omega, .inl rfl⟩)
  rw [if_neg h2, bnd]; dsimp only
  rw [if_neg (by decide), take_ok hg 63 (by omega)]
  by_cases h3 : pk q = 63
  · rw [if_pos h3, bnd]; dsimp only
    rw [if_pos rfl]; exact tim 0 1 _ (one 63 (by omega) h3) (fun _ => ⟨by omega, by omega, .inr ⟨by omega, by omega⟩⟩)
  rw [if_neg h3, bnd]; dsimp only
  rw [if_neg (by decide), take_ok hg 123 (by omega)]
  by_cases h4 : pk q = 123
  · rw [if_pos h4, bnd]; dsimp only
    have ha := one 123 (by omega) h4
    obtain ⟨lo, hi, t, e2, k3, k4⟩ := counted_ok ha.good q.at_ ⟨hg.2.1, hg.2.2.1⟩
    rw [if_pos rfl, e2, bnd]; dsimp only
    exact tim lo hi t ((ha.trans k3).weak (by omega)) k4
  · rw [if_neg h4, bnd]; dsimp only
    rw [if_neg (by decide)]
    refine ⟨_, _, rfl, k1, fun hb => ?_⟩
    obtain ⟨c, d, v, hc, hd'⟩ := k2 hb
    exact ⟨c, d, v, hc, by omega⟩
theorem seq_l0 (a0 : Int) (D : Int) (x : T27) (dp : Int) (k : Nat) : ∀ (p : T68) (acc : List T27), Good s p → p.deep = dp → D = 2 + 3 * (32 - dp) → (s.size : Int) - p.at_ < k →
    (∀ q, Good s q → q.deep = dp → p.at_ ≤ q.at_ → PieceOk s q) → acc.length ≤ 1000 → (p.bad = none → (acc.length : Int) ≤ p.at_) → (p.bad = none → ∃ c d : Nat, VL acc c d ∧ (c : Int) + acc.length ≤ 2 * (p.at_ - a0) ∧ (d : Int) ≤ D) → a0 ≤ p.at_ →
    ∃ r q, M.syntax_parser_sequence_l0 (x, acc, p) = some (r, q) ∧ Ok s p q 0 ∧ (q.bad = none → ∃ c d : Nat, V r c d ∧ (c : Int) ≤ 2 * (q.at_ - a0) + 1 ∧ (d : Int) ≤ D + 1) := by
  have stop : ∀ (p : T68) (acc : List T27), Good s p → p.deep = dp → D = 2 + 3 * (32 - dp) → (p.bad = none → ∃ c d : Nat, VL acc c d ∧ (c : Int) + acc.length ≤ 2 * (p.at_ - a0) ∧ (d : Int) ≤ D) → a0 ≤ p.at_ →
      ∃ r q, M.syntax_parser_sequence_l1 (x, acc, false, p) = some (r, q) ∧ Ok s p q 0 ∧ (q.bad = none → ∃ c d : Nat, V r c d ∧ (c : Int) ≤ 2 * (q.at_ - a0) + 1 ∧ (d : Int) ≤ D + 1) := by
    intro p acc h hdp hD hV h0
    rw [M.syntax_parser_sequence_l1]; try dsimp only
    rw [if_neg (by decide)]
    by_cases hb : p.bad = none
    · obtain ⟨c, d, v, hc, hd⟩ := hV hb
      obtain ⟨r, c', d', e1, v', hh⟩ := several_ok 2 (.inl rfl) acc c d v
      rw [e1, bnd]
      refine ⟨_, _, rfl, Ok.refl h, fun _ => ⟨c', d', v', ?_, ?_⟩⟩ <;> omega
    · obtain ⟨r, e1⟩ := several_any 2 acc
      rw [e1, bnd]
      exact ⟨_, _, rfl, Ok.refl h, fun h' => absurd h' hb⟩
  have un : ∀ (p : T68) (acc : List T27), Good s p → M.syntax_parser_sequence_l0 (x, acc, p) = M.syntax_parser_sequence_l1 (x, acc, decide (p.bad = none ∧ p.at_ < p.s.size ∧ pk p ≠ 124 ∧ pk p ≠ 41), p) := by
    intro p acc h
    have := seq_open x p acc
    refine this.trans ?_
    by_cases hb : p.bad = none
    · rw [if_pos hb]
      by_cases hl : p.at_ < (p.s.size : Int)
      · rw [if_pos hl, peek_eq h, bnd]; dsimp only
        by_cases h1 : pk p = 124
        · rw [if_pos h1, decide_eq_false (by omega)]
        · rw [if_neg h1, peek_eq h, bnd]; dsimp only
          by_cases h2 : pk p = 41
          · rw [decide_eq_true h2, decide_eq_false (by omega)]; rfl
          · rw [decide_eq_false h2, decide_eq_true ⟨hb, hl, h1, h2⟩]; rfl
      · rw [if_neg hl, decide_eq_false (by omega)]
    · rw [if_neg hb, decide_eq_false (fun hh => hb hh.1)]
  induction k with
  | zero => intro p acc h _ _ hk; have := h.2.2.1; omega
  | succ k ih =>
    intro p acc h hdp hD hk pie hlen hat hV h0
    rw [un p acc h]
    by_cases hgo : p.bad = none ∧ p.at_ < p.s.size ∧ pk p ≠ 124 ∧ pk p ≠ 41
    · obtain ⟨r, q, e1, k1, k2⟩ := pie p h hdp (Int.le_refl _)
      obtain ⟨c, d, v, hc, hd⟩ := hV hgo.1
      have hq := k1.le
      have hps := h.2.2.1
      have hs := h.2.2.2.1
      have ha := hat hgo.1
      rw [decide_eq_true hgo, M.syntax_parser_sequence_l1]; try dsimp only
      rw [if_pos rfl, e1, bnd]; dsimp only
      have hl2 : (acc ++ [r]).length = acc.length + 1 := by simp
      rw [if_pos (by rw [hl2]; omega)]
      by_cases hb : q.bad = none
      · obtain ⟨c', d', v', hc', hd'⟩ := k2 hb
        have hp1 := (k1.prog hb).2
        obtain ⟨d'', hv'', hd''⟩ := VL.snoc v' v
        obtain ⟨r2, q2, e2, k3, k4⟩ := ih q (acc ++ [r]) k1.good (k1.deep.trans hdp) hD (by omega) (fun z z1 z2 z3 => pie z z1 z2 (by omega)) (by rw [hl2]; omega) (fun _ => by rw [hl2]; omega)
          (fun _ => ⟨c + c', d'', hv'', by rw [hl2]; omega, by omega⟩) (by omega)
        exact ⟨_, _, e2, (k1.trans k3).weak (by omega), k4⟩
      · rw [un q _ k1.good, decide_eq_false (fun hh => hb hh.1)]
        obtain ⟨r2, q2, e2, k3, k4⟩ := stop q (acc ++ [r]) k1.good (k1.deep.trans hdp) hD (fun hh => absurd hh hb) (by omega)
        exact ⟨_, _, e2, (k1.trans k3).weak (by omega), k4⟩
    · rw [decide_eq_false hgo]
      exact stop p acc h hdp hD hV h0
theorem seq_ok (p : T68) (h : Good s p) (hd : 0 ≤ p.deep ∧ p.deep ≤ 32) (alt : ∀ q, Good s q → 0 ≤ q.deep ∧ q.deep ≤ 32 → p.at_ + 1 ≤ q.at_ → AltOk s q) : SeqOk s p := by
  unfold SeqOk
  rw [M.syntax_parser_sequence]
  have hp := h.2.1
  obtain ⟨r, q, e1, k1, k2⟩ := seq_l0 p.at_ (2 + 3 * (32 - p.deep)) ⟨0, [0, 0, 0, 0], [], 0, 0⟩ p.deep 300 p [] h rfl rfl (by have := h.2.2.2.1; omega)
    (fun q hq hdq hle => piece_ok q hq (by omega) (fun z z1 z2 z3 => alt z z1 z2 (by omega))) (by simp) (fun _ => by simpa using hp) (fun _ => ⟨0, 0, .nil, by simp, by omega⟩) (Int.le_refl _)
  refine ⟨_, _, e1, k1, fun hb => ?_⟩
  obtain ⟨c, d, v, hc, hd'⟩ := k2 hb
  exact ⟨c, d, v, hc, by omega⟩
theorem alt_l0 (a0 : Int) (D : Int) (x : T27) (dp : Int) (k : Nat) : ∀ (p : T68) (acc : List T27), Good s p → p.deep = dp → D = 3 + 3 * (32 - dp) → (s.size : Int) - p.at_ < k →
    (∀ q, Good s q → q.deep = dp → p.at_ ≤ q.at_ → SeqOk s q) → 1 ≤ acc.length → acc.length ≤ 1000 → (p.bad = none → (acc.length : Int) ≤ p.at_ + 1) → (p.bad = none → ∃ c d : Nat, VL acc c d ∧ (c : Int) + acc.length ≤ 2 * (p.at_ - a0) + 2 ∧ (d : Int) ≤ D) → a0 ≤ p.at_ →
    ∃ r q, M.syntax_parser_alternation_l0 (x, acc, p) = some (r, q) ∧ Ok s p q 0 ∧ (q.bad = none → ∃ c d : Nat, V r c d ∧ (c : Int) ≤ 2 * (q.at_ - a0) + 1 ∧ (d : Int) ≤ D + 1) := by
  induction k with
  | zero => intro p acc h _ _ hk; have := h.2.2.1; omega
  | succ k ih =>
    intro p acc h hdp hD hk sq hlen1 hlen hat hV h0
    rw [M.syntax_parser_alternation_l0]; try dsimp only
    rw [take_ok h 124 (by omega)]
    by_cases hq : pk p = 124
    · have ha := adv_ok h (by omega)
      have hpb := (pk_ne (p := p) (by omega)).1
      have hat1 : (adv p).at_ = p.at_ + 1 := rfl
      have hps := h.2.2.1
      have hs := h.2.2.2.1
      have hla := hat hpb
      rw [if_pos hq, bnd]; dsimp only
      obtain ⟨r, q, e1, k1, k2⟩ := sq (adv p) ha.good (ha.deep.trans hdp) (by omega)
      obtain ⟨c, d, v, hc, hd⟩ := hV hpb
      have hl2 : (acc ++ [r]).length = acc.length + 1 := by simp
      have hle := k1.le
      rw [if_pos rfl, e1, bnd]; dsimp only
      rw [if_pos (by rw [hl2]; omega)]
      obtain ⟨r2, q2, e2, k3, k4⟩ := ih q (acc ++ [r]) k1.good (k1.deep.trans (ha.deep.trans hdp)) hD (by omega) (fun z z1 z2 z3 => sq z z1 z2 (by omega)) (by rw [hl2]; omega) (by rw [hl2]; omega) (fun _ => by rw [hl2]; omega)
        (fun hb => by
          obtain ⟨c', d', v', hc', hd'⟩ := k2 hb
          obtain ⟨d'', hv'', hd''⟩ := VL.snoc v' v
          have hdd : (adv p).deep = p.deep := rfl
          exact ⟨c + c', d'', hv'', by rw [hl2]; omega, by omega⟩) (by omega)
      exact ⟨_, _, e2, (ha.trans (k1.trans k3)).weak (by omega), k4⟩
    · rw [if_neg hq, bnd]; dsimp only
      rw [if_neg (by decide)]
      by_cases hb : p.bad = none
      · obtain ⟨c, d, v, hc, hd⟩ := hV hb
        obtain ⟨r, c', d', e1, v', hh⟩ := several_ok 3 (.inr rfl) acc c d v
        rw [e1, bnd]
        refine ⟨_, _, rfl, Ok.refl h, fun _ => ⟨c', d', v', ?_, ?_⟩⟩ <;> omega
      · obtain ⟨r, e1⟩ := several_any 3 acc
        rw [e1, bnd]
        exact ⟨_, _, rfl, Ok.refl h, fun h' => absurd h' hb⟩
theorem alt_ok (k : Nat) : ∀ p : T68, Good s p → 0 ≤ p.deep ∧ p.deep ≤ 32 → (s.size : Int) - p.at_ < k → AltOk s p := by
  induction k with
  | zero => intro p h _ hk; have := h.2.2.1; omega
  | succ k ih =>
    intro p h hd hk
    have alt : ∀ a : Int, p.at_ ≤ a → ∀ q, Good s q → 0 ≤ q.deep ∧ q.deep ≤ 32 → a + 1 ≤ q.at_ → AltOk s q := fun a ha q hq hdq hle => ih q hq hdq (by omega)
    obtain ⟨r, q, e1, k1, k2⟩ := seq_ok p h hd (alt p.at_ (Int.le_refl _))
    have hle := k1.le
    have hqd := k1.deep
    have hp := h.2.1
    unfold AltOk
    rw [M.syntax_parser_alternation, e1, bnd]; dsimp only
    obtain ⟨r2, q2, e2, k3, k4⟩ := alt_l0 p.at_ (3 + 3 * (32 - p.deep)) ⟨0, [0, 0, 0, 0], [], 0, 0⟩ p.deep 300 q [r] k1.good k1.deep rfl (by have := h.2.2.2.1; omega)
      (fun z z1 z2 z3 => seq_ok z z1 (by omega) (alt z.at_ (by omega))) (by simp) (by simp) (fun _ => by simp; omega) (fun hb => by
        obtain ⟨c, d, v, hc, hd'⟩ := k2 hb
        exact ⟨c + 0, max d 0, .cons v .nil, by simp; omega, by omega⟩) (by omega)
    refine ⟨_, _, e2, (k1.trans k3).weak (by omega), fun hb => ?_⟩
    obtain ⟨c, d, v, hc, hd'⟩ := k4 hb
    exact ⟨c, d, v, hc, by omega⟩
theorem V.pos {r : T27} {c d : Nat} (h : V r c d) : 1 ≤ c ∧ 1 ≤ d := by cases h <;> omega
theorem VL.len : ∀ {L : List T27} {c d : Nat}, VL L c d → L.length ≤ c
  | _, _, _, .nil => by simp
  | _, _, _, .cons h ht => by have := VL.len ht; have := h.pos; simp; omega
mutual
theorem count_V {r : T27} {c d : Nat} : V r c d → ∀ (left n : Int), (d : Int) ≤ left → left ≤ 128 → 0 ≤ n → n + c ≤ 4096 → M.syntax_count (r, left, n) = some (true, n + c)
  | .leaf l, left, n, h1, h2, h3, h4 => by
    rw [M.syntax_count]; try dsimp only
    rw [if_neg (by omega), wr_i64 (by omega) (by omega), decide_eq_false (by omega), M.syntax_count_l0]; try dsimp only
    rw [if_neg (by decide), M.syntax_count_l1]; try dsimp only
    rw [if_neg (by simp)]
    congr 2
  | .many (L := L) (c := c) k hk h, left, n, h1, h2, h3, h4 => by
    have hl := h.len
    rw [M.syntax_count]; try dsimp only
    rw [if_neg (by omega), wr_i64 (by omega) (by omega), decide_eq_false (by omega), M.syntax_count_l0]; try dsimp only
    rw [if_neg (by decide)]
    have := count_VL h L [] rfl (by omega) left (n + 1) (by omega) h2 (by omega) (by omega)
    rw [show ((([] : List T27).length : Nat) : Int) = 0 from rfl] at this
    rw [this]
    congr 2
    push_cast
    omega
  | .times (r := r) (c := c) h lo hi _ _ _, left, n, h1, h2, h3, h4 => by
    rw [M.syntax_count]; try dsimp only
    rw [if_neg (by omega), wr_i64 (by omega) (by omega), decide_eq_false (by omega), M.syntax_count_l0]; try dsimp only
    rw [if_neg (by decide), M.syntax_count_l1]; try dsimp only
    rw [if_pos (by simp), if_pos (by omega), if_pos (by simp), show gi [r] 0 = r from rfl, eta27, wr_i64 (by omega) (by omega), count_V h (left - 1) (n + 1) (by omega) (by omega) (by omega) (by omega), bnd]
    dsimp only
    rw [if_pos rfl, show wr .i64 (0 + 1) = 1 from rfl, M.syntax_count_l1]; try dsimp only
    rw [if_neg (by simp)]
    congr 2
    push_cast
    omega
theorem count_VL {L : List T27} {c d : Nat} : VL L c d → ∀ (L0 pre : List T27), L0 = pre ++ L → L0.length ≤ 5000 → ∀ (left n : Int), (d : Int) + 1 ≤ left → left ≤ 128 → 0 ≤ n → n + c ≤ 4096 → M.syntax_count_l1 (left, L0, (L0.length : Int), (pre.length : Int), n) = some (true, n + c)
  | .nil, L0, pre, e, hl, left, n, h1, h2, h3, h4 => by
    rw [M.syntax_count_l1]; try dsimp only
    subst e
    rw [if_neg (by simp)]
    congr 2
    push_cast
    omega
  | .cons (r := r) (t := t) (c := c) (c' := c') h ht, L0, pre, e, hl, left, n, h1, h2, h3, h4 => by
    have hlen : L0.length = pre.length + (t.length + 1) := by rw [e]; simp
    have hg : gi L0 (pre.length : Int) = r := by rw [e]; simp [gi]
    rw [M.syntax_count_l1]; try dsimp only
    rw [if_pos (by omega), if_pos (by omega), if_pos (by omega), hg, eta27, wr_i64 (x := left - 1) (by omega) (by omega), count_V h (left - 1) n (by omega) (by omega) h3 (by omega), bnd]
    dsimp only
    rw [if_pos rfl, wr_i64 (by omega) (by omega)]
    have := count_VL ht L0 (pre ++ [r]) (by rw [e]; simp) hl left (n + c) (by omega) h2 (by omega) (by omega)
    rw [show (((pre ++ [r]).length : Nat) : Int) = (pre.length : Int) + 1 by simp] at this
    rw [this]
    congr 2
    push_cast
    omega
end
theorem shaped_leaf (l : List Int) : M.syntax_shaped ⟨1, l, [], 0, 0⟩ = some true := by
  rw [M.syntax_shaped, if_pos rfl, M.syntax_shaped_l0]; try dsimp only
  rw [if_pos rfl, if_pos (by simp)]; rfl
theorem shaped_many (k : Int) (hk : k = 2 ∨ k = 3) (L : List T27) : M.syntax_shaped ⟨k, [0, 0, 0, 0], L, 0, 0⟩ = some true := by
  rw [M.syntax_shaped, if_pos rfl, M.syntax_shaped_l0]; try dsimp only
  rcases hk with rfl | rfl
  · rw [if_neg (by decide), if_pos rfl, M.syntax_shaped_l1]; try dsimp only
    rw [if_pos rfl, if_pos rfl]; rfl
  · rw [if_neg (by decide), if_neg (by decide), M.syntax_shaped_l1]; try dsimp only
    rw [if_pos (by rfl), if_pos rfl]; rfl
theorem shaped_times (r : T27) (lo hi : Int) (h0 : 0 ≤ lo) (h1 : lo ≤ 64) (h2 : hi = -1 ∨ (lo ≤ hi ∧ hi ≤ 64)) : M.syntax_shaped ⟨4, [0, 0, 0, 0], [r], lo, hi⟩ = some true := by
  have go : ∀ b : Bool, M.syntax_shaped_l0 (⟨4, [0, 0, 0, 0], [r], lo, hi⟩, [0, 0, 0, 0], b) = some true := by
    intro b
    have l3 : M.syntax_shaped_l3 (⟨4, [0, 0, 0, 0], [r], lo, hi⟩, [0, 0, 0, 0], true, true) = some true := by
      rw [M.syntax_shaped_l3]; try dsimp only
      rw [if_pos (by simp), if_pos rfl, if_pos rfl]
    rw [M.syntax_shaped_l0]; try dsimp only
    rw [if_neg (by decide), if_neg (by decide), decide_eq_false (by decide), M.syntax_shaped_l1]; try dsimp only
    rw [if_neg (by decide), if_pos rfl, if_pos h0, decide_eq_true h1, M.syntax_shaped_l2]; try dsimp only
    by_cases hm : hi = -1
    · rw [if_pos hm, l3]
    · rw [if_neg hm, if_pos (by omega), decide_eq_true (by omega), l3]
  rw [M.syntax_shaped]; dsimp only
  by_cases hz : lo = 0
  · rw [if_pos hz, go]
  · rw [if_neg hz, go]
mutual
theorem right_V {r : T27} {c d : Nat} : V r c d → c ≤ 4096 → M.syntax_right r = some true
  | .leaf l, _ => by
    rw [M.syntax_right]; try dsimp only
    rw [M.syntax_right_l0]; try dsimp only
    rw [if_neg (by simp), shaped_leaf, bnd]
  | .many (L := L) (c := c) k hk h, hc => by
    have hl := h.len
    rw [M.syntax_right]; try dsimp only
    exact right_VL h (by omega) L [] _ rfl (by omega) (shaped_many k hk L)
  | .times (r := r) h lo hi h0 h1 h2, hc => by
    rw [M.syntax_right]; try dsimp only
    rw [M.syntax_right_l0]; try dsimp only
    rw [if_pos (by simp), if_pos (by omega), if_pos (by simp), show gi [r] 0 = r from rfl, eta27, right_V h (by omega), bnd, if_pos rfl, show wr .i64 (0 + 1) = 1 from rfl]
    rw [M.syntax_right_l0]; try dsimp only
    rw [if_neg (by simp), shaped_times r lo hi h0 h1 h2, bnd]
theorem right_VL {L : List T27} {c d : Nat} : VL L c d → c ≤ 4096 → ∀ (L0 pre : List T27) (x : T27), L0 = pre ++ L → L0.length ≤ 5000 → M.syntax_shaped x = some true → M.syntax_right_l0 (x, L0, (L0.length : Int), (pre.length : Int)) = some true
  | .nil, hc, L0, pre, x, e, hl, hs => by
    rw [M.syntax_right_l0]; try dsimp only
    subst e
    rw [if_neg (by simp), hs, bnd]
  | .cons (r := r) (t := t) h ht, hc, L0, pre, x, e, hl, hs => by
    have hlen : L0.length = pre.length + (t.length + 1) := by rw [e]; simp
    have hg : gi L0 (pre.length : Int) = r := by rw [e]; simp [gi]
    rw [M.syntax_right_l0]; try dsimp only
    rw [if_pos (by omega), if_pos (by omega), if_pos (by omega), hg, eta27, right_V h (by omega), bnd, if_pos rfl, wr_i64 (by omega) (by omega)]
    have := right_VL ht (by omega) L0 (pre ++ [r]) x (by rw [e]; simp) hl hs
    rw [show (((pre ++ [r]).length : Nat) : Int) = (pre.length : Int) + 1 by simp] at this
    exact this
end
theorem size_ok {r : T27} {c d : Nat} (h : V r c d) (hc : c ≤ 4096) (hd : d ≤ 128) : M.syntax_Size r = some (c : Int) := by
  rw [M.syntax_Size, count_V h 128 0 (by omega) (by omega) (by omega) (by omega), bnd]
  dsimp only
  rw [if_pos rfl, right_V h hc, bnd, if_pos rfl, Int.zero_add]
theorem parse_of (x : ByteArray) (hx : x.size ≤ 256) (r : T27) (q : T68) (e : M.syntax_parser_alternation ⟨x, 0, 0, none⟩ = some (r, q)) :
    M.syntax_Parse x = some (match q.bad with | some w => (re0, w.at_, 100) | none => if q.at_ < x.size then (re0, q.at_, 100) else (r, 0, 0)) := by
  rw [M.syntax_Parse, if_neg (by omega), e, bnd]; dsimp only
  obtain ⟨s', a, d, b⟩ := q
  cases b with
  | some w =>
    rw [bnd]; try dsimp only
    rw [M.syntax_Parse_l0]; try dsimp only
    rw [if_neg (by decide), M.syntax_Parse_l1]; try dsimp only
    rw [bnd]; try dsimp only
    rw [M.syntax_Parse_l2]; try dsimp only
    rw [if_pos rfl]; rfl
  | none =>
    rw [bnd]; try dsimp only
    rw [M.syntax_Parse_l0]; try dsimp only
    by_cases h : a < (x.size : Int)
    · rw [decide_eq_true h, if_pos rfl, fail_eq, bnd, if_pos h, M.syntax_Parse_l1]; try dsimp only
      dsimp only [fl]; rw [bnd]; try dsimp only
      rw [M.syntax_Parse_l2]; try dsimp only
      rw [if_pos rfl]; rfl
    · rw [decide_eq_false h, if_neg (by decide), if_neg h, M.syntax_Parse_l1]; try dsimp only
      rw [bnd]; try dsimp only
      rw [M.syntax_Parse_l2]; try dsimp only
      rw [if_neg (by decide)]
def P (s : ByteArray) (i : Int) : T68 := ⟨s, i, 0, none⟩
theorem P_good (s : ByteArray) (i : Int) (h0 : 0 ≤ i) (h1 : i ≤ s.size) (h2 : s.size ≤ 256) : Good s (P s i) := ⟨rfl, h0, h1, h2, fun w hw => by cases hw⟩
end Go.Proofs.YtemokppdnkiejaaDoor.Syn
