/-
  The chapter's examples of reading a pattern.
-/
import Derived.Test.YtemokppdnkiejaaDoorMQs
import Derived.Test.YtemokppdnkiejaaDoorGS
set_option linter.unusedVariables false
set_option linter.unusedSimpArgs false
namespace Go.Proofs.YtemokppdnkiejaaDoor.Syn
open Go.Gx
theorem bnd {α β : Type} (a : α) (f : α → Option β) : (some a >>= f) = f a := rfl
theorem wr_i64 {x : Int} (h0 : -9223372036854775808 ≤ x) (h1 : x ≤ 9223372036854775807) : wr .i64 x = x := by
  simp only [wr, IntKind.wrap, IntKind.signed, IntKind.bits]
  simp
  split <;> omega
theorem bt_range (s : ByteArray) (i : Int) : 0 ≤ bt s i ∧ bt s i ≤ 255 := by
  unfold bt
  split
  · rename_i h
    have := (s[i.toNat]'h).toNat_lt
    omega
  · omega
theorem one_ok (x : Int) (h0 : 0 ≤ x) (h1 : x ≤ 255) : ∃ l, M.syntax_one x = some l := by
  obtain ⟨n, rfl⟩ := Int.eq_ofNat_of_zero_le h0
  have e1 : irem .u8 (n : Int) 64 = ((n % 64 : Nat) : Int) := by
    simp only [irem]
    rw [Int.tmod_eq_emod_of_nonneg (Int.natCast_nonneg _)]
    rfl
  have e2 : iquo .u8 (n : Int) 64 = ((n / 64 : Nat) : Int) := by
    simp only [iquo]
    rw [Int.tdiv_eq_ediv_of_nonneg (Int.natCast_nonneg _)]
    simp only [IntKind.wrap, IntKind.signed, IntKind.bits]
    simp
    omega
  rw [M.syntax_one, e1, e2, if_pos (by omega), if_pos (by omega), if_pos (by omega)]
  exact ⟨_, rfl⟩
theorem join_l0_ok (z : List Int) (l : List (List Int)) (hl : l.length ≤ 1000) (k : Nat) : ∀ (i : Nat) (x : List Int), i + k = l.length → ∃ r, M.syntax_join_l0 (z, x, l, (l.length : Int), (i : Int)) = some r := by
  induction k with
  | zero =>
    intro i x hi
    rw [M.syntax_join_l0]; try dsimp only
    rw [if_neg (by omega)]
    exact ⟨_, rfl⟩
  | succ k ih =>
    intro i x hi
    rw [M.syntax_join_l0]; try dsimp only
    rw [if_pos (by omega), if_pos (by omega), if_pos (by omega)]
    rw [M.syntax_join_l1]; try dsimp only
    rw [if_pos (by omega), if_pos (by omega), bnd, show wr .i64 (0 + 1) = 1 from rfl]
    rw [M.syntax_join_l1]; try dsimp only
    rw [if_pos (by omega), if_pos (by omega), bnd, show wr .i64 (1 + 1) = 2 from rfl]
    rw [M.syntax_join_l1]; try dsimp only
    rw [if_pos (by omega), if_pos (by omega), bnd, show wr .i64 (2 + 1) = 3 from rfl]
    rw [M.syntax_join_l1]; try dsimp only
    rw [if_pos (by omega), if_pos (by omega), bnd, show wr .i64 (3 + 1) = 4 from rfl]
    rw [M.syntax_join_l1]; try dsimp only
    rw [if_neg (by omega), wr_i64 (by omega) (by omega), show (i : Int) + 1 = ((i + 1 : Nat) : Int) by omega]
    exact ih (i + 1) _ (by omega)
theorem join_ok (l : List (List Int)) (hl : l.length ≤ 1000) : ∃ r, M.syntax_join l = some r := by
  rw [M.syntax_join]
  exact join_l0_ok _ l hl l.length 0 _ (by omega)
theorem idx_eq (s : ByteArray) (c : Int) : M.strings_IndexByte s c = some (ixB s c) := rfl
def Good (s : ByteArray) (p : T68) : Prop := p.s = s ∧ 0 ≤ p.at_ ∧ p.at_ ≤ s.size ∧ s.size ≤ 256 ∧ ∀ w, p.bad = some w → 0 ≤ w.at_ ∧ w.at_ ≤ s.size
structure Ok (s : ByteArray) (p q : T68) (n : Nat) : Prop where
  good : Good s q
  deep : q.deep = p.deep
  le : p.at_ ≤ q.at_
  prog : q.bad = none → p.bad = none ∧ p.at_ + n ≤ q.at_
theorem Ok.trans {s : ByteArray} {p q r : T68} {n m : Nat} (h : Ok s p q n) (k : Ok s q r m) : Ok s p r (n + m) :=
  ⟨k.good, k.deep.trans h.deep, Int.le_trans h.le k.le, fun hb => ⟨(h.prog (k.prog hb).1).1, by have := (k.prog hb).2; have := (h.prog (k.prog hb).1).2; omega⟩⟩
def pk (p : T68) : Int := if p.bad = none ∧ p.at_ < p.s.size then bt p.s p.at_ else 0
theorem pk_range (p : T68) : 0 ≤ pk p ∧ pk p ≤ 255 := by
  unfold pk
  split
  · exact bt_range _ _
  · omega
theorem peek_eq {s : ByteArray} {p : T68} (h : Good s p) : M.syntax_parser_peek p = some (pk p, p) := by
  obtain ⟨s', a, d, b⟩ := p
  obtain ⟨h1, h2, h3, h4, h5⟩ := h
  dsimp only at h1 h2 h3 h5
  subst h1
  rw [M.syntax_parser_peek]
  cases b with
  | some w =>
    rw [bnd]; try dsimp only
    rw [M.syntax_parser_peek_l0]; try dsimp only
    rw [if_pos rfl, pk, if_neg (by simp)]
  | none =>
    rw [bnd]; try dsimp only
    rw [M.syntax_parser_peek_l0]; try dsimp only
    by_cases hl : a ≥ (s'.size : Int)
    · rw [decide_eq_true hl, if_pos rfl, pk, if_neg (by dsimp only; omega)]
    · rw [decide_eq_false hl, if_neg (by decide), if_pos h2, if_pos (by omega), pk, if_pos ⟨rfl, by dsimp only; omega⟩]
def adv (p : T68) : T68 := ⟨p.s, p.at_ + 1, p.deep, p.bad⟩
theorem adv_eq {s : ByteArray} {p : T68} (h : Good s p) : (⟨p.s, wr .i64 (p.at_ + 1), p.deep, p.bad⟩ : T68) = adv p := by
  obtain ⟨h1, h2, h3, h4, h5⟩ := h
  rw [adv, wr_i64 (by omega) (by omega)]
def re0 : T27 := ⟨0, [0, 0, 0, 0], [], 0, 0⟩
def fl (p : T68) (a : Int) : T68 := ⟨p.s, p.at_, p.deep, some (p.bad.getD ⟨a⟩)⟩
theorem fail_eq (p : T68) (a : Int) : M.syntax_parser_fail p a = some (re0, fl p a) := by
  obtain ⟨s', at', d, b⟩ := p
  rw [M.syntax_parser_fail]
  cases b <;> rfl
theorem fl_ok {s : ByteArray} {p : T68} (h : Good s p) (a : Int) (h0 : 0 ≤ a) (h1 : a ≤ s.size) (n : Nat) : Ok s p (fl p a) n := by
  obtain ⟨g1, g2, g3, g4, g5⟩ := h
  refine ⟨⟨g1, g2, g3, g4, ?_⟩, rfl, Int.le_refl _, fun hb => by simp [fl] at hb⟩
  intro w hw
  simp only [fl, Option.some.injEq] at hw
  subst hw
  cases hb : p.bad with
  | none => exact ⟨h0, h1⟩
  | some w => exact g5 w hb
theorem fl_bad (p : T68) (a : Int) : (fl p a).bad ≠ none := by simp [fl]
theorem take_ok {s : ByteArray} {p : T68} (h : Good s p) (c : Int) (hc : c ≠ 0) : M.syntax_parser_take p c = some (if pk p = c then (true, adv p) else (false, p)) := by
  rw [M.syntax_parser_take, if_neg hc, peek_eq h, bnd]
  dsimp only
  rw [M.syntax_parser_take_l0]; try dsimp only
  by_cases hq : pk p = c
  · rw [decide_eq_true hq, if_neg (by decide), if_pos hq, adv_eq h]
  · rw [decide_eq_false hq, if_pos (by decide), if_neg hq]
theorem seq_open (x : T27) (p : T68) (acc : List T27) : M.syntax_parser_sequence_l0 (x, acc, p) = if p.bad = none then (if p.at_ < (p.s.size : Int) then M.syntax_parser_peek p >>= fun y16 => if y16.1 = 124 then M.syntax_parser_sequence_l1 (x, acc, false, y16.2) else M.syntax_parser_peek y16.2 >>= fun y22 => M.syntax_parser_sequence_l1 (x, acc, !(decide (y22.1 = 41)), y22.2) else M.syntax_parser_sequence_l1 (x, acc, false, p)) else M.syntax_parser_sequence_l1 (x, acc, false, p) := by
  rw [M.syntax_parser_sequence_l0]; try dsimp only
  obtain ⟨s', a, d, b⟩ := p
  cases b with
  | none => rw [bnd, if_pos rfl]
  | some w => rw [bnd, if_neg (show ¬ ((⟨s', a, d, some w⟩ : T68).bad = none) by simp)]
theorem eta27 (r : T27) : (⟨r.Kind, r.Set, r.L, r.Min, r.Max⟩ : T27) = r := by cases r; rfl
theorem several_any (k : Int) (L : List T27) : ∃ r, M.syntax_several k L = some r := by
  rw [M.syntax_several]
  by_cases h1 : L.length = 1
  · rw [if_pos (by omega), if_pos (by omega)]; exact ⟨_, rfl⟩
  · rw [if_neg (by omega)]; exact ⟨_, rfl⟩
variable {s : ByteArray}
theorem parse_of (x : ByteArray) (hx : x.size ≤ 256) (r : T27) (q : T68) (e : M.syntax_parser_alternation ⟨x, 0, 0, none⟩ = some (r, q)) :
    M.syntax_Parse x = some (match q.bad with | some w => (re0, w.at_, 100) | none => if q.at_ < x.size then (re0, q.at_, 100) else (r, 0, 0)) := by
  rw [M.syntax_Parse, if_neg (by omega), e, bnd]; dsimp only
  obtain ⟨s', a, d, b⟩ := q
  cases b with
  | some w =>
    rw [bnd]; try dsimp only
    rw [M.syntax_Parse_l0]; try dsimp only
    rw [if_neg (by decide), M.syntax_Parse_l1]; try dsimp only
    rw [bnd]; try dsimp only
    rw [M.syntax_Parse_l2]; try dsimp only
    rw [if_pos rfl]; rfl
  | none =>
    rw [bnd]; try dsimp only
    rw [M.syntax_Parse_l0]; try dsimp only
    by_cases h : a < (x.size : Int)
    · rw [decide_eq_true h, if_pos rfl, fail_eq, bnd, if_pos h, M.syntax_Parse_l1]; try dsimp only
      dsimp only [fl]; rw [bnd]; try dsimp only
      rw [M.syntax_Parse_l2]; try dsimp only
      rw [if_pos rfl]; rfl
    · rw [decide_eq_false h, if_neg (by decide), if_neg h, M.syntax_Parse_l1]; try dsimp only
      rw [bnd]; try dsimp only
      rw [M.syntax_Parse_l2]; try dsimp only
      rw [if_neg (by decide)]
theorem seq_un {s : ByteArray} (x : T27) (p : T68) (acc : List T27) (h : Good s p) : M.syntax_parser_sequence_l0 (x, acc, p) = M.syntax_parser_sequence_l1 (x, acc, decide (p.bad = none ∧ p.at_ < p.s.size ∧ pk p ≠ 124 ∧ pk p ≠ 41), p) := by
  have := seq_open x p acc
  refine this.trans ?_
  by_cases hb : p.bad = none
  · rw [if_pos hb]
    by_cases hl : p.at_ < (p.s.size : Int)
    · rw [if_pos hl, peek_eq h, bnd]; dsimp only
      by_cases h1 : pk p = 124
      · rw [if_pos h1, decide_eq_false (by omega)]
      · rw [if_neg h1, peek_eq h, bnd]; dsimp only
        by_cases h2 : pk p = 41
        · rw [decide_eq_true h2, decide_eq_false (by omega)]; rfl
        · rw [decide_eq_false h2, decide_eq_true ⟨hb, hl, h1, h2⟩]; rfl
    · rw [if_neg hl, decide_eq_false (by omega)]
  · rw [if_neg hb, decide_eq_false (fun hh => hb hh.1)]
theorem atom_plain {s : ByteArray} {p : T68} (h : Good s p) (h1 : ¬ pk p < 32) (h2 : ¬ pk p > 126) (h3 : ¬ ixB (⟨#[93, 41, 42, 43, 63, 123, 125, 94, 36, 124]⟩ : ByteArray) (pk p) ≥ 0) (h4 : pk p ≠ 40 ∧ pk p ≠ 46 ∧ pk p ≠ 91 ∧ pk p ≠ 92) :
    ∃ l, M.syntax_parser_atom p = some (⟨1, l, [], 0, 0⟩, adv p) := by
  obtain ⟨l, hl⟩ := one_ok (pk p) (pk_range p).1 (pk_range p).2
  rw [M.syntax_parser_atom, peek_eq h, bnd]; dsimp only
  rw [if_neg h1, if_neg h2, idx_eq, bnd, decide_eq_false h3, M.syntax_parser_atom_l0]; try dsimp only
  rw [if_neg (by decide), if_neg h4.1, M.syntax_parser_atom_l1]; try dsimp only
  rw [if_neg (by decide), take_ok h 46 (by omega), if_neg h4.2.1, bnd]; dsimp only
  rw [if_neg (by decide), take_ok h 91 (by omega), if_neg h4.2.2.1, bnd]; dsimp only
  rw [if_neg (by decide), take_ok h 40 (by omega), if_neg h4.1, bnd]; dsimp only
  rw [if_neg (by decide), take_ok h 92 (by omega), if_neg h4.2.2.2, bnd]; dsimp only
  rw [if_neg (by decide), hl, bnd, adv_eq h]
  exact ⟨_, rfl⟩
theorem piece_bare {s : ByteArray} {p q : T68} {r : T27} (e : M.syntax_parser_atom p = some (r, q)) (h : Good s q) (h4 : pk q ≠ 42 ∧ pk q ≠ 43 ∧ pk q ≠ 63 ∧ pk q ≠ 123) : M.syntax_parser_piece p = some (r, q) := by
  rw [M.syntax_parser_piece, e, bnd]; dsimp only
  rw [take_ok h 42 (by omega), if_neg h4.1, bnd]; dsimp only
  rw [if_neg (by decide), take_ok h 43 (by omega), if_neg h4.2.1, bnd]; dsimp only
  rw [if_neg (by decide), take_ok h 63 (by omega), if_neg h4.2.2.1, bnd]; dsimp only
  rw [if_neg (by decide), take_ok h 123 (by omega), if_neg h4.2.2.2, bnd]; dsimp only
  rw [if_neg (by decide)]
theorem piece_star {s : ByteArray} {p q : T68} {r : T27} (e : M.syntax_parser_atom p = some (r, q)) (h : Good s q) (h4 : pk q = 42) : M.syntax_parser_piece p = some (⟨4, [0, 0, 0, 0], [r], 0, -1⟩, adv q) := by
  rw [M.syntax_parser_piece, e, bnd]; dsimp only
  rw [take_ok h 42 (by omega), if_pos h4, bnd]; dsimp only
  rw [if_pos rfl]
theorem seq_more {s : ByteArray} (x : T27) {p q : T68} {r : T27} (acc : List T27) (hl : acc.length ≤ 1000) (h : Good s p) (hg : p.bad = none ∧ p.at_ < p.s.size ∧ pk p ≠ 124 ∧ pk p ≠ 41) (e : M.syntax_parser_piece p = some (r, q)) : M.syntax_parser_sequence_l0 (x, acc, p) = M.syntax_parser_sequence_l0 (x, acc ++ [r], q) := by
  rw [seq_un x p acc h, decide_eq_true hg, M.syntax_parser_sequence_l1]; try dsimp only
  rw [if_pos rfl, e, bnd]; dsimp only
  rw [if_pos (by simp; omega)]
theorem seq_stop {s : ByteArray} (x : T27) {p : T68} (acc : List T27) (h : Good s p) (hg : ¬ (p.bad = none ∧ p.at_ < p.s.size ∧ pk p ≠ 124 ∧ pk p ≠ 41)) : ∃ r, M.syntax_several 2 acc = some r ∧ M.syntax_parser_sequence_l0 (x, acc, p) = some (r, p) := by
  obtain ⟨r, hr⟩ := several_any 2 acc
  refine ⟨r, hr, ?_⟩
  rw [seq_un x p acc h, decide_eq_false hg, M.syntax_parser_sequence_l1]; try dsimp only
  rw [if_neg (by decide), hr, bnd]
theorem several_one (k : Int) (r : T27) : M.syntax_several k [r] = some r := by
  rw [M.syntax_several, if_pos (by simp), if_pos (by simp), show gi [r] 0 = r from rfl, eta27]
theorem alt_stop {s : ByteArray} (x : T27) {p : T68} (acc : List T27) (h : Good s p) (hg : pk p ≠ 124) : ∃ r, M.syntax_several 3 acc = some r ∧ M.syntax_parser_alternation_l0 (x, acc, p) = some (r, p) := by
  obtain ⟨r, hr⟩ := several_any 3 acc
  refine ⟨r, hr, ?_⟩
  rw [M.syntax_parser_alternation_l0]; try dsimp only
  rw [take_ok h 124 (by omega), if_neg hg, bnd]; dsimp only
  rw [if_neg (by decide), hr, bnd]
def P (s : ByteArray) (i : Int) : T68 := ⟨s, i, 0, none⟩
theorem P_good (s : ByteArray) (i : Int) (h0 : 0 ≤ i) (h1 : i ≤ s.size) (h2 : s.size ≤ 256) : Good s (P s i) := ⟨rfl, h0, h1, h2, fun w hw => by cases hw⟩
theorem ex1 : ∃ l1 l2, M.syntax_Parse (⟨#[97, 124, 98, 42]⟩ : ByteArray) = some (⟨3, [0, 0, 0, 0], [⟨1, l1, [], 0, 0⟩, ⟨4, [0, 0, 0, 0], [⟨1, l2, [], 0, 0⟩], 0, -1⟩], 0, 0⟩, 0, 0) := by
  generalize hs : (⟨#[97, 124, 98, 42]⟩ : ByteArray) = s
  have hz : s.size = 4 := by rw [← hs]; rfl
  have g0 := P_good s 0 (by omega) (by omega) (by omega)
  have g1 := P_good s 1 (by omega) (by omega) (by omega)
  have g2 := P_good s 2 (by omega) (by omega) (by omega)
  have g3 := P_good s 3 (by omega) (by omega) (by omega)
  have g4 := P_good s 4 (by omega) (by omega) (by omega)
  have k0 : pk (P s 0) = 97 := by rw [← hs]; decide
  have k1 : pk (P s 1) = 124 := by rw [← hs]; decide
  have k2 : pk (P s 2) = 98 := by rw [← hs]; decide
  have k3 : pk (P s 3) = 42 := by rw [← hs]; decide
  have k4 : pk (P s 4) = 0 := by rw [← hs]; decide
  obtain ⟨l1, e1⟩ := atom_plain g0 (by omega) (by omega) (by rw [k0]; decide) (by omega)
  obtain ⟨l2, e2⟩ := atom_plain g2 (by omega) (by omega) (by rw [k2]; decide) (by omega)
  have p1 := piece_bare e1 g1 (by rw [show adv (P s 0) = P s 1 from rfl, k1]; omega)
  have p2 := piece_star e2 g3 k3
  refine ⟨l1, l2, ?_⟩
  have s1 : M.syntax_parser_sequence (P s 0) = some (⟨1, l1, [], 0, 0⟩, P s 1) := by
    rw [M.syntax_parser_sequence, seq_more _ [] (by simp) g0 ⟨rfl, by simp only [P]; omega, by omega, by omega⟩ p1]
    obtain ⟨r, h1, h2⟩ := seq_stop ⟨0, [0, 0, 0, 0], [], 0, 0⟩ ([] ++ [⟨1, l1, [], 0, 0⟩]) g1 (fun hh => hh.2.2.1 k1)
    rw [show adv (P s 0) = P s 1 from rfl, h2]
    rw [List.nil_append, several_one] at h1
    rw [Option.some.inj h1]
  have s2 : M.syntax_parser_sequence (P s 2) = some (⟨4, [0, 0, 0, 0], [⟨1, l2, [], 0, 0⟩], 0, -1⟩, P s 4) := by
    rw [M.syntax_parser_sequence, seq_more _ [] (by simp) g2 ⟨rfl, by simp only [P]; omega, by omega, by omega⟩ p2]
    obtain ⟨r, h1, h2⟩ := seq_stop ⟨0, [0, 0, 0, 0], [], 0, 0⟩ ([] ++ [⟨4, [0, 0, 0, 0], [⟨1, l2, [], 0, 0⟩], 0, -1⟩]) g4 (fun hh => by have := hh.2.1; simp only [P] at this; omega)
    rw [show adv (adv (P s 2)) = P s 4 from rfl, h2]
    rw [List.nil_append, several_one] at h1
    rw [Option.some.inj h1]
  have a1 : M.syntax_parser_alternation (P s 0) = some (⟨3, [0, 0, 0, 0], [⟨1, l1, [], 0, 0⟩, ⟨4, [0, 0, 0, 0], [⟨1, l2, [], 0, 0⟩], 0, -1⟩], 0, 0⟩, P s 4) := by
    rw [M.syntax_parser_alternation, s1, bnd]; dsimp only
    rw [M.syntax_parser_alternation_l0]; try dsimp only
    rw [take_ok g1 124 (by omega), if_pos k1, bnd]; dsimp only
    rw [if_pos rfl, show adv (P s 1) = P s 2 from rfl, s2, bnd]; dsimp only
    rw [if_pos (by simp)]
    obtain ⟨r, h1, h2⟩ := alt_stop ⟨0, [0, 0, 0, 0], [], 0, 0⟩ ([⟨1, l1, [], 0, 0⟩] ++ [⟨4, [0, 0, 0, 0], [⟨1, l2, [], 0, 0⟩], 0, -1⟩]) g4 (by omega)
    rw [h2]
    rw [M.syntax_several, if_neg (by simp)] at h1
    rw [← Option.some.inj h1]
    rfl
  rw [parse_of s (by omega) _ _ a1]
  simp only [P, hz]
  rfl
theorem ex2 : ∃ r, M.syntax_Parse (⟨#[97, 42, 42]⟩ : ByteArray) = some (r, 2, 100) := by
  generalize hs : (⟨#[97, 42, 42]⟩ : ByteArray) = s
  have hz : s.size = 3 := by rw [← hs]; rfl
  have g0 := P_good s 0 (by omega) (by omega) (by omega)
  have g1 := P_good s 1 (by omega) (by omega) (by omega)
  have g2 := P_good s 2 (by omega) (by omega) (by omega)
  have k0 : pk (P s 0) = 97 := by rw [← hs]; decide
  have k1 : pk (P s 1) = 42 := by rw [← hs]; decide
  have k2 : pk (P s 2) = 42 := by rw [← hs]; decide
  have gf := (fl_ok g2 2 (by omega) (by omega) 0).good
  have kf : pk (fl (P s 2) 2) = 0 := by rw [pk, if_neg (fun hh => fl_bad _ _ hh.1)]
  obtain ⟨l1, e1⟩ := atom_plain g0 (by omega) (by omega) (by rw [k0]; decide) (by omega)
  have p1 := piece_star e1 g1 k1
  have e2 : M.syntax_parser_atom (P s 2) = some (re0, fl (P s 2) 2) := by
    rw [M.syntax_parser_atom, peek_eq g2, bnd]; dsimp only
    rw [if_neg (by omega), if_neg (by omega), idx_eq, bnd, decide_eq_true (by rw [k2]; decide), M.syntax_parser_atom_l0]; try dsimp only
    rw [if_pos rfl, fail_eq, bnd]
    rfl
  have p2 := piece_bare e2 gf (by rw [kf]; omega)
  have s1 : ∃ r, M.syntax_parser_sequence (P s 0) = some (r, fl (P s 2) 2) := by
    rw [M.syntax_parser_sequence, seq_more _ [] (by simp) g0 ⟨rfl, by simp only [P]; omega, by omega, by omega⟩ p1, show adv (adv (P s 0)) = P s 2 from rfl, seq_more _ _ (by simp) g2 ⟨rfl, by simp only [P]; omega, by omega, by omega⟩ p2]
    obtain ⟨r, h1, h2⟩ := seq_stop ⟨0, [0, 0, 0, 0], [], 0, 0⟩ ([] ++ [⟨4, [0, 0, 0, 0], [⟨1, l1, [], 0, 0⟩], 0, -1⟩] ++ [re0]) gf (fun hh => fl_bad _ _ hh.1)
    exact ⟨r, h2⟩
  obtain ⟨r1, s1⟩ := s1
  obtain ⟨r, h1, h2⟩ := alt_stop ⟨0, [0, 0, 0, 0], [], 0, 0⟩ [r1] gf (by omega)
  have a1 : M.syntax_parser_alternation (P s 0) = some (r, fl (P s 2) 2) := by
    rw [M.syntax_parser_alternation, s1, bnd]
    exact h2
  rw [parse_of s (by omega) _ _ a1]
  exact ⟨_, rfl⟩
theorem item_plain {s : ByteArray} {p : T68} (h : Good s p) (h1 : ¬ pk p < 32) (h2 : ¬ pk p > 126) (h3 : ¬ ixB (⟨#[93, 91, 45]⟩ : ByteArray) (pk p) ≥ 0) (h4 : pk p ≠ 92) : ∃ l, M.syntax_parser_item p = some (⟨l, pk p, true⟩, adv p) := by
  obtain ⟨l, hl⟩ := one_ok (pk p) (pk_range p).1 (pk_range p).2
  rw [M.syntax_parser_item, peek_eq h, bnd]; dsimp only
  rw [take_ok h 92 (by omega), if_neg h4, bnd]; dsimp only
  rw [if_neg (by decide), if_neg h1, if_neg h2, idx_eq, bnd, decide_eq_false h3, M.syntax_parser_item_l0]; try dsimp only
  rw [if_neg (by decide), M.syntax_of, hl, bnd, bnd, adv_eq h]
  exact ⟨_, rfl⟩
theorem ex3 : ∃ r e, M.syntax_Parse (⟨#[91, 98, 45, 97, 93]⟩ : ByteArray) = some (r, 1, e) := by
  generalize hs : (⟨#[91, 98, 45, 97, 93]⟩ : ByteArray) = s
  have hz : s.size = 5 := by rw [← hs]; rfl
  have g0 := P_good s 0 (by omega) (by omega) (by omega)
  have g1 := P_good s 1 (by omega) (by omega) (by omega)
  have g2 := P_good s 2 (by omega) (by omega) (by omega)
  have g3 := P_good s 3 (by omega) (by omega) (by omega)
  have g4 := P_good s 4 (by omega) (by omega) (by omega)
  have k0 : pk (P s 0) = 91 := by rw [← hs]; decide
  have k1 : pk (P s 1) = 98 := by rw [← hs]; decide
  have k2 : pk (P s 2) = 45 := by rw [← hs]; decide
  have k3 : pk (P s 3) = 97 := by rw [← hs]; decide
  have gf := (fl_ok g4 1 (by omega) (by omega) 0).good
  have kf : pk (fl (P s 4) 1) = 0 := by rw [pk, if_neg (fun hh => fl_bad _ _ hh.1)]
  obtain ⟨l1, e1⟩ := item_plain g1 (by omega) (by omega) (by rw [k1]; decide) (by omega)
  obtain ⟨l2, e2⟩ := item_plain g3 (by omega) (by omega) (by rw [k3]; decide) (by omega)
  have pr : M.syntax_parser_pair (P s 1) = some (l1, fl (P s 4) 1) := by
    rw [M.syntax_parser_pair, e1, bnd]; dsimp only
    rw [show adv (P s 1) = P s 2 from rfl, peek_eq g2, bnd]; dsimp only
    rw [if_pos k2, if_pos rfl, adv_eq g2, show adv (P s 2) = P s 3 from rfl, e2, bnd]
    dsimp only [adv, P]; rw [bnd]; try dsimp only
    rw [M.syntax_parser_pair_l0]; try dsimp only
    have k1' : pk { s := s, at_ := 1, deep := 0, bad := none } = 98 := k1
    have k3' : pk { s := s, at_ := 3, deep := 0, bad := none } = 97 := k3
    rw [if_neg (by decide), if_pos rfl, k1', k3', if_pos (by omega), fail_eq, bnd]
    rfl
  have cl : ∃ l, M.syntax_parser_class (P s 1) = some (⟨1, l, [], 0, 0⟩, fl (P s 4) 1) := by
    obtain ⟨j, hj⟩ := join_ok [[0, 0, 0, 0], l1] (by simp)
    rw [M.syntax_parser_class, take_ok g1 94 (by omega), if_neg (by omega), bnd]; dsimp only
    rw [M.syntax_parser_items, bnd, M.syntax_parser_items_1, M.syntax_parser_items_1_l0]; try dsimp only
    dsimp only [P]; rw [bnd]; try dsimp only
    rw [if_pos rfl, M.syntax_parser_items_1_l1]; try dsimp only
    have pr' : M.syntax_parser_pair { s := s, at_ := 1, deep := 0, bad := none } = some (l1, fl (P s 4) 1) := pr
    rw [if_pos rfl, pr', bnd]; dsimp only
    rw [M.syntax_parser_class_r_2, hj, bnd, bnd]; try dsimp only
    rw [M.syntax_parser_items_1_l0]; try dsimp only
    dsimp only [fl, P]; rw [bnd]; try dsimp only
    rw [M.syntax_parser_items_1_l1]; try dsimp only
    rw [if_neg (by decide), bnd]; dsimp only
    rw [if_neg (by decide)]
    exact ⟨_, rfl⟩
  obtain ⟨l, cl⟩ := cl
  have at_ : M.syntax_parser_atom (P s 0) = some (⟨1, l, [], 0, 0⟩, fl (P s 4) 1) := by
    rw [M.syntax_parser_atom, peek_eq g0, bnd]; dsimp only
    rw [if_neg (by omega), if_neg (by omega), idx_eq, bnd, decide_eq_false (by rw [k0]; decide), M.syntax_parser_atom_l0]; try dsimp only
    rw [if_neg (by decide), if_neg (by omega), M.syntax_parser_atom_l1]; try dsimp only
    rw [if_neg (by decide), take_ok g0 46 (by omega), if_neg (by omega), bnd]; dsimp only
    rw [if_neg (by decide), take_ok g0 91 (by omega), if_pos k0, bnd]; dsimp only
    rw [if_pos rfl, show adv (P s 0) = P s 1 from rfl, cl, bnd]
  have p1 := piece_bare at_ gf (by rw [kf]; omega)
  obtain ⟨r1, _, h1⟩ := seq_stop ⟨0, [0, 0, 0, 0], [], 0, 0⟩ ([] ++ [⟨1, l, [], 0, 0⟩]) gf (fun hh => fl_bad _ _ hh.1)
  obtain ⟨r, _, h2⟩ := alt_stop ⟨0, [0, 0, 0, 0], [], 0, 0⟩ [r1] gf (by omega)
  have a1 : M.syntax_parser_alternation (P s 0) = some (r, fl (P s 4) 1) := by
    rw [M.syntax_parser_alternation, M.syntax_parser_sequence, seq_more _ [] (by simp) g0 ⟨rfl, by simp only [P]; omega, by omega, by omega⟩ p1, h1, bnd]
    exact h2
  rw [parse_of s (by omega) _ _ a1]
  exact ⟨_, _, rfl⟩
theorem works_eq : M.tidepolelaw10_works = some true := by
  obtain ⟨l1, l2, h1⟩ := ex1
  obtain ⟨r2, h2⟩ := ex2
  obtain ⟨r3, e3, h3⟩ := ex3
  rw [M.tidepolelaw10_works, h1, bnd, h2, bnd, h3, bnd]; dsimp only
  have hg : ∀ a b : T27, gi [a, b] 1 = b := fun _ _ => rfl
  rw [hg]; dsimp only
  rw [if_pos rfl, if_pos rfl, if_pos (by simp), if_pos (by simp), if_pos rfl, if_pos rfl, if_pos rfl, if_pos rfl, decide_eq_true rfl]
end Go.Proofs.YtemokppdnkiejaaDoor.Syn
