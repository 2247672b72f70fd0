/-
  The chapter's examples.
-/
import Derived.Test.YtemokppdnkiejaaGreatPSFE
set_option linter.unusedVariables false
set_option linter.unusedSimpArgs false
namespace Go.Proofs.YtemokppdnkiejaaGreat
open Go.Gx
/-! ### Two patterns are read -/
def pS (s : ByteArray) (i d : Nat) : T78 := ⟨s, (i : Int), (d : Int), none⟩
def pk (s : ByteArray) (i : Nat) : Int := if i < s.size then bt s (i : Int) else 0
theorem peek_eq (s : ByteArray) (i d : Nat) : M.syntax_parser_peek (pS s i d) = some (pk s i, pS s i d) := by
  rw [M.syntax_parser_peek]
  show (some none >>= _) = _
  rw [bnd]; try dsimp only
  rw [M.syntax_parser_peek_l0]
  show (if decide ((i : Int) ≥ (s.size : Int)) = true then some (0, pS s i d) else _) = _
  unfold pk
  by_cases h : i < s.size
  · rw [decide_eq_false (by omega), if_neg (by decide), if_pos h]
    show (if 0 ≤ (i : Int) then if (i : Int) < (s.size : Int) then _ else none else none) = _
    rw [if_pos (by omega), if_pos (by omega)]
    rfl
  · rw [decide_eq_true (by omega), if_pos rfl, if_neg h]
theorem take_eq (s : ByteArray) (i d : Nat) (hi : i ≤ 1000) (c : Int) (hc : c ≠ 0) : M.syntax_parser_take (pS s i d) c = some (if pk s i = c then (true, pS s (i + 1) d) else (false, pS s i d)) := by
  rw [M.syntax_parser_take, if_neg hc, peek_eq, bnd]
  dsimp only
  rw [M.syntax_parser_take_l0]; try dsimp only
  by_cases h : pk s i = c
  · rw [decide_eq_true h, if_neg (by decide), if_pos h]
    show some (true, (⟨s, wr .i64 ((i : Int) + 1), (d : Int), none⟩ : T78)) = _
    rw [wr_i64 (by omega) (by omega)]
    rfl
  · rw [decide_eq_false h, if_pos (by decide), if_neg h]
theorem idx_eq (s : ByteArray) (c : Int) : M.strings_IndexByte s c = some (ixB s c) := rfl
theorem atom_eq (s : ByteArray) (i d : Nat) (hi : i ≤ 1000) (l : List Int) (h1 : ¬ pk s i < 32) (h2 : ¬ pk s i > 126) (h3 : ¬ ixB (⟨#[93, 41, 42, 43, 63, 123, 125, 94, 36, 124]⟩ : ByteArray) (pk s i) ≥ 0) (h4 : pk s i ≠ 40 ∧ pk s i ≠ 46 ∧ pk s i ≠ 91 ∧ pk s i ≠ 92) (hl : M.syntax_one (pk s i) = some l) :
    M.syntax_parser_atom (pS s i d) = some (⟨1, l, [], 0, 0⟩, pS s (i + 1) d) := by
  rw [M.syntax_parser_atom, peek_eq, bnd]; dsimp only
  rw [if_neg h1, if_neg h2, idx_eq, bnd, decide_eq_false h3, M.syntax_parser_atom_l0]; try dsimp only
  rw [if_neg (by decide), if_neg h4.1, M.syntax_parser_atom_l1]; try dsimp only
  rw [if_neg (by decide), take_eq s i d hi 46 (by omega), if_neg h4.2.1, bnd]; dsimp only
  rw [if_neg (by decide), take_eq s i d hi 91 (by omega), if_neg h4.2.2.1, bnd]; dsimp only
  rw [if_neg (by decide), take_eq s i d hi 40 (by omega), if_neg h4.1, bnd]; dsimp only
  rw [if_neg (by decide), take_eq s i d hi 92 (by omega), if_neg h4.2.2.2, bnd]; dsimp only
  rw [if_neg (by decide), hl, bnd]
  show some (_, (⟨s, wr .i64 ((i : Int) + 1), (d : Int), none⟩ : T78)) = _
  rw [wr_i64 (by omega) (by omega)]
  rfl
theorem piece_bare {s : ByteArray} {i d : Nat} {p : T78} {r : T57} (hi : i ≤ 1000) (e : M.syntax_parser_atom p = some (r, pS s i d)) (h4 : pk s i ≠ 42 ∧ pk s i ≠ 43 ∧ pk s i ≠ 63 ∧ pk s i ≠ 123) : M.syntax_parser_piece p = some (r, pS s i d) := by
  rw [M.syntax_parser_piece, e, bnd]; dsimp only
  rw [take_eq s i d hi 42 (by omega), if_neg h4.1, bnd]; dsimp only
  rw [if_neg (by decide), take_eq s i d hi 43 (by omega), if_neg h4.2.1, bnd]; dsimp only
  rw [if_neg (by decide), take_eq s i d hi 63 (by omega), if_neg h4.2.2.1, bnd]; dsimp only
  rw [if_neg (by decide), take_eq s i d hi 123 (by omega), if_neg h4.2.2.2, bnd]; dsimp only
  rw [if_neg (by decide)]
theorem piece_star {s : ByteArray} {i d : Nat} {p : T78} {r : T57} (hi : i ≤ 1000) (e : M.syntax_parser_atom p = some (r, pS s i d)) (h4 : pk s i = 42) : M.syntax_parser_piece p = some (⟨4, [0, 0, 0, 0], [r], 0, -1⟩, pS s (i + 1) d) := by
  rw [M.syntax_parser_piece, e, bnd]; dsimp only
  rw [take_eq s i d hi 42 (by omega), if_pos h4, bnd]; dsimp only
  rw [if_pos rfl]
theorem seq_un (s : ByteArray) (i d : Nat) (x : T57) (acc : List T57) : M.syntax_parser_sequence_l0 (x, acc, pS s i d) = M.syntax_parser_sequence_l1 (x, acc, decide (i < s.size ∧ pk s i ≠ 124 ∧ pk s i ≠ 41), pS s i d) := by
  rw [M.syntax_parser_sequence_l0]
  show (some none >>= _) = _
  rw [bnd]
  show (if (i : Int) < (s.size : Int) then M.syntax_parser_peek (pS s i d) >>= _ else M.syntax_parser_sequence_l1 (x, acc, false, pS s i d)) = _
  by_cases hl : i < s.size
  · rw [if_pos (by omega), peek_eq, bnd]; dsimp only
    by_cases h1 : pk s i = 124
    · rw [if_pos h1, decide_eq_false (by omega)]
    · rw [if_neg h1, peek_eq, bnd]; dsimp only
      by_cases h2 : pk s i = 41
      · rw [decide_eq_true h2, decide_eq_false (by omega)]; rfl
      · rw [decide_eq_false h2, decide_eq_true ⟨hl, h1, h2⟩]; rfl
  · rw [if_neg (by omega), decide_eq_false (by omega)]
theorem seq_more {s : ByteArray} {i d : Nat} (x : T57) {q : T78} {r : T57} (acc : List T57) (hl : acc.length ≤ 1000) (hg : i < s.size ∧ pk s i ≠ 124 ∧ pk s i ≠ 41) (e : M.syntax_parser_piece (pS s i d) = some (r, q)) : M.syntax_parser_sequence_l0 (x, acc, pS s i d) = M.syntax_parser_sequence_l0 (x, acc ++ [r], q) := by
  rw [seq_un, decide_eq_true hg, M.syntax_parser_sequence_l1]; try dsimp only
  rw [if_pos rfl, e, bnd]; dsimp only
  rw [if_pos (by simp; omega)]
theorem seq_stop {s : ByteArray} {i d : Nat} (x : T57) (acc : List T57) {r : T57} (hg : ¬ (i < s.size ∧ pk s i ≠ 124 ∧ pk s i ≠ 41)) (hr : M.syntax_several 2 acc = some r) : M.syntax_parser_sequence_l0 (x, acc, pS s i d) = some (r, pS s i d) := by
  rw [seq_un, decide_eq_false hg, M.syntax_parser_sequence_l1]; try dsimp only
  rw [if_neg (by decide), hr, bnd]
theorem several_one (k : Int) (r : T57) : M.syntax_several k [r] = some r := by
  rw [M.syntax_several, if_pos (by simp), if_pos (by simp), show gi [r] 0 = r from rfl, eta57]
theorem several_two (k : Int) (r x : T57) : M.syntax_several k [r, x] = some ⟨k, [0, 0, 0, 0], [r, x], 0, 0⟩ := by
  rw [M.syntax_several, if_neg (by simp)]
theorem alt_stop {s : ByteArray} {i d : Nat} (hi : i ≤ 1000) (x : T57) (acc : List T57) {r : T57} (hg : pk s i ≠ 124) (hr : M.syntax_several 3 acc = some r) : M.syntax_parser_alternation_l0 (x, acc, pS s i d) = some (r, pS s i d) := by
  rw [M.syntax_parser_alternation_l0]; try dsimp only
  rw [take_eq s i d hi 124 (by omega), if_neg hg, bnd]; dsimp only
  rw [if_neg (by decide), hr, bnd]
theorem alt_more {s : ByteArray} {i d : Nat} (hi : i ≤ 1000) (x : T57) (acc : List T57) (hl : acc.length ≤ 1000) {r : T57} {q : T78} (hg : pk s i = 124) (e : M.syntax_parser_sequence (pS s (i + 1) d) = some (r, q)) : M.syntax_parser_alternation_l0 (x, acc, pS s i d) = M.syntax_parser_alternation_l0 (x, acc ++ [r], q) := by
  rw [M.syntax_parser_alternation_l0]; try dsimp only
  rw [take_eq s i d hi 124 (by omega), if_pos hg, bnd]; dsimp only
  rw [if_pos rfl, e, bnd]; dsimp only
  rw [if_pos (by simp; omega)]
theorem parse_eq (s : ByteArray) (hs : s.size ≤ 256) (r : T57) (i d : Nat) (hi : ¬ i < s.size) (e : M.syntax_parser_alternation (pS s 0 0) = some (r, pS s i d)) : M.syntax_Parse s = some (r, 0, 0) := by
  rw [M.syntax_Parse, if_neg (by omega)]
  show (M.syntax_parser_alternation (pS s 0 0) >>= _) = _
  rw [e, bnd]
  show (some none >>= _) = _
  rw [bnd]
  show M.syntax_Parse_l0 (_, pS s i d, r, decide ((i : Int) < (s.size : Int))) = _
  rw [decide_eq_false (by omega), M.syntax_Parse_l0]; try dsimp only
  rw [if_neg (by decide), M.syntax_Parse_l1]
  show (some none >>= _) = _
  rw [bnd]
  show M.syntax_Parse_l2 (_, pS s i d, r, false) = _
  rw [M.syntax_Parse_l2]; try dsimp only
  rw [if_neg (by decide)]
def cA : T57 := ⟨1, [0, 8589934592, 0, 0], [], 0, 0⟩
def cB : T57 := ⟨1, [0, 17179869184, 0, 0], [], 0, 0⟩
def cC : T57 := ⟨1, [0, 34359738368, 0, 0], [], 0, 0⟩
theorem one97 : M.syntax_one 97 = some [0, 8589934592, 0, 0] := by rw [M.syntax_one]; decide
theorem one98 : M.syntax_one 98 = some [0, 17179869184, 0, 0] := by rw [M.syntax_one]; decide
theorem one99 : M.syntax_one 99 = some [0, 34359738368, 0, 0] := by rw [M.syntax_one]; decide
def rS : T57 := ⟨4, Z4, [⟨3, Z4, [cA, cB], 0, 0⟩], 0, -1⟩
def r1 : T57 := ⟨2, Z4, [rS, cC], 0, 0⟩
def r2 : T57 := ⟨4, Z4, [cA], 0, -1⟩
theorem parse2 : M.syntax_Parse (⟨#[97, 42]⟩ : ByteArray) = some (r2, 0, 0) := by
  generalize hs : (⟨#[97, 42]⟩ : ByteArray) = s
  have hz : s.size = 2 := by rw [← hs]; rfl
  have k0 : pk s 0 = 97 := by rw [← hs]; decide
  have k1 : pk s 1 = 42 := by rw [← hs]; decide
  have k2 : pk s 2 = 0 := by rw [← hs]; decide
  have a0 := atom_eq s 0 0 (by omega) _ (by omega) (by omega) (by rw [k0]; decide) (by omega) (by rw [k0]; exact one97)
  have p0 : M.syntax_parser_piece (pS s 0 0) = some (r2, pS s 2 0) := piece_star (by omega) a0 k1
  refine parse_eq s (by omega) r2 2 0 (by omega) ?_
  have q0 : M.syntax_parser_sequence (pS s 0 0) = some (r2, pS s 2 0) := by
    rw [M.syntax_parser_sequence, seq_more _ [] (by simp) (by omega) p0]
    exact seq_stop _ _ (by omega) (several_one _ _)
  rw [M.syntax_parser_alternation, q0, bnd]
  exact alt_stop (by omega) _ _ (by omega) (several_one _ _)
theorem parse1 : M.syntax_Parse (⟨#[40, 97, 124, 98, 41, 42, 99]⟩ : ByteArray) = some (r1, 0, 0) := by
  generalize hs : (⟨#[40, 97, 124, 98, 41, 42, 99]⟩ : ByteArray) = s
  have hz : s.size = 7 := by rw [← hs]; rfl
  have k0 : pk s 0 = 40 := by rw [← hs]; decide
  have k1 : pk s 1 = 97 := by rw [← hs]; decide
  have k2 : pk s 2 = 124 := by rw [← hs]; decide
  have k3 : pk s 3 = 98 := by rw [← hs]; decide
  have k4 : pk s 4 = 41 := by rw [← hs]; decide
  have k5 : pk s 5 = 42 := by rw [← hs]; decide
  have k6 : pk s 6 = 99 := by rw [← hs]; decide
  have k7 : pk s 7 = 0 := by rw [← hs]; decide
  have b1 : M.syntax_parser_atom (pS s 1 1) = some (cA, pS s 2 1) := atom_eq s 1 1 (by omega) _ (by omega) (by omega) (by rw [k1]; decide) (by omega) (by rw [k1]; exact one97)
  have a1 : M.syntax_parser_piece (pS s 1 1) = some (cA, pS s 2 1) := piece_bare (by omega) b1 (by omega)
  have b3 : M.syntax_parser_atom (pS s 3 1) = some (cB, pS s 4 1) := atom_eq s 3 1 (by omega) _ (by omega) (by omega) (by rw [k3]; decide) (by omega) (by rw [k3]; exact one98)
  have a3 : M.syntax_parser_piece (pS s 3 1) = some (cB, pS s 4 1) := piece_bare (by omega) b3 (by omega)
  have b6 : M.syntax_parser_atom (pS s 6 0) = some (cC, pS s 7 0) := atom_eq s 6 0 (by omega) _ (by omega) (by omega) (by rw [k6]; decide) (by omega) (by rw [k6]; exact one99)
  have a6 : M.syntax_parser_piece (pS s 6 0) = some (cC, pS s 7 0) := piece_bare (by omega) b6 (by omega)
  have s1 : M.syntax_parser_sequence (pS s 1 1) = some (cA, pS s 2 1) := by
    rw [M.syntax_parser_sequence, seq_more _ [] (by simp) (by omega) a1]
    exact seq_stop _ _ (by omega) (several_one _ _)
  have s3 : M.syntax_parser_sequence (pS s 3 1) = some (cB, pS s 4 1) := by
    rw [M.syntax_parser_sequence, seq_more _ [] (by simp) (by omega) a3]
    exact seq_stop _ _ (by omega) (several_one _ _)
  have al : M.syntax_parser_alternation (pS s 1 1) = some (⟨3, Z4, [cA, cB], 0, 0⟩, pS s 4 1) := by
    rw [M.syntax_parser_alternation, s1, bnd]; dsimp only
    rw [alt_more (by omega) _ _ (by simp) k2 s3]
    exact alt_stop (by omega) _ _ (by omega) (several_two _ _ _)
  have gr : M.syntax_parser_group (pS s 1 0) = some (⟨3, Z4, [cA, cB], 0, 0⟩, pS s 5 0) := by
    rw [M.syntax_parser_group, take_eq s 1 0 (by omega) 63 (by omega), if_neg (by omega), bnd]; dsimp only
    rw [if_neg (by decide), M.syntax_parser_group_l0]
    show (M.syntax_parser_alternation (pS s 1 1) >>= _) = _
    rw [al, bnd]
    show (M.syntax_parser_need (pS s 4 0) 41 >>= _) = _
    rw [M.syntax_parser_need, take_eq s 4 0 (by omega) 41 (by omega), if_pos k4, bnd]; dsimp only
    rw [if_pos rfl, bnd]
  have at0 : M.syntax_parser_atom (pS s 0 0) = some (⟨3, Z4, [cA, cB], 0, 0⟩, pS s 5 0) := by
    rw [M.syntax_parser_atom, peek_eq, bnd]; dsimp only
    rw [if_neg (by omega), if_neg (by omega), idx_eq, bnd, decide_eq_false (by rw [k0]; decide), M.syntax_parser_atom_l0]; try dsimp only
    rw [if_neg (by decide), if_pos k0]
    show M.syntax_parser_atom_l1 (_, _, decide ((0 : Int) = 32), pS s 0 0) = _
    rw [decide_eq_false (by decide), M.syntax_parser_atom_l1]; try dsimp only
    rw [if_neg (by decide), take_eq s 0 0 (by omega) 46 (by omega), if_neg (by omega), bnd]; dsimp only
    rw [if_neg (by decide), take_eq s 0 0 (by omega) 91 (by omega), if_neg (by omega), bnd]; dsimp only
    rw [if_neg (by decide), take_eq s 0 0 (by omega) 40 (by omega), if_pos k0, bnd]; dsimp only
    rw [if_pos rfl, gr, bnd]
  have p0 : M.syntax_parser_piece (pS s 0 0) = some (rS, pS s 6 0) := piece_star (by omega) at0 k5
  refine parse_eq s (by omega) r1 7 0 (by omega) ?_
  have q0 : M.syntax_parser_sequence (pS s 0 0) = some (r1, pS s 7 0) := by
    rw [M.syntax_parser_sequence, seq_more _ [] (by simp) (by omega) p0, seq_more _ _ (by simp) (by omega) a6]
    exact seq_stop _ _ (by omega) (several_two _ _ _)
  rw [M.syntax_parser_alternation, q0, bnd]
  exact alt_stop (by omega) _ _ (by omega) (several_one _ _)
/-! ### What they mean -/
theorem rt_leaf (l : List Int) (h : SetOk l) : Rt 1 ⟨1, l, [], 0, 0⟩ := ⟨.inl ⟨rfl, rfl, rfl, rfl⟩, h, by simp⟩
theorem sA : SetOk [0, 8589934592, 0, 0] := ⟨rfl, by decide⟩
theorem sB : SetOk [0, 17179869184, 0, 0] := ⟨rfl, by decide⟩
theorem sC : SetOk [0, 34359738368, 0, 0] := ⟨rfl, by decide⟩
theorem rt_S : Rt 3 rS := ⟨.inr (.inr ⟨rfl, ⟨_, rfl⟩, rfl, by decide, by decide, .inl rfl⟩), SetOk.Z4, by
  intro x hx
  rw [List.mem_singleton.1 hx]
  refine ⟨.inr (.inl ⟨.inr rfl, rfl, rfl, rfl⟩), SetOk.Z4, ?_⟩
  intro y hy
  simp at hy
  rcases hy with rfl | rfl
  · exact rt_leaf _ sA
  · exact rt_leaf _ sB⟩
theorem rt_1 : Rt 4 r1 := ⟨.inr (.inl ⟨.inl rfl, rfl, rfl, rfl⟩), SetOk.Z4, by
  intro x hx
  simp [r1] at hx
  rcases hx with rfl | rfl
  · exact rt_S
  · exact Rt.mono (e := 3) (rt_leaf _ sC) (by decide)⟩
theorem rt_2 : Rt 2 r2 := ⟨.inr (.inr ⟨rfl, ⟨_, rfl⟩, rfl, by decide, by decide, .inl rfl⟩), SetOk.Z4, by
  intro x hx
  rw [List.mem_singleton.1 hx]
  exact rt_leaf _ sA⟩
theorem Rt.fit : ∀ {d : Nat} {r : T57} (e : Nat), Rt d r → nd r ≤ 4096 → Fit e r
  | _, _, 0, _, _ => trivial
  | 0, _, _ + 1, h, _ => absurd h id
  | d + 1, r, e + 1, h, hn => ⟨h.2.1, by rw [nd_eq] at hn; have := nds_len r.L; omega, fun x hx => Rt.fit e (h.2.2 x hx) (by rw [nd_eq] at hn; have := nd_mem hx; omega)⟩
theorem good_prog {r : T57} (hg : Good r) : ∃ l, M.prog_Make r = some (l, 0) ∧ l.length = sz r + 1 ∧ (∀ x ∈ l, RI l.length x) ∧ (∀ w, AcS l w 0 ↔ Lg r w) ∧ (∀ s : ByteArray, s.size ≤ 65536 → ∃ b, M.sim_Match l s = some (b, 0) ∧ (b = true ↔ Lg r (U s s.size))) := by
  rcases make_tot r (hg.1.fit 128 hg.2.1) with ⟨e, _, _, h⟩ | ⟨_, c, h1, h2, h3⟩
  · exact absurd hg h
  · refine ⟨_, h3, by simp [h2], (prog_ri hg h1 h2).2, prog_lang h1 h2, fun s hs => means_ok hg h1 h2 s hs⟩
theorem good_1 : Good r1 := ⟨rt_1.mono (by omega), by decide, by decide⟩
theorem good_2 : Good r2 := ⟨rt_2.mono (by omega), by decide, by decide⟩
theorem lgA : Lg cA [97] := .inl ⟨rfl, 97, rfl, by unfold Hs; rw [M.syntax_Has]; decide⟩
theorem lgB : Lg cB [98] := .inl ⟨rfl, 98, rfl, by unfold Hs; rw [M.syntax_Has]; decide⟩
theorem lgC : Lg cC [99] := .inl ⟨rfl, 99, rfl, by unfold Hs; rw [M.syntax_Has]; decide⟩
theorem lg_1 : Lg r1 [97, 98, 97, 99] := by
  refine .inr (.inl ⟨rfl, [97, 98, 97], [99], rfl, ?_, [99], [], rfl, lgC, rfl⟩)
  have a : Lg ⟨3, Z4, [cA, cB], 0, 0⟩ [97] := .inr (.inr (.inl ⟨rfl, .inl lgA⟩))
  have b : Lg ⟨3, Z4, [cA, cB], 0, 0⟩ [98] := .inr (.inr (.inl ⟨rfl, .inr (.inl lgB)⟩))
  exact .inr (.inr (.inr ⟨rfl, 3, by decide, .inl (by decide), [97], [98, 97], rfl, a, [98], [97], rfl, b, [97], [], rfl, a, rfl⟩))
theorem leaf_inv {l : List Int} {w : List Int} (h : Lg ⟨1, l, [], 0, 0⟩ w) : ∃ b, w = [b] ∧ Hs l b := by
  rcases h with ⟨_, h⟩ | ⟨h, _⟩ | ⟨h, _⟩ | ⟨h, _⟩
  · exact h
  · omega
  · omega
  · omega
theorem lg_1' : ¬ Lg r1 [97, 98] := by
  intro h
  rcases h with ⟨h, _⟩ | ⟨_, u, v, e, _, v', z, rfl, h, hz⟩ | ⟨h, _⟩ | ⟨h, _⟩
  · exact absurd h (by decide)
  · cases (show z = [] from hz)
    obtain ⟨b, rfl, hb⟩ := leaf_inv h
    have : b = 98 := by
      have := congrArg List.getLast? e
      simp at this
      exact this.symm
    subst this
    unfold Hs at hb
    rw [M.syntax_Has] at hb
    exact absurd hb (by decide)
  · exact absurd h (by decide)
  · exact absurd h (by decide)
theorem lg_2 (n : Nat) : Lg r2 (List.replicate n 97) := by
  refine .inr (.inr (.inr ⟨rfl, n, by simp, .inl (by decide), ?_⟩))
  induction n with
  | zero => rfl
  | succ n ih => exact ⟨[97], List.replicate n 97, rfl, lgA, ih⟩
theorem lg_2' {w : List Int} (h : Lg r2 w) : ∀ b ∈ w, b ≠ 98 := by
  rcases h with ⟨h, _⟩ | ⟨h, _⟩ | ⟨h, _⟩ | ⟨_, n, _, _, h⟩
  · exact absurd h (by decide)
  · exact absurd h (by decide)
  · exact absurd h (by decide)
  · rename_i g1 g2
    clear g1 g2
    induction n generalizing w with
    | zero => intro b hb; rw [show w = [] from h] at hb; simp at hb
    | succ n ih =>
      obtain ⟨u, v, rfl, h1, h2⟩ := h
      intro b hb
      rcases List.mem_append.1 hb with hb | hb
      · obtain ⟨c, rfl, hc⟩ := leaf_inv h1
        rw [List.mem_singleton.1 hb]
        rintro rfl
        unfold Hs at hc
        rw [M.syntax_Has] at hc
        exact absurd hc (by decide)
      · exact ih h2 b hb
/-! ### Places up to which a text is accepted -/
theorem ends_ex (l : List T45) (hl : l.length ≤ 2048) (h0 : l ≠ []) (hri : ∀ x ∈ l, RI l.length x) (hla : ∀ w, AcS l w 0 ↔ Lg r2 w) : M.sim_Ends l (⟨#[98, 97, 97, 98]⟩ : ByteArray) 1 = some ([1, 2, 3], 0) := by
  generalize hs : (⟨#[98, 97, 97, 98]⟩ : ByteArray) = s
  have hz : s.size = 4 := by rw [← hs]; rfl
  have b1 : bt s 1 = 97 := by rw [← hs]; decide
  have b2 : bt s 2 = 97 := by rw [← hs]; decide
  have b3 : bt s 3 = 98 := by rw [← hs]; decide
  have hl3 : l.length ≤ 3000 := by omega
  obtain ⟨q, g1, g2⟩ := begin_ok hl3 hri h0 hl s (by omega)
  have yes : ∀ (q : T50) (n : Nat), RnOk l q (List.replicate n 97) → M.sim_Runner_Accepts q = some true := by
    intro q n hq
    obtain ⟨b, k1, k2⟩ := accepts_ok hl3 hri q _ hq
    rw [k1, k2.2 ((hla _).2 (lg_2 n))]
  -- on, behind a byte that is no end
  have stay : ∀ (i : Int) (acc : List Int) (q : T50) (n : Nat), RnOk l q (List.replicate n 97) → 0 ≤ i → i < 4 → acc.length ≤ 10 →
      M.sim_Runner_ends_1_2_l0 (i, acc, q, 1, s) = M.sim_Runner_Feed q (bt s i) >>= fun y49 => M.sim_Runner_ends_1_2_l2 (i, !y49.1, acc ++ [i], (⟨y49.2.1, y49.2.2, q.now⟩ : T50), 1, s) := by
    intro i acc q n hq h1 h2 h3
    rw [M.sim_Runner_ends_1_2_l0]; try dsimp only
    rw [yes q n hq, bnd, if_pos rfl, M.slices_AppendSeq_int_int__r_2, if_pos (by simp; omega), bnd, M.sim_Runner_ends_1_2_l1]; try dsimp only
    rw [if_neg (by decide), if_neg (by omega), if_pos h1, if_pos (by omega)]
  have alive : ∀ (q : T50) (u : List Int), RnOk l q u → Lg r2 u → q.now.list ≠ [] := by
    intro q u hq hu he
    have := hq.q_.2 []
    rw [List.append_nil, he] at this
    obtain ⟨k, hk, _⟩ := this.2 ((hla _).2 hu)
    simp at hk
  have feedA : ∀ (q : T50) (n : Nat), RnOk l q (List.replicate n 97) → ∃ s', M.sim_Runner_Feed q 97 = some (true, q.l, s') ∧ RnOk l ⟨q.l, s', q.now⟩ (List.replicate (n + 1) 97) := by
    intro q n hq
    obtain ⟨s', k1, k2, _⟩ := feed_ok hl3 hri q _ hq 97 (by omega) (by omega)
    have e : List.replicate n (97 : Int) ++ [97] = List.replicate (n + 1) 97 := by rw [List.replicate_succ']
    rw [e] at k2
    refine ⟨s', ?_, k2⟩
    rw [k1, decide_eq_false (alive ⟨q.l, s', q.now⟩ _ k2 (lg_2 _))]
    rfl
  obtain ⟨s1, f1, f2⟩ := feedA q 0 g2
  generalize hq1 : (⟨q.l, s1, q.now⟩ : T50) = q1 at f2
  obtain ⟨s2, f3, f4⟩ := feedA q1 1 f2
  generalize hq2 : (⟨q1.l, s2, q1.now⟩ : T50) = q2 at f4
  obtain ⟨s3, f5, f6, _⟩ := feed_ok hl3 hri q2 _ f4 98 (by omega) (by omega)
  generalize hq3 : (⟨q2.l, s3, q2.now⟩ : T50) = q3 at f6
  have hn3 : q3.now = s3 := by rw [← hq3]
  have w1 : ∃ q', M.sim_Runner_ends_1_2_l0 (1, [], q, 1, s) = some ([1, 2, 3], q') := by
    rw [stay 1 [] q 0 g2 (by omega) (by omega) (by simp), b1, f1, bnd, M.sim_Runner_ends_1_2_l2]; try dsimp only
    rw [hq1, if_neg (by decide), show wr .i64 (1 + 1) = 2 from rfl, stay 2 _ q1 1 f2 (by omega) (by omega) (by simp), b2, f3, bnd, M.sim_Runner_ends_1_2_l2]; try dsimp only
    rw [hq2, if_neg (by decide), show wr .i64 (2 + 1) = 3 from rfl, stay 3 _ q2 2 f4 (by omega) (by omega) (by simp), b3, f5, bnd, M.sim_Runner_ends_1_2_l2]; try dsimp only
    rw [hq3]
    by_cases hd : s3.list = []
    · rw [decide_eq_true hd, if_pos (by decide)]
      exact ⟨_, rfl⟩
    · rw [decide_eq_false hd, if_neg (by decide), show wr .i64 (3 + 1) = 4 from rfl, M.sim_Runner_ends_1_2_l0]; try dsimp only
      obtain ⟨b, k1, k2⟩ := accepts_ok hl3 hri q3 _ f6
      have hb : b = false := by
        cases b with
        | false => rfl
        | true => exact absurd rfl (lg_2' ((hla _).1 (k2.1 rfl)) 98 (by simp))
      rw [k1, hb, bnd, if_neg (by decide), M.sim_Runner_ends_1_2_l1]; try dsimp only
      rw [if_neg (by decide), if_pos (by omega), M.sim_Runner_ends_1_2_l2]; try dsimp only
      rw [if_pos rfl]
      exact ⟨_, rfl⟩
  obtain ⟨q', w1⟩ := w1
  rw [M.sim_Ends, g1, bnd]; try dsimp only
  rw [if_pos rfl, if_neg (by omega), decide_eq_false (by omega), M.sim_Ends_l0]; try dsimp only
  rw [if_neg (by decide), M.sim_Runner_ends, bnd]; try dsimp only
  rw [M.slices_Collect_int, M.slices_AppendSeq_int_int_2, M.sim_Runner_ends_1_2, w1]
  rfl
theorem works_ok : M.tidepolelaw12_works = some true := by
  obtain ⟨l1, m1, n1, i1, a1, t1⟩ := good_prog good_1
  obtain ⟨l2, m2, n2, i2, a2, t2⟩ := good_prog good_2
  obtain ⟨x1, e1, c1⟩ := t1 ⟨#[97, 98, 97, 99]⟩ (by decide)
  obtain ⟨x2, e2, c2⟩ := t1 ⟨#[97, 98]⟩ (by decide)
  have h1 : x1 = true := c1.2 (by rw [show U ⟨#[97, 98, 97, 99]⟩ (⟨#[97, 98, 97, 99]⟩ : ByteArray).size = [97, 98, 97, 99] by decide]; exact lg_1)
  have h2 : x2 = false := by
    cases x2 with
    | false => rfl
    | true => exact absurd (c2.1 rfl) (by rw [show U ⟨#[97, 98]⟩ (⟨#[97, 98]⟩ : ByteArray).size = [97, 98] by decide]; exact lg_1')
  have full : ∀ (s : ByteArray) (b : Bool), M.sim_Match l1 s = some (b, 0) → M.sim_Full (⟨#[40, 97, 124, 98, 41, 42, 99]⟩ : ByteArray) s = some (b, 0, 0) := by
    intro s b h
    rw [M.sim_Full, parse1, bnd]; try dsimp only
    rw [if_pos rfl, m1, bnd]; try dsimp only
    rw [if_pos rfl, h, bnd]
  have hs1 : sz r1 = 5 := by decide
  have hs2 : sz r2 = 2 := by decide
  rw [M.tidepolelaw12_works, full _ _ e1, bnd, full _ _ e2, bnd, parse2, bnd]; try dsimp only
  rw [m2, bnd]; try dsimp only
  rw [ends_ex l2 (by omega) (by intro h; rw [h] at n2; simp at n2) i2 a2, bnd]; try dsimp only
  rw [h1, h2, if_pos rfl, if_pos rfl, if_neg (by decide), if_pos rfl]
  have si : M.tidepolebase_SameInts [1, 2, 3] [1, 2, 3] = some true := by
    rw [M.tidepolebase_SameInts, if_pos rfl, M.tidepolebase_SameInts_l0]; try dsimp only
    rw [if_pos (by decide), if_pos (by decide), if_pos (by decide), if_pos (by decide), show wr .i64 (0 + 1) = 1 from rfl, M.tidepolebase_SameInts_l0]; try dsimp only
    rw [if_pos (by decide), if_pos (by decide), if_pos (by decide), if_pos (by decide), show wr .i64 (1 + 1) = 2 from rfl, M.tidepolebase_SameInts_l0]; try dsimp only
    rw [if_pos (by decide), if_pos (by decide), if_pos (by decide), if_pos (by decide), show wr .i64 (2 + 1) = 3 from rfl, M.tidepolebase_SameInts_l0]; try dsimp only
    rw [if_neg (by decide)]
  rw [si, bnd, if_pos rfl]
  rfl
end Go.Proofs.YtemokppdnkiejaaGreat
