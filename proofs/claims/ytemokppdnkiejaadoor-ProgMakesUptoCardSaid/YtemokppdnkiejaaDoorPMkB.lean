/-
  A program told as a text; the chapter's examples; the program of what is read. Pure.
-/
import Derived.Test.YtemokppdnkiejaaDoorPMkA
import Derived.Test.YtemokppdnkiejaaDoorPMkS
import Derived.Lib.ItoaLen
set_option linter.unusedVariables false
set_option linter.unusedSimpArgs false
namespace Go.Proofs.YtemokppdnkiejaaDoor
open Go.Gx

/-! ### A line -/
theorem iand127 (y : Int) : 0 ≤ iand .i64 y 127 ∧ iand .i64 y 127 ≤ 127 := by
  unfold iand
  have h : ((BitVec.ofInt IntKind.i64.bits y) &&& (BitVec.ofInt IntKind.i64.bits 127)).toNat ≤ 127 := by
    rw [BitVec.toNat_and]
    have : (BitVec.ofInt IntKind.i64.bits 127).toNat = 127 := by decide
    rw [this]
    exact Nat.and_le_right
  generalize ((BitVec.ofInt IntKind.i64.bits y) &&& (BitVec.ofInt IntKind.i64.bits 127)).toNat = n at h
  have : IntKind.wrap .i64 (n : Int) = (n : Int) := wr_i64 (by omega) (by omega)
  rw [this]
  omega
def oc (x : Int) : Int := (M.bits_OnesCount64 x).getD 0
theorem oc_eq (x : Int) : M.bits_OnesCount64 x = some (oc x) := rfl
theorem oc_range (x : Int) : 0 ≤ oc x ∧ oc x ≤ 127 := iand127 _
def cnt (x : T48) : Int := oc (gi x.Set 0) + oc (gi x.Set 1) + oc (gi x.Set 2) + oc (gi x.Set 3)
theorem cnt_range (x : T48) : 0 ≤ cnt x ∧ cnt x ≤ 508 := by
  have h0 := oc_range (gi x.Set 0)
  have h1 := oc_range (gi x.Set 1)
  have h2 := oc_range (gi x.Set 2)
  have h3 := oc_range (gi x.Set 3)
  unfold cnt
  omega
def lineP (x : T48) : List ByteArray :=
  if x.Op = 1 then [⟨#[98, 121, 116, 101]⟩, itoaB (cnt x), itoaB x.X] else if x.Op = 2 then [⟨#[115, 112, 108, 105, 116]⟩, itoaB x.X, itoaB x.Y] else if x.Op = 4 then [⟨#[106, 117, 109, 112]⟩, itoaB x.X] else [⟨#[101, 110, 100]⟩]
/-- such numbers as places are -/
def Sma (x : T48) : Prop := 0 ≤ x.X ∧ x.X ≤ 4096 ∧ 0 ≤ x.Y ∧ x.Y ≤ 4096
theorem line_ok (x : T48) (h : Sma x) : M.prog_line x = some (lineP x) := by
  obtain ⟨h0, h1, h2, h3⟩ := h
  unfold M.prog_line lineP
  by_cases o1 : x.Op = 1
  · rw [if_pos o1, if_pos o1]
    have r0 := oc_range (gi x.Set 0)
    have r1 := oc_range (gi x.Set 1)
    have r2 := oc_range (gi x.Set 2)
    have r3 := oc_range (gi x.Set 3)
    have step : ∀ (c i : Int), 0 ≤ i → i < 4 → 0 ≤ c → c ≤ 1000 → M.prog_line_l0 (x, c, x.Set, i) = M.prog_line_l0 (x, c + oc (gi x.Set i), x.Set, i + 1) := by
      intro c i g0 g1 g2 g3
      have := oc_range (gi x.Set i)
      conv => lhs; rw [M.prog_line_l0]
      try dsimp only
      rw [if_pos g1, if_pos g0, oc_eq, bnd, wr_i64 (by omega) (by omega), wr_i64 (by omega) (by omega)]
    rw [step 0 0 (by omega) (by omega) (by omega) (by omega), show (0 : Int) + 1 = 1 from rfl, step _ 1 (by omega) (by omega) (by omega) (by omega), show (1 : Int) + 1 = 2 from rfl, step _ 2 (by omega) (by omega) (by omega) (by omega), show (2 : Int) + 1 = 3 from rfl, step _ 3 (by omega) (by omega) (by omega) (by omega), show (3 : Int) + 1 = 4 from rfl, M.prog_line_l0]
    try dsimp only
    rw [if_neg (by omega), if_pos (by omega), if_pos (by omega), if_pos (by omega), if_pos (by omega), bnd, Int.zero_add]
    rfl
  · rw [if_neg o1, if_neg o1]
    by_cases o2 : x.Op = 2
    · rw [if_pos o2, if_pos o2, if_pos (by omega), if_pos (by omega), if_pos (by omega), if_pos (by omega), bnd]
    · rw [if_neg o2, if_neg o2]
      by_cases o4 : x.Op = 4
      · rw [if_pos o4, if_pos o4, if_pos (by omega), if_pos (by omega), bnd]
      · rw [if_neg o4, if_neg o4]
theorem join_size (l : List ByteArray) (sep : ByteArray) : (joinB l sep).size ≤ (l.map fun x => x.size + sep.size).sum := by
  have h : ∀ (l : List (List UInt8)) (s : List UInt8), (Lib.join l s).length ≤ (l.map fun x => x.length + s.length).sum := by
    intro l s
    induction l with
    | nil => simp [Lib.join, List.intercalate]
    | cons x l ih =>
      cases l with
      | nil => simp [Lib.join, List.intercalate]
      | cons y l =>
        have e : Lib.join (x :: y :: l) s = x ++ s ++ Lib.join (y :: l) s := by simp [Lib.join, List.intercalate, List.intersperse]
        rw [e]
        simp only [List.map_cons, List.sum_cons, List.length_append] at ih ⊢
        omega
  have := h (l.map (·.data.toList)) sep.data.toList
  rw [List.map_map] at this
  show ((Lib.join (l.map (·.data.toList)) sep.data.toList).toArray).size ≤ _
  rw [List.size_toArray]
  refine Nat.le_trans this (Nat.le_of_eq ?_)
  congr 1
theorem itoaB_size {n : Int} (h0 : -9223372036854775808 ≤ n) (h1 : n ≤ 9223372036854775807) : (itoaB n).size ≤ 21 := by
  show ((Lib.itoa n).toArray).size ≤ 21
  rw [List.size_toArray]
  exact Lib.itoa_length_le n h0 h1
def SP : ByteArray := ⟨#[32]⟩
def NL : ByteArray := ⟨#[10]⟩
theorem line_size (x : T48) (h : Sma x) : (joinB (lineP x) SP).size ≤ 60 ∧ (lineP x).length ≤ 3 := by
  obtain ⟨h0, h1, h2, h3⟩ := h
  have hc := cnt_range x
  have a := itoaB_size (n := cnt x) (by omega) (by omega)
  have b := itoaB_size (n := x.X) (by omega) (by omega)
  have c := itoaB_size (n := x.Y) (by omega) (by omega)
  have hj := join_size (lineP x) SP
  have s1 : SP.size = 1 := rfl
  rw [s1] at hj
  refine ⟨Nat.le_trans hj ?_, ?_⟩
  · unfold lineP
    have z1 : (⟨#[98, 121, 116, 101]⟩ : ByteArray).size = 4 := rfl
    have z2 : (⟨#[115, 112, 108, 105, 116]⟩ : ByteArray).size = 5 := rfl
    have z3 : (⟨#[106, 117, 109, 112]⟩ : ByteArray).size = 4 := rfl
    have z4 : (⟨#[101, 110, 100]⟩ : ByteArray).size = 3 := rfl
    (repeat' split) <;> simp only [List.map_cons, List.map_nil, List.sum_cons, List.sum_nil, z1, z2, z3, z4] <;> omega
  · unfold lineP
    (repeat' split) <;> simp
def tl (x : T48) : List Int := s2b (joinB (lineP x) SP ++ NL)
theorem s2b_len (s : ByteArray) : (s2b s).length = s.size := by simp only [s2b, List.length_map, Array.length_toList]; rfl
theorem tl_len (x : T48) (h : Sma x) : (tl x).length ≤ 61 := by
  have := (line_size x h).1
  unfold tl
  rw [s2b_len, ByteArray.size_append]
  have : NL.size = 1 := rfl
  omega
theorem fl_len : ∀ l : List T48, (∀ x ∈ l, Sma x) → (l.flatMap tl).length ≤ 61 * l.length
  | [], _ => by simp
  | x :: l, h => by
    have h1 := tl_len x (h x (by simp))
    have h2 := fl_len l fun y hy => h y (by simp [hy])
    simp only [List.flatMap_cons, List.length_append, List.length_cons]
    omega
theorem text_ok (l : List T48) (hl : l.length ≤ 4096) (hc : M.prog_Check l = some 0) (hs : ∀ x ∈ l, Sma x) : M.prog_Text l = some (b2s (l.flatMap tl), 0) := by
  have round : ∀ (pre R : List T48) (x : T48), l = pre ++ x :: R → gi l (pre.length : Int) = x ∧ l.length = pre.length + (R.length + 1) ∧ Sma x ∧ (pre.flatMap tl).length ≤ 61 * pre.length := by
    intro pre R x e
    refine ⟨by rw [e]; exact gi_mid _ _ _, by rw [e]; simp, hs x (by rw [e]; simp), fl_len pre fun y hy => hs y (by rw [e]; simp [hy])⟩
  have W2 : ∀ (acc : List Int) (v : ByteArray), acc.length ≤ 300000 → v.size ≤ 61 → M.prog_Text_r_2 acc l v = some (acc ++ s2b v) := by
    intro acc v h1 h2
    have := s2b_len v
    rw [M.prog_Text_r_2, M.strings_Builder_WriteString_2, M.strings_Builder_copyCheck_2, bnd, if_pos (by simp only [List.length_append]; omega), bnd]
  have W1 : ∀ (acc : List Int) (v : ByteArray), acc.length ≤ 300000 → v.size ≤ 61 → M.prog_Text_r acc l v = some (acc ++ s2b v) := by
    intro acc v h1 h2
    have := s2b_len v
    rw [M.prog_Text_r, M.strings_Builder_WriteString, M.strings_Builder_copyCheck, bnd, if_pos (by simp only [List.length_append]; omega), bnd]
  have loop : ∀ (R pre : List T48), l = pre ++ R → M.prog_lines_1_l1 (l, (l.length : Int), (pre.length : Int), pre.flatMap tl, l) = some (.inr (l.flatMap tl)) := by
    intro R
    induction R with
    | nil =>
      intro pre e
      rw [List.append_nil] at e
      rw [M.prog_lines_1_l1]; try dsimp only
      rw [if_neg (by rw [e]; omega), ← e]
    | cons x R ih =>
      intro pre e
      obtain ⟨h1, h2, h3, h4⟩ := round pre R x e
      have hz := line_size x h3
      have n1 : NL.size = 1 := rfl
      have hv : (joinB (lineP x) SP ++ NL).size ≤ 61 := by rw [ByteArray.size_append]; omega
      rw [M.prog_lines_1_l1]; try dsimp only
      have hw := W2 (pre.flatMap tl) (joinB (lineP x) SP ++ NL) (by omega) hv
      have next := ih (pre ++ [x]) (by rw [e]; simp)
      rw [List.flatMap_append, show ([x] : List T48).flatMap tl = tl x by simp, show (((pre ++ [x]).length : Nat) : Int) = (pre.length : Int) + 1 by simp] at next
      have h1' : gi l (pre.length : Int) = x := h1
      rw [if_pos (by omega), if_pos (by omega), if_pos (by omega), h1', eta88, line_ok x h3, bnd, if_pos (by omega)]
      have hz1 : ((joinB (lineP x) (⟨#[32]⟩ : ByteArray)).size : Int) ≤ 60 := by have := hz.1; show ((joinB (lineP x) SP).size : Int) ≤ 60; omega
      have hn1 : ((⟨#[10]⟩ : ByteArray).size : Int) = 1 := rfl
      rw [if_pos (by omega), if_pos (by omega), bnd]
      show (M.prog_Text_r_2 (pre.flatMap tl) l (joinB (lineP x) SP ++ NL) >>= _) = _
      rw [hw, bnd, wr_i64 (by omega) (by omega)]
      exact next
  rw [M.prog_Text, hc, bnd, if_pos rfl, M.prog_lines, bnd, M.prog_lines_1]
  have hfl := fl_len l hs
  cases hR : l with
  | nil =>
    rw [M.prog_lines_1_l0]; try dsimp only
    rw [if_neg (by simp), bnd]; dsimp only
    rw [M.strings_Builder_String, if_pos (by simp), bnd]
    rfl
  | cons x R =>
    rw [← hR]
    obtain ⟨h1, h2, h3, h4⟩ := round [] R x (by rw [hR]; rfl)
    have hz := line_size x h3
    have n1 : NL.size = 1 := rfl
    have hv : (joinB (lineP x) SP ++ NL).size ≤ 61 := by rw [ByteArray.size_append]; omega
    have hw := W1 [] (joinB (lineP x) SP ++ NL) (by simp) hv
    have next := loop R [x] (by rw [hR]; rfl)
    rw [show ([x] : List T48).flatMap tl = tl x by simp] at next
    have h1' : gi l 0 = x := h1
    have h2' : l.length = R.length + 1 := by simpa using h2
    have e0 : M.prog_lines_1_l0 (l, (l.length : Int), 0, [], l) = some (.inr (l.flatMap tl)) := by
      rw [M.prog_lines_1_l0]; try dsimp only
      rw [if_pos (by omega), if_pos (by omega), if_pos (by omega), h1', eta88, line_ok x h3, bnd, if_pos (by omega)]
      have hz1 : ((joinB (lineP x) (⟨#[32]⟩ : ByteArray)).size : Int) ≤ 60 := by have := hz.1; show ((joinB (lineP x) SP).size : Int) ≤ 60; omega
      have hn1 : ((⟨#[10]⟩ : ByteArray).size : Int) = 1 := rfl
      rw [if_pos (by omega), if_pos (by omega), bnd]
      show (M.prog_Text_r [] l (joinB (lineP x) SP ++ NL) >>= _) = _
      rw [hw, bnd, wr_i64 (by omega) (by omega), List.nil_append]
      exact next
    rw [e0, bnd]; dsimp only
    rw [M.strings_Builder_String_2, if_pos (by omega), bnd]

/-! ### The chapter's examples -/
theorem itoa_dig {n : Nat} (h : n < 10) : itoaB (n : Int) = ⟨#[UInt8.ofNat (48 + n)]⟩ := by
  unfold itoaB
  rw [Lib.itoa_nonneg, Lib.decDigits_one h]
def rAB : T27 := ⟨3, Z4, [cA, cB], 0, 0⟩
theorem parseAB : M.syntax_Parse (⟨#[97, 124, 98]⟩ : ByteArray) = some (rAB, 0, 0) := by
  generalize hs : (⟨#[97, 124, 98]⟩ : ByteArray) = s
  have hz : s.size = 3 := by rw [← hs]; rfl
  have k0 : pk s 0 = 97 := by rw [← hs]; decide
  have k1 : pk s 1 = 124 := by rw [← hs]; decide
  have k2 : pk s 2 = 98 := by rw [← hs]; decide
  have k3 : pk s 3 = 0 := by rw [← hs]; decide
  have a0 : M.syntax_parser_atom (pS s 0 0) = some (cA, pS s 1 0) := atom_eq s 0 0 (by omega) _ (by omega) (by omega) (by rw [k0]; decide) (by omega) (by rw [k0]; exact one97)
  have p0 := piece_bare (by omega) a0 (by omega)
  have a2 : M.syntax_parser_atom (pS s 2 0) = some (cB, pS s 3 0) := atom_eq s 2 0 (by omega) _ (by omega) (by omega) (by rw [k2]; decide) (by omega) (by rw [k2]; exact one98)
  have p2 := piece_bare (by omega) a2 (by omega)
  have s0 : M.syntax_parser_sequence (pS s 0 0) = some (cA, pS s 1 0) := by
    rw [M.syntax_parser_sequence, seq_more _ [] (by simp) (by omega) p0]
    exact seq_stop _ _ (by omega) (several_one _ _)
  have s2 : M.syntax_parser_sequence (pS s 2 0) = some (cB, pS s 3 0) := by
    rw [M.syntax_parser_sequence, seq_more _ [] (by simp) (by omega) p2]
    exact seq_stop _ _ (by omega) (several_one _ _)
  refine parse_eq s (by omega) rAB 3 0 (by omega) ?_
  rw [M.syntax_parser_alternation, s0, bnd]; dsimp only
  rw [alt_more (by omega) _ _ (by simp) k1 s2]
  exact alt_stop (by omega) _ _ (by omega) (several_two _ _ _)
theorem leafRt (l : List Int) : Rt 1 ⟨1, l, [], 0, 0⟩ := ⟨.inl ⟨rfl, rfl, rfl, rfl⟩, SetQ.any _, by simp⟩
theorem good_AB : Good rAB := ⟨Rt.mono (d := 2) ⟨.inr (.inl ⟨.inr rfl, rfl, rfl, rfl⟩), SetQ.any _, by
  intro y hy
  simp [rAB] at hy
  rcases hy with rfl | rfl
  · exact leafRt _
  · exact leafRt _⟩ (by omega), by decide, by decide⟩
theorem good_A : Good r2 := ⟨Rt.mono (d := 2) ⟨.inr (.inr ⟨rfl, ⟨_, rfl⟩, rfl, by decide, by decide, .inl rfl⟩), SetQ.any _, by
  intro x hx
  rw [List.mem_singleton.1 hx]
  exact leafRt _⟩ (by omega), by decide, by decide⟩
theorem Good.make {r : T27} (h : Good r) : ∃ c, Cd r 0 (sz r) c ∧ c.length = sz r ∧ M.prog_Make r = some (c ++ [fin'], 0) := by
  rcases make_tot r (h.1.fit 128 h.2.1) with ⟨e, _, _, h'⟩ | ⟨_, h'⟩
  · exact absurd h h'
  · exact h'
theorem Cd.leaf {r : T27} {a n : Nat} {c : List T48} (h : Cd r a n c) (hk : r.Kind = 1) : c = [⟨1, r.Set, (n : Int), 0⟩] := by
  cases h <;> first | rfl | (exfalso; simp at hk)
theorem make_AB : M.prog_Make rAB = some ([⟨2, Z4, 1, 2⟩, ⟨1, cA.Set, 3, 0⟩, ⟨1, cB.Set, 3, 0⟩, fin'], 0) := by
  obtain ⟨c, h1, h2, h3⟩ := good_AB.make
  have e : c = [⟨2, Z4, 1, 2⟩, ⟨1, cA.Set, 3, 0⟩, ⟨1, cB.Set, 3, 0⟩] := by
    have hz : sz rAB = 3 := by decide
    rw [hz] at h1
    unfold rAB at h1
    cases h1 with
    | any h =>
      cases h with
      | more k1 k2 =>
        have e1 := k1.leaf rfl
        subst e1
        cases k2 with
        | one k3 =>
          have e2 := k3.leaf rfl
          subst e2
          rfl
  rw [h3, e]
  rfl
theorem make_A : M.prog_Make r2 = some ([⟨2, Z4, 1, 2⟩, ⟨1, cA.Set, 0, 0⟩, fin'], 0) := by
  obtain ⟨c, h1, h2, h3⟩ := good_A.make
  have e : c = [⟨2, Z4, 1, 2⟩, ⟨1, cA.Set, 0, 0⟩] := by
    have hz : sz r2 = 2 := by decide
    rw [hz] at h1
    generalize hr : r2 = r at h1
    cases h1 with
    | set => simp [r2] at hr
    | all _ => simp [r2] at hr
    | void => simp [r2] at hr
    | any _ => simp [r2] at hr
    | none => simp [r2] at hr
    | never => simp [r2] at hr
    | times h k =>
      simp [r2] at hr
      omega
    | @star s x mn mx a n c hm h =>
      simp [r2] at hr
      obtain ⟨_, rfl, hmn, rfl⟩ := hr
      have : mn = 0 := by omega
      subst this
      cases h with
      | last k =>
        cases k with
        | lp k =>
          have e1 := k.leaf rfl
          subst e1
          rfl
  rw [h3, e]
  rfl
theorem tl_split : tl ⟨2, Z4, 1, 2⟩ = [115, 112, 108, 105, 116, 32, 49, 32, 50, 10] := by
  unfold tl lineP
  rw [if_neg (by decide), if_pos rfl, show itoaB (1 : Int) = ⟨#[49]⟩ from itoa_dig (n := 1) (by decide), show itoaB (2 : Int) = ⟨#[50]⟩ from itoa_dig (n := 2) (by decide)]
  decide +kernel
theorem tl_byte (z : List Int) (h : cnt ⟨1, z, 0, 0⟩ = 1) (n : Nat) (hn : n < 10) (hk : s2b (joinB [⟨#[98, 121, 116, 101]⟩, ⟨#[49]⟩, ⟨#[UInt8.ofNat (48 + n)]⟩] SP ++ NL) = [98, 121, 116, 101, 32, 49, 32, 48 + (n : Int), 10]) : tl ⟨1, z, (n : Int), 0⟩ = [98, 121, 116, 101, 32, 49, 32, 48 + (n : Int), 10] := by
  unfold tl lineP
  rw [if_pos rfl, show cnt ⟨1, z, (n : Int), 0⟩ = 1 from h, show itoaB (1 : Int) = ⟨#[49]⟩ from itoa_dig (n := 1) (by decide), show itoaB (n : Int) = _ from itoa_dig hn]
  exact hk
theorem tl_end : tl fin' = [101, 110, 100, 10] := by
  unfold tl lineP
  rw [if_neg (by decide), if_neg (by decide), if_neg (by decide)]
  decide +kernel
theorem works_ok : M.tidepolelaw11_works = some true := by
  have cAc : cnt ⟨1, cA.Set, 0, 0⟩ = 1 := by decide +kernel
  have cBc : cnt ⟨1, cB.Set, 0, 0⟩ = 1 := by decide +kernel
  have t1 : M.prog_Text [⟨2, Z4, 1, 2⟩, ⟨1, cA.Set, 3, 0⟩, ⟨1, cB.Set, 3, 0⟩, fin'] = some (b2s ([115, 112, 108, 105, 116, 32, 49, 32, 50, 10] ++ ([98, 121, 116, 101, 32, 49, 32, 51, 10] ++ ([98, 121, 116, 101, 32, 49, 32, 51, 10] ++ ([101, 110, 100, 10] ++ [])))), 0) := by
    rw [text_ok _ (by decide) ?_ ?_]
    · simp only [List.flatMap_cons, List.flatMap_nil, tl_split, tl_end]
      rw [show tl ⟨1, cA.Set, 3, 0⟩ = _ from tl_byte cA.Set cAc 3 (by decide) (by decide +kernel), show tl ⟨1, cB.Set, 3, 0⟩ = _ from tl_byte cB.Set cBc 3 (by decide) (by decide +kernel)]
      rfl
    · refine pcheck_ok (by simp) (by decide) ?_
      intro x hx
      simp only [List.mem_cons, List.not_mem_nil, or_false] at hx
      rcases hx with rfl | rfl | rfl | rfl
      · exact RI.split (N := 4) (a := 1) (b := 2) (by decide) (by decide)
      · exact RI.byte (N := 4) (a := 3) (SetQ.any _) (by decide)
      · exact RI.byte (N := 4) (a := 3) (SetQ.any _) (by decide)
      · exact ⟨SetQ.any _, .inr (.inr (.inr ⟨rfl, rfl, rfl, rfl⟩))⟩
    · intro x hx
      simp only [List.mem_cons, List.not_mem_nil, or_false] at hx
      rcases hx with rfl | rfl | rfl | rfl <;> refine ⟨?_, ?_, ?_, ?_⟩ <;> decide
  have t2 : M.prog_Text [⟨2, Z4, 1, 2⟩, ⟨1, cA.Set, 0, 0⟩, fin'] = some (b2s ([115, 112, 108, 105, 116, 32, 49, 32, 50, 10] ++ ([98, 121, 116, 101, 32, 49, 32, 48, 10] ++ ([101, 110, 100, 10] ++ []))), 0) := by
    rw [text_ok _ (by decide) ?_ ?_]
    · simp only [List.flatMap_cons, List.flatMap_nil, tl_split, tl_end]
      rw [show tl ⟨1, cA.Set, 0, 0⟩ = _ from tl_byte cA.Set cAc 0 (by decide) (by decide +kernel)]
      rfl
    · refine pcheck_ok (by simp) (by decide) ?_
      intro x hx
      simp only [List.mem_cons, List.not_mem_nil, or_false] at hx
      rcases hx with rfl | rfl | rfl
      · exact RI.split (N := 3) (a := 1) (b := 2) (by decide) (by decide)
      · exact RI.byte (N := 3) (a := 0) (SetQ.any _) (by decide)
      · exact ⟨SetQ.any _, .inr (.inr (.inr ⟨rfl, rfl, rfl, rfl⟩))⟩
    · intro x hx
      simp only [List.mem_cons, List.not_mem_nil, or_false] at hx
      rcases hx with rfl | rfl | rfl <;> refine ⟨?_, ?_, ?_, ?_⟩ <;> decide
  rw [M.tidepolelaw11_works, parseAB, bnd, parse2, bnd]; dsimp only
  rw [make_AB, bnd, make_A, bnd]; dsimp only
  rw [t1, bnd, t2, bnd]; dsimp only
  rw [if_pos rfl, if_pos (by decide +kernel), if_pos rfl]
  decide +kernel
end Go.Proofs.YtemokppdnkiejaaDoor
