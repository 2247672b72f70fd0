/-
  Patterns' shapes, reading, quoting: what other claims' texts say of them.
-/
import Derived.Test.YtemokppdnkiejaaDoorMQs
import Derived.Test.YtemokppdnkiejaaDoorGS
set_option linter.unusedVariables false
set_option linter.unusedSimpArgs false
namespace Go.Proofs.YtemokppdnkiejaaDoor
open Go.Gx
def Z4 : List Int := [0, 0, 0, 0]
theorem bnd {α β : Type} (a : α) (f : α → Option β) : (some a >>= f) = f a := rfl
theorem wr_i64 {x : Int} (h0 : -9223372036854775808 ≤ x) (h1 : x ≤ 9223372036854775807) : wr .i64 x = x := by
  simp only [wr, IntKind.wrap, IntKind.signed, IntKind.bits]
  simp
  split <;> omega
theorem eta27 (r : T27) : (⟨r.Kind, r.Set, r.L, r.Min, r.Max⟩ : T27) = r := by cases r; rfl
theorem gi_mid {α : Type} [Inhabited α] (pre : List α) (r : α) (t : List α) : gi (pre ++ r :: t) (pre.length : Int) = r := by
  simp [gi]
mutual
def nd : T27 → Nat
  | ⟨_, _, L, _, _⟩ => 1 + nds L
def nds : List T27 → Nat
  | [] => 0
  | x :: xs => nd x + nds xs
end
theorem nd_eq (r : T27) : nd r = 1 + nds r.L := by cases r; rw [nd]
theorem nd_pos (r : T27) : 1 ≤ nd r := by rw [nd_eq]; omega
theorem nds_len : ∀ L : List T27, L.length ≤ nds L
  | [] => by simp
  | x :: xs => by have := nds_len xs; have := nd_pos x; rw [nds]; simp; omega
def Dp : Nat → T27 → Prop
  | 0, _ => False
  | d + 1, r => ∀ x ∈ r.L, Dp d x
theorem Dp.mono : ∀ {d e : Nat} {r : T27}, Dp d r → d ≤ e → Dp e r
  | 0, _, _, h, _ => absurd h id
  | d + 1, 0, _, _, he => by omega
  | d + 1, e + 1, r, h, he => fun x hx => (h x hx).mono (by omega)
def SetOk (l : List Int) : Prop := l.length = 4 ∧ ∀ x ∈ l, 0 ≤ x ∧ x < 18446744073709551616
theorem SetOk.Z4 : SetOk Z4 := ⟨rfl, fun x hx => by simp [Go.Proofs.YtemokppdnkiejaaDoor.Z4] at hx; omega⟩
def Fit : Nat → T27 → Prop
  | 0, _ => True
  | d + 1, r => SetOk r.Set ∧ r.L.length ≤ 9223372036854775807 ∧ ∀ x ∈ r.L, Fit d x
theorem Fit.mono : ∀ {d e : Nat} {r : T27}, Fit d r → e ≤ d → Fit e r
  | _, 0, _, _, _ => trivial
  | 0, e + 1, _, _, he => by omega
  | d + 1, e + 1, r, h, he => ⟨h.1, h.2.1, fun x hx => (h.2.2 x hx).mono (by omega)⟩
def Shp (r : T27) : Prop :=
  (r.Kind = 1 ∧ r.L = [] ∧ r.Min = 0 ∧ r.Max = 0) ∨ ((r.Kind = 2 ∨ r.Kind = 3) ∧ r.Set = Z4 ∧ r.Min = 0 ∧ r.Max = 0) ∨
    (r.Kind = 4 ∧ (∃ x, r.L = [x]) ∧ r.Set = Z4 ∧ 0 ≤ r.Min ∧ r.Min ≤ 64 ∧ (r.Max = -1 ∨ (r.Min ≤ r.Max ∧ r.Max ≤ 64)))
def Rt : Nat → T27 → Prop
  | 0, _ => False
  | d + 1, r => Shp r ∧ SetOk r.Set ∧ ∀ x ∈ r.L, Rt d x
theorem Rt.mono : ∀ {d e : Nat} {r : T27}, Rt d r → d ≤ e → Rt e r
  | 0, _, _, h, _ => absurd h id
  | d + 1, 0, _, _, he => by omega
  | d + 1, e + 1, r, h, he => ⟨h.1, h.2.1, fun x hx => (h.2.2 x hx).mono (by omega)⟩
theorem Rt.dp : ∀ {d : Nat} {r : T27}, Rt d r → Dp d r
  | 0, _, h => h
  | d + 1, r, h => fun x hx => (h.2.2 x hx).dp
theorem count_tot (left : Nat) : left ≤ 128 → ∀ (r : T27) (n : Nat), Fit left r → n ≤ 4096 → ∃ (b : Bool) (n' : Nat), M.syntax_count (r, (left : Int), (n : Int)) = some (b, (n' : Int)) ∧ (b = true → n' = n + nd r ∧ n' ≤ 4096 ∧ Dp left r) ∧ (n + nd r ≤ 4096 → Dp left r → b = true) := by
  induction left with
  | zero =>
    intro hl r n hf hn
    refine ⟨false, n + 1, ?_, by simp, fun _ h => absurd h id⟩
    rw [M.syntax_count]; try dsimp only
    rw [if_pos (by omega), wr_i64 (by omega) (by omega), M.syntax_count_l0]; try dsimp only
    rw [if_pos rfl]
    try rfl
  | succ left ih =>
    intro hl r n hf hn
    rw [M.syntax_count]; try dsimp only
    rw [if_neg (by omega), wr_i64 (by omega) (by omega), M.syntax_count_l0]; try dsimp only
    by_cases hm : n + 1 > 4096
    · refine ⟨false, n + 1, ?_, by simp, fun h _ => by have := nd_pos r; omega⟩
      rw [decide_eq_true (by omega), if_pos rfl]
      try rfl
    rw [decide_eq_false (by omega), if_neg (by decide)]
    have loop : ∀ (L pre : List T27) (m : Nat), r.L = pre ++ L → m ≤ 4096 → ∃ (b : Bool) (n' : Nat), M.syntax_count_l1 (((left + 1 : Nat) : Int), r.L, (r.L.length : Int), (pre.length : Int), (m : Int)) = some (b, (n' : Int)) ∧
        (b = true → n' = m + nds L ∧ n' ≤ 4096 ∧ ∀ x ∈ L, Dp left x) ∧ (m + nds L ≤ 4096 → (∀ x ∈ L, Dp left x) → b = true) := by
      intro L
      induction L with
      | nil =>
        intro pre m e hm
        refine ⟨true, m, ?_, fun _ => ⟨by simp [nds], hm, by simp⟩, fun _ _ => rfl⟩
        rw [M.syntax_count_l1]; try dsimp only
        rw [if_neg (by rw [e]; simp)]
      | cons x L ihL =>
        intro pre m e hm
        have hlen : r.L.length = pre.length + (L.length + 1) := by rw [e]; simp
        have hx : x ∈ r.L := by rw [e]; simp
        have hbig := hf.2.1
        obtain ⟨b, n', h1, h2, h3⟩ := ih (by omega) x m (hf.2.2 x hx) hm
        rw [M.syntax_count_l1]; try dsimp only
        rw [if_pos (by omega), if_pos (by omega), if_pos (by omega), show gi r.L (pre.length : Int) = x by rw [e]; exact gi_mid pre x L, eta27, wr_i64 (x := ((left + 1 : Nat) : Int) - 1) (by omega) (by omega),
          show ((left + 1 : Nat) : Int) - 1 = (left : Int) by omega, h1, bnd]
        dsimp only
        cases b with
        | false =>
          refine ⟨false, n', by rw [if_neg (by decide)], by simp, fun h4 h5 => ?_⟩
          have := h3 (by rw [nds] at h4; omega) (h5 x (by simp))
          cases this
        | true =>
          obtain ⟨k1, k2, k3⟩ := h2 rfl
          rw [if_pos rfl, wr_i64 (by omega) (by omega)]
          obtain ⟨b', n'', g1, g2, g3⟩ := ihL (pre ++ [x]) n' (by rw [e]; simp) k2
          rw [show (((pre ++ [x]).length : Nat) : Int) = (pre.length : Int) + 1 by simp] at g1
          refine ⟨b', n'', g1, fun hb => ?_, fun h4 h5 => g3 (by rw [nds] at h4; omega) fun y hy => h5 y (by simp [hy])⟩
          obtain ⟨j1, j2, j3⟩ := g2 hb
          refine ⟨by rw [nds]; omega, j2, fun y hy => ?_⟩
          rcases List.mem_cons.1 hy with rfl | hy
          · exact k3
          · exact j3 y hy
    obtain ⟨b, n', h1, h2, h3⟩ := loop r.L [] (n + 1) rfl (by omega)
    refine ⟨b, n', h1, fun hb => ?_, fun h4 h5 => h3 (by rw [nd_eq] at h4; omega) h5⟩
    obtain ⟨k1, k2, k3⟩ := h2 hb
    exact ⟨by rw [nd_eq]; omega, k2, k3⟩
theorem shaped_iff (r : T27) : ∃ b, M.syntax_shaped r = some b ∧ (b = true ↔ Shp r) := by
  have l3 : ∀ c d : Bool, M.syntax_shaped_l3 (r, [0, 0, 0, 0], c, d) = some (decide (r.L.length = 1) && decide (r.Set = Z4) && c && d) := by
    intro c d
    rw [M.syntax_shaped_l3]; try dsimp only
    by_cases h1 : r.L.length = 1
    · rw [if_pos (by omega)]
      by_cases h2 : r.Set = [0, 0, 0, 0]
      · rw [if_pos h2]
        cases c
        · rw [if_neg (by decide)]; simp [h1]
        · rw [if_pos rfl]; simp [h1, Z4, h2]
      · rw [if_neg h2]; simp [Z4, h2]
    · rw [if_neg (by omega)]; simp [h1]
  have l2 : ∀ c : Bool, M.syntax_shaped_l2 (r, [0, 0, 0, 0], c) = some (decide (r.L.length = 1) && decide (r.Set = Z4) && c && decide (r.Max = -1 ∨ (r.Min ≤ r.Max ∧ r.Max ≤ 64))) := by
    intro c
    rw [M.syntax_shaped_l2]; try dsimp only
    by_cases h1 : r.Max = -1
    · rw [if_pos h1, l3]; simp [h1]
    · rw [if_neg h1]
      by_cases h2 : r.Min ≤ r.Max
      · rw [if_pos (by omega), l3]; simp [h1, h2]
      · rw [if_neg (by omega), l3]; simp [h1, h2]
  have l1 : ∀ (c : Bool) (k : Int) (d : Bool), M.syntax_shaped_l1 (r, [0, 0, 0, 0], c, k, d) = some (if d = true then decide (r.Set = Z4) && c else decide (k = 4) && (decide (r.L.length = 1) && decide (r.Set = Z4) && decide (0 ≤ r.Min ∧ r.Min ≤ 64) && decide (r.Max = -1 ∨ (r.Min ≤ r.Max ∧ r.Max ≤ 64)))) := by
    intro c k d
    rw [M.syntax_shaped_l1]; try dsimp only
    cases d
    · simp only [Bool.false_eq_true, if_false]
      by_cases h1 : k = 4
      · rw [if_pos h1]
        by_cases h2 : 0 ≤ r.Min
        · rw [if_pos (by omega), l2]; simp [h1, h2]
        · rw [if_neg (by omega), l2]; simp [h2]
      · rw [if_neg h1]; simp [h1]
    · rw [if_pos rfl, if_pos rfl]
      by_cases h2 : r.Set = [0, 0, 0, 0]
      · rw [if_pos h2]; simp [Z4, h2]
      · rw [if_neg h2]; simp [Z4, h2]
  have l0 : ∀ c : Bool, M.syntax_shaped_l0 (r, [0, 0, 0, 0], c) = some (if r.Kind = 1 then decide (r.L.length = 0) && c else if r.Kind = 2 ∨ r.Kind = 3 then decide (r.Set = Z4) && c else
      decide (r.Kind = 4) && (decide (r.L.length = 1) && decide (r.Set = Z4) && decide (0 ≤ r.Min ∧ r.Min ≤ 64) && decide (r.Max = -1 ∨ (r.Min ≤ r.Max ∧ r.Max ≤ 64)))) := by
    intro c
    rw [M.syntax_shaped_l0]; try dsimp only
    by_cases h1 : r.Kind = 1
    · rw [if_pos h1, if_pos h1]
      by_cases h2 : r.L.length = 0
      · rw [if_pos (by omega)]; simp [h2]
      · rw [if_neg (by omega)]; simp [h2]
    rw [if_neg h1, if_neg h1]
    by_cases h2 : r.Kind = 2
    · rw [if_pos h2, l1, if_pos rfl, if_pos (.inl h2)]
    rw [if_neg h2, l1]
    by_cases h3 : r.Kind = 3
    · rw [if_pos (by simpa using h3), if_pos (.inr h3)]
    · rw [if_neg (by simpa using h3), if_neg (by omega)]
  have one : (∃ x, r.L = [x]) ↔ r.L.length = 1 := by
    constructor
    · rintro ⟨x, h⟩; rw [h]; rfl
    · intro h
      match hL : r.L, h with
      | [x], _ => exact ⟨x, rfl⟩
  have zero : r.L = [] ↔ r.L.length = 0 := by
    constructor
    · intro h; rw [h]; rfl
    · exact List.length_eq_zero_iff.1
  rw [M.syntax_shaped]; try dsimp only
  unfold Shp
  rw [one, zero]
  by_cases hm : r.Min = 0
  · rw [if_pos hm, l0]
    refine ⟨_, rfl, ?_⟩
    split
    · rename_i h1; simp [h1, hm]
    · split
      · rename_i h1 h2; rcases h2 with h2 | h2 <;> simp [h2, hm]
      · rename_i h1 h2; simp only [not_or] at h2; simp [h1, h2.1, h2.2, hm, and_assoc]
  · rw [if_neg hm, l0]
    refine ⟨_, rfl, ?_⟩
    split
    · rename_i h1; simp [h1, hm]
    · split
      · rename_i h1 h2; rcases h2 with h2 | h2 <;> simp [h2, hm]
      · rename_i h1 h2; simp only [not_or] at h2; simp [h1, h2.1, h2.2, hm, and_assoc]
theorem right_tot (d : Nat) : ∀ r : T27, Dp d r → Fit d r → nds r.L ≤ 4096 → ∃ b, M.syntax_right r = some b ∧ (b = true ↔ Rt d r) := by
  induction d with
  | zero => intro r h; exact absurd h id
  | succ d ih =>
    intro r hd hf hn
    obtain ⟨bs, s1, s2⟩ := shaped_iff r
    have loop : ∀ (L pre : List T27), r.L = pre ++ L → ∃ b, M.syntax_right_l0 (r, r.L, (r.L.length : Int), (pre.length : Int)) = some b ∧ (b = true ↔ (Shp r ∧ ∀ x ∈ L, Rt d x)) := by
      intro L
      induction L with
      | nil =>
        intro pre e
        refine ⟨bs, ?_, by simpa using s2⟩
        rw [M.syntax_right_l0]; try dsimp only
        rw [if_neg (by rw [e]; simp), s1, bnd]
      | cons x L ihL =>
        intro pre e
        have hlen : r.L.length = pre.length + (L.length + 1) := by rw [e]; simp
        have hx : x ∈ r.L := by rw [e]; simp
        have hl := nds_len r.L
        have hnx : nds x.L ≤ 4096 := by
          have : ∀ (l : List T27), x ∈ l → nd x ≤ nds l := by
            intro l
            induction l with
            | nil => simp
            | cons y l ih =>
              intro h
              rw [nds]
              rcases List.mem_cons.1 h with rfl | h
              · omega
              · have := ih h; omega
          have := this _ hx
          rw [nd_eq] at this
          omega
        obtain ⟨b, h1, h2⟩ := ih x (hd x hx) (hf.2.2 x hx) hnx
        rw [M.syntax_right_l0]; try dsimp only
        rw [if_pos (by omega), if_pos (by omega), if_pos (by omega), show gi r.L (pre.length : Int) = x by rw [e]; exact gi_mid pre x L, eta27, h1, bnd]
        cases b with
        | false =>
          refine ⟨false, by rw [if_neg (by decide)], ?_⟩
          simp only [Bool.false_eq_true, false_iff] at h2 ⊢
          rintro ⟨_, h⟩
          exact h2 (h x (by simp))
        | true =>
          rw [if_pos rfl, wr_i64 (by omega) (by omega)]
          obtain ⟨b', g1, g2⟩ := ihL (pre ++ [x]) (by rw [e]; simp)
          rw [show (((pre ++ [x]).length : Nat) : Int) = (pre.length : Int) + 1 by simp] at g1
          refine ⟨b', g1, g2.trans ?_⟩
          have := h2.1 rfl
          simp [this]
    obtain ⟨b, h1, h2⟩ := loop r.L [] rfl
    refine ⟨b, ?_, h2.trans ⟨fun h => ⟨h.1, hf.1, h.2⟩, fun h => ⟨h.1, h.2.2⟩⟩⟩
    rw [M.syntax_right]; try dsimp only
    exact h1
theorem check_tot (r : T27) (hf : Fit 128 r) : ∃ b, M.syntax_Check r = some b ∧ (b = true ↔ (Rt 128 r ∧ nd r ≤ 4096)) := by
  obtain ⟨b, n, h1, h2, h3⟩ := count_tot 128 (Nat.le_refl _) r 0 hf (by omega)
  have hs : M.syntax_Size r = if b = true then M.syntax_right r >>= fun y8 => if y8 = true then some (n : Int) else some 0 else some 0 := by
    rw [M.syntax_Size]
    have h1' : M.syntax_count (r, 128, 0) = some (b, (n : Int)) := h1
    rw [h1', bnd]
  rw [M.syntax_Check, hs]
  cases b with
  | false =>
    rw [if_neg (by decide), bnd]
    refine ⟨_, rfl, ?_⟩
    simp only [gt_iff_lt, Int.lt_irrefl, decide_false, Bool.false_eq_true, false_iff]
    rintro ⟨k1, k2⟩
    have := h3 (by omega) k1.dp
    cases this
  | true =>
    obtain ⟨k1, k2, k3⟩ := h2 rfl
    obtain ⟨c, g1, g2⟩ := right_tot 128 r k3 hf (by rw [nd_eq] at k1; omega)
    rw [if_pos rfl, g1, bnd]
    cases c with
    | false =>
      rw [if_neg (by decide), bnd]
      refine ⟨_, rfl, ?_⟩
      simp only [gt_iff_lt, Int.lt_irrefl, decide_false, Bool.false_eq_true, false_iff] at g2 ⊢
      rintro ⟨k, _⟩
      exact g2 k
    | true =>
      have := nd_pos r
      rw [if_pos rfl, bnd]
      refine ⟨_, rfl, ?_⟩
      simp only [true_iff] at g2
      simp only [gt_iff_lt, decide_eq_true_eq]
      exact ⟨fun _ => ⟨g2, by omega⟩, fun _ => by omega⟩
theorem nd_mem {x : T27} : ∀ {l : List T27}, x ∈ l → nd x ≤ nds l
  | [], h => by simp at h
  | y :: l, h => by
    rw [nds]
    rcases List.mem_cons.1 h with rfl | h
    · omega
    · have := nd_mem h; omega
section
end
theorem bt_range (s : ByteArray) (i : Int) : 0 ≤ bt s i ∧ bt s i ≤ 255 := by
  unfold bt
  split
  · rename_i h
    have := (s[i.toNat]'h).toNat_lt
    omega
  · omega
theorem iquo64 {b : Int} (h0 : 0 ≤ b) (h1 : b ≤ 255) : iquo .u8 b 64 = b / 64 := by
  simp only [iquo]
  rw [Int.tdiv_eq_ediv_of_nonneg h0]
  simp only [IntKind.wrap, IntKind.signed, IntKind.bits]
  simp
  omega
theorem irem64 {b : Int} (h0 : 0 ≤ b) : irem .u8 b 64 = b % 64 := by
  simp only [irem]
  rw [Int.tmod_eq_emod_of_nonneg h0]
section
def U (s : ByteArray) (i : Nat) : List Int := (List.range i).map fun j : Nat => bt s (j : Int)
end
def pS (s : ByteArray) (i d : Nat) : T68 := ⟨s, (i : Int), (d : Int), none⟩
def pk (s : ByteArray) (i : Nat) : Int := if i < s.size then bt s (i : Int) else 0
theorem peek_eq (s : ByteArray) (i d : Nat) : M.syntax_parser_peek (pS s i d) = some (pk s i, pS s i d) := by
  rw [M.syntax_parser_peek]
  show (some none >>= _) = _
  rw [bnd]; try dsimp only
  rw [M.syntax_parser_peek_l0]
  show (if decide ((i : Int) ≥ (s.size : Int)) = true then some (0, pS s i d) else _) = _
  unfold pk
  by_cases h : i < s.size
  · rw [decide_eq_false (by omega), if_neg (by decide), if_pos h]
    show (if 0 ≤ (i : Int) then if (i : Int) < (s.size : Int) then _ else none else none) = _
    rw [if_pos (by omega), if_pos (by omega)]
    rfl
  · rw [decide_eq_true (by omega), if_pos rfl, if_neg h]
theorem take_eq (s : ByteArray) (i d : Nat) (hi : i ≤ 1000) (c : Int) (hc : c ≠ 0) : M.syntax_parser_take (pS s i d) c = some (if pk s i = c then (true, pS s (i + 1) d) else (false, pS s i d)) := by
  rw [M.syntax_parser_take, if_neg hc, peek_eq, bnd]
  dsimp only
  rw [M.syntax_parser_take_l0]; try dsimp only
  by_cases h : pk s i = c
  · rw [decide_eq_true h, if_neg (by decide), if_pos h]
    show some (true, (⟨s, wr .i64 ((i : Int) + 1), (d : Int), none⟩ : T68)) = _
    rw [wr_i64 (by omega) (by omega)]
    rfl
  · rw [decide_eq_false h, if_pos (by decide), if_neg h]
theorem idx_eq (s : ByteArray) (c : Int) : M.strings_IndexByte s c = some (ixB s c) := rfl
theorem atom_eq (s : ByteArray) (i d : Nat) (hi : i ≤ 1000) (l : List Int) (h1 : ¬ pk s i < 32) (h2 : ¬ pk s i > 126) (h3 : ¬ ixB (⟨#[93, 41, 42, 43, 63, 123, 125, 94, 36, 124]⟩ : ByteArray) (pk s i) ≥ 0) (h4 : pk s i ≠ 40 ∧ pk s i ≠ 46 ∧ pk s i ≠ 91 ∧ pk s i ≠ 92) (hl : M.syntax_one (pk s i) = some l) :
    M.syntax_parser_atom (pS s i d) = some (⟨1, l, [], 0, 0⟩, pS s (i + 1) d) := by
  rw [M.syntax_parser_atom, peek_eq, bnd]; dsimp only
  rw [if_neg h1, if_neg h2, idx_eq, bnd, decide_eq_false h3, M.syntax_parser_atom_l0]; try dsimp only
  rw [if_neg (by decide), if_neg h4.1, M.syntax_parser_atom_l1]; try dsimp only
  rw [if_neg (by decide), take_eq s i d hi 46 (by omega), if_neg h4.2.1, bnd]; dsimp only
  rw [if_neg (by decide), take_eq s i d hi 91 (by omega), if_neg h4.2.2.1, bnd]; dsimp only
  rw [if_neg (by decide), take_eq s i d hi 40 (by omega), if_neg h4.1, bnd]; dsimp only
  rw [if_neg (by decide), take_eq s i d hi 92 (by omega), if_neg h4.2.2.2, bnd]; dsimp only
  rw [if_neg (by decide), hl, bnd]
  show some (_, (⟨s, wr .i64 ((i : Int) + 1), (d : Int), none⟩ : T68)) = _
  rw [wr_i64 (by omega) (by omega)]
  rfl
theorem piece_bare {s : ByteArray} {i d : Nat} {p : T68} {r : T27} (hi : i ≤ 1000) (e : M.syntax_parser_atom p = some (r, pS s i d)) (h4 : pk s i ≠ 42 ∧ pk s i ≠ 43 ∧ pk s i ≠ 63 ∧ pk s i ≠ 123) : M.syntax_parser_piece p = some (r, pS s i d) := by
  rw [M.syntax_parser_piece, e, bnd]; dsimp only
  rw [take_eq s i d hi 42 (by omega), if_neg h4.1, bnd]; dsimp only
  rw [if_neg (by decide), take_eq s i d hi 43 (by omega), if_neg h4.2.1, bnd]; dsimp only
  rw [if_neg (by decide), take_eq s i d hi 63 (by omega), if_neg h4.2.2.1, bnd]; dsimp only
  rw [if_neg (by decide), take_eq s i d hi 123 (by omega), if_neg h4.2.2.2, bnd]; dsimp only
  rw [if_neg (by decide)]
theorem piece_star {s : ByteArray} {i d : Nat} {p : T68} {r : T27} (hi : i ≤ 1000) (e : M.syntax_parser_atom p = some (r, pS s i d)) (h4 : pk s i = 42) : M.syntax_parser_piece p = some (⟨4, [0, 0, 0, 0], [r], 0, -1⟩, pS s (i + 1) d) := by
  rw [M.syntax_parser_piece, e, bnd]; dsimp only
  rw [take_eq s i d hi 42 (by omega), if_pos h4, bnd]; dsimp only
  rw [if_pos rfl]
theorem seq_un (s : ByteArray) (i d : Nat) (x : T27) (acc : List T27) : M.syntax_parser_sequence_l0 (x, acc, pS s i d) = M.syntax_parser_sequence_l1 (x, acc, decide (i < s.size ∧ pk s i ≠ 124 ∧ pk s i ≠ 41), pS s i d) := by
  rw [M.syntax_parser_sequence_l0]
  show (some none >>= _) = _
  rw [bnd]
  show (if (i : Int) < (s.size : Int) then M.syntax_parser_peek (pS s i d) >>= _ else M.syntax_parser_sequence_l1 (x, acc, false, pS s i d)) = _
  by_cases hl : i < s.size
  · rw [if_pos (by omega), peek_eq, bnd]; dsimp only
    by_cases h1 : pk s i = 124
    · rw [if_pos h1, decide_eq_false (by omega)]
    · rw [if_neg h1, peek_eq, bnd]; dsimp only
      by_cases h2 : pk s i = 41
      · rw [decide_eq_true h2, decide_eq_false (by omega)]; rfl
      · rw [decide_eq_false h2, decide_eq_true ⟨hl, h1, h2⟩]; rfl
  · rw [if_neg (by omega), decide_eq_false (by omega)]
theorem seq_more {s : ByteArray} {i d : Nat} (x : T27) {q : T68} {r : T27} (acc : List T27) (hl : acc.length ≤ 1000) (hg : i < s.size ∧ pk s i ≠ 124 ∧ pk s i ≠ 41) (e : M.syntax_parser_piece (pS s i d) = some (r, q)) : M.syntax_parser_sequence_l0 (x, acc, pS s i d) = M.syntax_parser_sequence_l0 (x, acc ++ [r], q) := by
  rw [seq_un, decide_eq_true hg, M.syntax_parser_sequence_l1]; try dsimp only
  rw [if_pos rfl, e, bnd]; dsimp only
  rw [if_pos (by simp; omega)]
theorem seq_stop {s : ByteArray} {i d : Nat} (x : T27) (acc : List T27) {r : T27} (hg : ¬ (i < s.size ∧ pk s i ≠ 124 ∧ pk s i ≠ 41)) (hr : M.syntax_several 2 acc = some r) : M.syntax_parser_sequence_l0 (x, acc, pS s i d) = some (r, pS s i d) := by
  rw [seq_un, decide_eq_false hg, M.syntax_parser_sequence_l1]; try dsimp only
  rw [if_neg (by decide), hr, bnd]
theorem several_one (k : Int) (r : T27) : M.syntax_several k [r] = some r := by
  rw [M.syntax_several, if_pos (by simp), if_pos (by simp), show gi [r] 0 = r from rfl, eta27]
theorem several_two (k : Int) (r x : T27) : M.syntax_several k [r, x] = some ⟨k, [0, 0, 0, 0], [r, x], 0, 0⟩ := by
  rw [M.syntax_several, if_neg (by simp)]
theorem alt_stop {s : ByteArray} {i d : Nat} (hi : i ≤ 1000) (x : T27) (acc : List T27) {r : T27} (hg : pk s i ≠ 124) (hr : M.syntax_several 3 acc = some r) : M.syntax_parser_alternation_l0 (x, acc, pS s i d) = some (r, pS s i d) := by
  rw [M.syntax_parser_alternation_l0]; try dsimp only
  rw [take_eq s i d hi 124 (by omega), if_neg hg, bnd]; dsimp only
  rw [if_neg (by decide), hr, bnd]
theorem alt_more {s : ByteArray} {i d : Nat} (hi : i ≤ 1000) (x : T27) (acc : List T27) (hl : acc.length ≤ 1000) {r : T27} {q : T68} (hg : pk s i = 124) (e : M.syntax_parser_sequence (pS s (i + 1) d) = some (r, q)) : M.syntax_parser_alternation_l0 (x, acc, pS s i d) = M.syntax_parser_alternation_l0 (x, acc ++ [r], q) := by
  rw [M.syntax_parser_alternation_l0]; try dsimp only
  rw [take_eq s i d hi 124 (by omega), if_pos hg, bnd]; dsimp only
  rw [if_pos rfl, e, bnd]; dsimp only
  rw [if_pos (by simp; omega)]
theorem parse_eq (s : ByteArray) (hs : s.size ≤ 256) (r : T27) (i d : Nat) (hi : ¬ i < s.size) (e : M.syntax_parser_alternation (pS s 0 0) = some (r, pS s i d)) : M.syntax_Parse s = some (r, 0, 0) := by
  rw [M.syntax_Parse, if_neg (by omega)]
  show (M.syntax_parser_alternation (pS s 0 0) >>= _) = _
  rw [e, bnd]
  show (some none >>= _) = _
  rw [bnd]
  show M.syntax_Parse_l0 (_, pS s i d, r, decide ((i : Int) < (s.size : Int))) = _
  rw [decide_eq_false (by omega), M.syntax_Parse_l0]; try dsimp only
  rw [if_neg (by decide), M.syntax_Parse_l1]
  show (some none >>= _) = _
  rw [bnd]
  show M.syntax_Parse_l2 (_, pS s i d, r, false) = _
  rw [M.syntax_Parse_l2]; try dsimp only
  rw [if_neg (by decide)]
theorem one97 : M.syntax_one 97 = some [0, 8589934592, 0, 0] := by rw [M.syntax_one]; decide
theorem one98 : M.syntax_one 98 = some [0, 17179869184, 0, 0] := by rw [M.syntax_one]; decide
theorem rt_leaf (l : List Int) (h : SetOk l) : Rt 1 ⟨1, l, [], 0, 0⟩ := ⟨.inl ⟨rfl, rfl, rfl, rfl⟩, h, by simp⟩
theorem Rt.fit : ∀ {d : Nat} {r : T27} (e : Nat), Rt d r → nd r ≤ 4096 → Fit e r
  | _, _, 0, _, _ => trivial
  | 0, _, _ + 1, h, _ => absurd h id
  | d + 1, r, e + 1, h, hn => ⟨h.2.1, by rw [nd_eq] at hn; have := nds_len r.L; omega, fun x hx => Rt.fit e (h.2.2 x hx) (by rw [nd_eq] at hn; have := nd_mem hx; omega)⟩
theorem ss_size (s : ByteArray) (i j : Nat) (h1 : i ≤ j) (h2 : j ≤ s.size) : (ss s (i : Int) (j : Int)).size = j - i := by
  simp only [ss, ByteArray.size_extract, Int.toNat_natCast]
  omega
theorem U_s2b (s : ByteArray) : U s s.size = s2b s := by
  unfold U s2b
  apply List.ext_getElem
  · simp
  · intro i h1 h2
    simp only [List.length_map, List.length_range] at h1
    simp only [List.getElem_map, List.getElem_range]
    unfold bt
    rw [dif_pos (by rw [Int.toNat_natCast]; exact h1)]
    simp only [Int.toNat_natCast]
    rfl
theorem s2b_range (s : ByteArray) : ∀ x ∈ s2b s, 0 ≤ x ∧ x ≤ 255 := by
  intro x hx
  simp only [s2b, List.mem_map] at hx
  obtain ⟨b, _, rfl⟩ := hx
  have := b.toNat_lt
  omega
theorem b2s_size (l : List Int) : (b2s l).size = l.length := by
  show ((l.map fun x => x.toNat.toUInt8).toArray).size = l.length
  simp
theorem bt_b2s (l : List Int) (i : Nat) (h : i < l.length) (h0 : 0 ≤ l[i]) (h1 : l[i] ≤ 255) : bt (b2s l) (i : Int) = l[i] := by
  unfold bt
  rw [dif_pos (by rw [b2s_size, Int.toNat_natCast]; exact h)]
  have e : (b2s l)[((i : Int).toNat)]'(by rw [b2s_size, Int.toNat_natCast]; exact h) = (l[i].toNat).toUInt8 := by
    show ((l.map fun x => x.toNat.toUInt8).toArray)[((i : Int).toNat)]'_ = _
    simp
  rw [e]
  have : ((l[i].toNat).toUInt8).toNat = l[i].toNat := by
    rw [Nat.toUInt8, UInt8.toNat_ofNat']
    exact Nat.mod_eq_of_lt (by omega)
  rw [this]
  omega
theorem s2b_inj {s t : ByteArray} : s2b s = s2b t ↔ s.toList = t.toList := by
  rw [Go.ByteArray.toList_eq, Go.ByteArray.toList_eq]
  unfold s2b
  constructor
  · intro h
    exact (List.map_inj_right (fun a b hab => UInt8.toNat_inj.1 (by omega))).1 h
  · intro h; rw [h]
theorem s2b_app (s t : ByteArray) : s2b (s ++ t) = s2b s ++ s2b t := by
  simp [s2b, ByteArray.data_append]
def oneL (b : Int) : List Int := si [0, 0, 0, 0] (b / 64) (ishl .u64 1 (b % 64))
theorem one_eq {b : Int} (h0 : 0 ≤ b) (h1 : b ≤ 255) : M.syntax_one b = some (oneL b) := by
  rw [M.syntax_one, iquo64 h0 h1, irem64 h0, if_pos (by omega), if_pos (by omega), if_pos (by omega)]
  rfl
theorem ishl_one (k : Nat) (hk : k < 64) : ishl .u64 1 (k : Int) = ((2 ^ k : Nat) : Int) := by
  have hp : 2 ^ k < 18446744073709551616 := by
    have : 2 ^ k < 2 ^ 64 := Nat.pow_lt_pow_right (by omega) hk
    exact this
  unfold ishl
  rw [Int.toNat_natCast, show min k IntKind.u64.bits = k by have : IntKind.u64.bits = 64 := rfl; omega, Int.one_mul]
  have e : ((2 : Int) ^ k) = ((2 ^ k : Nat) : Int) := by push_cast; rfl
  rw [e]
  generalize 2 ^ k = p at hp
  simp only [IntKind.wrap, IntKind.signed, IntKind.bits]
  simp
  exact Int.emod_eq_of_lt (by omega) (by omega)
theorem oneL_ok {b : Int} (h0 : 0 ≤ b) (h1 : b ≤ 255) : SetOk (oneL b) := by
  refine ⟨by simp [oneL, si], fun x hx => ?_⟩
  obtain ⟨k, hk⟩ := Int.eq_ofNat_of_zero_le (show 0 ≤ b % 64 by omega)
  have hk64 : k < 64 := by omega
  have hp : 2 ^ k < 18446744073709551616 := by
    have : 2 ^ k < 2 ^ 64 := Nat.pow_lt_pow_right (by omega) hk64
    exact this
  rcases List.mem_or_eq_of_mem_set hx with hx | rfl
  · simp at hx; omega
  · rw [hk, ishl_one k hk64]
    generalize 2 ^ k = p at hp
    constructor <;> omega
def asB (b : Int) : Bool := M.syntax_asIs b == some true
def hx (v : Int) : Int := if v < 10 then 48 + v else 87 + v
def qb (b : Int) : List Int := if asB b = true then [b] else [92, 120, hx (b / 16), hx (b % 16)]
def HEX : ByteArray := ⟨#[48, 49, 50, 51, 52, 53, 54, 55, 56, 57, 97, 98, 99, 100, 101, 102]⟩
theorem asis_tot (b : Int) : M.syntax_asIs b = some (asB b) := by
  have : ∃ v, M.syntax_asIs b = some v := by
    have l1 : ∀ c, ∃ v, M.syntax_asIs_l1 (b, c) = some v := by
      intro c
      rw [M.syntax_asIs_l1]; try dsimp only
      repeat' split
      all_goals first | exact ⟨_, rfl⟩ | (rw [idx_eq, bnd]; exact ⟨_, rfl⟩)
    have l0 : ∀ c, ∃ v, M.syntax_asIs_l0 (b, c) = some v := by
      intro c
      rw [M.syntax_asIs_l0]; try dsimp only
      repeat' split
      all_goals first | exact ⟨_, rfl⟩ | exact l1 _
    rw [M.syntax_asIs]
    split
    · exact l0 _
    · exact l0 _
  obtain ⟨v, hv⟩ := this
  rw [asB, hv]
  cases v <;> rfl
def plainB (n : Nat) : Bool := decide (32 ≤ n) && decide (n ≤ 126) && decide (ixB (⟨#[93, 41, 42, 43, 63, 123, 125, 94, 36, 124]⟩ : ByteArray) (n : Int) < 0) && !([40, 46, 91, 92, 42, 43, 63, 123, 124, 41].contains n)
theorem asB_all : ∀ n : Nat, n < 256 → asB (n : Int) = true → plainB n = true := by decide +kernel
theorem asB_spec (n : Nat) (h0 : n < 256) (h1 : asB (n : Int) = true) : 32 ≤ n ∧ n ≤ 126 ∧ ¬ ixB (⟨#[93, 41, 42, 43, 63, 123, 125, 94, 36, 124]⟩ : ByteArray) (n : Int) ≥ 0 ∧ n ≠ 40 ∧ n ≠ 46 ∧ n ≠ 91 ∧ n ≠ 92 ∧ n ≠ 42 ∧ n ≠ 43 ∧ n ≠ 63 ∧ n ≠ 123 ∧ n ≠ 124 ∧ n ≠ 41 := by
  have h := asB_all n h0 h1
  simp only [plainB, Bool.and_eq_true, decide_eq_true_eq, Bool.not_eq_true', List.contains_eq_mem, List.mem_cons, List.not_mem_nil, or_false, decide_eq_false_iff_not, not_or] at h
  omega
theorem hex_at : ∀ v : Nat, v < 16 → s2b (ss HEX (v : Int) ((v + 1 : Nat) : Int)) = [hx (v : Int)] ∧ (ss HEX (v : Int) ((v + 1 : Nat) : Int)).size = 1 := by decide +kernel
theorem nib_at : ∀ v : Nat, v < 16 → M.syntax_nibble (hx (v : Int)) = some (v : Int) := by decide +kernel
theorem hx_ne : ∀ v : Nat, v < 16 → 48 ≤ hx (v : Int) ∧ hx (v : Int) ≤ 102 := by decide +kernel
theorem byte_of : ∀ b : Nat, b < 256 → ior .u8 (ishl .u8 ((b : Int) / 16) 4) ((b : Int) % 16) = (b : Int) := by decide +kernel
theorem shr4 : ∀ b : Nat, b < 256 → ishr .u8 (b : Int) 4 = (b : Int) / 16 ∧ iand .u8 (b : Int) 15 = (b : Int) % 16 := by decide +kernel
theorem u8_small : ∀ v : Nat, v < 16 → wr .u8 (v : Int) = (v : Int) ∧ wr .u8 ((v : Int) + 1) = ((v + 1 : Nat) : Int) := by decide +kernel
theorem qb_range {b : Int} (h0 : 0 ≤ b) (h1 : b ≤ 255) : (∀ x ∈ qb b, 0 ≤ x ∧ x ≤ 255) ∧ (qb b).length ≤ 4 ∧ 1 ≤ (qb b).length := by
  unfold qb
  split
  · exact ⟨fun x hx => by rw [List.mem_singleton.1 hx]; exact ⟨h0, h1⟩, by simp, by simp⟩
  · refine ⟨fun x hx => ?_, by simp, by simp⟩
    obtain ⟨a, ha⟩ := Int.eq_ofNat_of_zero_le (show 0 ≤ b / 16 by omega)
    obtain ⟨c, hc⟩ := Int.eq_ofNat_of_zero_le (show 0 ≤ b % 16 by omega)
    have p := hx_ne a (by omega)
    have q := hx_ne c (by omega)
    rw [ha, hc] at hx
    simp at hx
    rcases hx with rfl | rfl | rfl | rfl <;> omega
theorem qfl_len : ∀ l : List Int, (∀ b ∈ l, 0 ≤ b ∧ b ≤ 255) → (l.flatMap qb).length ≤ 4 * l.length
  | [], _ => by simp
  | b :: l, h => by
    have h1 := (qb_range (h b (by simp)).1 (h b (by simp)).2).2.1
    have h2 := qfl_len l (fun x hx => h x (by simp [hx]))
    rw [List.flatMap_cons, List.length_append, List.length_cons]
    omega
theorem qfl_range (l : List Int) (h : ∀ b ∈ l, 0 ≤ b ∧ b ≤ 255) : ∀ x ∈ l.flatMap qb, 0 ≤ x ∧ x ≤ 255 := by
  intro x hx
  obtain ⟨b, hb, hx⟩ := List.mem_flatMap.1 hx
  exact (qb_range (h b hb).1 (h b hb).2).1 x hx
def leaf (b : Int) : T27 := ⟨1, oneL b, [], 0, 0⟩
theorem pk_b2s (l : List Int) (h : ∀ x ∈ l, 0 ≤ x ∧ x ≤ 255) (i : Nat) : pk (b2s l) i = if hi : i < l.length then l[i] else 0 := by
  unfold pk
  rw [b2s_size]
  by_cases hi : i < l.length
  · rw [if_pos hi, dif_pos hi]
    have := h _ (List.getElem_mem hi)
    exact bt_b2s l i hi this.1 this.2
  · rw [if_neg hi, dif_neg hi]
theorem pk_mid (l pre : List Int) (b : Int) (R : List Int) (h : ∀ x ∈ l, 0 ≤ x ∧ x ≤ 255) (e : l = pre ++ b :: R) : pk (b2s l) pre.length = b := by
  rw [pk_b2s l h, dif_pos (by rw [e]; simp)]
  simp [e]
theorem digit_eq (s : ByteArray) (i d : Nat) (hi : i ≤ 1000) (v : Nat) (hv : v < 16) (h : pk s i = hx (v : Int)) : M.syntax_parser_digit (pS s i d) = some ((v : Int), pS s (i + 1) d) := by
  rw [M.syntax_parser_digit, peek_eq, bnd]; dsimp only
  rw [h, nib_at v hv, bnd, if_neg (by omega), (u8_small v hv).1]
  show some (_, (⟨s, wr .i64 ((i : Int) + 1), (d : Int), none⟩ : T68)) = _
  rw [wr_i64 (by omega) (by omega)]
  rfl
theorem class_x : M.syntax_class 120 = some ([0, 0, 0, 0], false) := by
  rw [M.syntax_class, if_neg (by decide), if_neg (by decide), if_neg (by decide)]
theorem atom_hex (s : ByteArray) (i d : Nat) (hi : i ≤ 900) (b : Nat) (hb : b < 256) (h0 : pk s i = 92) (h1 : pk s (i + 1) = 120) (h2 : pk s (i + 2) = hx ((b : Int) / 16)) (h3 : pk s (i + 3) = hx ((b : Int) % 16)) :
    M.syntax_parser_atom (pS s i d) = some (leaf (b : Int), pS s (i + 4) d) := by
  obtain ⟨a, ha⟩ := Int.eq_ofNat_of_zero_le (show 0 ≤ (b : Int) / 16 by omega)
  obtain ⟨c, hc⟩ := Int.eq_ofNat_of_zero_le (show 0 ≤ (b : Int) % 16 by omega)
  have hby := byte_of b hb
  rw [ha] at h2 hby
  rw [hc] at h3 hby
  have esc : M.syntax_parser_escape (pS s (i + 1) d) = some (⟨oneL (b : Int), (b : Int), true⟩, pS s (i + 4) d) := by
    rw [M.syntax_parser_escape, peek_eq, bnd]; dsimp only
    rw [h1, class_x, bnd]; dsimp only
    rw [if_neg (by decide), if_pos rfl]
    have e : (⟨(pS s (i + 1) d).s, wr .i64 ((pS s (i + 1) d).at_ + 1), (pS s (i + 1) d).deep, (pS s (i + 1) d).bad⟩ : T68) = pS s (i + 2) d := by
      show (⟨s, wr .i64 (((i + 1 : Nat) : Int) + 1), (d : Int), none⟩ : T68) = _
      rw [wr_i64 (by omega) (by omega)]
      rfl
    rw [e, digit_eq s (i + 2) d (by omega) a (by omega) h2, bnd]; dsimp only
    rw [digit_eq s (i + 3) d (by omega) c (by omega) h3, bnd]; dsimp only
    rw [hby, M.syntax_of, one_eq (by omega) (by omega), bnd, bnd]
  rw [M.syntax_parser_atom, peek_eq, bnd]; dsimp only
  rw [h0, if_neg (by decide), if_neg (by decide), idx_eq, bnd, decide_eq_false (by decide), M.syntax_parser_atom_l0]; try dsimp only
  rw [if_neg (by decide), if_neg (by decide), M.syntax_parser_atom_l1]; try dsimp only
  rw [if_neg (by decide), take_eq s i d (by omega) 46 (by omega), if_neg (by omega), bnd]; dsimp only
  rw [if_neg (by decide), take_eq s i d (by omega) 91 (by omega), if_neg (by omega), bnd]; dsimp only
  rw [if_neg (by decide), take_eq s i d (by omega) 40 (by omega), if_neg (by omega), bnd]; dsimp only
  rw [if_neg (by decide), take_eq s i d (by omega) 92 (by omega), if_pos h0, bnd]; dsimp only
  rw [if_pos rfl, esc, bnd]
  rfl
theorem several_all (L : List T27) : ∃ r, M.syntax_several 2 L = some r ∧ ((∃ x, L = [x] ∧ r = x) ∨ r = ⟨2, Z4, L, 0, 0⟩) := by
  rw [M.syntax_several]
  by_cases h : L.length = 1
  · match L, h with
    | [x], _ => exact ⟨x, by rw [if_pos (by simp), if_pos (by simp), show gi [x] 0 = x from rfl, eta27], .inl ⟨x, rfl, rfl⟩⟩
  · rw [if_neg (by omega)]
    exact ⟨_, rfl, .inr rfl⟩
theorem nds_leaves : ∀ bs : List Int, nds (bs.map leaf) = bs.length
  | [] => rfl
  | b :: bs => by rw [List.map_cons, nds, nds_leaves bs, nd_eq]; simp [leaf, nds]; omega
end Go.Proofs.YtemokppdnkiejaaDoor
