/-
  What may be is judged; how many instructions code has; the code that is written.
-/
import Derived.Test.YtemokppdnkiejaaGreatPSFA
import Derived.Test.YtemokppdnkiejaaGreatGS
set_option linter.unusedVariables false
set_option linter.unusedSimpArgs false
namespace Go.Proofs.YtemokppdnkiejaaGreat
open Go.Gx
theorem bnd {α β : Type} (a : α) (f : α → Option β) : (some a >>= f) = f a := rfl
theorem wr_i64 {x : Int} (h0 : -9223372036854775808 ≤ x) (h1 : x ≤ 9223372036854775807) : wr .i64 x = x := by
  simp only [wr, IntKind.wrap, IntKind.signed, IntKind.bits]
  simp
  split <;> omega
theorem eta57 (r : T57) : (⟨r.Kind, r.Set, r.L, r.Min, r.Max⟩ : T57) = r := by cases r; rfl
theorem gi_mid {α : Type} [Inhabited α] (pre : List α) (r : α) (t : List α) : gi (pre ++ r :: t) (pre.length : Int) = r := by
  simp [gi]
/-! ### Sizes -/
mutual
def nd : T57 → Nat
  | ⟨_, _, L, _, _⟩ => 1 + nds L
def nds : List T57 → Nat
  | [] => 0
  | x :: xs => nd x + nds xs
end
theorem nd_eq (r : T57) : nd r = 1 + nds r.L := by cases r; rw [nd]
theorem nd_pos (r : T57) : 1 ≤ nd r := by rw [nd_eq]; omega
theorem nds_len : ∀ L : List T57, L.length ≤ nds L
  | [] => by simp
  | x :: xs => by have := nds_len xs; have := nd_pos x; rw [nds]; simp; omega
def Dp : Nat → T57 → Prop
  | 0, _ => False
  | d + 1, r => ∀ x ∈ r.L, Dp d x
theorem Dp.mono : ∀ {d e : Nat} {r : T57}, Dp d r → d ≤ e → Dp e r
  | 0, _, _, h, _ => absurd h id
  | d + 1, 0, _, _, he => by omega
  | d + 1, e + 1, r, h, he => fun x hx => (h x hx).mono (by omega)
def SetOk (l : List Int) : Prop := l.length = 4 ∧ ∀ x ∈ l, 0 ≤ x ∧ x < 18446744073709551616
theorem SetOk.Z4 : SetOk Z4 := ⟨rfl, fun x hx => by simp [Go.Proofs.YtemokppdnkiejaaGreat.Z4] at hx; omega⟩
def Fit : Nat → T57 → Prop
  | 0, _ => True
  | d + 1, r => SetOk r.Set ∧ r.L.length ≤ 9223372036854775807 ∧ ∀ x ∈ r.L, Fit d x
theorem Fit.mono : ∀ {d e : Nat} {r : T57}, Fit d r → e ≤ d → Fit e r
  | _, 0, _, _, _ => trivial
  | 0, e + 1, _, _, he => by omega
  | d + 1, e + 1, r, h, he => ⟨h.1, h.2.1, fun x hx => (h.2.2 x hx).mono (by omega)⟩
def Shp (r : T57) : Prop :=
  (r.Kind = 1 ∧ r.L = [] ∧ r.Min = 0 ∧ r.Max = 0) ∨ ((r.Kind = 2 ∨ r.Kind = 3) ∧ r.Set = Z4 ∧ r.Min = 0 ∧ r.Max = 0) ∨
    (r.Kind = 4 ∧ (∃ x, r.L = [x]) ∧ r.Set = Z4 ∧ 0 ≤ r.Min ∧ r.Min ≤ 64 ∧ (r.Max = -1 ∨ (r.Min ≤ r.Max ∧ r.Max ≤ 64)))
def Rt : Nat → T57 → Prop
  | 0, _ => False
  | d + 1, r => Shp r ∧ SetOk r.Set ∧ ∀ x ∈ r.L, Rt d x
theorem Rt.mono : ∀ {d e : Nat} {r : T57}, Rt d r → d ≤ e → Rt e r
  | 0, _, _, h, _ => absurd h id
  | d + 1, 0, _, _, he => by omega
  | d + 1, e + 1, r, h, he => ⟨h.1, h.2.1, fun x hx => (h.2.2 x hx).mono (by omega)⟩
theorem Rt.dp : ∀ {d : Nat} {r : T57}, Rt d r → Dp d r
  | 0, _, h => h
  | d + 1, r, h => fun x hx => (h.2.2 x hx).dp
/-! ### count -/
theorem count_tot (left : Nat) : left ≤ 128 → ∀ (r : T57) (n : Nat), Fit left r → n ≤ 4096 → ∃ (b : Bool) (n' : Nat), M.syntax_count (r, (left : Int), (n : Int)) = some (b, (n' : Int)) ∧ (b = true → n' = n + nd r ∧ n' ≤ 4096 ∧ Dp left r) ∧ (n + nd r ≤ 4096 → Dp left r → b = true) := by
  induction left with
  | zero =>
    intro hl r n hf hn
    refine ⟨false, n + 1, ?_, by simp, fun _ h => absurd h id⟩
    rw [M.syntax_count]; try dsimp only
    rw [if_pos (by omega), wr_i64 (by omega) (by omega), M.syntax_count_l0]; try dsimp only
    rw [if_pos rfl]
    try rfl
  | succ left ih =>
    intro hl r n hf hn
    rw [M.syntax_count]; try dsimp only
    rw [if_neg (by omega), wr_i64 (by omega) (by omega), M.syntax_count_l0]; try dsimp only
    by_cases hm : n + 1 > 4096
    · refine ⟨false, n + 1, ?_, by simp, fun h _ => by have := nd_pos r; omega⟩
      rw [decide_eq_true (by omega), if_pos rfl]
      try rfl
    rw [decide_eq_false (by omega), if_neg (by decide)]
    have loop : ∀ (L pre : List T57) (m : Nat), r.L = pre ++ L → m ≤ 4096 → ∃ (b : Bool) (n' : Nat), M.syntax_count_l1 (((left + 1 : Nat) : Int), r.L, (r.L.length : Int), (pre.length : Int), (m : Int)) = some (b, (n' : Int)) ∧
        (b = true → n' = m + nds L ∧ n' ≤ 4096 ∧ ∀ x ∈ L, Dp left x) ∧ (m + nds L ≤ 4096 → (∀ x ∈ L, Dp left x) → b = true) := by
      intro L
      induction L with
      | nil =>
        intro pre m e hm
        refine ⟨true, m, ?_, fun _ => ⟨by simp [nds], hm, by simp⟩, fun _ _ => rfl⟩
        rw [M.syntax_count_l1]; try dsimp only
        rw [if_neg (by rw [e]; simp)]
      | cons x L ihL =>
        intro pre m e hm
        have hlen : r.L.length = pre.length + (L.length + 1) := by rw [e]; simp
        have hx : x ∈ r.L := by rw [e]; simp
        have hbig := hf.2.1
        obtain ⟨b, n', h1, h2, h3⟩ := ih (by omega) x m (hf.2.2 x hx) hm
        rw [M.syntax_count_l1]; try dsimp only
        rw [if_pos (by omega), if_pos (by omega), if_pos (by omega), show gi r.L (pre.length : Int) = x by rw [e]; exact gi_mid pre x L, eta57, wr_i64 (x := ((left + 1 : Nat) : Int) - 1) (by omega) (by omega),
          show ((left + 1 : Nat) : Int) - 1 = (left : Int) by omega, h1, bnd]
        dsimp only
        cases b with
        | false =>
          refine ⟨false, n', by rw [if_neg (by decide)], by simp, fun h4 h5 => ?_⟩
          have := h3 (by rw [nds] at h4; omega) (h5 x (by simp))
          cases this
        | true =>
          obtain ⟨k1, k2, k3⟩ := h2 rfl
          rw [if_pos rfl, wr_i64 (by omega) (by omega)]
          obtain ⟨b', n'', g1, g2, g3⟩ := ihL (pre ++ [x]) n' (by rw [e]; simp) k2
          rw [show (((pre ++ [x]).length : Nat) : Int) = (pre.length : Int) + 1 by simp] at g1
          refine ⟨b', n'', g1, fun hb => ?_, fun h4 h5 => g3 (by rw [nds] at h4; omega) fun y hy => h5 y (by simp [hy])⟩
          obtain ⟨j1, j2, j3⟩ := g2 hb
          refine ⟨by rw [nds]; omega, j2, fun y hy => ?_⟩
          rcases List.mem_cons.1 hy with rfl | hy
          · exact k3
          · exact j3 y hy
    obtain ⟨b, n', h1, h2, h3⟩ := loop r.L [] (n + 1) rfl (by omega)
    refine ⟨b, n', h1, fun hb => ?_, fun h4 h5 => h3 (by rw [nd_eq] at h4; omega) h5⟩
    obtain ⟨k1, k2, k3⟩ := h2 hb
    exact ⟨by rw [nd_eq]; omega, k2, k3⟩
/-! ### right -/
theorem shaped_iff (r : T57) : ∃ b, M.syntax_shaped r = some b ∧ (b = true ↔ Shp r) := by
  have l3 : ∀ c d : Bool, M.syntax_shaped_l3 (r, [0, 0, 0, 0], c, d) = some (decide (r.L.length = 1) && decide (r.Set = Z4) && c && d) := by
    intro c d
    rw [M.syntax_shaped_l3]; try dsimp only
    by_cases h1 : r.L.length = 1
    · rw [if_pos (by omega)]
      by_cases h2 : r.Set = [0, 0, 0, 0]
      · rw [if_pos h2]
        cases c
        · rw [if_neg (by decide)]; simp [h1]
        · rw [if_pos rfl]; simp [h1, Z4, h2]
      · rw [if_neg h2]; simp [Z4, h2]
    · rw [if_neg (by omega)]; simp [h1]
  have l2 : ∀ c : Bool, M.syntax_shaped_l2 (r, [0, 0, 0, 0], c) = some (decide (r.L.length = 1) && decide (r.Set = Z4) && c && decide (r.Max = -1 ∨ (r.Min ≤ r.Max ∧ r.Max ≤ 64))) := by
    intro c
    rw [M.syntax_shaped_l2]; try dsimp only
    by_cases h1 : r.Max = -1
    · rw [if_pos h1, l3]; simp [h1]
    · rw [if_neg h1]
      by_cases h2 : r.Min ≤ r.Max
      · rw [if_pos (by omega), l3]; simp [h1, h2]
      · rw [if_neg (by omega), l3]; simp [h1, h2]
  have l1 : ∀ (c : Bool) (k : Int) (d : Bool), M.syntax_shaped_l1 (r, [0, 0, 0, 0], c, k, d) = some (if d = true then decide (r.Set = Z4) && c else decide (k = 4) && (decide (r.L.length = 1) && decide (r.Set = Z4) && decide (0 ≤ r.Min ∧ r.Min ≤ 64) && decide (r.Max = -1 ∨ (r.Min ≤ r.Max ∧ r.Max ≤ 64)))) := by
    intro c k d
    rw [M.syntax_shaped_l1]; try dsimp only
    cases d
    · simp only [Bool.false_eq_true, if_false]
      by_cases h1 : k = 4
      · rw [if_pos h1]
        by_cases h2 : 0 ≤ r.Min
        · rw [if_pos (by omega), l2]; simp [h1, h2]
        · rw [if_neg (by omega), l2]; simp [h2]
      · rw [if_neg h1]; simp [h1]
    · rw [if_pos rfl, if_pos rfl]
      by_cases h2 : r.Set = [0, 0, 0, 0]
      · rw [if_pos h2]; simp [Z4, h2]
      · rw [if_neg h2]; simp [Z4, h2]
  have l0 : ∀ c : Bool, M.syntax_shaped_l0 (r, [0, 0, 0, 0], c) = some (if r.Kind = 1 then decide (r.L.length = 0) && c else if r.Kind = 2 ∨ r.Kind = 3 then decide (r.Set = Z4) && c else
      decide (r.Kind = 4) && (decide (r.L.length = 1) && decide (r.Set = Z4) && decide (0 ≤ r.Min ∧ r.Min ≤ 64) && decide (r.Max = -1 ∨ (r.Min ≤ r.Max ∧ r.Max ≤ 64)))) := by
    intro c
    rw [M.syntax_shaped_l0]; try dsimp only
    by_cases h1 : r.Kind = 1
    · rw [if_pos h1, if_pos h1]
      by_cases h2 : r.L.length = 0
      · rw [if_pos (by omega)]; simp [h2]
      · rw [if_neg (by omega)]; simp [h2]
    rw [if_neg h1, if_neg h1]
    by_cases h2 : r.Kind = 2
    · rw [if_pos h2, l1, if_pos rfl, if_pos (.inl h2)]
    rw [if_neg h2, l1]
    by_cases h3 : r.Kind = 3
    · rw [if_pos (by simpa using h3), if_pos (.inr h3)]
    · rw [if_neg (by simpa using h3), if_neg (by omega)]
  have one : (∃ x, r.L = [x]) ↔ r.L.length = 1 := by
    constructor
    · rintro ⟨x, h⟩; rw [h]; rfl
    · intro h
      match hL : r.L, h with
      | [x], _ => exact ⟨x, rfl⟩
  have zero : r.L = [] ↔ r.L.length = 0 := by
    constructor
    · intro h; rw [h]; rfl
    · exact List.length_eq_zero_iff.1
  rw [M.syntax_shaped]; try dsimp only
  unfold Shp
  rw [one, zero]
  by_cases hm : r.Min = 0
  · rw [if_pos hm, l0]
    refine ⟨_, rfl, ?_⟩
    split
    · rename_i h1; simp [h1, hm]
    · split
      · rename_i h1 h2; rcases h2 with h2 | h2 <;> simp [h2, hm]
      · rename_i h1 h2; simp only [not_or] at h2; simp [h1, h2.1, h2.2, hm, and_assoc]
  · rw [if_neg hm, l0]
    refine ⟨_, rfl, ?_⟩
    split
    · rename_i h1; simp [h1, hm]
    · split
      · rename_i h1 h2; rcases h2 with h2 | h2 <;> simp [h2, hm]
      · rename_i h1 h2; simp only [not_or] at h2; simp [h1, h2.1, h2.2, hm, and_assoc]
theorem right_tot (d : Nat) : ∀ r : T57, Dp d r → Fit d r → nds r.L ≤ 4096 → ∃ b, M.syntax_right r = some b ∧ (b = true ↔ Rt d r) := by
  induction d with
  | zero => intro r h; exact absurd h id
  | succ d ih =>
    intro r hd hf hn
    obtain ⟨bs, s1, s2⟩ := shaped_iff r
    have loop : ∀ (L pre : List T57), r.L = pre ++ L → ∃ b, M.syntax_right_l0 (r, r.L, (r.L.length : Int), (pre.length : Int)) = some b ∧ (b = true ↔ (Shp r ∧ ∀ x ∈ L, Rt d x)) := by
      intro L
      induction L with
      | nil =>
        intro pre e
        refine ⟨bs, ?_, by simpa using s2⟩
        rw [M.syntax_right_l0]; try dsimp only
        rw [if_neg (by rw [e]; simp), s1, bnd]
      | cons x L ihL =>
        intro pre e
        have hlen : r.L.length = pre.length + (L.length + 1) := by rw [e]; simp
        have hx : x ∈ r.L := by rw [e]; simp
        have hl := nds_len r.L
        have hnx : nds x.L ≤ 4096 := by
          have : ∀ (l : List T57), x ∈ l → nd x ≤ nds l := by
            intro l
            induction l with
            | nil => simp
            | cons y l ih =>
              intro h
              rw [nds]
              rcases List.mem_cons.1 h with rfl | h
              · omega
              · have := ih h; omega
          have := this _ hx
          rw [nd_eq] at this
          omega
        obtain ⟨b, h1, h2⟩ := ih x (hd x hx) (hf.2.2 x hx) hnx
        rw [M.syntax_right_l0]; try dsimp only
        rw [if_pos (by omega), if_pos (by omega), if_pos (by omega), show gi r.L (pre.length : Int) = x by rw [e]; exact gi_mid pre x L, eta57, h1, bnd]
        cases b with
        | false =>
          refine ⟨false, by rw [if_neg (by decide)], ?_⟩
          simp only [Bool.false_eq_true, false_iff] at h2 ⊢
          rintro ⟨_, h⟩
          exact h2 (h x (by simp))
        | true =>
          rw [if_pos rfl, wr_i64 (by omega) (by omega)]
          obtain ⟨b', g1, g2⟩ := ihL (pre ++ [x]) (by rw [e]; simp)
          rw [show (((pre ++ [x]).length : Nat) : Int) = (pre.length : Int) + 1 by simp] at g1
          refine ⟨b', g1, g2.trans ?_⟩
          have := h2.1 rfl
          simp [this]
    obtain ⟨b, h1, h2⟩ := loop r.L [] rfl
    refine ⟨b, ?_, h2.trans ⟨fun h => ⟨h.1, hf.1, h.2⟩, fun h => ⟨h.1, h.2.2⟩⟩⟩
    rw [M.syntax_right]; try dsimp only
    exact h1
theorem check_tot (r : T57) (hf : Fit 128 r) : ∃ b, M.syntax_Check r = some b ∧ (b = true ↔ (Rt 128 r ∧ nd r ≤ 4096)) := by
  obtain ⟨b, n, h1, h2, h3⟩ := count_tot 128 (Nat.le_refl _) r 0 hf (by omega)
  have hs : M.syntax_Size r = if b = true then M.syntax_right r >>= fun y8 => if y8 = true then some (n : Int) else some 0 else some 0 := by
    rw [M.syntax_Size]
    have h1' : M.syntax_count (r, 128, 0) = some (b, (n : Int)) := h1
    rw [h1', bnd]
  rw [M.syntax_Check, hs]
  cases b with
  | false =>
    rw [if_neg (by decide), bnd]
    refine ⟨_, rfl, ?_⟩
    simp only [gt_iff_lt, Int.lt_irrefl, decide_false, Bool.false_eq_true, false_iff]
    rintro ⟨k1, k2⟩
    have := h3 (by omega) k1.dp
    cases this
  | true =>
    obtain ⟨k1, k2, k3⟩ := h2 rfl
    obtain ⟨c, g1, g2⟩ := right_tot 128 r k3 hf (by rw [nd_eq] at k1; omega)
    rw [if_pos rfl, g1, bnd]
    cases c with
    | false =>
      rw [if_neg (by decide), bnd]
      refine ⟨_, rfl, ?_⟩
      simp only [gt_iff_lt, Int.lt_irrefl, decide_false, Bool.false_eq_true, false_iff] at g2 ⊢
      rintro ⟨k, _⟩
      exact g2 k
    | true =>
      have := nd_pos r
      rw [if_pos rfl, bnd]
      refine ⟨_, rfl, ?_⟩
      simp only [true_iff] at g2
      simp only [gt_iff_lt, decide_eq_true_eq]
      exact ⟨fun _ => ⟨g2, by omega⟩, fun _ => by omega⟩
end Go.Proofs.YtemokppdnkiejaaGreat
