/-
  Patterns, their programs, what other claims' texts say of them.
-/
import Derived.Test.YtemokppdnkiejaaDoorMMk
import Derived.Test.YtemokppdnkiejaaDoorGS
set_option linter.unusedVariables false
set_option linter.unusedSimpArgs false
namespace Go.Proofs.YtemokppdnkiejaaDoor
open Go.Gx
/-- (what is asked of a set: nothing here) -/
def SetQ (l : List Int) : Prop := True
theorem SetQ.any (l : List Int) : SetQ l := trivial
inductive Pa
  | of (r : T27)
  | lp (r : T27)
  | ph (r : T27)
def Z4 : List Int := [0, 0, 0, 0]
mutual
inductive Cd : T27 → Nat → Nat → List T48 → Prop
  | set {s : List Int} {L : List T27} {mn mx : Int} {a n : Nat} : Cd ⟨1, s, L, mn, mx⟩ a n [⟨1, s, (n : Int), 0⟩]
  | all {s : List Int} {x : T27} {L : List T27} {mn mx : Int} {a n : Nat} {c : List T48} : Row ((x :: L).map Pa.of) n a n c → Cd ⟨2, s, x :: L, mn, mx⟩ a n c
  | void {s : List Int} {mn mx : Int} {a n : Nat} : Cd ⟨2, s, [], mn, mx⟩ a n [⟨4, Z4, (n : Int), 0⟩]
  | any {s : List Int} {x : T27} {L : List T27} {mn mx : Int} {a n : Nat} {c : List T48} : An (x :: L) a n c → Cd ⟨3, s, x :: L, mn, mx⟩ a n c
  | none {s : List Int} {mn mx : Int} {a n : Nat} : Cd ⟨3, s, [], mn, mx⟩ a n [⟨1, Z4, (n : Int), 0⟩]
  | star {s : List Int} {x : T27} {mn : Nat} {mx : Int} {a n : Nat} {c : List T48} : mx < 0 → Row (List.replicate mn (Pa.of x) ++ [Pa.lp x]) n a n c → Cd ⟨4, s, [x], (mn : Int), mx⟩ a n c
  | times {s : List Int} {x : T27} {mn k : Nat} {a n : Nat} {c : List T48} : 0 < mn + k → Row (List.replicate mn (Pa.of x) ++ List.replicate k (Pa.ph x)) n a n c → Cd ⟨4, s, [x], (mn : Int), ((mn + k : Nat) : Int)⟩ a n c
  | never {s : List Int} {x : T27} {a n : Nat} : Cd ⟨4, s, [x], 0, 0⟩ a n [⟨4, Z4, (n : Int), 0⟩]
inductive An : List T27 → Nat → Nat → List T48 → Prop
  | one {x : T27} {a n : Nat} {c : List T48} : Cd x a n c → An [x] a n c
  | more {x y : T27} {ys : List T27} {a n : Nat} {c d : List T48} : Cd x (a + 1) n c → An (y :: ys) (a + 1 + c.length) n d → An (x :: y :: ys) a n (⟨2, Z4, ((a + 1 : Nat) : Int), ((a + 1 + c.length : Nat) : Int)⟩ :: (c ++ d))
inductive Row : List Pa → Nat → Nat → Nat → List T48 → Prop
  | last {p : Pa} {al a n : Nat} {c : List T48} : Pc p al a n c → Row [p] al a n c
  | cons {p q : Pa} {ps : List Pa} {al a n : Nat} {c d : List T48} : Pc p al a (a + c.length) c → Row (q :: ps) al (a + c.length) n d → Row (p :: q :: ps) al a n (c ++ d)
inductive Pc : Pa → Nat → Nat → Nat → List T48 → Prop
  | of {r : T27} {al a n : Nat} {c : List T48} : Cd r a n c → Pc (Pa.of r) al a n c
  | lp {r : T27} {al a n : Nat} {c : List T48} : Cd r (a + 1) a c → Pc (Pa.lp r) al a n (⟨2, Z4, ((a + 1 : Nat) : Int), (n : Int)⟩ :: c)
  | ph {r : T27} {al a n : Nat} {c : List T48} : Cd r (a + 1) n c → Pc (Pa.ph r) al a n (⟨2, Z4, ((a + 1 : Nat) : Int), (al : Int)⟩ :: c)
end
theorem bnd {α β : Type} (a : α) (f : α → Option β) : (some a >>= f) = f a := rfl
theorem wr_i64 {x : Int} (h0 : -9223372036854775808 ≤ x) (h1 : x ≤ 9223372036854775807) : wr .i64 x = x := by
  simp only [wr, IntKind.wrap, IntKind.signed, IntKind.bits]
  simp
  split <;> omega
theorem eta27 (r : T27) : (⟨r.Kind, r.Set, r.L, r.Min, r.Max⟩ : T27) = r := by cases r; rfl
theorem gi_mid {α : Type} [Inhabited α] (pre : List α) (r : α) (t : List α) : gi (pre ++ r :: t) (pre.length : Int) = r := by
  simp [gi]
mutual
def nd : T27 → Nat
  | ⟨_, _, L, _, _⟩ => 1 + nds L
def nds : List T27 → Nat
  | [] => 0
  | x :: xs => nd x + nds xs
end
theorem nd_eq (r : T27) : nd r = 1 + nds r.L := by cases r; rw [nd]
theorem nd_pos (r : T27) : 1 ≤ nd r := by rw [nd_eq]; omega
theorem nds_len : ∀ L : List T27, L.length ≤ nds L
  | [] => by simp
  | x :: xs => by have := nds_len xs; have := nd_pos x; rw [nds]; simp; omega
def Dp : Nat → T27 → Prop
  | 0, _ => False
  | d + 1, r => ∀ x ∈ r.L, Dp d x
theorem Dp.mono : ∀ {d e : Nat} {r : T27}, Dp d r → d ≤ e → Dp e r
  | 0, _, _, h, _ => absurd h id
  | d + 1, 0, _, _, he => by omega
  | d + 1, e + 1, r, h, he => fun x hx => (h x hx).mono (by omega)
def Fit : Nat → T27 → Prop
  | 0, _ => True
  | d + 1, r => SetQ r.Set ∧ r.L.length ≤ 9223372036854775807 ∧ ∀ x ∈ r.L, Fit d x
theorem Fit.mono : ∀ {d e : Nat} {r : T27}, Fit d r → e ≤ d → Fit e r
  | _, 0, _, _, _ => trivial
  | 0, e + 1, _, _, he => by omega
  | d + 1, e + 1, r, h, he => ⟨h.1, h.2.1, fun x hx => (h.2.2 x hx).mono (by omega)⟩
def Shp (r : T27) : Prop :=
  (r.Kind = 1 ∧ r.L = [] ∧ r.Min = 0 ∧ r.Max = 0) ∨ ((r.Kind = 2 ∨ r.Kind = 3) ∧ r.Set = Z4 ∧ r.Min = 0 ∧ r.Max = 0) ∨
    (r.Kind = 4 ∧ (∃ x, r.L = [x]) ∧ r.Set = Z4 ∧ 0 ≤ r.Min ∧ r.Min ≤ 64 ∧ (r.Max = -1 ∨ (r.Min ≤ r.Max ∧ r.Max ≤ 64)))
def Rt : Nat → T27 → Prop
  | 0, _ => False
  | d + 1, r => Shp r ∧ SetQ r.Set ∧ ∀ x ∈ r.L, Rt d x
theorem Rt.mono : ∀ {d e : Nat} {r : T27}, Rt d r → d ≤ e → Rt e r
  | 0, _, _, h, _ => absurd h id
  | d + 1, 0, _, _, he => by omega
  | d + 1, e + 1, r, h, he => ⟨h.1, h.2.1, fun x hx => (h.2.2 x hx).mono (by omega)⟩
theorem Rt.dp : ∀ {d : Nat} {r : T27}, Rt d r → Dp d r
  | 0, _, h => h
  | d + 1, r, h => fun x hx => (h.2.2 x hx).dp
theorem count_tot (left : Nat) : left ≤ 128 → ∀ (r : T27) (n : Nat), Fit left r → n ≤ 4096 → ∃ (b : Bool) (n' : Nat), M.syntax_count (r, (left : Int), (n : Int)) = some (b, (n' : Int)) ∧ (b = true → n' = n + nd r ∧ n' ≤ 4096 ∧ Dp left r) ∧ (n + nd r ≤ 4096 → Dp left r → b = true) := by
  induction left with
  | zero =>
    intro hl r n hf hn
    refine ⟨false, n + 1, ?_, by simp, fun _ h => absurd h id⟩
    rw [M.syntax_count]; try dsimp only
    rw [if_pos (by omega), wr_i64 (by omega) (by omega), M.syntax_count_l0]; try dsimp only
    rw [if_pos rfl]
    try rfl
  | succ left ih =>
    intro hl r n hf hn
    rw [M.syntax_count]; try dsimp only
    rw [if_neg (by omega), wr_i64 (by omega) (by omega), M.syntax_count_l0]; try dsimp only
    by_cases hm : n + 1 > 4096
    · refine ⟨false, n + 1, ?_, by simp, fun h _ => by have := nd_pos r; omega⟩
      rw [decide_eq_true (by omega), if_pos rfl]
      try rfl
    rw [decide_eq_false (by omega), if_neg (by decide)]
    have loop : ∀ (L pre : List T27) (m : Nat), r.L = pre ++ L → m ≤ 4096 → ∃ (b : Bool) (n' : Nat), M.syntax_count_l1 (((left + 1 : Nat) : Int), r.L, (r.L.length : Int), (pre.length : Int), (m : Int)) = some (b, (n' : Int)) ∧
        (b = true → n' = m + nds L ∧ n' ≤ 4096 ∧ ∀ x ∈ L, Dp left x) ∧ (m + nds L ≤ 4096 → (∀ x ∈ L, Dp left x) → b = true) := by
      intro L
      induction L with
      | nil =>
        intro pre m e hm
        refine ⟨true, m, ?_, fun _ => ⟨by simp [nds], hm, by simp⟩, fun _ _ => rfl⟩
        rw [M.syntax_count_l1]; try dsimp only
        rw [if_neg (by rw [e]; simp)]
      | cons x L ihL =>
        intro pre m e hm
        have hlen : r.L.length = pre.length + (L.length + 1) := by rw [e]; simp
        have hx : x ∈ r.L := by rw [e]; simp
        have hbig := hf.2.1
        obtain ⟨b, n', h1, h2, h3⟩ := ih (by omega) x m (hf.2.2 x hx) hm
        rw [M.syntax_count_l1]; try dsimp only
        rw [if_pos (by omega), if_pos (by omega), if_pos (by omega), show gi r.L (pre.length : Int) = x by rw [e]; exact gi_mid pre x L, eta27, wr_i64 (x := ((left + 1 : Nat) : Int) - 1) (by omega) (by omega),
          show ((left + 1 : Nat) : Int) - 1 = (left : Int) by omega, h1, bnd]
        dsimp only
        cases b with
        | false =>
          refine ⟨false, n', by rw [if_neg (by decide)], by simp, fun h4 h5 => ?_⟩
          have := h3 (by rw [nds] at h4; omega) (h5 x (by simp))
          cases this
        | true =>
          obtain ⟨k1, k2, k3⟩ := h2 rfl
          rw [if_pos rfl, wr_i64 (by omega) (by omega)]
          obtain ⟨b', n'', g1, g2, g3⟩ := ihL (pre ++ [x]) n' (by rw [e]; simp) k2
          rw [show (((pre ++ [x]).length : Nat) : Int) = (pre.length : Int) + 1 by simp] at g1
          refine ⟨b', n'', g1, fun hb => ?_, fun h4 h5 => g3 (by rw [nds] at h4; omega) fun y hy => h5 y (by simp [hy])⟩
          obtain ⟨j1, j2, j3⟩ := g2 hb
          refine ⟨by rw [nds]; omega, j2, fun y hy => ?_⟩
          rcases List.mem_cons.1 hy with rfl | hy
          · exact k3
          · exact j3 y hy
    obtain ⟨b, n', h1, h2, h3⟩ := loop r.L [] (n + 1) rfl (by omega)
    refine ⟨b, n', h1, fun hb => ?_, fun h4 h5 => h3 (by rw [nd_eq] at h4; omega) h5⟩
    obtain ⟨k1, k2, k3⟩ := h2 hb
    exact ⟨by rw [nd_eq]; omega, k2, k3⟩
theorem shaped_iff (r : T27) : ∃ b, M.syntax_shaped r = some b ∧ (b = true ↔ Shp r) := by
  have l3 : ∀ c d : Bool, M.syntax_shaped_l3 (r, [0, 0, 0, 0], c, d) = some (decide (r.L.length = 1) && decide (r.Set = Z4) && c && d) := by
    intro c d
    rw [M.syntax_shaped_l3]; try dsimp only
    by_cases h1 : r.L.length = 1
    · rw [if_pos (by omega)]
      by_cases h2 : r.Set = [0, 0, 0, 0]
      · rw [if_pos h2]
        cases c
        · rw [if_neg (by decide)]; simp [h1]
        · rw [if_pos rfl]; simp [h1, Z4, h2]
      · rw [if_neg h2]; simp [Z4, h2]
    · rw [if_neg (by omega)]; simp [h1]
  have l2 : ∀ c : Bool, M.syntax_shaped_l2 (r, [0, 0, 0, 0], c) = some (decide (r.L.length = 1) && decide (r.Set = Z4) && c && decide (r.Max = -1 ∨ (r.Min ≤ r.Max ∧ r.Max ≤ 64))) := by
    intro c
    rw [M.syntax_shaped_l2]; try dsimp only
    by_cases h1 : r.Max = -1
    · rw [if_pos h1, l3]; simp [h1]
    · rw [if_neg h1]
      by_cases h2 : r.Min ≤ r.Max
      · rw [if_pos (by omega), l3]; simp [h1, h2]
      · rw [if_neg (by omega), l3]; simp [h1, h2]
  have l1 : ∀ (c : Bool) (k : Int) (d : Bool), M.syntax_shaped_l1 (r, [0, 0, 0, 0], c, k, d) = some (if d = true then decide (r.Set = Z4) && c else decide (k = 4) && (decide (r.L.length = 1) && decide (r.Set = Z4) && decide (0 ≤ r.Min ∧ r.Min ≤ 64) && decide (r.Max = -1 ∨ (r.Min ≤ r.Max ∧ r.Max ≤ 64)))) := by
    intro c k d
    rw [M.syntax_shaped_l1]; try dsimp only
    cases d
    · simp only [Bool.false_eq_true, if_false]
      by_cases h1 : k = 4
      · rw [if_pos h1]
        by_cases h2 : 0 ≤ r.Min
        · rw [if_pos (by omega), l2]; simp [h1, h2]
        · rw [if_neg (by omega), l2]; simp [h2]
      · rw [if_neg h1]; simp [h1]
    · rw [if_pos rfl, if_pos rfl]
      by_cases h2 : r.Set = [0, 0, 0, 0]
      · rw [if_pos h2]; simp [Z4, h2]
      · rw [if_neg h2]; simp [Z4, h2]
  have l0 : ∀ c : Bool, M.syntax_shaped_l0 (r, [0, 0, 0, 0], c) = some (if r.Kind = 1 then decide (r.L.length = 0) && c else if r.Kind = 2 ∨ r.Kind = 3 then decide (r.Set = Z4) && c else
      decide (r.Kind = 4) && (decide (r.L.length = 1) && decide (r.Set = Z4) && decide (0 ≤ r.Min ∧ r.Min ≤ 64) && decide (r.Max = -1 ∨ (r.Min ≤ r.Max ∧ r.Max ≤ 64)))) := by
    intro c
    rw [M.syntax_shaped_l0]; try dsimp only
    by_cases h1 : r.Kind = 1
    · rw [if_pos h1, if_pos h1]
      by_cases h2 : r.L.length = 0
      · rw [if_pos (by omega)]; simp [h2]
      · rw [if_neg (by omega)]; simp [h2]
    rw [if_neg h1, if_neg h1]
    by_cases h2 : r.Kind = 2
    · rw [if_pos h2, l1, if_pos rfl, if_pos (.inl h2)]
    rw [if_neg h2, l1]
    by_cases h3 : r.Kind = 3
    · rw [if_pos (by simpa using h3), if_pos (.inr h3)]
    · rw [if_neg (by simpa using h3), if_neg (by omega)]
  have one : (∃ x, r.L = [x]) ↔ r.L.length = 1 := by
    constructor
    · rintro ⟨x, h⟩; rw [h]; rfl
    · intro h
      match hL : r.L, h with
      | [x], _ => exact ⟨x, rfl⟩
  have zero : r.L = [] ↔ r.L.length = 0 := by
    constructor
    · intro h; rw [h]; rfl
    · exact List.length_eq_zero_iff.1
  rw [M.syntax_shaped]; try dsimp only
  unfold Shp
  rw [one, zero]
  by_cases hm : r.Min = 0
  · rw [if_pos hm, l0]
    refine ⟨_, rfl, ?_⟩
    split
    · rename_i h1; simp [h1, hm]
    · split
      · rename_i h1 h2; rcases h2 with h2 | h2 <;> simp [h2, hm]
      · rename_i h1 h2; simp only [not_or] at h2; simp [h1, h2.1, h2.2, hm, and_assoc]
  · rw [if_neg hm, l0]
    refine ⟨_, rfl, ?_⟩
    split
    · rename_i h1; simp [h1, hm]
    · split
      · rename_i h1 h2; rcases h2 with h2 | h2 <;> simp [h2, hm]
      · rename_i h1 h2; simp only [not_or] at h2; simp [h1, h2.1, h2.2, hm, and_assoc]
theorem right_tot (d : Nat) : ∀ r : T27, Dp d r → Fit d r → nds r.L ≤ 4096 → ∃ b, M.syntax_right r = some b ∧ (b = true ↔ Rt d r) := by
  induction d with
  | zero => intro r h; exact absurd h id
  | succ d ih =>
    intro r hd hf hn
    obtain ⟨bs, s1, s2⟩ := shaped_iff r
    have loop : ∀ (L pre : List T27), r.L = pre ++ L → ∃ b, M.syntax_right_l0 (r, r.L, (r.L.length : Int), (pre.length : Int)) = some b ∧ (b = true ↔ (Shp r ∧ ∀ x ∈ L, Rt d x)) := by
      intro L
      induction L with
      | nil =>
        intro pre e
        refine ⟨bs, ?_, by simpa using s2⟩
        rw [M.syntax_right_l0]; try dsimp only
        rw [if_neg (by rw [e]; simp), s1, bnd]
      | cons x L ihL =>
        intro pre e
        have hlen : r.L.length = pre.length + (L.length + 1) := by rw [e]; simp
        have hx : x ∈ r.L := by rw [e]; simp
        have hl := nds_len r.L
        have hnx : nds x.L ≤ 4096 := by
          have : ∀ (l : List T27), x ∈ l → nd x ≤ nds l := by
            intro l
            induction l with
            | nil => simp
            | cons y l ih =>
              intro h
              rw [nds]
              rcases List.mem_cons.1 h with rfl | h
              · omega
              · have := ih h; omega
          have := this _ hx
          rw [nd_eq] at this
          omega
        obtain ⟨b, h1, h2⟩ := ih x (hd x hx) (hf.2.2 x hx) hnx
        rw [M.syntax_right_l0]; try dsimp only
        rw [if_pos (by omega), if_pos (by omega), if_pos (by omega), show gi r.L (pre.length : Int) = x by rw [e]; exact gi_mid pre x L, eta27, h1, bnd]
        cases b with
        | false =>
          refine ⟨false, by rw [if_neg (by decide)], ?_⟩
          simp only [Bool.false_eq_true, false_iff] at h2 ⊢
          rintro ⟨_, h⟩
          exact h2 (h x (by simp))
        | true =>
          rw [if_pos rfl, wr_i64 (by omega) (by omega)]
          obtain ⟨b', g1, g2⟩ := ihL (pre ++ [x]) (by rw [e]; simp)
          rw [show (((pre ++ [x]).length : Nat) : Int) = (pre.length : Int) + 1 by simp] at g1
          refine ⟨b', g1, g2.trans ?_⟩
          have := h2.1 rfl
          simp [this]
    obtain ⟨b, h1, h2⟩ := loop r.L [] rfl
    refine ⟨b, ?_, h2.trans ⟨fun h => ⟨h.1, hf.1, h.2⟩, fun h => ⟨h.1, h.2.2⟩⟩⟩
    rw [M.syntax_right]; try dsimp only
    exact h1
theorem check_tot (r : T27) (hf : Fit 128 r) : ∃ b, M.syntax_Check r = some b ∧ (b = true ↔ (Rt 128 r ∧ nd r ≤ 4096)) := by
  obtain ⟨b, n, h1, h2, h3⟩ := count_tot 128 (Nat.le_refl _) r 0 hf (by omega)
  have hs : M.syntax_Size r = if b = true then M.syntax_right r >>= fun y8 => if y8 = true then some (n : Int) else some 0 else some 0 := by
    rw [M.syntax_Size]
    have h1' : M.syntax_count (r, 128, 0) = some (b, (n : Int)) := h1
    rw [h1', bnd]
  rw [M.syntax_Check, hs]
  cases b with
  | false =>
    rw [if_neg (by decide), bnd]
    refine ⟨_, rfl, ?_⟩
    simp only [gt_iff_lt, Int.lt_irrefl, decide_false, Bool.false_eq_true, false_iff]
    rintro ⟨k1, k2⟩
    have := h3 (by omega) k1.dp
    cases this
  | true =>
    obtain ⟨k1, k2, k3⟩ := h2 rfl
    obtain ⟨c, g1, g2⟩ := right_tot 128 r k3 hf (by rw [nd_eq] at k1; omega)
    rw [if_pos rfl, g1, bnd]
    cases c with
    | false =>
      rw [if_neg (by decide), bnd]
      refine ⟨_, rfl, ?_⟩
      simp only [gt_iff_lt, Int.lt_irrefl, decide_false, Bool.false_eq_true, false_iff] at g2 ⊢
      rintro ⟨k, _⟩
      exact g2 k
    | true =>
      have := nd_pos r
      rw [if_pos rfl, bnd]
      refine ⟨_, rfl, ?_⟩
      simp only [true_iff] at g2
      simp only [gt_iff_lt, decide_eq_true_eq]
      exact ⟨fun _ => ⟨g2, by omega⟩, fun _ => by omega⟩
mutual
def sz : T27 → Nat
  | ⟨k, _, L, mn, mx⟩ => if k = 3 then max 1 ((L.length - 1) + szs L) else if k = 2 then max 1 (szs L) else if k = 4 then
      max 1 (if mx < 0 then mn.toNat * szh L + (szh L + 1) else mn.toNat * szh L + (mx - mn).toNat * (szh L + 1)) else 1
def szs : List T27 → Nat
  | [] => 0
  | x :: xs => sz x + szs xs
def szh : List T27 → Nat
  | [] => 0
  | x :: _ => sz x
end
theorem sz_eq (r : T27) : sz r = if r.Kind = 3 then max 1 ((r.L.length - 1) + szs r.L) else if r.Kind = 2 then max 1 (szs r.L) else if r.Kind = 4 then
      max 1 (if r.Max < 0 then r.Min.toNat * szh r.L + (szh r.L + 1) else r.Min.toNat * szh r.L + (r.Max - r.Min).toNat * (szh r.L + 1)) else 1 := by cases r; rw [sz]
theorem sz_pos (r : T27) : 1 ≤ sz r := by rw [sz_eq]; (repeat' split) <;> omega
theorem szs_len : ∀ L : List T27, L.length ≤ szs L
  | [] => by simp
  | x :: xs => by have := szs_len xs; have := sz_pos x; rw [szs]; simp; omega
theorem nd_mem {x : T27} : ∀ {l : List T27}, x ∈ l → nd x ≤ nds l
  | [], h => by simp at h
  | y :: l, h => by
    rw [nds]
    rcases List.mem_cons.1 h with rfl | h
    · omega
    · have := nd_mem h; omega
theorem size_ok (d : Nat) : ∀ r : T27, Rt d r → nd r ≤ 4096 → M.prog_size r = some ((min 1048576 (sz r) : Nat) : Int) := by
  induction d with
  | zero => intro r h; exact absurd h id
  | succ d ih =>
    intro r hr hn
    rw [nd_eq] at hn
    have loop : ∀ (L pre : List T27) (a : Nat), r.L = pre ++ L → M.prog_size_l0 (((min 1048576 a : Nat) : Int), r.L, (r.L.length : Int), (pre.length : Int)) = some ((min 1048576 (max 1 (a + szs L)) : Nat) : Int) := by
      intro L
      induction L with
      | nil =>
        intro pre a e
        rw [M.prog_size_l0]; try dsimp only
        rw [if_neg (by rw [e]; simp), szs]
        refine congrArg some ?_
        simp only [imn, imx]
        (repeat' split) <;> omega
      | cons x L ihL =>
        intro pre a e
        have hlen : r.L.length = pre.length + (L.length + 1) := by rw [e]; simp
        have hx : x ∈ r.L := by rw [e]; simp
        have hl := nds_len r.L
        have hnx := nd_mem hx
        rw [M.prog_size_l0]; try dsimp only
        rw [if_pos (by omega), if_pos (by omega), if_pos (by omega), show gi r.L (pre.length : Int) = x by rw [e]; exact gi_mid pre x L, eta27, ih x (hr.2.2 x hx) (by omega), bnd, wr_i64 (x := (pre.length : Int) + 1) (by omega) (by omega),
          wr_i64 (x := ((min 1048576 a : Nat) : Int) + _) (by omega) (by omega)]
        have := ihL (pre ++ [x]) (a + sz x) (by rw [e]; simp)
        rw [show (((pre ++ [x]).length : Nat) : Int) = (pre.length : Int) + 1 by simp] at this
        rw [szs, show a + (sz x + szs L) = a + sz x + szs L by omega, ← this]
        have e2 : imn 1048576 (((min 1048576 a : Nat) : Int) + ((min 1048576 (sz x) : Nat) : Int)) = ((min 1048576 (a + sz x) : Nat) : Int) := by
          simp only [imn]
          split <;> omega
        rw [e2]
    have hll := nds_len r.L
    rw [M.prog_size]; try dsimp only
    rw [sz_eq]
    by_cases h3 : r.Kind = 3
    · rw [if_pos h3, if_pos h3]
      have := loop r.L [] (r.L.length - 1) rfl
      rw [← this]
      rw [wr_i64 (by omega) (by omega)]
      congr 2
      simp only [imx]
      split <;> omega
    rw [if_neg h3, if_neg h3]
    by_cases h2 : r.Kind = 2
    · rw [if_pos h2, if_pos h2]
      have := loop r.L [] 0 rfl
      rw [Nat.zero_add] at this
      exact this
    rw [if_neg h2, if_neg h2]
    by_cases h4 : r.Kind = 4
    · rw [if_pos h4, if_pos h4]
      rcases hr.1 with ⟨h, _⟩ | ⟨h | h, _⟩ | ⟨_, ⟨x, hL⟩, _, g0, g1, g2⟩
      · omega
      · omega
      · omega
      have hx : x ∈ r.L := by rw [hL]; simp
      have hnx := nd_mem hx
      rw [if_pos (by rw [hL]; simp), show gi r.L 0 = x by rw [hL]; rfl, eta27, ih x (hr.2.2 x hx) (by omega), bnd, hL, szh]
      obtain ⟨m, hm⟩ := Int.eq_ofNat_of_zero_le g0
      rw [hm] at g1 g2 ⊢
      rw [Int.toNat_natCast]
      have hm64 : m ≤ 64 := by omega
      generalize hs : sz x = s
      have hs1 : 1 ≤ s := by rw [← hs]; exact sz_pos x
      have ho : ∃ o : Nat, min 1048576 s = o ∧ o ≤ 1048576 := ⟨_, rfl, by omega⟩
      obtain ⟨o, ho, ho2⟩ := ho
      rw [ho]
      have b1 : m * o ≤ 64 * 1048576 := Nat.mul_le_mul hm64 ho2
      have c1 : (m : Int) * (o : Int) = ((m * o : Nat) : Int) := by push_cast; rfl
      rw [c1]
      have key : ∀ (p q : Nat), (s ≤ 1048576 → p = q) → (1048576 < s → 1048576 ≤ p ∧ 1048576 ≤ q) → imn 1048576 (imx 1 ((p : Nat) : Int)) = ((min 1048576 (max 1 q) : Nat) : Int) := by
        intro p q h1 h2
        simp only [imn, imx]
        by_cases h : s ≤ 1048576
        · have := h1 h; (repeat' split) <;> omega
        · have := h2 (by omega); (repeat' split) <;> omega
      by_cases hx : r.Max < 0
      · rw [if_pos hx, if_pos hx, wr_i64 (x := ((m * o : Nat) : Int)) (by omega) (by omega), wr_i64 (x := (o : Int) + 1) (by omega) (by omega), wr_i64 (by omega) (by omega)]
        refine congrArg some ?_
        rw [show ((m * o : Nat) : Int) + ((o : Int) + 1) = ((m * o + (o + 1) : Nat) : Int) by push_cast; rfl]
        refine key _ _ (fun h => ?_) (fun h => ?_)
        · have : o = s := by omega
          rw [this]
        · constructor <;> omega
      · rw [if_neg hx, if_neg hx]
        have g3 : (m : Int) ≤ r.Max ∧ r.Max ≤ 64 := by rcases g2 with h | h <;> omega
        obtain ⟨k, hk⟩ := Int.eq_ofNat_of_zero_le (show 0 ≤ r.Max - (m : Int) by omega)
        rw [hk, Int.toNat_natCast]
        have hk64 : k ≤ 64 := by omega
        have b2 : k * (o + 1) ≤ 64 * 1048577 := Nat.mul_le_mul hk64 (by omega)
        have c2 : (k : Int) * ((o : Int) + 1) = ((k * (o + 1) : Nat) : Int) := by push_cast; rfl
        rw [wr_i64 (x := ((m * o : Nat) : Int)) (by omega) (by omega), wr_i64 (x := (o : Int) + 1) (by omega) (by omega), wr_i64 (x := (k : Int)) (by omega) (by omega), c2, wr_i64 (x := ((k * (o + 1) : Nat) : Int)) (by omega) (by omega), wr_i64 (by omega) (by omega)]
        refine congrArg some ?_
        rw [show ((m * o : Nat) : Int) + ((k * (o + 1) : Nat) : Int) = ((m * o + k * (o + 1) : Nat) : Int) by push_cast; rfl]
        by_cases hz : m = 0 ∧ k = 0
        · obtain ⟨rfl, rfl⟩ := hz
          simp only [Nat.zero_mul, Nat.add_zero]
          rfl
        refine key _ _ (fun h => ?_) (fun h => ?_)
        · have : o = s := by omega
          rw [this]
        · have ho3 : o = 1048576 := by omega
          subst ho3
          have e1 : 1 ≤ m → 1048576 ≤ m * 1048576 := fun h => by omega
          have e2 : 1 ≤ k → 1048576 ≤ k * (1048576 + 1) := fun h => by omega
          have e3 : 1 ≤ m → s ≤ m * s := fun h => Nat.le_mul_of_pos_left s h
          have e4 : 1 ≤ k → s + 1 ≤ k * (s + 1) := fun h => Nat.le_mul_of_pos_left (s + 1) h
          by_cases hm1 : 1 ≤ m
          · have := e1 hm1; have := e3 hm1; omega
          · have hk1 : 1 ≤ k := by omega
            have := e2 hk1; have := e4 hk1; omega
    · rw [if_neg h4, if_neg h4]
      rfl
def tp (all : Nat) : Pa → T99
  | .of x => ⟨((min 1048576 (sz x) : Nat) : Int), Sum.inl x⟩
  | .lp x => ⟨((min 1048576 (sz x) + 1 : Nat) : Int), Sum.inr (Sum.inl x)⟩
  | .ph x => ⟨((min 1048576 (sz x) + 1 : Nat) : Int), Sum.inr (Sum.inr ((all : Int), x))⟩
def psz : Pa → Nat
  | .of x => sz x
  | .lp x => sz x + 1
  | .ph x => sz x + 1
def pre' : Pa → T27
  | .of x => x
  | .lp x => x
  | .ph x => x
def pss : List Pa → Nat
  | [] => 0
  | p :: ps => psz p + pss ps
theorem pss_append : ∀ a b : List Pa, pss (a ++ b) = pss a + pss b
  | [], b => by simp [pss]
  | p :: a, b => by rw [List.cons_append, pss, pss, pss_append a b]; omega
theorem pss_rep (p : Pa) : ∀ n : Nat, pss (List.replicate n p) = n * psz p
  | 0 => by simp [pss]
  | n + 1 => by rw [List.replicate_succ, pss, pss_rep p n, Nat.succ_mul]; omega
theorem pss_map : ∀ L : List T27, pss (L.map Pa.of) = szs L
  | [] => rfl
  | x :: L => by rw [List.map_cons, pss, pss_map L, szs]; rfl
theorem psz_pos (p : Pa) : 1 ≤ psz p := by cases p <;> simp [psz] <;> exact sz_pos _
theorem pss_len : ∀ l : List Pa, l.length ≤ pss l
  | [] => by simp
  | p :: l => by have := pss_len l; have := psz_pos p; rw [pss]; simp; omega
theorem put_ok (w : List T48) (x : T48) (h : w.length ≤ 10000) : M.prog_writer_put w x = some ((w.length : Int), w ++ [x]) := by
  have e : ((w ++ [x]).length : Int) = (w.length : Int) + 1 := by simp
  rw [M.prog_writer_put, e, if_pos (by omega), wr_i64 (by omega) (by omega), show (w.length : Int) + 1 - 1 = w.length by omega]
theorem code_ok (d : Nat) : ∀ (r : T27) (w : List T48) (next : Nat), Rt d r → nd r ≤ 4096 → w.length + sz r ≤ 4200 → next ≤ 9000 → ∃ c, Cd r w.length next c ∧ c.length = sz r ∧ M.prog_writer_code (w, r, (next : Int)) = some (w ++ c) := by
  induction d with
  | zero => intro r w next h; exact absurd h id
  | succ d ih =>
    intro r w next hr hn hw hnext
    have hn' := hn
    rw [nd_eq] at hn'
    have hll := nds_len r.L
    -- a row of parts
    have part : ∀ (p : Pa) (w : List T48) (to : Nat) (P : List T99) (P2 : List T99) (len i : Int), Rt d (pre' p) → nd (pre' p) ≤ 4096 → w.length + psz p ≤ 4200 → to ≤ 9000 →
        ∃ c, Pc p next w.length to c ∧ c.length = psz p ∧ M.prog_writer_row_l1 (P, (next : Int), tp next p, (to : Int), P2, len, i, w) = M.prog_writer_row_l0 (P, (next : Int), P2, len, wr .i64 (i + 1), w ++ c) := by
      intro p w to P P2 len i h1 h2 h3 h4
      cases p with
      | of x =>
        obtain ⟨c, k1, k2, k3⟩ := ih x w to h1 h2 h3 h4
        refine ⟨c, .of k1, k2, ?_⟩
        rw [M.prog_writer_row_l1]
        show (M.prog_writer_of_1 ((to : Int), w, x) >>= fun y60 => M.prog_writer_row_l2 (P, (next : Int), P2, len, i, y60)) = _
        rw [M.prog_writer_of_1]; try dsimp only
        rw [k3]
        rw [bnd, bnd, M.prog_writer_row_l2]
      | lp x =>
        simp only [psz] at h3
        obtain ⟨c, k1, k2, k3⟩ := ih x (w ++ [⟨2, Z4, ((w.length + 1 : Nat) : Int), (to : Int)⟩]) w.length h1 h2 (by simp; omega) (by omega)
        rw [List.length_append] at k1
        refine ⟨_, .lp k1, by simp [psz, k2], ?_⟩
        rw [M.prog_writer_row_l1]
        show (M.prog_writer_loop_1 ((to : Int), w, x) >>= fun y60 => M.prog_writer_row_l2 (P, (next : Int), P2, len, i, y60)) = _
        rw [M.prog_writer_loop_1]; try dsimp only
        rw [wr_i64 (by omega) (by omega), put_ok w _ (by omega), bnd]; try dsimp only
        rw [show (w.length : Int) + 1 = ((w.length + 1 : Nat) : Int) by push_cast; rfl, show ([0, 0, 0, 0] : List Int) = Z4 from rfl, k3]
        rw [bnd, bnd, M.prog_writer_row_l2]
        rw [List.append_assoc]
        rfl
      | ph x =>
        simp only [psz] at h3
        obtain ⟨c, k1, k2, k3⟩ := ih x (w ++ [⟨2, Z4, ((w.length + 1 : Nat) : Int), (next : Int)⟩]) to h1 h2 (by simp; omega) h4
        rw [List.length_append] at k1
        refine ⟨_, .ph k1, by simp [psz, k2], ?_⟩
        rw [M.prog_writer_row_l1]
        show (M.prog_writer_perhaps_1 ((to : Int), w, (next : Int), x) >>= fun y60 => M.prog_writer_row_l2 (P, (next : Int), P2, len, i, y60)) = _
        rw [M.prog_writer_perhaps_1]; try dsimp only
        rw [wr_i64 (by omega) (by omega), put_ok w _ (by omega), bnd]; try dsimp only
        rw [show (w.length : Int) + 1 = ((w.length + 1 : Nat) : Int) by push_cast; rfl, show ([0, 0, 0, 0] : List Int) = Z4 from rfl, k3]
        rw [bnd, bnd, M.prog_writer_row_l2]
        rw [List.append_assoc]
        rfl
    have row : ∀ (ps pre : List Pa) (w : List T48), ps ≠ [] → (∀ p ∈ ps, Rt d (pre' p) ∧ nd (pre' p) ≤ 4096) → (pre ++ ps).length ≤ 5000 → w.length + pss ps ≤ 4200 →
        ∃ c, Row ps next w.length next c ∧ c.length = pss ps ∧ M.prog_writer_row_l0 ((pre ++ ps).map (tp next), (next : Int), (pre ++ ps).map (tp next), (((pre ++ ps).map (tp next)).length : Int), (pre.length : Int), w) = some (w ++ c) := by
      intro ps
      induction ps with
      | nil => intro pre w h; exact absurd rfl h
      | cons p ps ihp =>
        intro pre w _ hp hlen hw
        have hl : ((pre ++ p :: ps).map (tp next)).length = pre.length + (ps.length + 1) := by simp
        have hlen' : pre.length + (ps.length + 1) ≤ 5000 := by simpa using hlen
        have hg : gi ((pre ++ p :: ps).map (tp next)) (pre.length : Int) = tp next p := by
          rw [List.map_append, List.map_cons, show (pre.length : Int) = ((pre.map (tp next)).length : Int) by simp]
          exact gi_mid _ _ _
        rw [M.prog_writer_row_l0]; try dsimp only
        rw [hl, if_pos (by omega), if_pos (by omega), if_pos (by omega), wr_i64 (x := ((pre.length + (ps.length + 1) : Nat) : Int) - 1) (by omega) (by omega), hg]
        obtain ⟨p1, p2⟩ := hp p (by simp)
        cases ps with
        | nil =>
          rw [if_neg (by simp)]
          obtain ⟨c, k1, k2, k3⟩ := part p w next _ ((pre ++ [p]).map (tp next)) ((pre.length + (([] : List Pa).length + 1) : Nat) : Int) (pre.length : Int) p1 p2 (by simpa [pss] using hw) hnext
          refine ⟨c, .last k1, by simpa [pss] using k2, ?_⟩
          rw [k3, M.prog_writer_row_l0]; try dsimp only
          rw [wr_i64 (by omega) (by omega), if_neg (by simp)]
        | cons q ps =>
          rw [if_pos (by simp only [List.length_cons]; omega)]
          have hsz : psz p + pss (q :: ps) = pss (p :: q :: ps) := rfl
          have hn1 : (tp next p).n = (psz p : Int) := by
            have : psz p ≤ 4200 := by omega
            cases p <;> simp only [tp, psz] at this ⊢ <;> omega
          rw [hn1, wr_i64 (x := (w.length : Int) + (psz p : Int)) (by omega) (by omega), show (w.length : Int) + (psz p : Int) = ((w.length + psz p : Nat) : Int) by push_cast; rfl]
          obtain ⟨c, k1, k2, k3⟩ := part p w (w.length + psz p) ((pre ++ p :: q :: ps).map (tp next)) ((pre ++ p :: q :: ps).map (tp next)) ((pre.length + ((q :: ps).length + 1) : Nat) : Int) (pre.length : Int) p1 p2 (by omega) (by omega)
          rw [k3]
          obtain ⟨e, g1, g2, g3⟩ := ihp (pre ++ [p]) (w ++ c) (by simp) (fun z hz => hp z (by simp [hz])) (by simpa using hlen) (by rw [List.length_append, k2]; omega)
          rw [List.length_append, k2] at g1
          refine ⟨c ++ e, .cons (by rw [k2]; exact k1) (by rw [k2]; exact g1), by rw [List.length_append, k2, g2, hsz], ?_⟩
          rw [wr_i64 (by omega) (by omega)]
          rw [show (pre ++ [p]) ++ q :: ps = pre ++ p :: q :: ps by simp, hl, show (((pre ++ [p]).length : Nat) : Int) = (pre.length : Int) + 1 by simp] at g3
          rw [g3, List.append_assoc]
    have rowp : ∀ (ps : List Pa), ps ≠ [] → (∀ p ∈ ps, Rt d (pre' p) ∧ nd (pre' p) ≤ 4096) → pss ps ≤ sz r →
        ∃ c, Row ps next w.length next c ∧ c.length = pss ps ∧ M.prog_writer_code_l1 ((next : Int), ps.map (tp next), w) = some (w ++ c) := by
      intro ps h0 hp hs
      have hl := pss_len ps
      obtain ⟨c, k1, k2, k3⟩ := row ps [] w h0 hp (by simp; omega) (by omega)
      refine ⟨c, k1, k2, ?_⟩
      have hne : ps.length ≠ 0 := fun h => h0 (List.length_eq_zero_iff.1 h)
      rw [M.prog_writer_code_l1]; try dsimp only
      rw [if_neg (by rw [List.length_map]; omega), M.prog_writer_row]; try dsimp only
      rw [List.nil_append] at k3
      have k3' : M.prog_writer_row_l0 (ps.map (tp next), (next : Int), ps.map (tp next), ((ps.map (tp next)).length : Int), 0, w) = some (w ++ c) := k3
      rw [k3', bnd]
    have row0 : ∀ w : List T48, M.prog_writer_row (w, [], (next : Int)) = some w := by
      intro w
      rw [M.prog_writer_row]; try dsimp only
      rw [M.prog_writer_row_l0]; try dsimp only
      rw [if_neg (by simp)]
    have hof : ∀ (w : List T48) (x : T27), Rt d x → nd x ≤ 4096 → M.prog_writer_of w x = some (tp next (.of x)) := by
      intro w x h1 h2
      rw [M.prog_writer_of, size_ok d x h1 h2, bnd]
      rfl
    rw [M.prog_writer_code]; try dsimp only
    rcases hr.1 with ⟨h1, hL, hmn, hmx⟩ | ⟨hk, hS, hmn, hmx⟩ | ⟨h4, ⟨x, hL⟩, hS, g0, g1, g2⟩
    · -- a set
      rw [if_pos h1, put_ok w _ (by omega), bnd]
      refine ⟨_, ?_, ?_, rfl⟩
      · have := @Cd.set r.Set r.L r.Min r.Max w.length next
        rw [← h1, eta27] at this
        rw [← h1]
        exact this
      · rw [sz_eq, if_neg (by omega), if_neg (by omega), if_neg (by omega)]; rfl
    · rcases hk with h2 | h3
      · -- all
        rw [if_neg (by omega), if_neg (by omega), if_pos h2, M.prog_writer_code_l0]; try dsimp only
        have hsz : sz r = max 1 (szs r.L) := by rw [sz_eq, if_neg (by omega), if_pos h2]
        cases hL : r.L with
        | nil =>
          rw [if_neg (by simp), M.prog_writer_code_l2]; try dsimp only
          rw [put_ok w _ (by omega), bnd]; try dsimp only
          rw [row0, bnd]
          refine ⟨_, ?_, ?_, rfl⟩
          · have := @Cd.void r.Set r.Min r.Max w.length next
            rw [← hL, ← h2, eta27] at this
            exact this
          · rw [hsz, hL]; simp [szs]
        | cons x L =>
          have hx : x ∈ r.L := by rw [hL]; simp
          have hlen : r.L.length = L.length + 1 := by rw [hL]; simp
          rw [← hL, if_pos (by omega), if_pos (by omega), if_pos (by omega), show gi r.L 0 = x by rw [hL]; rfl, eta27, hof w x (hr.2.2 x hx) (by have := nd_mem hx; omega), bnd, if_pos (by simp), wr_i64 (by omega) (by omega)]
          have loop : ∀ (R pre : List T27), r.L = pre ++ R → M.prog_writer_code_l3 ((next : Int), pre.map (fun x => tp next (.of x)), r.L, (r.L.length : Int), (pre.length : Int), w) = M.prog_writer_code_l1 ((next : Int), (r.L.map Pa.of).map (tp next), w) := by
            intro R
            induction R with
            | nil =>
              intro pre e
              rw [M.prog_writer_code_l3]; try dsimp only
              rw [if_neg (by rw [e]; simp)]
              rw [e, List.append_nil, List.map_map]
              rfl
            | cons y R ihR =>
              intro pre e
              have hy : y ∈ r.L := by rw [e]; simp
              have hlen2 : r.L.length = pre.length + (R.length + 1) := by rw [e]; simp
              rw [M.prog_writer_code_l3]; try dsimp only
              rw [if_pos (by omega), if_pos (by omega), if_pos (by omega), show gi r.L (pre.length : Int) = y by rw [e]; exact gi_mid pre y R, eta27, hof w y (hr.2.2 y hy) (by have := nd_mem hy; omega), bnd, if_pos (by simp; omega), wr_i64 (by omega) (by omega)]
              have := ihR (pre ++ [y]) (by rw [e]; simp)
              rw [List.map_append, show (((pre ++ [y]).length : Nat) : Int) = (pre.length : Int) + 1 by simp] at this
              exact this
          have hl := loop L [x] (by rw [hL]; rfl)
          have hl' : M.prog_writer_code_l3 ((next : Int), [tp next (.of x)], r.L, (r.L.length : Int), 0 + 1, w) = M.prog_writer_code_l1 ((next : Int), (r.L.map Pa.of).map (tp next), w) := hl
          rw [hl']
          obtain ⟨c, k1, k2, k3⟩ := rowp (r.L.map Pa.of) (by rw [hL]; simp) (by
            intro p hp
            obtain ⟨y, hy, rfl⟩ := List.mem_map.1 hp
            exact ⟨hr.2.2 y hy, by have := nd_mem hy; simp only [pre']; omega⟩) (by rw [pss_map, hsz]; omega)
          refine ⟨c, ?_, by rw [k2, pss_map, hsz]; have := szs_len r.L; omega, k3⟩
          rw [hL] at k1
          have := @Cd.all r.Set x L r.Min r.Max w.length next c k1
          rw [← hL, ← h2, eta27] at this
          exact this
      · -- one of some
        rw [if_neg (by omega), if_pos h3, M.prog_writer_any]; try dsimp only
        have hsz : sz r = max 1 ((r.L.length - 1) + szs r.L) := by rw [sz_eq, if_pos h3]
        by_cases hne : r.L = []
        · rw [hne, M.prog_writer_any_l0]; try dsimp only
          rw [if_neg (by simp), if_pos (by simp), put_ok w _ (by omega), bnd, bnd]
          refine ⟨_, ?_, ?_, rfl⟩
          · have := @Cd.none r.Set r.Min r.Max w.length next
            rw [← hne, ← h3, eta27] at this
            exact this
          · rw [hsz, hne]; simp [szs]
        · have loop : ∀ (L pre : List T27) (w : List T48), r.L = pre ++ L → L ≠ [] → w.length + ((L.length - 1) + szs L) ≤ 4200 → ∃ c, An L w.length next c ∧ c.length = (L.length - 1) + szs L ∧
              M.prog_writer_any_l0 (r.L, (next : Int), r.L, (r.L.length : Int), (pre.length : Int), w) = some (w ++ c) := by
            intro L
            induction L with
            | nil => intro pre w e h; exact absurd rfl h
            | cons y L ihL =>
              intro pre w e _ hw
              have hy : y ∈ r.L := by rw [e]; simp
              have hlen2 : r.L.length = pre.length + (L.length + 1) := by rw [e]; simp
              have hny := nd_mem hy
              rw [szs, List.length_cons] at hw
              rw [M.prog_writer_any_l0]; try dsimp only
              rw [if_pos (by omega), if_pos (by omega), if_pos (by omega), wr_i64 (x := (r.L.length : Int) - 1) (by omega) (by omega), show gi r.L (pre.length : Int) = y by rw [e]; exact gi_mid pre y L, eta27]
              cases L with
              | nil =>
                rw [if_neg (by simp at hlen2; omega), M.prog_writer_any_l1]; try dsimp only
                obtain ⟨c, k1, k2, k3⟩ := ih y w next (hr.2.2 y hy) (by omega) (by omega) hnext
                rw [k3, bnd, wr_i64 (by omega) (by omega), M.prog_writer_any_l0]; try dsimp only
                rw [if_neg (by simp at hlen2; omega), if_neg (by omega)]
                exact ⟨c, .one k1, by simp [szs, k2], rfl⟩
              | cons q L =>
                rw [List.length_cons] at hlen2 hw
                have hq := szs_len (q :: L)
                rw [if_pos (by omega), size_ok d y (hr.2.2 y hy) (by omega), bnd, show min 1048576 (sz y) = sz y by omega, wr_i64 (x := (w.length : Int) + 1) (by omega) (by omega), wr_i64 (x := (w.length : Int) + 1 + _) (by omega) (by omega), put_ok w _ (by omega), bnd]; try dsimp only
                rw [M.prog_writer_any_l1]; try dsimp only
                rw [show (w.length : Int) + 1 + (sz y : Int) = ((w.length + 1 + sz y : Nat) : Int) by push_cast; rfl, show (w.length : Int) + 1 = ((w.length + 1 : Nat) : Int) by push_cast; rfl, show ([0, 0, 0, 0] : List Int) = Z4 from rfl]
                obtain ⟨c, k1, k2, k3⟩ := ih y (w ++ [⟨2, Z4, ((w.length + 1 : Nat) : Int), ((w.length + 1 + sz y : Nat) : Int)⟩]) next (hr.2.2 y hy) (by omega) (by simp; omega) hnext
                rw [List.length_append] at k1
                rw [k3, bnd, wr_i64 (by omega) (by omega)]
                obtain ⟨f, g1, g2, g3⟩ := ihL (pre ++ [y]) ((w ++ [⟨2, Z4, ((w.length + 1 : Nat) : Int), ((w.length + 1 + sz y : Nat) : Int)⟩]) ++ c) (by rw [e]; simp) (by simp) (by simp only [List.length_append, List.length_cons, List.length_nil, k2]; omega)
                rw [show (((pre ++ [y]).length : Nat) : Int) = (pre.length : Int) + 1 by simp] at g3
                rw [g3]
                simp only [List.length_append, List.length_cons, List.length_nil, k2] at g1
                refine ⟨_, .more k1 (by rw [k2]; simpa using g1), ?_, ?_⟩
                · simp only [List.length_append, List.length_cons, k2, g2, szs]; omega
                · rw [k2]; simp
          obtain ⟨c, k1, k2, k3⟩ := loop r.L [] w rfl hne (by rw [hsz] at hw; omega)
          have k3' : M.prog_writer_any_l0 (r.L, (next : Int), r.L, (r.L.length : Int), 0, w) = some (w ++ c) := k3
          rw [k3', bnd]
          refine ⟨c, ?_, by rw [k2, hsz]; have := szs_len r.L; have : r.L.length ≠ 0 := fun h => hne (List.length_eq_zero_iff.1 h); omega, rfl⟩
          cases hL : r.L with
          | nil => exact absurd hL hne
          | cons x L =>
            rw [hL] at k1
            have := @Cd.any r.Set x L r.Min r.Max w.length next c k1
            rw [← hL, ← h3, eta27] at this
            exact this
    · -- times
      have hx : x ∈ r.L := by rw [hL]; simp
      have hrx := hr.2.2 x hx
      have hnx : nd x ≤ 4096 := by have := nd_mem hx; omega
      obtain ⟨m, hm⟩ := Int.eq_ofNat_of_zero_le g0
      have hph : ∀ w, M.prog_writer_perhaps w x (next : Int) = some (tp next (.ph x)) := by
        intro w
        rw [M.prog_writer_perhaps, size_ok d x hrx hnx, bnd, wr_i64 (by omega) (by omega)]
        rfl
      have hlp : ∀ w, M.prog_writer_loop w x = some (tp next (.lp x)) := by
        intro w
        rw [M.prog_writer_loop, size_ok d x hrx hnx, bnd, wr_i64 (by omega) (by omega)]
        rfl
      have l3 : ∀ (n j : Nat) (acc : List T99), j + n ≤ 100 → acc.length ≤ 5000 + j → M.prog_writer_times_l3 ((next : Int), acc, x, ((j + n : Nat) : Int), (j : Int), w) = some (acc ++ List.replicate n (tp next (.ph x))) := by
        intro n
        induction n with
        | zero =>
          intro j acc h1 h2
          rw [M.prog_writer_times_l3]; try dsimp only
          rw [if_neg (by omega)]; simp
        | succ n ihn =>
          intro j acc h1 h2
          rw [M.prog_writer_times_l3]; try dsimp only
          rw [if_pos (by omega), hph, bnd, if_pos (by simp; omega), wr_i64 (by omega) (by omega), show (j : Int) + 1 = ((j + 1 : Nat) : Int) by push_cast; rfl, show j + (n + 1) = j + 1 + n by omega, ihn (j + 1) _ (by omega) (by simp; omega), List.replicate_succ, List.append_assoc]
          rfl
      have l2 : ∀ n : Nat, n ≤ 100 → M.prog_writer_times_l2 ((next : Int), x, (n : Int), 0, w) = some (List.replicate n (tp next (.ph x))) := by
        intro n h1
        rw [M.prog_writer_times_l2]; try dsimp only
        cases n with
        | zero => rw [if_neg (by omega)]; rfl
        | succ n =>
          rw [if_pos (by omega), hph, bnd, if_pos (by simp), wr_i64 (by omega) (by omega), show (0 : Int) + 1 = ((1 : Nat) : Int) from rfl, show n + 1 = 1 + n by omega, l3 n 1 _ (by omega) (by simp)]
          rw [show 1 + n = n + 1 by omega, List.replicate_succ]
          rfl
      -- what is behind those that must be
      obtain ⟨tail, htail, l1, l0⟩ : ∃ tail : List Pa, (tail = if r.Max < 0 then [Pa.lp x] else List.replicate (r.Max - (m : Int)).toNat (Pa.ph x)) ∧
          (∀ (n j : Nat) (acc : List T99), j + n = m → acc.length ≤ 1000 + j → M.prog_writer_times_l1 ((next : Int), r, acc, x, (m : Int), (j : Int), w) = some (acc ++ (List.replicate n (Pa.of x) ++ tail).map (tp next))) ∧
          M.prog_writer_times_l0 ((next : Int), r, x, (m : Int), 0, w) = some ((List.replicate m (Pa.of x) ++ tail).map (tp next)) := by
        refine ⟨_, rfl, ?_⟩
        have l1 : ∀ (n j : Nat) (acc : List T99), j + n = m → acc.length ≤ 1000 + j → M.prog_writer_times_l1 ((next : Int), r, acc, x, (m : Int), (j : Int), w) = some (acc ++ (List.replicate n (Pa.of x) ++ (if r.Max < 0 then [Pa.lp x] else List.replicate (r.Max - (m : Int)).toNat (Pa.ph x))).map (tp next)) := by
          intro n
          induction n with
          | zero =>
            intro j acc h1 h2
            rw [M.prog_writer_times_l1]; try dsimp only
            rw [if_neg (by omega)]
            by_cases hmx : r.Max < 0
            · rw [if_pos hmx, if_pos hmx, hlp, bnd, if_pos (by simp; omega)]; rfl
            · rw [if_neg hmx, if_neg hmx]
              obtain ⟨k, hk⟩ := Int.eq_ofNat_of_zero_le (show 0 ≤ r.Max - (m : Int) by rcases g2 with h | h <;> omega)
              have hk2 : k ≤ 64 := by rcases g2 with h | h <;> omega
              rw [hm, hk, wr_i64 (by omega) (by omega), Int.toNat_natCast]
              have := l3 k 0 acc (by omega) (by omega)
              rw [Nat.zero_add] at this
              have this' : M.prog_writer_times_l3 ((next : Int), acc, x, (k : Int), 0, w) = some (acc ++ List.replicate k (tp next (.ph x))) := this
              rw [this']
              simp
          | succ n ihn =>
            intro j acc h1 h2
            rw [M.prog_writer_times_l1]; try dsimp only
            rw [if_pos (by omega), hof w x hrx hnx, bnd, if_pos (by simp; omega), wr_i64 (by omega) (by omega), show (j : Int) + 1 = ((j + 1 : Nat) : Int) by push_cast; rfl, ihn (j + 1) _ (by omega) (by simp; omega)]
            rw [List.replicate_succ, List.append_assoc]
            rfl
        refine ⟨l1, ?_⟩
        rw [M.prog_writer_times_l0]; try dsimp only
        cases hm0 : m with
        | zero =>
          rw [if_neg (by omega)]
          by_cases hmx : r.Max < 0
          · rw [if_pos hmx, if_pos hmx, hlp, bnd, if_pos (by simp)]; rfl
          · rw [if_neg hmx, if_neg hmx]
            obtain ⟨k, hk⟩ := Int.eq_ofNat_of_zero_le (show 0 ≤ r.Max - (m : Int) by rcases g2 with h | h <;> omega)
            have hk2 : k ≤ 64 := by rcases g2 with h | h <;> omega
            rw [hm, ← hm0, hk, wr_i64 (by omega) (by omega), Int.toNat_natCast, l2 k (by omega), hm0]
            simp
        | succ n =>
          rw [if_pos (by omega), hof w x hrx hnx, bnd, if_pos (by simp), wr_i64 (by omega) (by omega)]
          have := l1 n 1 [tp next (.of x)] (by omega) (by simp)
          rw [hm0] at this
          have this' : M.prog_writer_times_l1 ((next : Int), r, [tp next (.of x)], x, ((n + 1 : Nat) : Int), 0 + 1, w) = _ := this
          rw [this', List.replicate_succ]
          rfl
      rw [if_neg (by omega), if_neg (by omega), if_neg (by omega), if_pos h4, M.prog_writer_times, if_pos (by rw [hL]; simp), show gi r.L 0 = x by rw [hL]; rfl, eta27, hm, l0, bnd]
      have hsz : sz r = max 1 (if r.Max < 0 then m * sz x + (sz x + 1) else m * sz x + (r.Max - (m : Int)).toNat * (sz x + 1)) := by
        rw [sz_eq, if_neg (by omega), if_neg (by omega), if_pos h4, hm, hL, szh, Int.toNat_natCast]
      have hps : pss (List.replicate m (Pa.of x) ++ tail) = if r.Max < 0 then m * sz x + (sz x + 1) else m * sz x + (r.Max - (m : Int)).toNat * (sz x + 1) := by
        rw [pss_append, pss_rep, htail]
        by_cases hmx : r.Max < 0
        · rw [if_pos hmx, if_pos hmx]; rfl
        · rw [if_neg hmx, if_neg hmx, pss_rep]; rfl
      have hmem : ∀ p ∈ List.replicate m (Pa.of x) ++ tail, Rt d (pre' p) ∧ nd (pre' p) ≤ 4096 := by
        intro p hp
        have : pre' p = x := by
          rcases List.mem_append.1 hp with hp | hp
          · rw [List.eq_of_mem_replicate hp]; rfl
          · rw [htail] at hp
            split at hp
            · rw [List.mem_singleton.1 hp]; rfl
            · rw [List.eq_of_mem_replicate hp]; rfl
        rw [this]
        exact ⟨hrx, hnx⟩
      by_cases he : List.replicate m (Pa.of x) ++ tail = []
      · -- never
        have hl0 : (List.replicate m (Pa.of x) ++ tail).length = 0 := by rw [he]; rfl
        rw [List.length_append, List.length_replicate] at hl0
        have hm0 : m = 0 := by omega
        have hmx : ¬ r.Max < 0 := by
          intro h
          rw [htail, if_pos h] at hl0
          simp at hl0
        rw [htail, if_neg hmx, List.length_replicate] at hl0
        have hmax : r.Max = 0 := by rcases g2 with h | h <;> omega
        rw [he, List.map_nil, M.prog_writer_code_l1]; try dsimp only
        rw [if_pos (by simp), put_ok w _ (by omega), bnd]; try dsimp only
        rw [row0, bnd]
        refine ⟨_, ?_, ?_, rfl⟩
        · have := @Cd.never r.Set x w.length next
          have hmin : r.Min = 0 := by omega
          rw [← hL] at this
          have e : (⟨4, r.Set, r.L, 0, 0⟩ : T27) = r := by
            cases r
            simp only at h4 hmin hmax
            subst h4; subst hmin; subst hmax; rfl
          rw [e] at this
          exact this
        · rw [hsz, if_neg hmx, hm0, hmax]; simp
      · obtain ⟨c, k1, k2, k3⟩ := rowp _ he hmem (by rw [hps, hsz]; omega)
        rw [k3]
        have hpp := pss_len (List.replicate m (Pa.of x) ++ tail)
        have hnl : (List.replicate m (Pa.of x) ++ tail).length ≠ 0 := fun h => he (List.length_eq_zero_iff.1 h)
        refine ⟨c, ?_, by rw [k2, hps, hsz]; rw [hps] at hpp; omega, rfl⟩
        have e : (⟨4, r.Set, [x], (m : Int), r.Max⟩ : T27) = r := by
          rw [← hL, ← hm, ← h4, eta27]
        by_cases hmx : r.Max < 0
        · rw [htail, if_pos hmx] at k1
          have := @Cd.star r.Set x m r.Max w.length next c hmx k1
          rw [e] at this
          exact this
        · rw [htail, if_neg hmx] at k1 hnl
          rw [List.length_append, List.length_replicate, List.length_replicate] at hnl
          have := @Cd.times r.Set x m (r.Max - (m : Int)).toNat w.length next c (by omega) k1
          have e2 : ((m + (r.Max - (m : Int)).toNat : Nat) : Int) = r.Max := by rcases g2 with h | h <;> omega
          rw [e2, e] at this
          exact this
def fin' : T48 := ⟨3, Z4, 0, 0⟩
def Good (r : T27) : Prop := Rt 128 r ∧ nd r ≤ 4096 ∧ sz r + 1 ≤ 2048
theorem make_tot (r : T27) (hf : Fit 128 r) : (∃ e, e ≠ 0 ∧ M.prog_Make r = some ([], e) ∧ ¬ Good r) ∨ (Good r ∧ ∃ c, Cd r 0 (sz r) c ∧ c.length = sz r ∧ M.prog_Make r = some (c ++ [fin'], 0)) := by
  obtain ⟨b, h1, h2⟩ := check_tot r hf
  rw [M.prog_Make, M.prog_Count, h1, bnd]
  cases b with
  | false =>
    left
    refine ⟨2, by decide, by rw [if_neg (by decide), bnd]; rfl, fun h => ?_⟩
    have := h2.2 ⟨h.1, h.2.1⟩
    cases this
  | true =>
    obtain ⟨k1, k2⟩ := h2.1 rfl
    rw [if_pos rfl, size_ok 128 r k1 k2, bnd, bnd]; try dsimp only
    rw [if_pos rfl, wr_i64 (x := ((min 1048576 (sz r) : Nat) : Int) + 1) (by omega) (by omega)]
    by_cases hs : sz r + 1 ≤ 2048
    · right
      have e1 : imn 1048576 (((min 1048576 (sz r) : Nat) : Int) + 1) = ((sz r + 1 : Nat) : Int) := by
        simp only [imn]
        split <;> omega
      rw [e1, if_neg (by omega), wr_i64 (by omega) (by omega), show ((sz r + 1 : Nat) : Int) - 1 = (sz r : Int) by omega]
      obtain ⟨c, g1, g2, g3⟩ := code_ok 128 r [] (sz r) k1 k2 (by simp; omega) (by omega)
      refine ⟨⟨k1, k2, hs⟩, c, g1, g2, ?_⟩
      rw [g3, bnd, List.nil_append, put_ok c _ (by omega), bnd]
      rfl
    · left
      refine ⟨110, by decide, ?_, fun h => hs h.2.2⟩
      rw [if_pos (by simp only [imn]; split <;> omega)]
def RI (N : Nat) (x : T48) : Prop := SetQ x.Set ∧ ((x.Op = 1 ∧ 0 ≤ x.X ∧ x.X < N ∧ x.Y = 0) ∨ (x.Op = 2 ∧ x.Set = Z4 ∧ 0 ≤ x.X ∧ x.X < N ∧ 0 ≤ x.Y ∧ x.Y < N) ∨ (x.Op = 4 ∧ x.Set = Z4 ∧ 0 ≤ x.X ∧ x.X < N ∧ x.Y = 0) ∨ (x.Op = 3 ∧ x.Set = Z4 ∧ x.X = 0 ∧ x.Y = 0))
theorem RI.split {N a b : Nat} (ha : a < N) (hb : b < N) : RI N ⟨2, Z4, (a : Int), (b : Int)⟩ := ⟨(SetQ.any _), .inr (.inl ⟨rfl, rfl, by simp, by simpa using ha, by simp, by simpa using hb⟩)⟩
theorem RI.jump {N a : Nat} (ha : a < N) : RI N ⟨4, Z4, (a : Int), 0⟩ := ⟨(SetQ.any _), .inr (.inr (.inl ⟨rfl, rfl, by simp, by simpa using ha, rfl⟩))⟩
theorem RI.byte {N a : Nat} {l : List Int} (hl : SetQ l) (ha : a < N) : RI N ⟨1, l, (a : Int), 0⟩ := ⟨hl, .inl ⟨rfl, by simp, by simpa using ha, rfl⟩⟩
def HR (r : T27) : Prop := ∃ d, Rt d r
theorem HR.set {r : T27} (h : HR r) : SetQ r.Set := by
  obtain ⟨d, h⟩ := h
  cases d with
  | zero => exact absurd h id
  | succ d => exact h.2.1
theorem HR.sub {r x : T27} (h : HR r) (hx : x ∈ r.L) : HR x := by
  obtain ⟨d, h⟩ := h
  cases d with
  | zero => exact absurd h id
  | succ d => exact ⟨d, h.2.2 x hx⟩
mutual
theorem Cd.ri {N : Nat} {r : T27} {a n : Nat} {c : List T48} : Cd r a n c → HR r → a + c.length < N → n < N → ∀ x ∈ c, RI N x
  | .set, hr, ha, hn, x, hx => by rw [List.mem_singleton.1 hx]; exact RI.byte hr.set hn
  | .all h, hr, ha, hn, x, hx => h.ri (fun p hp => by obtain ⟨y, hy, rfl⟩ := List.mem_map.1 hp; exact hr.sub hy) ha hn hn x hx
  | .void, hr, ha, hn, x, hx => by rw [List.mem_singleton.1 hx]; exact RI.jump hn
  | .any h, hr, ha, hn, x, hx => h.ri (fun y hy => hr.sub hy) ha hn x hx
  | .none, hr, ha, hn, x, hx => by rw [List.mem_singleton.1 hx]; exact RI.byte (SetQ.any _) hn
  | .star (x := y) _ h, hr, ha, hn, x, hx => h.ri (fun p hp => by
      have : pre' p = y := by
        rcases List.mem_append.1 hp with hp | hp
        · rw [List.eq_of_mem_replicate hp]; rfl
        · rw [List.mem_singleton.1 hp]; rfl
      rw [this]; exact hr.sub (by simp)) ha hn hn x hx
  | .times (x := y) _ h, hr, ha, hn, x, hx => h.ri (fun p hp => by
      have : pre' p = y := by
        rcases List.mem_append.1 hp with hp | hp
        · rw [List.eq_of_mem_replicate hp]; rfl
        · rw [List.eq_of_mem_replicate hp]; rfl
      rw [this]; exact hr.sub (by simp)) ha hn hn x hx
  | .never, hr, ha, hn, x, hx => by rw [List.mem_singleton.1 hx]; exact RI.jump hn
theorem An.ri {N : Nat} {L : List T27} {a n : Nat} {c : List T48} : An L a n c → (∀ y ∈ L, HR y) → a + c.length < N → n < N → ∀ x ∈ c, RI N x
  | .one h, hr, ha, hn, x, hx => h.ri (hr _ (by simp)) ha hn x hx
  | .more h hs, hr, ha, hn, x, hx => by
    simp only [List.length_cons, List.length_append] at ha
    rcases List.mem_cons.1 hx with rfl | hx
    · exact RI.split (by omega) (by omega)
    · rcases List.mem_append.1 hx with hx | hx
      · exact h.ri (hr _ (by simp)) (by omega) hn x hx
      · exact hs.ri (fun y hy => hr y (List.mem_cons_of_mem _ hy)) (by omega) hn x hx
theorem Row.ri {N : Nat} {ps : List Pa} {al a n : Nat} {c : List T48} : Row ps al a n c → (∀ p ∈ ps, HR (pre' p)) → a + c.length < N → n < N → al < N → ∀ x ∈ c, RI N x
  | .last h, hr, ha, hn, hal, x, hx => h.ri (hr _ (by simp)) ha hn hal x hx
  | .cons h hs, hr, ha, hn, hal, x, hx => by
    simp only [List.length_append] at ha
    rcases List.mem_append.1 hx with hx | hx
    · exact h.ri (hr _ (by simp)) (by omega) (by omega) hal x hx
    · exact hs.ri (fun y hy => hr y (List.mem_cons_of_mem _ hy)) (by omega) hn hal x hx
theorem Pc.ri {N : Nat} {p : Pa} {al a n : Nat} {c : List T48} : Pc p al a n c → HR (pre' p) → a + c.length < N → n < N → al < N → ∀ x ∈ c, RI N x
  | .of h, hr, ha, hn, hal, x, hx => h.ri hr ha hn x hx
  | .lp h, hr, ha, hn, hal, x, hx => by
    simp only [List.length_cons] at ha
    rcases List.mem_cons.1 hx with rfl | hx
    · exact RI.split (by omega) hn
    · exact h.ri hr (by omega) (by omega) x hx
  | .ph h, hr, ha, hn, hal, x, hx => by
    simp only [List.length_cons] at ha
    rcases List.mem_cons.1 hx with rfl | hx
    · exact RI.split (by omega) hal
    · exact h.ri hr (by omega) hn x hx
end
theorem eta88 (x : T48) : (⟨x.Op, x.Set, x.X, x.Y⟩ : T48) = x := by cases x; rfl
theorem right1_ok {n : Nat} {k : Int} (h0 : 0 ≤ k) (h1 : k < n) : M.prog_right_1 k (n : Int) = some true := by
  rw [M.prog_right_1, if_pos (by omega), decide_eq_true (by omega)]
theorem pright_ok {N : Nat} {x : T48} (h : RI N x) : M.prog_right x (N : Int) = some true := by
  rw [M.prog_right]
  rcases h.2 with ⟨h1, h2, h3, h4⟩ | ⟨h1, hs, h2, h3, h4, h5⟩ | ⟨h1, hs, h2, h3, h4⟩ | ⟨h1, hs, h2, h3⟩
  · rw [if_pos h1, right1_ok h2 h3, bnd, if_pos rfl, decide_eq_true h4]
  · rw [if_neg (by omega), if_pos h1, if_pos (show x.Set = [0, 0, 0, 0] from hs), right1_ok h2 h3, bnd, if_pos rfl, right1_ok h4 h5, bnd]
  · rw [if_neg (by omega), if_neg (by omega), if_pos h1, if_pos (show x.Set = [0, 0, 0, 0] from hs), right1_ok h2 h3, bnd, if_pos rfl, decide_eq_true h4]
  · rw [if_neg (by omega), if_neg (by omega), if_neg (by omega), if_pos h1, if_pos (show x.Set = [0, 0, 0, 0] from hs), if_pos h2, decide_eq_true h3]
theorem pcheck_ok {l : List T48} (h0 : l ≠ []) (h1 : l.length ≤ 2048) (h : ∀ x ∈ l, RI l.length x) : M.prog_Check l = some 0 := by
  have hne : l.length ≠ 0 := fun h => h0 (List.length_eq_zero_iff.1 h)
  have loop : ∀ (R pre : List T48), l = pre ++ R → M.prog_Check_l1 (l, l, (l.length : Int), (pre.length : Int)) = some 0 := by
    intro R
    induction R with
    | nil =>
      intro pre e
      rw [M.prog_Check_l1]; try dsimp only
      rw [if_neg (by rw [e]; simp)]
    | cons x R ih =>
      intro pre e
      have hlen : l.length = pre.length + (R.length + 1) := by rw [e]; simp
      rw [M.prog_Check_l1]; try dsimp only
      rw [if_pos (by omega), if_pos (by omega), if_pos (by omega), show gi l (pre.length : Int) = x by rw [e]; exact gi_mid pre x R, eta88, pright_ok (h x (by rw [e]; simp)), bnd, if_pos rfl, wr_i64 (by omega) (by omega)]
      have := ih (pre ++ [x]) (by rw [e]; simp)
      rw [show (((pre ++ [x]).length : Nat) : Int) = (pre.length : Int) + 1 by simp] at this
      exact this
  rw [M.prog_Check]; try dsimp only
  rw [if_neg (by omega), M.prog_Check_l0]; try dsimp only
  rw [decide_eq_false (by omega), if_neg (by decide)]
  exact loop l [] rfl
theorem gi_nat {α : Type} [Inhabited α] (l : List α) (i : Nat) (h : i < l.length) : gi l (i : Int) = l[i] := by
  simp [gi, h]
theorem gi_mem {α : Type} [Inhabited α] (l : List α) (x : Int) (h0 : 0 ≤ x) (h1 : x < l.length) : gi l x ∈ l := by
  have : x.toNat < l.length := by omega
  simp only [gi, List.getD_eq_getElem?_getD, List.getElem?_eq_getElem this, Option.getD_some]
  exact List.getElem_mem _
section
variable {l : List T48} (hl : l.length ≤ 3000) (hri : ∀ x ∈ l, RI l.length x)
include hl hri
end
section
variable {l : List T48} (hl : l.length ≤ 3000) (hri : ∀ x ∈ l, RI l.length x)
include hl hri
omit hl hri in
end
theorem prog_ri {r : T27} {c : List T48} (hg : Good r) (hc : Cd r 0 (sz r) c) (hn : c.length = sz r) : (c ++ [fin']).length ≤ 2048 ∧ ∀ x ∈ c ++ [fin'], RI (c ++ [fin']).length x := by
  have h := hg.2.2
  have hlen : (c ++ [fin']).length = c.length + 1 := by simp
  refine ⟨by omega, fun x hx => ?_⟩
  rcases List.mem_append.1 hx with hx | hx
  · exact hc.ri ⟨128, hg.1⟩ (by omega) (by omega) x hx
  · rw [List.mem_singleton.1 hx]
    exact ⟨(SetQ.any _), .inr (.inr (.inr ⟨rfl, rfl, rfl, rfl⟩))⟩
def pS (s : ByteArray) (i d : Nat) : T68 := ⟨s, (i : Int), (d : Int), none⟩
def pk (s : ByteArray) (i : Nat) : Int := if i < s.size then bt s (i : Int) else 0
theorem peek_eq (s : ByteArray) (i d : Nat) : M.syntax_parser_peek (pS s i d) = some (pk s i, pS s i d) := by
  rw [M.syntax_parser_peek]
  show (some none >>= _) = _
  rw [bnd]; try dsimp only
  rw [M.syntax_parser_peek_l0]
  show (if decide ((i : Int) ≥ (s.size : Int)) = true then some (0, pS s i d) else _) = _
  unfold pk
  by_cases h : i < s.size
  · rw [decide_eq_false (by omega), if_neg (by decide), if_pos h]
    show (if 0 ≤ (i : Int) then if (i : Int) < (s.size : Int) then _ else none else none) = _
    rw [if_pos (by omega), if_pos (by omega)]
    rfl
  · rw [decide_eq_true (by omega), if_pos rfl, if_neg h]
theorem take_eq (s : ByteArray) (i d : Nat) (hi : i ≤ 1000) (c : Int) (hc : c ≠ 0) : M.syntax_parser_take (pS s i d) c = some (if pk s i = c then (true, pS s (i + 1) d) else (false, pS s i d)) := by
  rw [M.syntax_parser_take, if_neg hc, peek_eq, bnd]
  dsimp only
  rw [M.syntax_parser_take_l0]; try dsimp only
  by_cases h : pk s i = c
  · rw [decide_eq_true h, if_neg (by decide), if_pos h]
    show some (true, (⟨s, wr .i64 ((i : Int) + 1), (d : Int), none⟩ : T68)) = _
    rw [wr_i64 (by omega) (by omega)]
    rfl
  · rw [decide_eq_false h, if_pos (by decide), if_neg h]
theorem idx_eq (s : ByteArray) (c : Int) : M.strings_IndexByte s c = some (ixB s c) := rfl
theorem atom_eq (s : ByteArray) (i d : Nat) (hi : i ≤ 1000) (l : List Int) (h1 : ¬ pk s i < 32) (h2 : ¬ pk s i > 126) (h3 : ¬ ixB (⟨#[93, 41, 42, 43, 63, 123, 125, 94, 36, 124]⟩ : ByteArray) (pk s i) ≥ 0) (h4 : pk s i ≠ 40 ∧ pk s i ≠ 46 ∧ pk s i ≠ 91 ∧ pk s i ≠ 92) (hl : M.syntax_one (pk s i) = some l) :
    M.syntax_parser_atom (pS s i d) = some (⟨1, l, [], 0, 0⟩, pS s (i + 1) d) := by
  rw [M.syntax_parser_atom, peek_eq, bnd]; dsimp only
  rw [if_neg h1, if_neg h2, idx_eq, bnd, decide_eq_false h3, M.syntax_parser_atom_l0]; try dsimp only
  rw [if_neg (by decide), if_neg h4.1, M.syntax_parser_atom_l1]; try dsimp only
  rw [if_neg (by decide), take_eq s i d hi 46 (by omega), if_neg h4.2.1, bnd]; dsimp only
  rw [if_neg (by decide), take_eq s i d hi 91 (by omega), if_neg h4.2.2.1, bnd]; dsimp only
  rw [if_neg (by decide), take_eq s i d hi 40 (by omega), if_neg h4.1, bnd]; dsimp only
  rw [if_neg (by decide), take_eq s i d hi 92 (by omega), if_neg h4.2.2.2, bnd]; dsimp only
  rw [if_neg (by decide), hl, bnd]
  show some (_, (⟨s, wr .i64 ((i : Int) + 1), (d : Int), none⟩ : T68)) = _
  rw [wr_i64 (by omega) (by omega)]
  rfl
theorem piece_bare {s : ByteArray} {i d : Nat} {p : T68} {r : T27} (hi : i ≤ 1000) (e : M.syntax_parser_atom p = some (r, pS s i d)) (h4 : pk s i ≠ 42 ∧ pk s i ≠ 43 ∧ pk s i ≠ 63 ∧ pk s i ≠ 123) : M.syntax_parser_piece p = some (r, pS s i d) := by
  rw [M.syntax_parser_piece, e, bnd]; dsimp only
  rw [take_eq s i d hi 42 (by omega), if_neg h4.1, bnd]; dsimp only
  rw [if_neg (by decide), take_eq s i d hi 43 (by omega), if_neg h4.2.1, bnd]; dsimp only
  rw [if_neg (by decide), take_eq s i d hi 63 (by omega), if_neg h4.2.2.1, bnd]; dsimp only
  rw [if_neg (by decide), take_eq s i d hi 123 (by omega), if_neg h4.2.2.2, bnd]; dsimp only
  rw [if_neg (by decide)]
theorem piece_star {s : ByteArray} {i d : Nat} {p : T68} {r : T27} (hi : i ≤ 1000) (e : M.syntax_parser_atom p = some (r, pS s i d)) (h4 : pk s i = 42) : M.syntax_parser_piece p = some (⟨4, [0, 0, 0, 0], [r], 0, -1⟩, pS s (i + 1) d) := by
  rw [M.syntax_parser_piece, e, bnd]; dsimp only
  rw [take_eq s i d hi 42 (by omega), if_pos h4, bnd]; dsimp only
  rw [if_pos rfl]
theorem seq_un (s : ByteArray) (i d : Nat) (x : T27) (acc : List T27) : M.syntax_parser_sequence_l0 (x, acc, pS s i d) = M.syntax_parser_sequence_l1 (x, acc, decide (i < s.size ∧ pk s i ≠ 124 ∧ pk s i ≠ 41), pS s i d) := by
  rw [M.syntax_parser_sequence_l0]
  show (some none >>= _) = _
  rw [bnd]
  show (if (i : Int) < (s.size : Int) then M.syntax_parser_peek (pS s i d) >>= _ else M.syntax_parser_sequence_l1 (x, acc, false, pS s i d)) = _
  by_cases hl : i < s.size
  · rw [if_pos (by omega), peek_eq, bnd]; dsimp only
    by_cases h1 : pk s i = 124
    · rw [if_pos h1, decide_eq_false (by omega)]
    · rw [if_neg h1, peek_eq, bnd]; dsimp only
      by_cases h2 : pk s i = 41
      · rw [decide_eq_true h2, decide_eq_false (by omega)]; rfl
      · rw [decide_eq_false h2, decide_eq_true ⟨hl, h1, h2⟩]; rfl
  · rw [if_neg (by omega), decide_eq_false (by omega)]
theorem seq_more {s : ByteArray} {i d : Nat} (x : T27) {q : T68} {r : T27} (acc : List T27) (hl : acc.length ≤ 1000) (hg : i < s.size ∧ pk s i ≠ 124 ∧ pk s i ≠ 41) (e : M.syntax_parser_piece (pS s i d) = some (r, q)) : M.syntax_parser_sequence_l0 (x, acc, pS s i d) = M.syntax_parser_sequence_l0 (x, acc ++ [r], q) := by
  rw [seq_un, decide_eq_true hg, M.syntax_parser_sequence_l1]; try dsimp only
  rw [if_pos rfl, e, bnd]; dsimp only
  rw [if_pos (by simp; omega)]
theorem seq_stop {s : ByteArray} {i d : Nat} (x : T27) (acc : List T27) {r : T27} (hg : ¬ (i < s.size ∧ pk s i ≠ 124 ∧ pk s i ≠ 41)) (hr : M.syntax_several 2 acc = some r) : M.syntax_parser_sequence_l0 (x, acc, pS s i d) = some (r, pS s i d) := by
  rw [seq_un, decide_eq_false hg, M.syntax_parser_sequence_l1]; try dsimp only
  rw [if_neg (by decide), hr, bnd]
theorem several_one (k : Int) (r : T27) : M.syntax_several k [r] = some r := by
  rw [M.syntax_several, if_pos (by simp), if_pos (by simp), show gi [r] 0 = r from rfl, eta27]
theorem several_two (k : Int) (r x : T27) : M.syntax_several k [r, x] = some ⟨k, [0, 0, 0, 0], [r, x], 0, 0⟩ := by
  rw [M.syntax_several, if_neg (by simp)]
theorem alt_stop {s : ByteArray} {i d : Nat} (hi : i ≤ 1000) (x : T27) (acc : List T27) {r : T27} (hg : pk s i ≠ 124) (hr : M.syntax_several 3 acc = some r) : M.syntax_parser_alternation_l0 (x, acc, pS s i d) = some (r, pS s i d) := by
  rw [M.syntax_parser_alternation_l0]; try dsimp only
  rw [take_eq s i d hi 124 (by omega), if_neg hg, bnd]; dsimp only
  rw [if_neg (by decide), hr, bnd]
theorem alt_more {s : ByteArray} {i d : Nat} (hi : i ≤ 1000) (x : T27) (acc : List T27) (hl : acc.length ≤ 1000) {r : T27} {q : T68} (hg : pk s i = 124) (e : M.syntax_parser_sequence (pS s (i + 1) d) = some (r, q)) : M.syntax_parser_alternation_l0 (x, acc, pS s i d) = M.syntax_parser_alternation_l0 (x, acc ++ [r], q) := by
  rw [M.syntax_parser_alternation_l0]; try dsimp only
  rw [take_eq s i d hi 124 (by omega), if_pos hg, bnd]; dsimp only
  rw [if_pos rfl, e, bnd]; dsimp only
  rw [if_pos (by simp; omega)]
theorem parse_eq (s : ByteArray) (hs : s.size ≤ 256) (r : T27) (i d : Nat) (hi : ¬ i < s.size) (e : M.syntax_parser_alternation (pS s 0 0) = some (r, pS s i d)) : M.syntax_Parse s = some (r, 0, 0) := by
  rw [M.syntax_Parse, if_neg (by omega)]
  show (M.syntax_parser_alternation (pS s 0 0) >>= _) = _
  rw [e, bnd]
  show (some none >>= _) = _
  rw [bnd]
  show M.syntax_Parse_l0 (_, pS s i d, r, decide ((i : Int) < (s.size : Int))) = _
  rw [decide_eq_false (by omega), M.syntax_Parse_l0]; try dsimp only
  rw [if_neg (by decide), M.syntax_Parse_l1]
  show (some none >>= _) = _
  rw [bnd]
  show M.syntax_Parse_l2 (_, pS s i d, r, false) = _
  rw [M.syntax_Parse_l2]; try dsimp only
  rw [if_neg (by decide)]
def cA : T27 := ⟨1, [0, 8589934592, 0, 0], [], 0, 0⟩
def cB : T27 := ⟨1, [0, 17179869184, 0, 0], [], 0, 0⟩
theorem one97 : M.syntax_one 97 = some [0, 8589934592, 0, 0] := by rw [M.syntax_one]; decide
theorem one98 : M.syntax_one 98 = some [0, 17179869184, 0, 0] := by rw [M.syntax_one]; decide
def r2 : T27 := ⟨4, Z4, [cA], 0, -1⟩
theorem parse2 : M.syntax_Parse (⟨#[97, 42]⟩ : ByteArray) = some (r2, 0, 0) := by
  generalize hs : (⟨#[97, 42]⟩ : ByteArray) = s
  have hz : s.size = 2 := by rw [← hs]; rfl
  have k0 : pk s 0 = 97 := by rw [← hs]; decide
  have k1 : pk s 1 = 42 := by rw [← hs]; decide
  have k2 : pk s 2 = 0 := by rw [← hs]; decide
  have a0 := atom_eq s 0 0 (by omega) _ (by omega) (by omega) (by rw [k0]; decide) (by omega) (by rw [k0]; exact one97)
  have p0 : M.syntax_parser_piece (pS s 0 0) = some (r2, pS s 2 0) := piece_star (by omega) a0 k1
  refine parse_eq s (by omega) r2 2 0 (by omega) ?_
  have q0 : M.syntax_parser_sequence (pS s 0 0) = some (r2, pS s 2 0) := by
    rw [M.syntax_parser_sequence, seq_more _ [] (by simp) (by omega) p0]
    exact seq_stop _ _ (by omega) (several_one _ _)
  rw [M.syntax_parser_alternation, q0, bnd]
  exact alt_stop (by omega) _ _ (by omega) (several_one _ _)
theorem Rt.fit : ∀ {d : Nat} {r : T27} (e : Nat), Rt d r → nd r ≤ 4096 → Fit e r
  | _, _, 0, _, _ => trivial
  | 0, _, _ + 1, h, _ => absurd h id
  | d + 1, r, e + 1, h, hn => ⟨h.2.1, by rw [nd_eq] at hn; have := nds_len r.L; omega, fun x hx => Rt.fit e (h.2.2 x hx) (by rw [nd_eq] at hn; have := nd_mem hx; omega)⟩
theorem nds_append : ∀ a b : List T27, nds (a ++ b) = nds a + nds b
  | [], b => by simp [nds]
  | x :: a, b => by rw [List.cons_append, nds, nds, nds_append a b]; omega
theorem ss_size (s : ByteArray) (i j : Nat) (h1 : i ≤ j) (h2 : j ≤ s.size) : (ss s (i : Int) (j : Int)).size = j - i := by
  simp only [ss, ByteArray.size_extract, Int.toNat_natCast]
  omega
end Go.Proofs.YtemokppdnkiejaaDoor
