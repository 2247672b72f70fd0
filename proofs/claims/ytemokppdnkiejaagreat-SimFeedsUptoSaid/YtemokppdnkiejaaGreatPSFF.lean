/-
  Truths of places; whether instructions are a program.
-/
import Derived.Test.YtemokppdnkiejaaGreatPSFG
set_option linter.unusedVariables false
set_option linter.unusedSimpArgs false
namespace Go.Proofs.YtemokppdnkiejaaGreat
open Go.Gx
theorem bit_eq {y : Int} (h0 : 0 ≤ y) (h1 : y < 18446744073709551616) : decide (irem .u64 y 2 = 1) = decide (iand .u64 y 1 = 1) := by
  obtain ⟨n, rfl⟩ := Int.eq_ofNat_of_zero_le h0
  have e1 : irem .u64 (n : Int) 2 = ((n % 2 : Nat) : Int) := by
    simp only [irem]
    rw [Int.tmod_eq_emod_of_nonneg (Int.natCast_nonneg _)]
    rfl
  have e2 : iand .u64 (n : Int) 1 = ((n % 2 : Nat) : Int) := by
    unfold iand
    have hb : ((BitVec.ofInt IntKind.u64.bits (n : Int)) &&& (BitVec.ofInt IntKind.u64.bits 1)).toNat = n % 2 := by
      rw [BitVec.toNat_and]
      have a1 : (BitVec.ofInt IntKind.u64.bits (n : Int)).toNat = n := by
        simp only [IntKind.bits, BitVec.toNat_ofInt]
        have : (n : Int) % ((2 ^ 64 : Nat) : Int) = (n : Int) := Int.emod_eq_of_lt (by omega) (by omega)
        rw [this]
        rfl
      have a2 : (BitVec.ofInt IntKind.u64.bits 1).toNat = 1 := by decide
      rw [a1, a2, Nat.and_one_is_mod]
    rw [hb]
    simp only [IntKind.wrap, IntKind.signed, IntKind.bits]
    have : n % 2 < 2 := Nat.mod_lt _ (by omega)
    simp
    omega
  rw [e1, e2]
theorem refhas (z : List Int) (hz : SetOk z) {b : Int} (h0 : 0 ≤ b) (h1 : b ≤ 255) : M.tidepoleref10_Has z b = M.syntax_Has z b := by
  rw [M.tidepoleref10_Has, M.syntax_Has, iquo64 h0 h1, irem64 h0, if_pos (by omega), if_pos (by omega), if_pos (by omega), if_pos (by omega), if_pos (by omega), if_pos (by omega)]
  have hm := hz.2 _ (gi_mem z (b / 64) (by omega) (by rw [hz.1]; omega))
  generalize gi z (b / 64) = w at hm
  generalize hk : b % 64 = k
  have e : ishr .u64 w k = w / (2 ^ (min k.toNat 64) : Int) := by
    unfold ishr
    exact Int.fdiv_eq_ediv_of_nonneg _ (by exact_mod_cast Nat.zero_le _)
  have p : (0 : Int) < 2 ^ (min k.toNat 64) := by exact_mod_cast Nat.pow_pos (by omega)
  rw [e, bit_eq (Int.ediv_nonneg hm.1 (by omega)) (Int.lt_of_le_of_lt (Int.ediv_le_self _ hm.1) hm.2)]
/-! ### Lists of truths -/
def T (l : List Bool) (j : Nat) : Prop := l[j]? = some true
theorem T_gi {l : List Bool} {j : Nat} (h : j < l.length) : gi l (j : Int) = true ↔ T l j := by
  unfold T gi
  rw [Int.toNat_natCast, List.getD_eq_getElem?_getD, List.getElem?_eq_getElem h]
  simp
theorem T_si {l : List Bool} {i j : Nat} {b : Bool} (h : i < l.length) : T (si l (i : Int) b) j ↔ if j = i then b = true else T l j := by
  unfold T si
  rw [Int.toNat_natCast]
  by_cases e : j = i
  · subst e
    rw [if_pos rfl, List.getElem?_set_self h]
    simp
  · rw [if_neg e, List.getElem?_set_ne (fun h => e h.symm)]
theorem si_len {l : List Bool} {j : Int} {b : Bool} : (si l j b).length = l.length := by simp [si]
theorem T_rep {n j : Nat} : ¬ T (List.replicate n false) j := by
  unfold T
  rw [List.getElem?_replicate]
  split <;> simp
def rightP (x : T45) (N : Int) : Prop :=
  (x.Op = 1 ∧ 0 ≤ x.X ∧ x.X < N ∧ x.Y = 0) ∨ (x.Op = 2 ∧ x.Set = [0, 0, 0, 0] ∧ 0 ≤ x.X ∧ x.X < N ∧ 0 ≤ x.Y ∧ x.Y < N) ∨ (x.Op = 4 ∧ x.Set = [0, 0, 0, 0] ∧ 0 ≤ x.X ∧ x.X < N ∧ x.Y = 0) ∨ (x.Op = 3 ∧ x.Set = [0, 0, 0, 0] ∧ x.X = 0 ∧ x.Y = 0)
theorem right1_eq (k n : Int) : M.prog_right_1 k n = some (decide (0 ≤ k ∧ k < n)) := by
  unfold M.prog_right_1
  split
  · congr 1; rw [decide_eq_decide]; omega
  · rw [decide_eq_false (by omega)]
theorem pright_tot (x : T45) (N : Int) : ∃ b, M.prog_right x N = some b ∧ (b = true ↔ rightP x N) := by
  obtain ⟨z, hz⟩ : ∃ z : Nat, (x.Set = [0, 0, 0, 0] ↔ z = 1) := by
    by_cases h : x.Set = [0, 0, 0, 0]
    · exact ⟨1, by simp [h]⟩
    · exact ⟨0, by simp [h]⟩
  unfold M.prog_right rightP
  simp only [hz, right1_eq, bnd, decide_eq_true_eq]
  (repeat' split) <;> first
    | exact ⟨_, rfl, by simp only [decide_eq_true_eq]; omega⟩
    | exact ⟨_, rfl, by simp only [Bool.false_eq_true, false_iff]; omega⟩
theorem pcheck_run (l : List T45) (hl : l.length ≤ 2048) : ∀ (R pre : List T45), l = pre ++ R → M.prog_Check_l1 (l, l, (l.length : Int), (pre.length : Int)) = some 0 ∧ (∀ x ∈ R, rightP x l.length) ∨ M.prog_Check_l1 (l, l, (l.length : Int), (pre.length : Int)) = some 110 ∧ ¬ (∀ x ∈ R, rightP x l.length) := by
  intro R
  induction R with
  | nil =>
    intro pre e
    left
    rw [List.append_nil] at e
    refine ⟨?_, by simp⟩
    rw [M.prog_Check_l1]; try dsimp only
    rw [if_neg (by rw [e]; omega)]
  | cons x R ih =>
    intro pre e
    have hll : l.length = pre.length + (R.length + 1) := by rw [e]; simp
    have hg : gi l (pre.length : Int) = x := by rw [e]; exact gi_mid _ _ _
    obtain ⟨b, h1, h2⟩ := pright_tot x (l.length : Int)
    rw [M.prog_Check_l1]; try dsimp only
    rw [if_pos (by omega), if_pos (by omega), if_pos (by omega), hg, eta88, h1, bnd]
    cases b with
    | false =>
      right
      refine ⟨by rw [if_neg (by decide)], fun h => ?_⟩
      have := h2.2 (h x (by simp))
      cases this
    | true =>
      have hx := h2.1 rfl
      have := ih (pre ++ [x]) (by rw [e]; simp)
      rw [show (((pre ++ [x]).length : Nat) : Int) = (pre.length : Int) + 1 by simp] at this
      rw [if_pos rfl, wr_i64 (by omega) (by omega)]
      rcases this with ⟨k1, k2⟩ | ⟨k1, k2⟩
      · left
        refine ⟨k1, fun y hy => ?_⟩
        rcases List.mem_cons.1 hy with h | h
        · rw [h]; exact hx
        · exact k2 y h
      · right
        exact ⟨k1, fun h => k2 fun y hy => h y (by simp [hy])⟩
theorem ite_both {c : Prop} [Decidable c] {α : Type} {A B R : α} (h1 : c → A = R) (h2 : ¬ c → B = R) : (if c then A else B) = R := by
  by_cases h : c
  · rw [if_pos h]; exact h1 h
  · rw [if_neg h]; exact h2 h
theorem rround (l : List T45) (i : Nat) (x : T45) (hi : i < l.length) (hl : l.length ≤ 2048) (hx : gi l (i : Int) = x) :
    (rightP x l.length → M.tidepoleref11_Check_l1 (l, (i : Int)) = M.tidepoleref11_Check_l1 (l, (i : Int) + 1)) ∧ (¬ rightP x l.length → M.tidepoleref11_Check_l1 (l, (i : Int)) = some 110) := by
  obtain ⟨z, hz⟩ : ∃ z : Nat, (x.Set = [0, 0, 0, 0] ↔ z = 1) := by
    by_cases h : x.Set = [0, 0, 0, 0]
    · exact ⟨1, by simp [h]⟩
    · exact ⟨0, by simp [h]⟩
  have hw : wr .i64 ((i : Int) + 1) = (i : Int) + 1 := wr_i64 (by omega) (by omega)
  have bad : ∀ b : Bool, b = true → M.tidepoleref11_Check_l2 (l, (i : Int), b) = some 110 := by
    intro b hb
    rw [M.tidepoleref11_Check_l2]; try dsimp only
    rw [if_pos hb]
  have fine : ∀ b : Bool, b = false → M.tidepoleref11_Check_l2 (l, (i : Int), b) = M.tidepoleref11_Check_l1 (l, (i : Int) + 1) := by
    intro b hb
    rw [M.tidepoleref11_Check_l2]; try dsimp only
    rw [if_neg (by rw [hb]; decide), hw]
  constructor
  · intro hr
    unfold rightP at hr
    simp only [hz] at hr
    conv => lhs; rw [M.tidepoleref11_Check_l1]
    try dsimp only
    rw [if_pos (by omega), if_pos (by omega), hx]
    (repeat' (refine ite_both (fun h => ?_) (fun h => ?_))) <;> (try simp only [hz] at *) <;> first | exact fine _ (decide_eq_false (by omega)) | (exfalso; omega)
  · intro hr
    unfold rightP at hr
    simp only [hz] at hr
    rw [M.tidepoleref11_Check_l1]; try dsimp only
    rw [if_pos (by omega), if_pos (by omega), hx]
    (repeat' (refine ite_both (fun h => ?_) (fun h => ?_))) <;> (try simp only [hz] at *) <;> first | exact bad _ rfl | exact bad _ (decide_eq_true (by omega)) | (exfalso; omega)
theorem rcheck_run (l : List T45) (hl : l.length ≤ 2048) : ∀ (R pre : List T45), l = pre ++ R → M.tidepoleref11_Check_l1 (l, (pre.length : Int)) = some 0 ∧ (∀ x ∈ R, rightP x l.length) ∨ M.tidepoleref11_Check_l1 (l, (pre.length : Int)) = some 110 ∧ ¬ (∀ x ∈ R, rightP x l.length) := by
  intro R
  induction R with
  | nil =>
    intro pre e
    left
    rw [List.append_nil] at e
    refine ⟨?_, by simp⟩
    rw [M.tidepoleref11_Check_l1]; try dsimp only
    rw [if_neg (by rw [e]; omega)]
  | cons x R ih =>
    intro pre e
    have hll : l.length = pre.length + (R.length + 1) := by rw [e]; simp
    have hg : gi l (pre.length : Int) = x := by rw [e]; exact gi_mid _ _ _
    obtain ⟨r1, r2⟩ := rround l pre.length x (by omega) hl hg
    by_cases hx : rightP x l.length
    · have := ih (pre ++ [x]) (by rw [e]; simp)
      rw [show (((pre ++ [x]).length : Nat) : Int) = (pre.length : Int) + 1 by simp] at this
      rw [r1 hx]
      rcases this with ⟨k1, k2⟩ | ⟨k1, k2⟩
      · left
        refine ⟨k1, fun y hy => ?_⟩
        rcases List.mem_cons.1 hy with h | h
        · rw [h]; exact hx
        · exact k2 y h
      · right
        exact ⟨k1, fun h => k2 fun y hy => h y (by simp [hy])⟩
    · right
      exact ⟨r2 hx, fun h => hx (h x (by simp))⟩
theorem checks_ok (l : List T45) : (M.prog_Check l = some 0 ∧ M.tidepoleref11_Check l = some 0 ∧ l.length ≤ 2048 ∧ ∀ x ∈ l, rightP x l.length) ∨ (M.prog_Check l = some 110 ∧ M.tidepoleref11_Check l = some 110) := by
  rw [M.prog_Check, M.tidepoleref11_Check]
  by_cases h0 : (l.length : Int) = 0
  · right
    rw [if_pos h0, if_pos h0, M.prog_Check_l0, M.tidepoleref11_Check_l0]; try dsimp only
    exact ⟨rfl, rfl⟩
  · rw [if_neg h0, if_neg h0, M.prog_Check_l0, M.tidepoleref11_Check_l0]; try dsimp only
    by_cases h : (l.length : Int) > 2048
    · right
      rw [decide_eq_true h]
      exact ⟨rfl, rfl⟩
    · rw [decide_eq_false h, if_neg (by decide), if_neg (by decide)]
      have a := pcheck_run l (by omega) l [] rfl
      have b := rcheck_run l (by omega) l [] rfl
      rcases a with ⟨a1, a2⟩ | ⟨a1, a2⟩ <;> rcases b with ⟨b1, b2⟩ | ⟨b1, b2⟩
      · exact .inl ⟨a1, b1, by omega, a2⟩
      · exact absurd a2 b2
      · exact absurd b2 a2
      · exact .inr ⟨a1, b1⟩
end Go.Proofs.YtemokppdnkiejaaGreat
