/-
  The document's answer: from which places a pattern's texts lead to which.
-/
import Derived.Test.YtemokppdnkiejaaPSimE
set_option linter.unusedVariables false
set_option linter.unusedSimpArgs false
namespace Go.Proofs.Ytemokppdnkiejaa
open Go.Gx

/-! ### Places -/
def wd (s : ByteArray) (i j : Nat) : List Int := (List.range' i (j - i)).map fun t : Nat => bt s (t : Int)
theorem wd_len (s : ByteArray) (i j : Nat) : (wd s i j).length = j - i := by simp [wd]
theorem wd_app (s : ByteArray) {i k j : Nat} (h1 : i ≤ k) (h2 : k ≤ j) : wd s i j = wd s i k ++ wd s k j := by
  unfold wd
  rw [← List.map_append]
  congr 1
  have := @List.range'_append_1 i (k - i) (j - k)
  rw [show i + (k - i) = k by omega, show k - i + (j - k) = j - i by omega] at this
  exact this.symm
theorem wd_split (s : ByteArray) {i j : Nat} (h : i ≤ j) {u v : List Int} (e : wd s i j = u ++ v) : ∃ k, i ≤ k ∧ k ≤ j ∧ u = wd s i k ∧ v = wd s k j := by
  have hl := congrArg List.length e
  rw [wd_len, List.length_append] at hl
  have e2 := wd_app s (show i ≤ i + u.length by omega) (show i + u.length ≤ j by omega)
  rw [e] at e2
  obtain ⟨h1, h2⟩ := List.append_inj e2 (by rw [wd_len]; omega)
  exact ⟨i + u.length, by omega, by omega, h1, h2⟩
theorem wd_nil (s : ByteArray) (i : Nat) : wd s i i = [] := by simp [wd]
theorem wd_one (s : ByteArray) (i : Nat) : wd s i (i + 1) = [bt s (i : Int)] := by
  unfold wd
  rw [show i + 1 - i = 1 by omega]
  rfl
theorem wd_U (s : ByteArray) (n : Nat) : wd s 0 n = U s n := by
  unfold wd U
  rw [List.range_eq_range']
  rfl
/-- where the texts of a set lead to, from some places -/
def Im (s : ByteArray) (P : List Int → Prop) (A : Nat → Prop) (j : Nat) : Prop := ∃ i, i ≤ j ∧ A i ∧ P (wd s i j)
theorem Im_comp (s : ByteArray) (P1 P2 : List Int → Prop) (A : Nat → Prop) (j : Nat) : Im s P2 (Im s P1 A) j ↔ Im s (fun w => ∃ u v, w = u ++ v ∧ P1 u ∧ P2 v) A j := by
  constructor
  · rintro ⟨k, hk, ⟨i, hi, ha, h1⟩, h2⟩
    exact ⟨i, by omega, ha, _, _, wd_app s hi hk, h1, h2⟩
  · rintro ⟨i, hi, ha, u, v, e, h1, h2⟩
    obtain ⟨k, k1, k2, rfl, rfl⟩ := wd_split s hi e
    exact ⟨k, k2, ⟨i, k1, ha, h1⟩, h2⟩
theorem Im_congr (s : ByteArray) {P Q : List Int → Prop} {A B : Nat → Prop} {n : Nat} (h1 : ∀ w, P w ↔ Q w) (h2 : ∀ i, i ≤ n → (A i ↔ B i)) {j : Nat} (hj : j ≤ n) : Im s P A j ↔ Im s Q B j := by
  constructor
  · rintro ⟨i, hi, ha, hp⟩
    exact ⟨i, hi, (h2 i (by omega)).1 ha, (h1 _).1 hp⟩
  · rintro ⟨i, hi, ha, hp⟩
    exact ⟨i, hi, (h2 i (by omega)).2 ha, (h1 _).2 hp⟩
theorem Im_nil (s : ByteArray) (A : Nat → Prop) (j : Nat) : Im s (fun w => w = []) A j ↔ A j := by
  constructor
  · rintro ⟨i, hi, ha, e⟩
    have := congrArg List.length e
    rw [wd_len] at this
    have : i = j := by simp at this; omega
    exact this ▸ ha
  · intro h
    exact ⟨j, Nat.le_refl _, h, wd_nil s j⟩
/-- texts that are empty may be left out -/
theorem Rep.short {P : List Int → Prop} : ∀ {n : Nat} {w : List Int}, Rep P n w → ∃ m, m ≤ w.length ∧ m ≤ n ∧ Rep P m w
  | 0, w, h => ⟨0, by omega, by omega, h⟩
  | n + 1, w, h => by
    obtain ⟨u, v, rfl, hu, h⟩ := h
    obtain ⟨m, h1, h2, h3⟩ := Rep.short h
    cases u with
    | nil => exact ⟨m, by simpa using h1, by omega, by simpa using h3⟩
    | cons x u => exact ⟨m + 1, by simp; omega, by omega, _, _, rfl, hu, h3⟩

/-! ### Bytes of a set -/
theorem bit_eq {y : Int} (h0 : 0 ≤ y) (h1 : y < 18446744073709551616) : decide (irem .u64 y 2 = 1) = decide (iand .u64 y 1 = 1) := by
  obtain ⟨n, rfl⟩ := Int.eq_ofNat_of_zero_le h0
  have e1 : irem .u64 (n : Int) 2 = ((n % 2 : Nat) : Int) := by
    simp only [irem]
    rw [Int.tmod_eq_emod_of_nonneg (Int.natCast_nonneg _)]
    rfl
  have e2 : iand .u64 (n : Int) 1 = ((n % 2 : Nat) : Int) := by
    unfold iand
    have hb : ((BitVec.ofInt IntKind.u64.bits (n : Int)) &&& (BitVec.ofInt IntKind.u64.bits 1)).toNat = n % 2 := by
      rw [BitVec.toNat_and]
      have a1 : (BitVec.ofInt IntKind.u64.bits (n : Int)).toNat = n := by
        simp only [IntKind.bits, BitVec.toNat_ofInt]
        have : (n : Int) % ((2 ^ 64 : Nat) : Int) = (n : Int) := Int.emod_eq_of_lt (by omega) (by omega)
        rw [this]
        rfl
      have a2 : (BitVec.ofInt IntKind.u64.bits 1).toNat = 1 := by decide
      rw [a1, a2, Nat.and_one_is_mod]
    rw [hb]
    simp only [IntKind.wrap, IntKind.signed, IntKind.bits]
    have : n % 2 < 2 := Nat.mod_lt _ (by omega)
    simp
    omega
  rw [e1, e2]
theorem refhas (z : List Int) (hz : SetOk z) {b : Int} (h0 : 0 ≤ b) (h1 : b ≤ 255) : M.tidepoleref10_Has z b = M.syntax_Has z b := by
  rw [M.tidepoleref10_Has, M.syntax_Has, iquo64 h0 h1, irem64 h0, if_pos (by omega), if_pos (by omega), if_pos (by omega), if_pos (by omega), if_pos (by omega), if_pos (by omega)]
  have hm := hz.2 _ (gi_mem z (b / 64) (by omega) (by rw [hz.1]; omega))
  generalize gi z (b / 64) = w at hm
  generalize hk : b % 64 = k
  have e : ishr .u64 w k = w / (2 ^ (min k.toNat 64) : Int) := by
    unfold ishr
    exact Int.fdiv_eq_ediv_of_nonneg _ (by exact_mod_cast Nat.zero_le _)
  have p : (0 : Int) < 2 ^ (min k.toNat 64) := by exact_mod_cast Nat.pow_pos (by omega)
  rw [e, bit_eq (Int.ediv_nonneg hm.1 (by omega)) (Int.lt_of_le_of_lt (Int.ediv_le_self _ hm.1) hm.2)]

/-! ### Lists of truths -/
def T (l : List Bool) (j : Nat) : Prop := l[j]? = some true
theorem T_gi {l : List Bool} {j : Nat} (h : j < l.length) : gi l (j : Int) = true ↔ T l j := by
  unfold T gi
  rw [Int.toNat_natCast, List.getD_eq_getElem?_getD, List.getElem?_eq_getElem h]
  simp
theorem T_si {l : List Bool} {i j : Nat} {b : Bool} (h : i < l.length) : T (si l (i : Int) b) j ↔ if j = i then b = true else T l j := by
  unfold T si
  rw [Int.toNat_natCast]
  by_cases e : j = i
  · subst e
    rw [if_pos rfl, List.getElem?_set_self h]
    simp
  · rw [if_neg e, List.getElem?_set_ne (fun h => e h.symm)]
theorem si_len {l : List Bool} {j : Int} {b : Bool} : (si l j b).length = l.length := by simp [si]
theorem T_rep {n j : Nat} : ¬ T (List.replicate n false) j := by
  unfold T
  rw [List.getElem?_replicate]
  split <;> simp

section
variable (s : ByteArray) (hs : s.size ≤ 100)
include hs
theorem reach_set (z : T27) (hz : SetOk z.Set) (at_ : List Bool) (ha : at_.length = s.size + 1) : ∀ (k i : Nat) (out : List Bool), i + k = s.size → out.length = s.size + 1 →
    (∀ j, T out j ↔ (1 ≤ j ∧ j ≤ i ∧ T at_ (j - 1) ∧ Hs z.Set (bt s ((j - 1 : Nat) : Int)))) →
    ∃ o, M.tidepoleref12_Reach_l0 (s, at_, z, out, (i : Int)) = some o ∧ o.length = s.size + 1 ∧ (∀ j, T o j ↔ (1 ≤ j ∧ j ≤ s.size ∧ T at_ (j - 1) ∧ Hs z.Set (bt s ((j - 1 : Nat) : Int)))) := by
  intro k
  induction k with
  | zero =>
    intro i out hi ho h
    rw [M.tidepoleref12_Reach_l0]; try dsimp only
    rw [if_neg (by omega)]
    refine ⟨out, rfl, ho, ?_⟩
    rw [show s.size = i by omega]
    exact h
  | succ k ih =>
    intro i out hi ho h
    rw [M.tidepoleref12_Reach_l0]; try dsimp only
    rw [if_pos (by omega), if_pos (by omega), if_pos (by omega), wr_i64 (by omega) (by omega), show (i : Int) + 1 = ((i + 1 : Nat) : Int) by push_cast; rfl]
    have step : ∀ b : Bool, (b = true ↔ (T at_ i ∧ Hs z.Set (bt s (i : Int)))) → ∃ o, M.tidepoleref12_Reach_l4 (s, at_, z, si out ((i + 1 : Nat) : Int) b, (i : Int)) = some o ∧ o.length = s.size + 1 ∧ (∀ j, T o j ↔ (1 ≤ j ∧ j ≤ s.size ∧ T at_ (j - 1) ∧ Hs z.Set (bt s ((j - 1 : Nat) : Int)))) := by
      intro b hb
      rw [M.tidepoleref12_Reach_l4]; try dsimp only
      rw [wr_i64 (by omega) (by omega), show (i : Int) + 1 = ((i + 1 : Nat) : Int) by push_cast; rfl]
      refine ih (i + 1) _ (by omega) (by rw [si_len]; exact ho) (fun j => ?_)
      rw [T_si (by omega)]
      by_cases e : j = i + 1
      · rw [if_pos e, e, hb, Nat.add_sub_cancel]
        constructor
        · rintro ⟨h1, h2⟩; exact ⟨by omega, by omega, h1, h2⟩
        · rintro ⟨_, _, h1, h2⟩; exact ⟨h1, h2⟩
      · rw [if_neg e, h]
        constructor
        · rintro ⟨h1, h2, h3⟩; exact ⟨h1, by omega, h3⟩
        · rintro ⟨h1, h2, h3⟩; exact ⟨h1, by omega, h3⟩
    by_cases hT : T at_ i
    · rw [if_pos ((T_gi (by omega)).2 hT), refhas z.Set hz (bt_range s i).1 (bt_range s i).2]
      obtain ⟨v, hv⟩ := has_tot z.Set (bt_range s i).1 (bt_range s i).2
      rw [hv, bnd, if_pos (by omega), if_pos (by omega)]
      refine step v ⟨fun h => ⟨hT, by rw [Hs, hv, h]⟩, fun ⟨_, h⟩ => ?_⟩
      rw [Hs, hv] at h
      simpa using h
    · rw [if_neg (fun h => hT ((T_gi (by omega)).1 h)), if_pos (by omega), if_pos (by omega)]
      exact step false (by simp [hT])
/-- one list of truths, or another -/
theorem reach_or (at_ : List Bool) (z : T27) (y : List Bool) (hy : y.length = s.size + 1) (m : Int) : ∀ (k i : Nat) (out : List Bool), i + k = s.size + 1 → out.length = s.size + 1 →
    ∃ o, M.tidepoleref12_Reach_l5 (s, at_, z, out, m, y, (i : Int)) = M.tidepoleref12_Reach_l2 (s, at_, z, o, wr .i64 (m + 1)) ∧ o.length = s.size + 1 ∧ (∀ j, T o j ↔ (T out j ∨ (i ≤ j ∧ T y j))) := by
  intro k
  induction k with
  | zero =>
    intro i out hi ho
    rw [M.tidepoleref12_Reach_l5]; try dsimp only
    rw [if_neg (by omega)]
    refine ⟨out, rfl, ho, fun j => ⟨.inl, fun h => ?_⟩⟩
    rcases h with h | ⟨h1, h2⟩
    · exact h
    · unfold T at h2
      rw [List.getElem?_eq_none (by omega)] at h2
      cases h2
  | succ k ih =>
    intro i out hi ho
    have next : ∀ b : Bool, (b = true ↔ (T out i ∨ T y i)) → ∃ o, M.tidepoleref12_Reach_l7 (s, at_, z, si out (i : Int) b, m, y, (i : Int)) = M.tidepoleref12_Reach_l2 (s, at_, z, o, wr .i64 (m + 1)) ∧ o.length = s.size + 1 ∧ (∀ j, T o j ↔ (T out j ∨ (i ≤ j ∧ T y j))) := by
      intro b hb
      rw [M.tidepoleref12_Reach_l7]; try dsimp only
      rw [wr_i64 (by omega) (by omega), show (i : Int) + 1 = ((i + 1 : Nat) : Int) by push_cast; rfl]
      obtain ⟨o, h1, h2, h3⟩ := ih (i + 1) (si out (i : Int) b) (by omega) (by rw [si_len]; exact ho)
      refine ⟨o, h1, h2, fun j => ?_⟩
      rw [h3, T_si (by omega)]
      by_cases e : j = i
      · subst e
        rw [if_pos rfl, hb]
        constructor
        · rintro ((h | h) | ⟨h, _⟩)
          · exact .inl h
          · exact .inr ⟨Nat.le_refl _, h⟩
          · omega
        · rintro (h | ⟨_, h⟩)
          · exact .inl (.inl h)
          · exact .inl (.inr h)
      · rw [if_neg e]
        constructor
        · rintro (h | ⟨h1, h2⟩)
          · exact .inl h
          · exact .inr ⟨by omega, h2⟩
        · rintro (h | ⟨h1, h2⟩)
          · exact .inl h
          · exact .inr ⟨by omega, h2⟩
    rw [M.tidepoleref12_Reach_l5]; try dsimp only
    rw [if_pos (by omega), if_pos (by omega), if_pos (by omega)]
    by_cases hT : T out i
    · rw [if_pos ((T_gi (by omega)).2 hT)]
      exact next true (by simp [hT])
    · rw [if_neg (fun h => hT ((T_gi (by omega)).1 h)), if_pos (by omega)]
      exact next _ (by rw [T_gi (by omega)]; simp [hT])
theorem reach_fresh (z : T27) (y : List Bool) (hy : y.length = s.size + 1) (more m : Int) : ∀ (k i : Nat) (out : List Bool) (fr : Bool), i + k = s.size + 1 → out.length = s.size + 1 →
    ∃ (o : List Bool) (f : Bool), M.tidepoleref12_Reach_l9 (s, z, out, y, more, m, fr, (i : Int)) = (if f = true then M.tidepoleref12_Reach_l8 (s, z, o, y, more, wr .i64 (m + 1)) else some o) ∧ o.length = s.size + 1 ∧ (∀ j, T o j ↔ (T out j ∨ (i ≤ j ∧ T y j))) ∧
      (f = true ↔ (fr = true ∨ ∃ j, i ≤ j ∧ T y j ∧ ¬ T out j)) := by
  intro k
  induction k with
  | zero =>
    intro i out fr hi ho
    rw [M.tidepoleref12_Reach_l9]; try dsimp only
    rw [if_neg (by omega)]
    have hno : ∀ j, i ≤ j → ¬ T y j := by
      intro j h1 h2
      unfold T at h2
      rw [List.getElem?_eq_none (by omega)] at h2
      cases h2
    refine ⟨out, fr, rfl, ho, fun j => ⟨.inl, fun h => ?_⟩, ⟨.inl, fun h => ?_⟩⟩
    · rcases h with h | ⟨h1, h2⟩
      · exact h
      · exact absurd h2 (hno j h1)
    · rcases h with h | ⟨j, h1, h2, _⟩
      · exact h
      · exact absurd h2 (hno j h1)
  | succ k ih =>
    intro i out fr hi ho
    have next : ∀ (b fr' : Bool), (b = true ↔ (T out i ∨ T y i)) → (fr' = true ↔ (fr = true ∨ (T y i ∧ ¬ T out i))) → ∃ (o : List Bool) (f : Bool), M.tidepoleref12_Reach_l11 (s, z, si out (i : Int) b, y, more, m, fr', (i : Int)) = (if f = true then M.tidepoleref12_Reach_l8 (s, z, o, y, more, wr .i64 (m + 1)) else some o) ∧ o.length = s.size + 1 ∧
        (∀ j, T o j ↔ (T out j ∨ (i ≤ j ∧ T y j))) ∧ (f = true ↔ (fr = true ∨ ∃ j, i ≤ j ∧ T y j ∧ ¬ T out j)) := by
      intro b fr' hb hf
      rw [M.tidepoleref12_Reach_l11]; try dsimp only
      rw [wr_i64 (by omega) (by omega), show (i : Int) + 1 = ((i + 1 : Nat) : Int) by push_cast; rfl]
      obtain ⟨o, f, h1, h2, h3, h4⟩ := ih (i + 1) (si out (i : Int) b) fr' (by omega) (by rw [si_len]; exact ho)
      refine ⟨o, f, h1, h2, fun j => ?_, ?_⟩
      · rw [h3, T_si (by omega)]
        by_cases e : j = i
        · subst e
          rw [if_pos rfl, hb]
          constructor
          · rintro ((h | h) | ⟨h, _⟩)
            · exact .inl h
            · exact .inr ⟨Nat.le_refl _, h⟩
            · omega
          · rintro (h | ⟨_, h⟩)
            · exact .inl (.inl h)
            · exact .inl (.inr h)
        · rw [if_neg e]
          constructor
          · rintro (h | ⟨h1, h2⟩)
            · exact .inl h
            · exact .inr ⟨by omega, h2⟩
          · rintro (h | ⟨h1, h2⟩)
            · exact .inl h
            · exact .inr ⟨by omega, h2⟩
      · rw [h4, hf]
        constructor
        · rintro ((h | ⟨h5, h6⟩) | ⟨j, h5, h6, h7⟩)
          · exact .inl h
          · exact .inr ⟨i, Nat.le_refl _, h5, h6⟩
          · rw [T_si (by omega), if_neg (by omega)] at h7
            exact .inr ⟨j, by omega, h6, h7⟩
        · rintro (h | ⟨j, h5, h6, h7⟩)
          · exact .inl (.inl h)
          · by_cases e : j = i
            · subst e; exact .inl (.inr ⟨h6, h7⟩)
            · refine .inr ⟨j, by omega, h6, ?_⟩
              rw [T_si (by omega), if_neg e]
              exact h7
    have l10 : ∀ fr' : Bool, (fr' = true ↔ (fr = true ∨ (T y i ∧ ¬ T out i))) → ∃ (o : List Bool) (f : Bool), M.tidepoleref12_Reach_l10 (s, z, out, y, more, m, fr', (i : Int)) = (if f = true then M.tidepoleref12_Reach_l8 (s, z, o, y, more, wr .i64 (m + 1)) else some o) ∧ o.length = s.size + 1 ∧
        (∀ j, T o j ↔ (T out j ∨ (i ≤ j ∧ T y j))) ∧ (f = true ↔ (fr = true ∨ ∃ j, i ≤ j ∧ T y j ∧ ¬ T out j)) := by
      intro fr' hf
      rw [M.tidepoleref12_Reach_l10]; try dsimp only
      rw [if_pos (by omega), if_pos (by omega)]
      by_cases hT : T out i
      · rw [if_pos ((T_gi (by omega)).2 hT)]
        exact next true fr' (by simp [hT]) hf
      · rw [if_neg (fun h => hT ((T_gi (by omega)).1 h)), if_pos (by omega)]
        exact next _ fr' (by rw [T_gi (by omega)]; simp [hT]) hf
    rw [M.tidepoleref12_Reach_l9]; try dsimp only
    rw [if_pos (by omega)]
    cases fr with
    | true =>
      rw [if_pos rfl]
      exact l10 true (by simp)
    | false =>
      rw [if_neg (by decide), if_pos (by omega), if_pos (by omega)]
      by_cases hY : T y i
      · rw [if_pos ((T_gi (by omega)).2 hY), if_pos (by omega)]
        refine l10 _ ?_
        by_cases hO : T out i
        · rw [(T_gi (by omega)).2 hO]; simp [hO]
        · have : gi out (i : Int) = false := by
            cases h : gi out (i : Int) with
            | false => rfl
            | true => exact absurd ((T_gi (by omega)).1 h) hO
          rw [this]; simp [hO, hY]
      · rw [if_neg (fun h => hY ((T_gi (by omega)).1 h))]
        exact l10 false (by simp [hY])

theorem reach_ok (d : Nat) : ∀ (r : T27) (at_ : List Bool), Rt d r → nd r ≤ 4096 → at_.length = s.size + 1 → ∃ o, M.tidepoleref12_Reach (r, s, at_) = some o ∧ o.length = s.size + 1 ∧ ∀ j, j ≤ s.size → (T o j ↔ Im s (Lg r) (T at_) j) := by
  induction d with
  | zero => intro r at_ h; exact absurd h id
  | succ d ih =>
    intro r at_ hr hn ha
    have hn' := hn
    rw [nd_eq] at hn'
    have hll := nds_len r.L
    have e0 : wr .i64 ((s.size : Int) + 1) = ((s.size + 1 : Nat) : Int) := by rw [wr_i64 (by omega) (by omega)]; push_cast; rfl
    have hv5 : (List.replicate (s.size + 1) false).length = s.size + 1 := by simp
    rw [M.tidepoleref12_Reach]; try dsimp only
    rw [e0, if_pos (by omega), if_pos (by omega), Int.toNat_natCast, bnd]
    have hLg : ∀ w, Lg r w ↔ ((r.Kind = 1 ∧ ∃ b, w = [b] ∧ Hs r.Set b) ∨ (r.Kind = 2 ∧ LgAll r.L w) ∨ (r.Kind = 3 ∧ LgAny r.L w) ∨ (r.Kind = 4 ∧ ∃ n : Nat, r.Min ≤ n ∧ (r.Max < 0 ∨ (n : Int) ≤ r.Max) ∧ Rep (fun w => LgHd r.L w) n w)) := by
      intro w
      cases r
      rw [Lg]
    rcases hr.1 with ⟨h1, hL, hmn, hmx⟩ | ⟨hk, hS, hmn, hmx⟩ | ⟨h4, ⟨x, hL⟩, hS, g0, g1, g2⟩
    · -- a set
      rw [if_pos h1]
      obtain ⟨o, k1, k2, k3⟩ := reach_set s hs r hr.2.1 at_ ha s.size 0 _ (by omega) hv5 (fun j => ⟨fun h => absurd h T_rep, fun h => by omega⟩)
      refine ⟨o, k1, k2, fun j hj => ?_⟩
      rw [k3]
      constructor
      · rintro ⟨j1, j2, j3, j4⟩
        refine ⟨j - 1, by omega, j3, (hLg _).2 (.inl ⟨h1, _, ?_, j4⟩)⟩
        have := wd_one s (j - 1)
        rw [show j - 1 + 1 = j by omega] at this
        exact this
      · rintro ⟨i, hi, hA, hw⟩
        rcases (hLg _).1 hw with ⟨_, b, e, hb⟩ | ⟨h, _⟩ | ⟨h, _⟩ | ⟨h, _⟩
        · have hl := congrArg List.length e
          rw [wd_len] at hl
          have hji : j = i + 1 := by simp at hl; omega
          subst hji
          rw [wd_one] at e
          cases e
          exact ⟨by omega, by omega, by simpa using hA, by simpa using hb⟩
        · omega
        · omega
        · omega
    · rcases hk with h2 | h3
      · -- all
        rw [if_neg (by omega), if_pos h2]
        have loop : ∀ (R pre : List T27) (now : List Bool), r.L = pre ++ R → now.length = s.size + 1 → ∃ o, M.tidepoleref12_Reach_l1 (s, r, now, (pre.length : Int)) = some o ∧ o.length = s.size + 1 ∧ ∀ j, j ≤ s.size → (T o j ↔ Im s (LgAll R) (T now) j) := by
          intro R
          induction R with
          | nil =>
            intro pre now e hnow
            rw [M.tidepoleref12_Reach_l1]; try dsimp only
            rw [if_neg (by rw [e]; simp)]
            refine ⟨now, rfl, hnow, fun j hj => ?_⟩
            have : LgAll [] = fun w => w = [] := by funext w; rw [LgAll]
            rw [this, Im_nil]
          | cons x R ihR =>
            intro pre now e hnow
            have hlen : r.L.length = pre.length + (R.length + 1) := by rw [e]; simp
            have hx : x ∈ r.L := by rw [e]; simp
            have hnx := nd_mem hx
            obtain ⟨o1, k1, k2, k3⟩ := ih x now (hr.2.2 x hx) (by omega) hnow
            rw [M.tidepoleref12_Reach_l1]; try dsimp only
            rw [if_pos (by omega), if_pos (by omega), show gi r.L (pre.length : Int) = x by rw [e]; exact gi_mid pre x R, eta27, k1, bnd, wr_i64 (by omega) (by omega)]
            obtain ⟨o, g1, g2, g3⟩ := ihR (pre ++ [x]) o1 (by rw [e]; simp) k2
            rw [show (((pre ++ [x]).length : Nat) : Int) = (pre.length : Int) + 1 by simp] at g1
            refine ⟨o, g1, g2, fun j hj => ?_⟩
            rw [g3 j hj, Im_congr s (fun _ => Iff.rfl) (fun i hi => k3 i hi) hj, Im_comp]
            exact Im_congr s (n := s.size) (fun w => by rw [LgAll]) (fun _ _ => Iff.rfl) hj
        obtain ⟨o, k1, k2, k3⟩ := loop r.L [] at_ rfl ha
        refine ⟨o, k1, k2, fun j hj => ?_⟩
        rw [k3 j hj]
        refine Im_congr s (n := s.size) (fun w => ?_) (fun _ _ => Iff.rfl) hj
        rw [hLg]
        constructor
        · intro h; exact .inr (.inl ⟨h2, h⟩)
        · rintro (⟨h, _⟩ | ⟨_, h⟩ | ⟨h, _⟩ | ⟨h, _⟩)
          · omega
          · exact h
          · omega
          · omega
      · -- one of some
        rw [if_neg (by omega), if_neg (by omega), if_pos h3]
        have loop : ∀ (R pre : List T27) (out : List Bool), r.L = pre ++ R → out.length = s.size + 1 → ∃ o, M.tidepoleref12_Reach_l2 (s, at_, r, out, (pre.length : Int)) = some o ∧ o.length = s.size + 1 ∧ ∀ j, j ≤ s.size → (T o j ↔ (T out j ∨ Im s (LgAny R) (T at_) j)) := by
          intro R
          induction R with
          | nil =>
            intro pre out e hout
            rw [M.tidepoleref12_Reach_l2]; try dsimp only
            rw [if_neg (by rw [e]; simp)]
            refine ⟨out, rfl, hout, fun j hj => ⟨.inl, fun h => ?_⟩⟩
            rcases h with h | ⟨i, _, _, h⟩
            · exact h
            · rw [LgAny] at h; exact absurd h id
          | cons x R ihR =>
            intro pre out e hout
            have hlen : r.L.length = pre.length + (R.length + 1) := by rw [e]; simp
            have hx : x ∈ r.L := by rw [e]; simp
            have hnx := nd_mem hx
            obtain ⟨o1, k1, k2, k3⟩ := ih x at_ (hr.2.2 x hx) (by omega) ha
            rw [M.tidepoleref12_Reach_l2]; try dsimp only
            rw [if_pos (by omega), if_pos (by omega), show gi r.L (pre.length : Int) = x by rw [e]; exact gi_mid pre x R, eta27, k1, bnd]
            obtain ⟨o2, h1, h2', h3'⟩ := reach_or s hs at_ r o1 k2 (pre.length : Int) (s.size + 1) 0 out (by omega) hout
            have h1' : M.tidepoleref12_Reach_l5 (s, at_, r, out, (pre.length : Int), o1, 0) = M.tidepoleref12_Reach_l2 (s, at_, r, o2, wr .i64 ((pre.length : Int) + 1)) := h1
            rw [h1', wr_i64 (by omega) (by omega)]
            obtain ⟨o, g1, g2, g3⟩ := ihR (pre ++ [x]) o2 (by rw [e]; simp) h2'
            rw [show (((pre ++ [x]).length : Nat) : Int) = (pre.length : Int) + 1 by simp] at g1
            refine ⟨o, g1, g2, fun j hj => ?_⟩
            rw [g3 j hj, h3', k3 j hj]
            constructor
            · rintro ((h | ⟨_, i, hi, hA, hw⟩) | ⟨i, hi, hA, hw⟩)
              · exact .inl h
              · exact .inr ⟨i, hi, hA, by rw [LgAny]; exact .inl hw⟩
              · exact .inr ⟨i, hi, hA, by rw [LgAny]; exact .inr hw⟩
            · rintro (h | ⟨i, hi, hA, hw⟩)
              · exact .inl (.inl h)
              · rw [LgAny] at hw
                rcases hw with hw | hw
                · exact .inl (.inr ⟨Nat.zero_le _, i, hi, hA, hw⟩)
                · exact .inr ⟨i, hi, hA, hw⟩
        obtain ⟨o, k1, k2, k3⟩ := loop r.L [] _ rfl hv5
        refine ⟨o, k1, k2, fun j hj => ?_⟩
        rw [k3 j hj]
        constructor
        · rintro (h | ⟨i, hi, hA, hw⟩)
          · exact absurd h T_rep
          · exact ⟨i, hi, hA, (hLg _).2 (.inr (.inr (.inl ⟨h3, hw⟩)))⟩
        · rintro ⟨i, hi, hA, hw⟩
          rcases (hLg _).1 hw with ⟨h, _⟩ | ⟨h, _⟩ | ⟨_, h⟩ | ⟨h, _⟩
          · omega
          · omega
          · exact .inr ⟨i, hi, hA, h⟩
          · omega
    · -- times
      have hx : x ∈ r.L := by rw [hL]; simp
      have hrx := hr.2.2 x hx
      have hnx : nd x ≤ 4096 := by have := nd_mem hx; omega
      have hg : gi r.L 0 = x := by rw [hL]; rfl
      have hl1 : (0 : Int) < (r.L.length : Int) := by rw [hL]; simp
      obtain ⟨m, hm⟩ := Int.eq_ofNat_of_zero_le g0
      rw [if_neg (by omega), if_neg (by omega), if_neg (by omega), if_pos h4]
      -- rounds beyond those that must be
      have more : ∀ (k i N : Nat) (B : Nat → Prop) (out now : List Bool), i + k = N → N ≤ 1000 → out.length = s.size + 1 → now.length = s.size + 1 → (∀ j, j ≤ s.size → (T now j ↔ Im s (Rep (Lg x) i) B j)) → (∀ j, j ≤ s.size → (T out j ↔ ∃ t, t ≤ i ∧ Im s (Rep (Lg x) t) B j)) →
          ∃ o, M.tidepoleref12_Reach_l8 (s, r, out, now, (N : Int), (i : Int)) = some o ∧ o.length = s.size + 1 ∧ ∀ j, j ≤ s.size → (T o j ↔ ∃ t, t ≤ N ∧ Im s (Rep (Lg x) t) B j) := by
        intro k
        induction k with
        | zero =>
          intro i N B out now hi hN ho hw h1 h2
          rw [M.tidepoleref12_Reach_l8]; try dsimp only
          rw [if_neg (by omega)]
          refine ⟨out, rfl, ho, fun j hj => ?_⟩
          rw [h2 j hj, show N = i by omega]
        | succ k ihk =>
          intro i N B out now hi hN ho hw h1 h2
          obtain ⟨y, k1, k2, k3⟩ := ih x now hrx hnx hw
          rw [M.tidepoleref12_Reach_l8]; try dsimp only
          rw [if_pos (by omega), if_pos hl1, hg, eta27, k1, bnd]
          have hy : ∀ j, j ≤ s.size → (T y j ↔ Im s (Rep (Lg x) (i + 1)) B j) := by
            intro j hj
            rw [k3 j hj, Im_congr s (fun _ => Iff.rfl) h1 hj, Im_comp]
            refine Im_congr s (n := s.size) (fun w => ?_) (fun _ _ => Iff.rfl) hj
            rw [Rep.add]
            constructor
            · rintro ⟨u, v, rfl, a, b⟩; exact ⟨u, v, rfl, a, v, [], by simp, b, rfl⟩
            · rintro ⟨u, v, rfl, a, v', z, rfl, b, c⟩
              cases (show z = [] from c)
              exact ⟨u, v', by simp, a, b⟩
          obtain ⟨o, f, f1, f2, f3, f4⟩ := reach_fresh s hs r y k2 (N : Int) (i : Int) (s.size + 1) 0 out false (by omega) ho
          have f1' : M.tidepoleref12_Reach_l9 (s, r, out, y, (N : Int), (i : Int), false, 0) = _ := f1
          rw [f1', wr_i64 (by omega) (by omega), show (i : Int) + 1 = ((i + 1 : Nat) : Int) by push_cast; rfl]
          have hout : ∀ j, j ≤ s.size → (T o j ↔ ∃ t, t ≤ i + 1 ∧ Im s (Rep (Lg x) t) B j) := by
            intro j hj
            rw [f3, h2 j hj, hy j hj]
            constructor
            · rintro (⟨t, ht, h⟩ | ⟨_, h⟩)
              · exact ⟨t, by omega, h⟩
              · exact ⟨i + 1, Nat.le_refl _, h⟩
            · rintro ⟨t, ht, h⟩
              by_cases e : t = i + 1
              · subst e; exact .inr ⟨Nat.zero_le _, h⟩
              · exact .inl ⟨t, by omega, h⟩
          cases f with
          | true =>
            rw [if_pos rfl]
            exact ihk (i + 1) N B o y (by omega) hN f2 k2 hy hout
          | false =>
            rw [if_neg (by decide)]
            refine ⟨o, rfl, f2, fun j hj => ?_⟩
            rw [hout j hj]
            -- nothing fresh: nothing more for ever
            have nof : ∀ q, q ≤ s.size → Im s (Rep (Lg x) (i + 1)) B q → ∃ t, t ≤ i ∧ Im s (Rep (Lg x) t) B q := by
              intro q hq h
              apply Classical.byContradiction
              intro hc
              have : ¬ (false = true) := by decide
              refine this (f4.2 (.inr ⟨q, Nat.zero_le _, (hy q hq).2 h, fun h' => hc ((h2 q hq).1 h')⟩))
            have all : ∀ (t q : Nat), q ≤ s.size → Im s (Rep (Lg x) t) B q → ∃ t', t' ≤ i ∧ Im s (Rep (Lg x) t') B q := by
              intro t
              induction t with
              | zero => intro q hq h; exact ⟨0, by omega, h⟩
              | succ t iht =>
                rintro q hq ⟨a, ha1, ha2, ha3⟩
                rw [Rep.add] at ha3
                obtain ⟨u, v, e, h5, h6⟩ := ha3
                obtain ⟨p, p1, p2, rfl, rfl⟩ := wd_split s ha1 e
                obtain ⟨t', ht', a', ha1', ha2', ha3'⟩ := iht p (by omega) ⟨a, p1, ha2, h5⟩
                have hnew : Im s (Rep (Lg x) (t' + 1)) B q := ⟨a', by omega, ha2', by rw [Rep.add]; exact ⟨_, _, wd_app s ha1' p2, ha3', h6⟩⟩
                by_cases e2 : t' = i
                · rw [e2] at hnew; exact nof q hq hnew
                · exact ⟨t' + 1, by omega, hnew⟩
            constructor
            · rintro ⟨t, ht, h⟩; exact ⟨t, by omega, h⟩
            · rintro ⟨t, ht, h⟩
              obtain ⟨t', ht', h'⟩ := all t j hj h
              exact ⟨t', by omega, h'⟩
      have must : ∀ (k i : Nat) (now : List Bool), i + k = m → now.length = s.size + 1 → (∀ j, j ≤ s.size → (T now j ↔ Im s (Rep (Lg x) i) (T at_) j)) → ∃ o, M.tidepoleref12_Reach_l3 (s, r, now, (i : Int)) = some o ∧ o.length = s.size + 1 ∧ ∀ j, j ≤ s.size → (T o j ↔ Im s (Lg r) (T at_) j) := by
        intro k
        induction k with
        | zero =>
          intro i now hi hw h1
          rw [M.tidepoleref12_Reach_l3]; try dsimp only
          rw [if_neg (by omega), if_pos (by omega), M.tidepoleref12_Reach_l6, M.tidepoleref12_Reach_l6]; try dsimp only
          have him : i = m := by omega
          subst him
          have hB : ∀ (t j : Nat), j ≤ s.size → (Im s (Rep (Lg x) t) (T now) j ↔ Im s (Rep (Lg x) (i + t)) (T at_) j) := by
            intro t j hj
            rw [Im_congr s (fun _ => Iff.rfl) h1 hj, Im_comp]
            exact Im_congr s (n := s.size) (fun w => by rw [Rep.add]) (fun _ _ => Iff.rfl) hj
          have start : ∀ j, j ≤ s.size → (T now j ↔ Im s (Rep (Lg x) 0) (T now) j) := fun j hj => by
            have : Rep (Lg x) 0 = fun w => w = [] := by funext w; rfl
            rw [this, Im_nil]
          have start2 : ∀ j, j ≤ s.size → (T now j ↔ ∃ t, t ≤ 0 ∧ Im s (Rep (Lg x) t) (T now) j) := fun j hj => by
            rw [start j hj]
            constructor
            · intro h; exact ⟨0, Nat.le_refl _, h⟩
            · rintro ⟨t, ht, h⟩; cases (show t = 0 by omega); exact h
          have hd : ∀ w, LgHd r.L w = Lg x w := by intro w; rw [hL, LgHd]
          by_cases hmx : r.Max < 0
          · rw [if_pos hmx, e0]
            obtain ⟨o, q1, q2, q3⟩ := more (s.size + 1) 0 (s.size + 1) (T now) now now (by omega) (by omega) hw hw start start2
            refine ⟨o, q1, q2, fun j hj => ?_⟩
            rw [q3 j hj]
            constructor
            · rintro ⟨t, ht, h⟩
              rw [hB t j hj] at h
              obtain ⟨a, a1, a2, a3⟩ := h
              refine ⟨a, a1, a2, (hLg _).2 (.inr (.inr (.inr ⟨h4, i + t, by omega, .inl hmx, ?_⟩)))⟩
              simp only [hd]
              exact a3
            · rintro ⟨a, a1, a2, a3⟩
              rcases (hLg _).1 a3 with ⟨h, _⟩ | ⟨h, _⟩ | ⟨h, _⟩ | ⟨_, n, n1, n2, n3⟩
              · omega
              · omega
              · omega
              · simp only [hd] at n3
                rw [show n = i + (n - i) by omega, Rep.add] at n3
                obtain ⟨u, v, e, h5, h6⟩ := n3
                obtain ⟨t, t1, t2, t3⟩ := h6.short
                have hvl : v.length ≤ s.size := by
                  have := congrArg List.length e
                  rw [wd_len, List.length_append] at this
                  omega
                refine ⟨t, by omega, (hB t j hj).2 ⟨a, a1, a2, ?_⟩⟩
                rw [Rep.add]
                exact ⟨u, v, e, h5, t3⟩
          · rw [if_neg hmx]
            obtain ⟨k, hk⟩ := Int.eq_ofNat_of_zero_le (show 0 ≤ r.Max - (i : Int) by rcases g2 with h | h <;> omega)
            have hk2 : k ≤ 64 := by rcases g2 with h | h <;> omega
            rw [hm, hk, wr_i64 (by omega) (by omega)]
            obtain ⟨o, q1, q2, q3⟩ := more k 0 k (T now) now now (by omega) (by omega) hw hw start start2
            refine ⟨o, q1, q2, fun j hj => ?_⟩
            rw [q3 j hj]
            constructor
            · rintro ⟨t, ht, h⟩
              rw [hB t j hj] at h
              obtain ⟨a, a1, a2, a3⟩ := h
              refine ⟨a, a1, a2, (hLg _).2 (.inr (.inr (.inr ⟨h4, i + t, by omega, .inr (by omega), ?_⟩)))⟩
              simp only [hd]
              exact a3
            · rintro ⟨a, a1, a2, a3⟩
              rcases (hLg _).1 a3 with ⟨h, _⟩ | ⟨h, _⟩ | ⟨h, _⟩ | ⟨_, n, n1, n2, n3⟩
              · omega
              · omega
              · omega
              · simp only [hd] at n3
                refine ⟨n - i, by omega, (hB _ j hj).2 ⟨a, a1, a2, ?_⟩⟩
                rw [show i + (n - i) = n by omega]
                exact n3
        | succ k ihk =>
          intro i now hi hw h1
          obtain ⟨y, k1, k2, k3⟩ := ih x now hrx hnx hw
          rw [M.tidepoleref12_Reach_l3]; try dsimp only
          rw [if_pos (by omega), if_pos hl1, hg, eta27, k1, bnd, wr_i64 (by omega) (by omega), show (i : Int) + 1 = ((i + 1 : Nat) : Int) by push_cast; rfl]
          refine ihk (i + 1) y (by omega) k2 (fun j hj => ?_)
          rw [k3 j hj, Im_congr s (fun _ => Iff.rfl) h1 hj, Im_comp]
          refine Im_congr s (n := s.size) (fun w => ?_) (fun _ _ => Iff.rfl) hj
          rw [Rep.add]
          constructor
          · rintro ⟨u, v, rfl, a, b⟩; exact ⟨u, v, rfl, a, v, [], by simp, b, rfl⟩
          · rintro ⟨u, v, rfl, a, v', z, rfl, b, c⟩
            cases (show z = [] from c)
            exact ⟨u, v', by simp, a, b⟩
      exact must m 0 at_ (by omega) ha (fun j hj => by
        have : Rep (Lg x) 0 = fun w => w = [] := by funext w; rfl
        rw [this, Im_nil])
theorem refmeans_ok (r : T27) (hr : Rt 128 r) (hn : nd r ≤ 4096) : ∃ b, M.tidepoleref12_Means r s = some b ∧ (b = true ↔ Lg r (U s s.size)) := by
  have e0 : wr .i64 ((s.size : Int) + 1) = ((s.size + 1 : Nat) : Int) := by rw [wr_i64 (by omega) (by omega)]; push_cast; rfl
  have hT : ∀ i, T (si (List.replicate (s.size + 1) false) 0 true) i ↔ i = 0 := by
    intro i
    have := @T_si (List.replicate (s.size + 1) false) 0 i true (by simp)
    have this' : T (si (List.replicate (s.size + 1) false) 0 true) i ↔ if i = 0 then true = true else T (List.replicate (s.size + 1) false) i := this
    rw [this']
    split
    · rename_i h; simp [h]
    · rename_i h; simp [h, T_rep]
  obtain ⟨o, k1, k2, k3⟩ := reach_ok s hs 128 r (si (List.replicate (s.size + 1) false) 0 true) hr hn (by rw [si_len]; simp)
  rw [M.tidepoleref12_Means, e0, if_pos (by omega), if_pos (by omega), Int.toNat_natCast, bnd, if_pos (by simp), k1, bnd, if_pos (by omega)]
  refine ⟨_, rfl, ?_⟩
  rw [T_gi (by omega), k3 _ (Nat.le_refl _)]
  constructor
  · rintro ⟨i, hi, hA, hw⟩
    rw [hT] at hA
    subst hA
    rw [← wd_U]
    exact hw
  · intro h
    rw [← wd_U] at h
    exact ⟨0, Nat.zero_le _, (hT 0).2 rfl, h⟩
end
end Go.Proofs.Ytemokppdnkiejaa
