/-
  Any instructions are judged to be a program, and told as a text, as the document says, or refused. Pure.
-/
import Derived.Test.YtemokppdnkiejaaDoorPPrP
set_option linter.unusedVariables false
set_option linter.unusedSimpArgs false
namespace Go.Proofs.YtemokppdnkiejaaDoor
open Go.Gx

theorem s2b_range (s : ByteArray) : ∀ x ∈ s2b s, 0 ≤ x ∧ x ≤ 255 := by
  intro x hx
  simp only [s2b, List.mem_map] at hx
  obtain ⟨b, _, rfl⟩ := hx
  have := b.toNat_lt
  omega
theorem s2b_inj {s t : ByteArray} : s2b s = s2b t ↔ s.toList = t.toList := by
  rw [Go.ByteArray.toList_eq, Go.ByteArray.toList_eq]
  unfold s2b
  constructor
  · intro h
    exact (List.map_inj_right (fun a b hab => UInt8.toNat_inj.1 (by omega))).1 h
  · intro h; rw [h]
theorem s2b_app (s t : ByteArray) : s2b (s ++ t) = s2b s ++ s2b t := by
  simp [s2b, ByteArray.data_append]

/-! ### What may be an instruction -/
def rightP (x : T48) (N : Int) : Prop :=
  (x.Op = 1 ∧ 0 ≤ x.X ∧ x.X < N ∧ x.Y = 0) ∨ (x.Op = 2 ∧ x.Set = [0, 0, 0, 0] ∧ 0 ≤ x.X ∧ x.X < N ∧ 0 ≤ x.Y ∧ x.Y < N) ∨ (x.Op = 4 ∧ x.Set = [0, 0, 0, 0] ∧ 0 ≤ x.X ∧ x.X < N ∧ x.Y = 0) ∨ (x.Op = 3 ∧ x.Set = [0, 0, 0, 0] ∧ x.X = 0 ∧ x.Y = 0)
theorem right1_eq (k n : Int) : M.prog_right_1 k n = some (decide (0 ≤ k ∧ k < n)) := by
  unfold M.prog_right_1
  split
  · congr 1; rw [decide_eq_decide]; omega
  · rw [decide_eq_false (by omega)]
theorem pright_tot (x : T48) (N : Int) : ∃ b, M.prog_right x N = some b ∧ (b = true ↔ rightP x N) := by
  obtain ⟨z, hz⟩ : ∃ z : Nat, (x.Set = [0, 0, 0, 0] ↔ z = 1) := by
    by_cases h : x.Set = [0, 0, 0, 0]
    · exact ⟨1, by simp [h]⟩
    · exact ⟨0, by simp [h]⟩
  unfold M.prog_right rightP
  simp only [hz, right1_eq, bnd, decide_eq_true_eq]
  (repeat' split) <;> first
    | exact ⟨_, rfl, by simp only [decide_eq_true_eq]; omega⟩
    | exact ⟨_, rfl, by simp only [Bool.false_eq_true, false_iff]; omega⟩
theorem pcheck_run (l : List T48) (hl : l.length ≤ 2048) : ∀ (R pre : List T48), l = pre ++ R → M.prog_Check_l1 (l, l, (l.length : Int), (pre.length : Int)) = some 0 ∧ (∀ x ∈ R, rightP x l.length) ∨ M.prog_Check_l1 (l, l, (l.length : Int), (pre.length : Int)) = some 110 ∧ ¬ (∀ x ∈ R, rightP x l.length) := by
  intro R
  induction R with
  | nil =>
    intro pre e
    left
    rw [List.append_nil] at e
    refine ⟨?_, by simp⟩
    rw [M.prog_Check_l1]; try dsimp only
    rw [if_neg (by rw [e]; omega)]
  | cons x R ih =>
    intro pre e
    have hll : l.length = pre.length + (R.length + 1) := by rw [e]; simp
    have hg : gi l (pre.length : Int) = x := by rw [e]; exact gi_mid _ _ _
    obtain ⟨b, h1, h2⟩ := pright_tot x (l.length : Int)
    rw [M.prog_Check_l1]; try dsimp only
    rw [if_pos (by omega), if_pos (by omega), if_pos (by omega), hg, eta88, h1, bnd]
    cases b with
    | false =>
      right
      refine ⟨by rw [if_neg (by decide)], fun h => ?_⟩
      have := h2.2 (h x (by simp))
      cases this
    | true =>
      have hx := h2.1 rfl
      have := ih (pre ++ [x]) (by rw [e]; simp)
      rw [show (((pre ++ [x]).length : Nat) : Int) = (pre.length : Int) + 1 by simp] at this
      rw [if_pos rfl, wr_i64 (by omega) (by omega)]
      rcases this with ⟨k1, k2⟩ | ⟨k1, k2⟩
      · left
        refine ⟨k1, fun y hy => ?_⟩
        rcases List.mem_cons.1 hy with h | h
        · rw [h]; exact hx
        · exact k2 y h
      · right
        exact ⟨k1, fun h => k2 fun y hy => h y (by simp [hy])⟩
theorem ite_both {c : Prop} [Decidable c] {α : Type} {A B R : α} (h1 : c → A = R) (h2 : ¬ c → B = R) : (if c then A else B) = R := by
  by_cases h : c
  · rw [if_pos h]; exact h1 h
  · rw [if_neg h]; exact h2 h
theorem rround (l : List T48) (i : Nat) (x : T48) (hi : i < l.length) (hl : l.length ≤ 2048) (hx : gi l (i : Int) = x) :
    (rightP x l.length → M.tidepoleref11_Check_l1 (l, (i : Int)) = M.tidepoleref11_Check_l1 (l, (i : Int) + 1)) ∧ (¬ rightP x l.length → M.tidepoleref11_Check_l1 (l, (i : Int)) = some 110) := by
  obtain ⟨z, hz⟩ : ∃ z : Nat, (x.Set = [0, 0, 0, 0] ↔ z = 1) := by
    by_cases h : x.Set = [0, 0, 0, 0]
    · exact ⟨1, by simp [h]⟩
    · exact ⟨0, by simp [h]⟩
  have hw : wr .i64 ((i : Int) + 1) = (i : Int) + 1 := wr_i64 (by omega) (by omega)
  have bad : ∀ b : Bool, b = true → M.tidepoleref11_Check_l2 (l, (i : Int), b) = some 110 := by
    intro b hb
    rw [M.tidepoleref11_Check_l2]; try dsimp only
    rw [if_pos hb]
  have fine : ∀ b : Bool, b = false → M.tidepoleref11_Check_l2 (l, (i : Int), b) = M.tidepoleref11_Check_l1 (l, (i : Int) + 1) := by
    intro b hb
    rw [M.tidepoleref11_Check_l2]; try dsimp only
    rw [if_neg (by rw [hb]; decide), hw]
  constructor
  · intro hr
    unfold rightP at hr
    simp only [hz] at hr
    conv => lhs; rw [M.tidepoleref11_Check_l1]
    try dsimp only
    rw [if_pos (by omega), if_pos (by omega), hx]
    (repeat' (refine ite_both (fun h => ?_) (fun h => ?_))) <;> (try simp only [hz] at *) <;> first | exact fine _ (decide_eq_false (by omega)) | (exfalso; omega)
  · intro hr
    unfold rightP at hr
    simp only [hz] at hr
    rw [M.tidepoleref11_Check_l1]; try dsimp only
    rw [if_pos (by omega), if_pos (by omega), hx]
    (repeat' (refine ite_both (fun h => ?_) (fun h => ?_))) <;> (try simp only [hz] at *) <;> first | exact bad _ rfl | exact bad _ (decide_eq_true (by omega)) | (exfalso; omega)
theorem rcheck_run (l : List T48) (hl : l.length ≤ 2048) : ∀ (R pre : List T48), l = pre ++ R → M.tidepoleref11_Check_l1 (l, (pre.length : Int)) = some 0 ∧ (∀ x ∈ R, rightP x l.length) ∨ M.tidepoleref11_Check_l1 (l, (pre.length : Int)) = some 110 ∧ ¬ (∀ x ∈ R, rightP x l.length) := by
  intro R
  induction R with
  | nil =>
    intro pre e
    left
    rw [List.append_nil] at e
    refine ⟨?_, by simp⟩
    rw [M.tidepoleref11_Check_l1]; try dsimp only
    rw [if_neg (by rw [e]; omega)]
  | cons x R ih =>
    intro pre e
    have hll : l.length = pre.length + (R.length + 1) := by rw [e]; simp
    have hg : gi l (pre.length : Int) = x := by rw [e]; exact gi_mid _ _ _
    obtain ⟨r1, r2⟩ := rround l pre.length x (by omega) hl hg
    by_cases hx : rightP x l.length
    · have := ih (pre ++ [x]) (by rw [e]; simp)
      rw [show (((pre ++ [x]).length : Nat) : Int) = (pre.length : Int) + 1 by simp] at this
      rw [r1 hx]
      rcases this with ⟨k1, k2⟩ | ⟨k1, k2⟩
      · left
        refine ⟨k1, fun y hy => ?_⟩
        rcases List.mem_cons.1 hy with h | h
        · rw [h]; exact hx
        · exact k2 y h
      · right
        exact ⟨k1, fun h => k2 fun y hy => h y (by simp [hy])⟩
    · right
      exact ⟨r2 hx, fun h => hx (h x (by simp))⟩
/-- the two judgements are one -/
theorem checks_ok (l : List T48) : (M.prog_Check l = some 0 ∧ M.tidepoleref11_Check l = some 0 ∧ l.length ≤ 2048 ∧ ∀ x ∈ l, rightP x l.length) ∨ (M.prog_Check l = some 110 ∧ M.tidepoleref11_Check l = some 110) := by
  rw [M.prog_Check, M.tidepoleref11_Check]
  by_cases h0 : (l.length : Int) = 0
  · right
    rw [if_pos h0, if_pos h0, M.prog_Check_l0, M.tidepoleref11_Check_l0]; try dsimp only
    exact ⟨rfl, rfl⟩
  · rw [if_neg h0, if_neg h0, M.prog_Check_l0, M.tidepoleref11_Check_l0]; try dsimp only
    by_cases h : (l.length : Int) > 2048
    · right
      rw [decide_eq_true h]
      exact ⟨rfl, rfl⟩
    · rw [decide_eq_false h, if_neg (by decide), if_neg (by decide)]
      have a := pcheck_run l (by omega) l [] rfl
      have b := rcheck_run l (by omega) l [] rfl
      rcases a with ⟨a1, a2⟩ | ⟨a1, a2⟩ <;> rcases b with ⟨b1, b2⟩ | ⟨b1, b2⟩
      · exact .inl ⟨a1, b1, by omega, a2⟩
      · exact absurd a2 b2
      · exact absurd b2 a2
      · exact .inr ⟨a1, b1⟩

/-! ### Numerals -/
theorem b2s_one (n : Nat) (h : n < 256) : s2b (b2s [(n : Int)]) = [(n : Int)] := by
  have : ∀ n : Nat, n < 256 → s2b (b2s [(n : Int)]) = [(n : Int)] := by decide +kernel
  exact this n h
theorem b2s_sz (x : Int) : (b2s [x]).size = 1 := rfl
theorem s2b_itoa (n : Nat) : s2b (itoaB (n : Int)) = (Lib.decDigits n).map fun b => (b.toNat : Int) := by
  unfold itoaB s2b
  rw [Lib.itoa_nonneg]
theorem dig_eq (n : Nat) (h : n < 10) : ((UInt8.ofNat (48 + n)).toNat : Int) = 48 + (n : Int) := by
  have : ∀ n : Nat, n < 10 → ((UInt8.ofNat (48 + n)).toNat : Int) = 48 + (n : Int) := by decide +kernel
  exact this n h
theorem irem10 {m : Nat} (h : m ≤ 100000) : irem .i64 (m : Int) 10 = ((m % 10 : Nat) : Int) := by
  unfold irem
  rw [Int.tmod_eq_emod_of_nonneg (by omega)]
  omega
theorem iquo10 {m : Nat} (h : m ≤ 100000) : iquo .i64 (m : Int) 10 = ((m / 10 : Nat) : Int) := by
  unfold iquo
  have : (m : Int).tdiv 10 = ((m / 10 : Nat) : Int) := by rw [Int.tdiv_eq_ediv_of_nonneg (by omega)]; omega
  rw [this]
  exact wr_i64 (by omega) (by omega)
theorem u8_dig : ∀ n : Nat, n < 10 → wr .u8 (wr .i64 (48 + (n : Int))) = ((48 + n : Nat) : Int) := by decide +kernel
theorem itoa_run (n : Int) (hn : 0 ≤ n) : ∀ (m : Nat) (acc : ByteArray), m ≤ 100000 → acc.size + m ≤ 1000000 → ∃ t, M.tidepolebase_Itoa_l0 (n, acc, (m : Int)) = some t ∧ s2b t = (if m = 0 then [] else (Lib.decDigits m).map fun b => (b.toNat : Int)) ++ s2b acc := by
  intro m
  induction m using Nat.strongRecOn with
  | _ m ih =>
    intro acc h1 h2
    rw [M.tidepolebase_Itoa_l0]; try dsimp only
    by_cases hm : m = 0
    · rw [if_pos (by omega), if_neg (by omega)]
      exact ⟨acc, rfl, by rw [if_pos hm]; rfl⟩
    · have hd : m % 10 < 10 := Nat.mod_lt _ (by omega)
      rw [if_neg (by omega), irem10 h1, if_neg (by omega), M.tidepolebase_Itoa_l1]; try dsimp only
      rw [b2s_sz, if_pos (by omega), iquo10 h1, u8_dig _ hd]
      obtain ⟨t, k1, k2⟩ := ih (m / 10) (by omega) (b2s [((48 + m % 10 : Nat) : Int)] ++ acc) (by omega) (by rw [ByteArray.size_append, b2s_sz]; omega)
      refine ⟨t, k1, ?_⟩
      rw [k2, if_neg hm, s2b_app, b2s_one _ (by omega)]
      by_cases h10 : m < 10
      · have hm' : m % 10 = m := Nat.mod_eq_of_lt h10
        rw [if_pos (by omega), Lib.decDigits_one h10, hm']
        simp only [List.map_cons, List.map_nil, dig_eq m h10]
        rfl
      · rw [if_neg (by omega)]
        conv => rhs; rw [Lib.decDigits, dif_neg h10]
        simp only [List.map_append, List.map_cons, List.map_nil, dig_eq _ hd, List.append_assoc]
        rfl
theorem ritoa_ok (n : Nat) (h : n ≤ 100000) : ∃ t, M.tidepolebase_Itoa (n : Int) = some t ∧ s2b t = s2b (itoaB (n : Int)) ∧ t.size ≤ 30 := by
  have fin : ∀ t : ByteArray, s2b t = s2b (itoaB (n : Int)) → t.size ≤ 30 := by
    intro t ht
    have := itoaB_size (n := (n : Int)) (by omega) (by omega)
    have h1 := s2b_len t
    have h2 := s2b_len (itoaB (n : Int))
    rw [ht] at h1
    omega
  rw [M.tidepolebase_Itoa]
  by_cases h0 : n = 0
  · rw [if_pos (by omega)]
    have e : s2b (⟨#[48]⟩ : ByteArray) = s2b (itoaB (n : Int)) := by rw [h0, show itoaB ((0 : Nat) : Int) = ⟨#[48]⟩ from itoa_dig (n := 0) (by decide)]
    exact ⟨_, rfl, e, fin _ e⟩
  · rw [if_neg (by omega)]
    obtain ⟨t, k1, k2⟩ := itoa_run (n : Int) (by omega) n (⟨#[]⟩ : ByteArray) h (by show 0 + n ≤ _; omega)
    rw [if_neg h0] at k2
    have e : s2b t = s2b (itoaB (n : Int)) := by
      rw [k2, s2b_itoa, show s2b (⟨#[]⟩ : ByteArray) = [] from rfl, List.append_nil]
    exact ⟨t, k1, e, fin t e⟩

/-! ### Lines -/
theorem s2b_join1 (a sep : ByteArray) : s2b (joinB [a] sep) = s2b a := by
  unfold joinB s2b
  simp [Lib.join, List.intercalate]
theorem s2b_join2 (a b : ByteArray) (l : List ByteArray) (sep : ByteArray) : s2b (joinB (a :: b :: l) sep) = s2b a ++ s2b sep ++ s2b (joinB (b :: l) sep) := by
  unfold joinB s2b
  simp [Lib.join, List.intercalate, List.intersperse]
/-- how many ones, one bit after the other -/
def bitN (x : T48) (b : Nat) : Nat := ((gi x.Set ((b / 64 : Nat) : Int)).toNat / 2 ^ (b % 64)) % 2
def bits (x : T48) : Nat → Nat
  | 0 => 0
  | k + 1 => bits x k + bitN x k
def SetR (l : List Int) : Prop := l.length = 4 ∧ ∀ x ∈ l, 0 ≤ x ∧ x < 18446744073709551616
theorem SetR.at_ {l : List Int} (h : SetR l) (q : Nat) (hq : q < 4) : ∃ n : Nat, gi l (q : Int) = (n : Int) ∧ n < 18446744073709551616 := by
  have hm : gi l (q : Int) ∈ l := gi_mem l _ (by omega) (by have := h.1; omega)
  have := h.2 _ hm
  obtain ⟨n, hn⟩ := Int.eq_ofNat_of_zero_le this.1
  exact ⟨n, hn, by omega⟩
theorem bits_word (x : T48) (q w : Nat) (hw : gi x.Set (q : Int) = (w : Int)) : ∀ j, j ≤ 64 → bits x (64 * q + j) = bits x (64 * q) + ones j w
  | 0, _ => rfl
  | j + 1, hj => by
    have e1 : (64 * q + j) / 64 = q := by omega
    have e2 : (64 * q + j) % 64 = j := by omega
    show bits x (64 * q + j) + bitN x (64 * q + j) = _
    rw [bits_word x q w hw j (by omega), bitN, e1, e2, hw, Int.toNat_natCast]
    show _ = bits x (64 * q) + (ones j w + w / 2 ^ j % 2)
    omega
theorem cnt_bits (x : T48) (h : SetR x.Set) : cnt x = ((bits x 256 : Nat) : Int) := by
  obtain ⟨w0, a0, b0⟩ := h.at_ 0 (by omega)
  obtain ⟨w1, a1, b1⟩ := h.at_ 1 (by omega)
  obtain ⟨w2, a2, b2⟩ := h.at_ 2 (by omega)
  obtain ⟨w3, a3, b3⟩ := h.at_ 3 (by omega)
  have c0 := bits_word x 0 w0 a0 64 (Nat.le_refl _)
  have c1 := bits_word x 1 w1 a1 64 (Nat.le_refl _)
  have c2 := bits_word x 2 w2 a2 64 (Nat.le_refl _)
  have c3 := bits_word x 3 w3 a3 64 (Nat.le_refl _)
  simp only [Nat.reduceMul, Nat.reduceAdd] at c0 c1 c2 c3
  have z : bits x 0 = 0 := rfl
  unfold cnt
  have a0' : gi x.Set 0 = (w0 : Int) := a0
  have a1' : gi x.Set 1 = (w1 : Int) := a1
  have a2' : gi x.Set 2 = (w2 : Int) := a2
  have a3' : gi x.Set 3 = (w3 : Int) := a3
  rw [a0', a1', a2', a3', oc_ones w0 b0, oc_ones w1 b1, oc_ones w2 b2, oc_ones w3 b3]
  omega
theorem quo64 : ∀ b : Nat, b < 256 → iquo .u8 (b : Int) 64 = ((b / 64 : Nat) : Int) ∧ irem .u8 (b : Int) 64 = ((b % 64 : Nat) : Int) ∧ wr .u8 (b : Int) = (b : Int) := by decide +kernel
theorem irem2 (n : Nat) (h : n < 18446744073709551616) : irem .u64 (n : Int) 2 = ((n % 2 : Nat) : Int) := by
  unfold irem
  rw [Int.tmod_eq_emod_of_nonneg (by omega)]
  omega
theorem rhas_bit (x : T48) (h : SetR x.Set) (b : Nat) (hb : b < 256) : M.tidepoleref10_Has x.Set (wr .u8 (b : Int)) = some (decide (bitN x b = 1)) := by
  obtain ⟨q1, q2, q3⟩ := quo64 b hb
  obtain ⟨w, a, c⟩ := h.at_ (b / 64) (by omega)
  rw [q3, M.tidepoleref10_Has, q1, q2, if_pos (by omega), if_pos (by omega), if_pos (by omega), a, ishr_u64 w (b % 64) (by omega), irem2 _ (Nat.lt_of_le_of_lt (Nat.div_le_self _ _) c)]
  congr 1
  unfold bitN
  rw [a, Int.toNat_natCast, decide_eq_decide]
  omega
theorem bits_le (x : T48) : ∀ k, bits x k ≤ k
  | 0 => Nat.le_refl _
  | k + 1 => by
    have := bits_le x k
    have h2 : bitN x k < 2 := Nat.mod_lt _ (by omega)
    show bits x k + bitN x k ≤ k + 1
    omega

/-! ### The document's text -/
theorem rtext_ok (l : List T48) (hl : l.length ≤ 2048) (hr : ∀ x ∈ l, rightP x l.length) (hs : ∀ x ∈ l, SetR x.Set) : ∃ t, M.tidepoleref11_Text_l0 (l, (⟨#[]⟩ : ByteArray), 0) = some (t, 0) ∧ s2b t = l.flatMap tl := by
  have sma : ∀ x ∈ l, Sma x := by
    intro x hx
    have := hr x hx
    unfold rightP at this
    refine ⟨?_, ?_, ?_, ?_⟩ <;> rcases this with h | h | h | h <;> omega
  have loop : ∀ (R pre : List T48) (acc : ByteArray), l = pre ++ R → s2b acc = pre.flatMap tl → ∃ t, M.tidepoleref11_Text_l0 (l, acc, (pre.length : Int)) = some (t, 0) ∧ s2b t = l.flatMap tl := by
    intro R
    induction R with
    | nil =>
      intro pre acc e ha
      rw [List.append_nil] at e
      rw [M.tidepoleref11_Text_l0]; try dsimp only
      rw [if_neg (by rw [e]; omega)]
      exact ⟨acc, rfl, by rw [ha, e]⟩
    | cons x R ih =>
      intro pre acc e ha
      have hll : l.length = pre.length + (R.length + 1) := by rw [e]; simp
      have hg : gi l (pre.length : Int) = x := by rw [e]; exact gi_mid _ _ _
      have hx : x ∈ l := by rw [e]; simp
      have hR := hr x hx
      obtain ⟨x0, x1, y0, y1⟩ := sma x hx
      have hS := hs x hx
      have hlen := fl_len pre fun y hy => sma y (by rw [e]; simp [hy])
      have hacc : acc.size ≤ 61 * pre.length := by rw [← s2b_len, ha]; exact hlen
      -- on from here, the line being told
      have next : ∀ v : ByteArray, s2b v = tl x → ∃ t, M.tidepoleref11_Text_l2 (l, acc ++ v, (pre.length : Int)) = some (t, 0) ∧ s2b t = l.flatMap tl := by
        intro v hv
        have := ih (pre ++ [x]) (acc ++ v) (by rw [e]; simp) (by rw [s2b_app, ha, hv, List.flatMap_append]; simp)
        rw [show (((pre ++ [x]).length : Nat) : Int) = (pre.length : Int) + 1 by simp] at this
        rw [M.tidepoleref11_Text_l2]; try dsimp only
        rw [wr_i64 (by omega) (by omega)]
        exact this
      have vsz : ∀ v : ByteArray, s2b v = tl x → v.size ≤ 61 := fun v hv => by
        have := tl_len x ⟨x0, x1, y0, y1⟩
        rw [← hv, s2b_len] at this
        exact this
      obtain ⟨X, hX⟩ := Int.eq_ofNat_of_zero_le x0
      obtain ⟨Y, hY⟩ := Int.eq_ofNat_of_zero_le y0
      obtain ⟨tx, i1, i2, i3⟩ := ritoa_ok X (by omega)
      obtain ⟨ty, j1, j2, j3⟩ := ritoa_ok Y (by omega)
      rw [← hX] at i1 i2
      rw [← hY] at j1 j2
      have n1 : NL.size = 1 := rfl
      have p1 : SP.size = 1 := rfl
      rw [M.tidepoleref11_Text_l0]; try dsimp only
      rw [if_pos (by omega), if_pos (by omega), hg]
      by_cases o1 : x.Op = 1
      · rw [if_pos o1, eta88]
        have ones_run : ∀ (k b : Nat), b + k = 256 → M.tidepoleref11_Text_l1 (l, acc, (pre.length : Int), x, ((bits x b : Nat) : Int), (b : Int)) = M.tidepoleref11_Text_l1 (l, acc, (pre.length : Int), x, ((bits x 256 : Nat) : Int), 256) := by
          intro k
          induction k with
          | zero => intro b hb; have : b = 256 := by omega
                    subst this; rfl
          | succ k ihk =>
            intro b hb
            have hbl := bits_le x b
            have := ihk (b + 1) (by omega)
            rw [show ((b + 1 : Nat) : Int) = (b : Int) + 1 by push_cast; rfl] at this
            conv => lhs; rw [M.tidepoleref11_Text_l1]
            try dsimp only
            rw [if_pos (by omega), rhas_bit x hS b (by omega), bnd]
            have h2 : bitN x b < 2 := Nat.mod_lt _ (by omega)
            have eb : bits x (b + 1) = bits x b + bitN x b := rfl
            by_cases hbit : bitN x b = 1
            · rw [decide_eq_true hbit, if_pos rfl, M.tidepoleref11_Text_l3]; try dsimp only
              rw [wr_i64 (x := (b : Int) + 1) (by omega) (by omega), wr_i64 (by omega) (by omega), ← this, eb, hbit]
              rfl
            · rw [decide_eq_false hbit, if_neg (by decide), M.tidepoleref11_Text_l3]; try dsimp only
              rw [wr_i64 (x := (b : Int) + 1) (by omega) (by omega), ← this, eb, show bitN x b = 0 by omega]
              rfl
        have r0 := ones_run 256 0 rfl
        have r0' : M.tidepoleref11_Text_l1 (l, acc, (pre.length : Int), x, 0, 0) = _ := r0
        rw [r0', M.tidepoleref11_Text_l1]; try dsimp only
        have hbl := bits_le x 256
        obtain ⟨tc, c1, c2, c3⟩ := ritoa_ok (bits x 256) (by omega)
        have hcn := cnt_bits x hS
        have hv : s2b ((((⟨#[98, 121, 116, 101, 32]⟩ : ByteArray) ++ tc) ++ (⟨#[32]⟩ : ByteArray) ++ tx) ++ (⟨#[10]⟩ : ByteArray)) = tl x := by
          unfold tl lineP
          rw [if_pos o1, s2b_app, s2b_app, s2b_app, s2b_app, c2, i2, s2b_app, s2b_join2, s2b_join2, s2b_join1, hcn]
          simp only [List.append_assoc]
          rfl
        have hvs := vsz _ hv
        have z5 : ((⟨#[98, 121, 116, 101, 32]⟩ : ByteArray).size) = 5 := rfl
        have z1 : ((⟨#[32]⟩ : ByteArray).size) = 1 := rfl
        have z0 : ((⟨#[10]⟩ : ByteArray).size) = 1 := rfl
        rw [if_neg (by omega), c1, bnd, if_pos (by omega), bnd, if_pos (by rw [ByteArray.size_append]; omega), i1, bnd, if_pos (by rw [ByteArray.size_append, ByteArray.size_append]; omega), if_pos (by rw [ByteArray.size_append, ByteArray.size_append, ByteArray.size_append]; omega), bnd, if_pos (by omega)]
        exact next _ hv
      · rw [if_neg o1]
        by_cases o2 : x.Op = 2
        · have hv : s2b ((((⟨#[115, 112, 108, 105, 116, 32]⟩ : ByteArray) ++ tx) ++ (⟨#[32]⟩ : ByteArray) ++ ty) ++ (⟨#[10]⟩ : ByteArray)) = tl x := by
            unfold tl lineP
            rw [if_neg o1, if_pos o2, s2b_app, s2b_app, s2b_app, s2b_app, i2, j2, s2b_app, s2b_join2, s2b_join2, s2b_join1]
            simp only [List.append_assoc]
            rfl
          have hvs := vsz _ hv
          have z5 : ((⟨#[115, 112, 108, 105, 116, 32]⟩ : ByteArray).size) = 6 := rfl
          have z1 : ((⟨#[32]⟩ : ByteArray).size) = 1 := rfl
          have z0 : ((⟨#[10]⟩ : ByteArray).size) = 1 := rfl
          rw [if_pos o2, i1, bnd, if_pos (by omega), bnd, if_pos (by rw [ByteArray.size_append]; omega), j1, bnd, if_pos (by rw [ByteArray.size_append, ByteArray.size_append]; omega), if_pos (by rw [ByteArray.size_append, ByteArray.size_append, ByteArray.size_append]; omega), bnd, if_pos (by omega)]
          exact next _ hv
        · rw [if_neg o2]
          by_cases o3 : x.Op = 3
          · have hv : s2b (⟨#[101, 110, 100, 10]⟩ : ByteArray) = tl x := by
              unfold tl lineP
              rw [if_neg o1, if_neg o2, if_neg (by omega), s2b_app, s2b_join1]
              rfl
            have z5 : ((⟨#[101, 110, 100, 10]⟩ : ByteArray).size) = 4 := rfl
            rw [if_pos o3, if_pos (by omega)]
            exact next _ hv
          · have o4 : x.Op = 4 := by
              unfold rightP at hR
              omega
            have hv : s2b (((⟨#[106, 117, 109, 112, 32]⟩ : ByteArray) ++ tx) ++ (⟨#[10]⟩ : ByteArray)) = tl x := by
              unfold tl lineP
              rw [if_neg o1, if_neg o2, if_pos o4, s2b_app, s2b_app, i2, s2b_app, s2b_join2, s2b_join1]
              simp only [List.append_assoc]
              rfl
            have hvs := vsz _ hv
            have z5 : ((⟨#[106, 117, 109, 112, 32]⟩ : ByteArray).size) = 5 := rfl
            have z0 : ((⟨#[10]⟩ : ByteArray).size) = 1 := rfl
            rw [if_neg o3, if_pos o4, i1, bnd, if_pos (by omega), bnd, if_pos (by rw [ByteArray.size_append]; omega), if_pos (by omega)]
            exact next _ hv
  exact loop l [] (⟨#[]⟩ : ByteArray) rfl rfl

/-! ### The law -/
theorem tells_law (x0 : List T48) (hs : ∀ x ∈ x0, SetR x.Set) : M.tidepolelaw11_ProgTells x0 = some true := by
  have main : ∀ l : List T48, (∀ x ∈ l, x ∈ x0) → l.length ≤ 2049 → M.tidepolelaw11_ProgTells_l0 l = some true := by
    intro l hm hl
    rw [M.tidepolelaw11_ProgTells_l0]
    rcases checks_ok l with ⟨c1, c2, c3, c4⟩ | ⟨c1, c2⟩
    · have sma : ∀ x ∈ l, Sma x := by
        intro x hx
        have := c4 x hx
        unfold rightP at this
        refine ⟨?_, ?_, ?_, ?_⟩ <;> rcases this with h | h | h | h <;> omega
      obtain ⟨t, k1, k2⟩ := rtext_ok l c3 c4 fun x hx => hs x (hm x hx)
      have ht : (b2s (l.flatMap tl)).toList = t.toList := by
        rw [← s2b_inj, k2]
        have r2 : ∀ l : List Int, (∀ b ∈ l, 0 ≤ b ∧ b ≤ 255) → s2b (b2s l) = l := by
          intro l
          induction l with
          | nil => intro _; rfl
          | cons b l ih =>
            intro h
            obtain ⟨n, hn⟩ := Int.eq_ofNat_of_zero_le (h b (by simp)).1
            have a1 := b2s_one n (by have := (h b (by simp)).2; omega)
            have a2 := ih fun x hx => h x (by simp [hx])
            have : b2s (b :: l) = b2s [b] ++ b2s l := by
              apply ByteArray.ext
              simp [b2s, ByteArray.data_append]
            rw [this, s2b_app, a2, hn, a1]
            rfl
        refine r2 _ fun b hb => ?_
        obtain ⟨x, _, hx⟩ := List.mem_flatMap.1 hb
        exact s2b_range _ b hx
      rw [text_ok l (by omega) c1 sma, bnd, M.tidepoleref11_Text, c2, bnd, if_pos rfl, k1, bnd, c1, bnd, bnd, if_pos rfl, if_pos (by rw [ht]; simp), if_pos rfl, works_ok, bnd]
    · rw [M.prog_Text, c1, bnd, if_neg (by decide), bnd, M.tidepoleref11_Text, c2, bnd, if_neg (by decide), bnd, bnd, bnd, if_pos rfl, if_pos (by simp), if_pos rfl, works_ok, bnd]
  have sub : ∀ n : Nat, ∀ x ∈ sl x0 0 (n : Int), x ∈ x0 := by
    intro n x hx
    unfold sl at hx
    exact List.mem_of_mem_take (List.mem_of_mem_drop hx)
  rw [M.tidepolelaw11_ProgTells]
  by_cases h : (x0.length : Int) > 2048
  · rw [if_pos h, if_pos (by omega)]
    exact main _ (sub 2049) (by simp [sl]; omega)
  · obtain ⟨k, hk, k1, k2⟩ : ∃ k : Nat, imn (x0.length : Int) 300 = (k : Int) ∧ k ≤ 300 ∧ k ≤ x0.length := by
      refine ⟨min x0.length 300, ?_, by omega, by omega⟩
      simp only [imn]
      split <;> omega
    rw [if_neg h, hk, if_pos (by omega), if_pos (by omega)]
    exact main _ (sub k) (by simp [sl]; omega)
end Go.Proofs.YtemokppdnkiejaaDoor
