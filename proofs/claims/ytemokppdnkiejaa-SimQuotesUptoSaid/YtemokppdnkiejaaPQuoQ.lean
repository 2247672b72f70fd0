/-
  A text that is quoted, and read, means itself alone.
-/
import Derived.Test.YtemokppdnkiejaaPQuoG
set_option linter.unusedVariables false
set_option linter.unusedSimpArgs false
namespace Go.Proofs.Ytemokppdnkiejaa
open Go.Gx

/-! ### Bytes and texts -/
theorem U_s2b (s : ByteArray) : U s s.size = s2b s := by
  unfold U s2b
  apply List.ext_getElem
  · simp
  · intro i h1 h2
    simp only [List.length_map, List.length_range] at h1
    simp only [List.getElem_map, List.getElem_range]
    unfold bt
    rw [dif_pos (by rw [Int.toNat_natCast]; exact h1)]
    simp only [Int.toNat_natCast]
    rfl
theorem s2b_range (s : ByteArray) : ∀ x ∈ s2b s, 0 ≤ x ∧ x ≤ 255 := by
  intro x hx
  simp only [s2b, List.mem_map] at hx
  obtain ⟨b, _, rfl⟩ := hx
  have := b.toNat_lt
  omega
theorem b2s_size (l : List Int) : (b2s l).size = l.length := by
  show ((l.map fun x => x.toNat.toUInt8).toArray).size = l.length
  simp
theorem bt_b2s (l : List Int) (i : Nat) (h : i < l.length) (h0 : 0 ≤ l[i]) (h1 : l[i] ≤ 255) : bt (b2s l) (i : Int) = l[i] := by
  unfold bt
  rw [dif_pos (by rw [b2s_size, Int.toNat_natCast]; exact h)]
  have e : (b2s l)[((i : Int).toNat)]'(by rw [b2s_size, Int.toNat_natCast]; exact h) = (l[i].toNat).toUInt8 := by
    show ((l.map fun x => x.toNat.toUInt8).toArray)[((i : Int).toNat)]'_ = _
    simp
  rw [e]
  have : ((l[i].toNat).toUInt8).toNat = l[i].toNat := by
    rw [Nat.toUInt8, UInt8.toNat_ofNat']
    exact Nat.mod_eq_of_lt (by omega)
  rw [this]
  omega
theorem s2b_inj {s t : ByteArray} : s2b s = s2b t ↔ s.toList = t.toList := by
  rw [Go.ByteArray.toList_eq, Go.ByteArray.toList_eq]
  unfold s2b
  constructor
  · intro h
    exact (List.map_inj_right (fun a b hab => UInt8.toNat_inj.1 (by omega))).1 h
  · intro h; rw [h]
theorem s2b_app (s t : ByteArray) : s2b (s ++ t) = s2b s ++ s2b t := by
  simp [s2b, ByteArray.data_append]

/-! ### One byte's set -/
def oneL (b : Int) : List Int := si [0, 0, 0, 0] (b / 64) (ishl .u64 1 (b % 64))
theorem one_eq {b : Int} (h0 : 0 ≤ b) (h1 : b ≤ 255) : M.syntax_one b = some (oneL b) := by
  rw [M.syntax_one, iquo64 h0 h1, irem64 h0, if_pos (by omega), if_pos (by omega), if_pos (by omega)]
  rfl
theorem ishl_one (k : Nat) (hk : k < 64) : ishl .u64 1 (k : Int) = ((2 ^ k : Nat) : Int) := by
  have hp : 2 ^ k < 18446744073709551616 := by
    have : 2 ^ k < 2 ^ 64 := Nat.pow_lt_pow_right (by omega) hk
    exact this
  unfold ishl
  rw [Int.toNat_natCast, show min k IntKind.u64.bits = k by have : IntKind.u64.bits = 64 := rfl; omega, Int.one_mul]
  have e : ((2 : Int) ^ k) = ((2 ^ k : Nat) : Int) := by push_cast; rfl
  rw [e]
  generalize 2 ^ k = p at hp
  simp only [IntKind.wrap, IntKind.signed, IntKind.bits]
  simp
  exact Int.emod_eq_of_lt (by omega) (by omega)
theorem bit_of (y : Nat) (h : y < 18446744073709551616) : iand .u64 (y : Int) 1 = ((y % 2 : Nat) : Int) := by
  unfold iand
  have hb : ((BitVec.ofInt IntKind.u64.bits (y : Int)) &&& (BitVec.ofInt IntKind.u64.bits 1)).toNat = y % 2 := by
    rw [BitVec.toNat_and]
    have a1 : (BitVec.ofInt IntKind.u64.bits (y : Int)).toNat = y := by
      simp only [IntKind.bits, BitVec.toNat_ofInt]
      have : (y : Int) % ((2 ^ 64 : Nat) : Int) = (y : Int) := Int.emod_eq_of_lt (by omega) (by omega)
      rw [this]
      rfl
    have a2 : (BitVec.ofInt IntKind.u64.bits 1).toNat = 1 := by decide
    rw [a1, a2, Nat.and_one_is_mod]
  rw [hb]
  simp only [IntKind.wrap, IntKind.signed, IntKind.bits]
  have : y % 2 < 2 := Nat.mod_lt _ (by omega)
  simp
  omega
theorem oneL_ok {b : Int} (h0 : 0 ≤ b) (h1 : b ≤ 255) : SetOk (oneL b) := by
  refine ⟨by simp [oneL, si], fun x hx => ?_⟩
  obtain ⟨k, hk⟩ := Int.eq_ofNat_of_zero_le (show 0 ≤ b % 64 by omega)
  have hk64 : k < 64 := by omega
  have hp : 2 ^ k < 18446744073709551616 := by
    have : 2 ^ k < 2 ^ 64 := Nat.pow_lt_pow_right (by omega) hk64
    exact this
  rcases List.mem_or_eq_of_mem_set hx with hx | rfl
  · simp at hx; omega
  · rw [hk, ishl_one k hk64]
    generalize 2 ^ k = p at hp
    constructor <;> omega
theorem Hs_oneL {b c : Int} (h0 : 0 ≤ b) (h1 : b ≤ 255) (g0 : 0 ≤ c) (g1 : c ≤ 255) : Hs (oneL b) c ↔ c = b := by
  obtain ⟨k, hk⟩ := Int.eq_ofNat_of_zero_le (show 0 ≤ b % 64 by omega)
  obtain ⟨j, hj⟩ := Int.eq_ofNat_of_zero_le (show 0 ≤ c % 64 by omega)
  have hk64 : k < 64 := by omega
  have hj64 : j < 64 := by omega
  have hp : 2 ^ k < 18446744073709551616 := by
    have : 2 ^ k < 2 ^ 64 := Nat.pow_lt_pow_right (by omega) hk64
    exact this
  unfold Hs
  rw [M.syntax_Has, iquo64 g0 g1, irem64 g0, if_pos (by omega), if_pos (by omega), if_pos (by omega)]
  rw [Option.some.injEq, decide_eq_true_eq, hj]
  have sh : ∀ y : Nat, ishr .u64 (y : Int) (j : Int) = ((y / 2 ^ j : Nat) : Int) := by
    intro y
    unfold ishr
    rw [Int.toNat_natCast, show min j IntKind.u64.bits = j by have : IntKind.u64.bits = 64 := rfl; omega, Int.fdiv_eq_ediv_of_nonneg _ (by exact_mod_cast Nat.zero_le _)]
    push_cast
    rfl
  by_cases hq : c / 64 = b / 64
  · have e : gi (oneL b) (c / 64) = ((2 ^ k : Nat) : Int) := by
      unfold oneL gi si
      rw [hq, hk, ishl_one k hk64, List.getD_eq_getElem?_getD, List.getElem?_set_self (by simp; omega)]
      rfl
    rw [e, sh, bit_of _ (Nat.lt_of_le_of_lt (Nat.div_le_self _ _) hp)]
    have key : (2 ^ k / 2 ^ j) % 2 = 1 ↔ k = j := by
      rcases Nat.lt_trichotomy k j with h | h | h
      · have : 2 ^ k / 2 ^ j = 0 := Nat.div_eq_of_lt (Nat.pow_lt_pow_right (by omega) h)
        rw [this]; omega
      · subst h
        rw [Nat.div_self (Nat.pow_pos (by omega))]; simp
      · rw [Nat.pow_div (by omega) (by omega)]
        obtain ⟨d, hd⟩ : ∃ d, k - j = d + 1 := ⟨k - j - 1, by omega⟩
        rw [hd, Nat.pow_succ]
        omega
    constructor
    · intro h
      have := key.1 (by exact_mod_cast h)
      omega
    · intro h
      have : k = j := by omega
      have := key.2 this
      exact_mod_cast this
  · have e : gi (oneL b) (c / 64) = ((0 : Nat) : Int) := by
      unfold oneL gi si
      rw [List.getD_eq_getElem?_getD, List.getElem?_set_ne (by omega)]
      have : (c / 64).toNat < 4 := by omega
      have h4 : (c / 64).toNat = 0 ∨ (c / 64).toNat = 1 ∨ (c / 64).toNat = 2 ∨ (c / 64).toNat = 3 := by omega
      rcases h4 with h | h | h | h <;> rw [h] <;> rfl
    rw [e, sh, Nat.zero_div, bit_of 0 (by omega)]
    constructor
    · intro h; simp at h
    · intro h; subst h; exact absurd rfl hq

/-! ### Quoting -/
def asB (b : Int) : Bool := M.syntax_asIs b == some true
def hx (v : Int) : Int := if v < 10 then 48 + v else 87 + v
def qb (b : Int) : List Int := if asB b = true then [b] else [92, 120, hx (b / 16), hx (b % 16)]
def HEX : ByteArray := ⟨#[48, 49, 50, 51, 52, 53, 54, 55, 56, 57, 97, 98, 99, 100, 101, 102]⟩
theorem asis_tot (b : Int) : M.syntax_asIs b = some (asB b) := by
  have : ∃ v, M.syntax_asIs b = some v := by
    have l1 : ∀ c, ∃ v, M.syntax_asIs_l1 (b, c) = some v := by
      intro c
      rw [M.syntax_asIs_l1]; try dsimp only
      repeat' split
      all_goals first | exact ⟨_, rfl⟩ | (rw [idx_eq, bnd]; exact ⟨_, rfl⟩)
    have l0 : ∀ c, ∃ v, M.syntax_asIs_l0 (b, c) = some v := by
      intro c
      rw [M.syntax_asIs_l0]; try dsimp only
      repeat' split
      all_goals first | exact ⟨_, rfl⟩ | exact l1 _
    rw [M.syntax_asIs]
    split
    · exact l0 _
    · exact l0 _
  obtain ⟨v, hv⟩ := this
  rw [asB, hv]
  cases v <;> rfl
/-- what stands as it is is no sign of the patterns' own -/
def plainB (n : Nat) : Bool := decide (32 ≤ n) && decide (n ≤ 126) && decide (ixB (⟨#[93, 41, 42, 43, 63, 123, 125, 94, 36, 124]⟩ : ByteArray) (n : Int) < 0) && !([40, 46, 91, 92, 42, 43, 63, 123, 124, 41].contains n)
theorem asB_all : ∀ n : Nat, n < 256 → asB (n : Int) = true → plainB n = true := by decide +kernel
theorem asB_spec (n : Nat) (h0 : n < 256) (h1 : asB (n : Int) = true) : 32 ≤ n ∧ n ≤ 126 ∧ ¬ ixB (⟨#[93, 41, 42, 43, 63, 123, 125, 94, 36, 124]⟩ : ByteArray) (n : Int) ≥ 0 ∧ n ≠ 40 ∧ n ≠ 46 ∧ n ≠ 91 ∧ n ≠ 92 ∧ n ≠ 42 ∧ n ≠ 43 ∧ n ≠ 63 ∧ n ≠ 123 ∧ n ≠ 124 ∧ n ≠ 41 := by
  have h := asB_all n h0 h1
  simp only [plainB, Bool.and_eq_true, decide_eq_true_eq, Bool.not_eq_true', List.contains_eq_mem, List.mem_cons, List.not_mem_nil, or_false, decide_eq_false_iff_not, not_or] at h
  omega
theorem hex_at : ∀ v : Nat, v < 16 → s2b (ss HEX (v : Int) ((v + 1 : Nat) : Int)) = [hx (v : Int)] ∧ (ss HEX (v : Int) ((v + 1 : Nat) : Int)).size = 1 := by decide +kernel
theorem nib_at : ∀ v : Nat, v < 16 → M.syntax_nibble (hx (v : Int)) = some (v : Int) := by decide +kernel
theorem hx_ne : ∀ v : Nat, v < 16 → 48 ≤ hx (v : Int) ∧ hx (v : Int) ≤ 102 := by decide +kernel
theorem byte_of : ∀ b : Nat, b < 256 → ior .u8 (ishl .u8 ((b : Int) / 16) 4) ((b : Int) % 16) = (b : Int) := by decide +kernel
theorem shr4 : ∀ b : Nat, b < 256 → ishr .u8 (b : Int) 4 = (b : Int) / 16 ∧ iand .u8 (b : Int) 15 = (b : Int) % 16 := by decide +kernel
theorem u8_small : ∀ v : Nat, v < 16 → wr .u8 (v : Int) = (v : Int) ∧ wr .u8 ((v : Int) + 1) = ((v + 1 : Nat) : Int) := by decide +kernel
theorem qb_range {b : Int} (h0 : 0 ≤ b) (h1 : b ≤ 255) : (∀ x ∈ qb b, 0 ≤ x ∧ x ≤ 255) ∧ (qb b).length ≤ 4 ∧ 1 ≤ (qb b).length := by
  unfold qb
  split
  · exact ⟨fun x hx => by rw [List.mem_singleton.1 hx]; exact ⟨h0, h1⟩, by simp, by simp⟩
  · refine ⟨fun x hx => ?_, by simp, by simp⟩
    obtain ⟨a, ha⟩ := Int.eq_ofNat_of_zero_le (show 0 ≤ b / 16 by omega)
    obtain ⟨c, hc⟩ := Int.eq_ofNat_of_zero_le (show 0 ≤ b % 16 by omega)
    have p := hx_ne a (by omega)
    have q := hx_ne c (by omega)
    rw [ha, hc] at hx
    simp at hx
    rcases hx with rfl | rfl | rfl | rfl <;> omega

theorem qfl_len : ∀ l : List Int, (∀ b ∈ l, 0 ≤ b ∧ b ≤ 255) → (l.flatMap qb).length ≤ 4 * l.length
  | [], _ => by simp
  | b :: l, h => by
    have h1 := (qb_range (h b (by simp)).1 (h b (by simp)).2).2.1
    have h2 := qfl_len l (fun x hx => h x (by simp [hx]))
    rw [List.flatMap_cons, List.length_append, List.length_cons]
    omega
theorem qfl_range (l : List Int) (h : ∀ b ∈ l, 0 ≤ b ∧ b ≤ 255) : ∀ x ∈ l.flatMap qb, 0 ≤ x ∧ x ≤ 255 := by
  intro x hx
  obtain ⟨b, hb, hx⟩ := List.mem_flatMap.1 hx
  exact (qb_range (h b hb).1 (h b hb).2).1 x hx
theorem quote_ok (s : ByteArray) (hs : s.size ≤ 100) : M.syntax_Quote s = some (b2s ((s2b s).flatMap qb)) := by
  have hlen : (s2b s).length = s.size := by simp only [s2b, List.length_map, Array.length_toList]; rfl
  have hrange := s2b_range s
  -- one round's text
  have piece : ∀ b : Int, 0 ≤ b → b ≤ 255 → s2b ((⟨#[92, 120]⟩ : ByteArray) ++ (ss HEX (b / 16) (b / 16 + 1)) ++ (ss HEX (b % 16) (b % 16 + 1))) = [92, 120, hx (b / 16), hx (b % 16)] := by
    intro b h0 h1
    obtain ⟨a, ha⟩ := Int.eq_ofNat_of_zero_le (show 0 ≤ b / 16 by omega)
    obtain ⟨c, hc⟩ := Int.eq_ofNat_of_zero_le (show 0 ≤ b % 16 by omega)
    have p := (hex_at a (by omega)).1
    have q := (hex_at c (by omega)).1
    rw [ha, hc, show (a : Int) + 1 = ((a + 1 : Nat) : Int) by push_cast; rfl, show (c : Int) + 1 = ((c + 1 : Nat) : Int) by push_cast; rfl, s2b_app, s2b_app, p, q]
    rfl
  have round : ∀ (F : ByteArray × List Int × Int × Int → Option ByteArray) (WB : List Int → Int → Option (List Int)) (WS : List Int → ByteArray → Option (Int × List Int)) (K : List Int → Option ByteArray)
      (hWB : ∀ acc x, acc.length ≤ 1000 → WB acc x = some (acc ++ [x])) (hWS : ∀ acc x, acc.length ≤ 1000 → x.size ≤ 4 → WS acc x = some ((x.size : Int), acc ++ s2b x)) (pre R : List Int) (b : Int) (acc : List Int),
      s2b s = pre ++ b :: R → acc.length ≤ 1000 →
      (∀ i, i = (pre.length : Int) → (if i < (s.size : Int) then if 0 ≤ i then if i < (s.size : Int) then
        M.syntax_asIs (bt s i) >>= fun y37 => if y37 = true then WB acc (bt s i) >>= fun y40 => F (s, y40, (s.size : Int), wr .i64 (i + 1))
        else if 0 ≤ ishr .u8 (bt s i) 4 then if ishr .u8 (bt s i) 4 ≤ wr .u8 ((ishr .u8 (bt s i) 4) + 1) then if wr .u8 ((ishr .u8 (bt s i) 4) + 1) ≤ (HEX.size : Int) then
        if 0 ≤ iand .u8 (bt s i) 15 then if iand .u8 (bt s i) 15 ≤ wr .u8 ((iand .u8 (bt s i) 15) + 1) then if wr .u8 ((iand .u8 (bt s i) 15) + 1) ≤ (HEX.size : Int) then
        if ((⟨#[92, 120]⟩ : ByteArray).size : Int) + ((ss HEX (ishr .u8 (bt s i) 4) (wr .u8 ((ishr .u8 (bt s i) 4) + 1))).size : Int) ≤ 1099511627776 then
        some ((⟨#[92, 120]⟩ : ByteArray) ++ (ss HEX (ishr .u8 (bt s i) 4) (wr .u8 ((ishr .u8 (bt s i) 4) + 1)))) >>= fun v50 =>
        if (v50.size : Int) + ((ss HEX (iand .u8 (bt s i) 15) (wr .u8 ((iand .u8 (bt s i) 15) + 1))).size : Int) ≤ 1099511627776 then
        some (v50 ++ (ss HEX (iand .u8 (bt s i) 15) (wr .u8 ((iand .u8 (bt s i) 15) + 1)))) >>= fun v53 =>
        WS acc v53 >>= fun y55 => F (s, y55.2, (s.size : Int), wr .i64 (i + 1))
        else none else none else none else none else none else none else none else none else none else none else K acc) = F (s, acc ++ qb b, (s.size : Int), ((pre.length + 1 : Nat) : Int))) := by
    intro F WB WS K hWB hWS pre R b acc e ha i hi
    subst hi
    have hl2 : s.size = pre.length + (R.length + 1) := by rw [← hlen, e]; simp
    have hb := hrange b (by rw [e]; simp)
    have hbt : bt s (pre.length : Int) = b := by
      have : (U s s.size)[pre.length]'(by simp [U]; omega) = b := by
        simp only [U_s2b, e]
        simp
      rw [← this]
      simp [U]
    obtain ⟨n, hn⟩ := Int.eq_ofNat_of_zero_le hb.1
    have hsh := shr4 n (by omega)
    obtain ⟨a, ha'⟩ := Int.eq_ofNat_of_zero_le (show 0 ≤ b / 16 by omega)
    obtain ⟨c, hc'⟩ := Int.eq_ofNat_of_zero_le (show 0 ≤ b % 16 by omega)
    have ua := u8_small a (by omega)
    have uc := u8_small c (by omega)
    have za := (hex_at a (by omega)).2
    have zc := (hex_at c (by omega)).2
    have hp := piece b hb.1 hb.2
    rw [if_pos (by omega), if_pos (by omega), if_pos (by omega), hbt, asis_tot, bnd, wr_i64 (x := (pre.length : Int) + 1) (by omega) (by omega), show (pre.length : Int) + 1 = ((pre.length + 1 : Nat) : Int) by push_cast; rfl]
    unfold qb
    by_cases h : asB b = true
    · rw [if_pos h, if_pos h, hWB acc b ha, bnd]
    · rw [if_neg h, if_neg h]
      rw [← hn] at hsh
      rw [hsh.1, hsh.2]
      rw [ha', hc', show (a : Int) + 1 = ((a + 1 : Nat) : Int) by push_cast; rfl, show (c : Int) + 1 = ((c + 1 : Nat) : Int) by push_cast; rfl] at hp
      have ua2 := ua.2
      have uc2 := uc.2
      have hz : (HEX.size : Int) = 16 := rfl
      have hz2 : ((⟨#[92, 120]⟩ : ByteArray).size : Int) = 2 := rfl
      rw [ha', hc', ua2, uc2, hz, if_pos (by omega), if_pos (by omega), if_pos (by omega), if_pos (by omega), if_pos (by omega), if_pos (by omega), hz2, za, if_pos (by omega), bnd]
      have z1 : ((⟨#[92, 120]⟩ : ByteArray) ++ (ss HEX (a : Int) ((a + 1 : Nat) : Int))).size = 3 := by
        rw [ByteArray.size_append, za]
        rfl
      rw [z1, zc, if_pos (by omega), bnd, hWS acc _ ha (by rw [ByteArray.size_append, z1, zc]; omega), bnd, hp]
  have WB1 : ∀ (acc : List Int) (x : Int), acc.length ≤ 1000 → M.strings_Builder_WriteByte acc x = some (acc ++ [x]) := by
    intro acc x h
    rw [M.strings_Builder_WriteByte, M.strings_Builder_copyCheck, bnd, if_pos (by simp; omega)]
  have WB2 : ∀ (acc : List Int) (x : Int), acc.length ≤ 1000 → M.strings_Builder_WriteByte_2 acc x = some (acc ++ [x]) := by
    intro acc x h
    rw [M.strings_Builder_WriteByte_2, M.strings_Builder_copyCheck_2, bnd, if_pos (by simp; omega)]
  have sl : ∀ x : ByteArray, (s2b x).length = x.size := by
    intro x
    simp only [s2b, List.length_map, Array.length_toList]
    rfl
  have WS1 : ∀ (acc : List Int) (x : ByteArray), acc.length ≤ 1000 → x.size ≤ 4 → M.strings_Builder_WriteString acc x = some ((x.size : Int), acc ++ s2b x) := by
    intro acc x h h2
    have := sl x
    rw [M.strings_Builder_WriteString, M.strings_Builder_copyCheck, bnd, if_pos (by simp only [List.length_append]; omega)]
  have WS2 : ∀ (acc : List Int) (x : ByteArray), acc.length ≤ 1000 → x.size ≤ 4 → M.strings_Builder_WriteString_2 acc x = some ((x.size : Int), acc ++ s2b x) := by
    intro acc x h h2
    have := sl x
    rw [M.strings_Builder_WriteString_2, M.strings_Builder_copyCheck_2, bnd, if_pos (by simp only [List.length_append]; omega)]
  have loop : ∀ (R pre : List Int), s2b s = pre ++ R → M.syntax_Quote_l1 (s, pre.flatMap qb, (s.size : Int), (pre.length : Int)) = some (b2s ((s2b s).flatMap qb)) := by
    intro R
    induction R with
    | nil =>
      intro pre e
      have hp : pre.length = s.size := by rw [← hlen, e]; simp
      have hq := qfl_len pre (fun x hx => hrange x (by rw [e]; simp [hx]))
      rw [M.syntax_Quote_l1]; try dsimp only
      rw [if_neg (by omega), M.strings_Builder_String_2, if_pos (by omega), bnd, e, List.append_nil]
    | cons b R ih =>
      intro pre e
      have hl2 : s.size = pre.length + (R.length + 1) := by rw [← hlen, e]; simp
      have hq := qfl_len pre (fun x hx => hrange x (by rw [e]; simp [hx]))
      have h := round M.syntax_Quote_l1 M.strings_Builder_WriteByte_2 M.strings_Builder_WriteString_2 (fun acc => M.strings_Builder_String_2 acc >>= fun y58 => some y58.1) WB2 WS2 pre R b (pre.flatMap qb) e (by omega) _ rfl
      have := ih (pre ++ [b]) (by rw [e]; simp)
      rw [List.flatMap_append, show ([b] : List Int).flatMap qb = qb b by simp, show (((pre ++ [b]).length : Nat) : Int) = ((pre.length + 1 : Nat) : Int) by simp] at this
      rw [← this, ← h]
      conv => lhs; rw [M.syntax_Quote_l1]
      rfl
  rw [M.syntax_Quote]
  cases hR : s2b s with
  | nil =>
    have h0 : s.size = 0 := by rw [← hlen, hR]; rfl
    rw [M.syntax_Quote_l0]; try dsimp only
    rw [if_neg (by omega), M.strings_Builder_String, if_pos (by simp), bnd]
    rfl
  | cons b R =>
    have h := round M.syntax_Quote_l1 M.strings_Builder_WriteByte M.strings_Builder_WriteString (fun acc => M.strings_Builder_String acc >>= fun y58 => some y58.1) WB1 WS1 [] R b [] hR (by simp) 0 rfl
    have := loop R [b] (by rw [hR]; rfl)
    rw [hR] at this
    rw [show ([b] : List Int).flatMap qb = qb b by simp] at this
    rw [← this]
    have h' : _ = M.syntax_Quote_l1 (s, qb b, (s.size : Int), 1) := h
    have h2 : M.syntax_Quote_l1 (s, qb b, (s.size : Int), (([b] : List Int).length : Int)) = M.syntax_Quote_l1 (s, qb b, (s.size : Int), 1) := rfl
    rw [h2, ← h']
    conv => lhs; rw [M.syntax_Quote_l0]
    rfl

/-! ### Reading what was quoted -/
def leaf (b : Int) : T27 := ⟨1, oneL b, [], 0, 0⟩
theorem pk_b2s (l : List Int) (h : ∀ x ∈ l, 0 ≤ x ∧ x ≤ 255) (i : Nat) : pk (b2s l) i = if hi : i < l.length then l[i] else 0 := by
  unfold pk
  rw [b2s_size]
  by_cases hi : i < l.length
  · rw [if_pos hi, dif_pos hi]
    have := h _ (List.getElem_mem hi)
    exact bt_b2s l i hi this.1 this.2
  · rw [if_neg hi, dif_neg hi]
theorem pk_mid (l pre : List Int) (b : Int) (R : List Int) (h : ∀ x ∈ l, 0 ≤ x ∧ x ≤ 255) (e : l = pre ++ b :: R) : pk (b2s l) pre.length = b := by
  rw [pk_b2s l h, dif_pos (by rw [e]; simp)]
  simp [e]
theorem digit_eq (s : ByteArray) (i d : Nat) (hi : i ≤ 1000) (v : Nat) (hv : v < 16) (h : pk s i = hx (v : Int)) : M.syntax_parser_digit (pS s i d) = some ((v : Int), pS s (i + 1) d) := by
  rw [M.syntax_parser_digit, peek_eq, bnd]; dsimp only
  rw [h, nib_at v hv, bnd, if_neg (by omega), (u8_small v hv).1]
  show some (_, (⟨s, wr .i64 ((i : Int) + 1), (d : Int), none⟩ : T48)) = _
  rw [wr_i64 (by omega) (by omega)]
  rfl
theorem class_x : M.syntax_class 120 = some ([0, 0, 0, 0], false) := by
  rw [M.syntax_class, if_neg (by decide), if_neg (by decide), if_neg (by decide)]
theorem atom_hex (s : ByteArray) (i d : Nat) (hi : i ≤ 900) (b : Nat) (hb : b < 256) (h0 : pk s i = 92) (h1 : pk s (i + 1) = 120) (h2 : pk s (i + 2) = hx ((b : Int) / 16)) (h3 : pk s (i + 3) = hx ((b : Int) % 16)) :
    M.syntax_parser_atom (pS s i d) = some (leaf (b : Int), pS s (i + 4) d) := by
  obtain ⟨a, ha⟩ := Int.eq_ofNat_of_zero_le (show 0 ≤ (b : Int) / 16 by omega)
  obtain ⟨c, hc⟩ := Int.eq_ofNat_of_zero_le (show 0 ≤ (b : Int) % 16 by omega)
  have hby := byte_of b hb
  rw [ha] at h2 hby
  rw [hc] at h3 hby
  have esc : M.syntax_parser_escape (pS s (i + 1) d) = some (⟨oneL (b : Int), (b : Int), true⟩, pS s (i + 4) d) := by
    rw [M.syntax_parser_escape, peek_eq, bnd]; dsimp only
    rw [h1, class_x, bnd]; dsimp only
    rw [if_neg (by decide), if_pos rfl]
    have e : (⟨(pS s (i + 1) d).s, wr .i64 ((pS s (i + 1) d).at_ + 1), (pS s (i + 1) d).deep, (pS s (i + 1) d).bad⟩ : T48) = pS s (i + 2) d := by
      show (⟨s, wr .i64 (((i + 1 : Nat) : Int) + 1), (d : Int), none⟩ : T48) = _
      rw [wr_i64 (by omega) (by omega)]
      rfl
    rw [e, digit_eq s (i + 2) d (by omega) a (by omega) h2, bnd]; dsimp only
    rw [digit_eq s (i + 3) d (by omega) c (by omega) h3, bnd]; dsimp only
    rw [hby, M.syntax_of, one_eq (by omega) (by omega), bnd, bnd]
  rw [M.syntax_parser_atom, peek_eq, bnd]; dsimp only
  rw [h0, if_neg (by decide), if_neg (by decide), idx_eq, bnd, decide_eq_false (by decide), M.syntax_parser_atom_l0]; try dsimp only
  rw [if_neg (by decide), if_neg (by decide), M.syntax_parser_atom_l1]; try dsimp only
  rw [if_neg (by decide), take_eq s i d (by omega) 46 (by omega), if_neg (by omega), bnd]; dsimp only
  rw [if_neg (by decide), take_eq s i d (by omega) 91 (by omega), if_neg (by omega), bnd]; dsimp only
  rw [if_neg (by decide), take_eq s i d (by omega) 40 (by omega), if_neg (by omega), bnd]; dsimp only
  rw [if_neg (by decide), take_eq s i d (by omega) 92 (by omega), if_pos h0, bnd]; dsimp only
  rw [if_pos rfl, esc, bnd]
  rfl
theorem several_all (L : List T27) : ∃ r, M.syntax_several 2 L = some r ∧ ((∃ x, L = [x] ∧ r = x) ∨ r = ⟨2, Z4, L, 0, 0⟩) := by
  rw [M.syntax_several]
  by_cases h : L.length = 1
  · match L, h with
    | [x], _ => exact ⟨x, by rw [if_pos (by simp), if_pos (by simp), show gi [x] 0 = x from rfl, eta27], .inl ⟨x, rfl, rfl⟩⟩
  · rw [if_neg (by omega)]
    exact ⟨_, rfl, .inr rfl⟩
theorem read_ok (bs : List Int) (hb : ∀ b ∈ bs, 0 ≤ b ∧ b ≤ 255) (hn : bs.length ≤ 60) : ∃ r, M.syntax_Parse (b2s (bs.flatMap qb)) = some (r, 0, 0) ∧ M.syntax_several 2 (bs.map leaf) = some r := by
  have hl := qfl_len bs hb
  have hq := qfl_range bs hb
  obtain ⟨r, hr, _⟩ := several_all (bs.map leaf)
  refine ⟨r, ?_, hr⟩
  have hz := b2s_size (bs.flatMap qb)
  -- what stands at the beginning of a byte's quote, or at the end
  have first : ∀ (R pre : List Int), bs = pre ++ R → pk (b2s (bs.flatMap qb)) (pre.flatMap qb).length ≠ 42 ∧ pk (b2s (bs.flatMap qb)) (pre.flatMap qb).length ≠ 43 ∧ pk (b2s (bs.flatMap qb)) (pre.flatMap qb).length ≠ 63 ∧
      pk (b2s (bs.flatMap qb)) (pre.flatMap qb).length ≠ 123 ∧ pk (b2s (bs.flatMap qb)) (pre.flatMap qb).length ≠ 124 ∧ pk (b2s (bs.flatMap qb)) (pre.flatMap qb).length ≠ 41 := by
    intro R pre e
    cases R with
    | nil =>
      have : pk (b2s (bs.flatMap qb)) (pre.flatMap qb).length = 0 := by
        rw [pk_b2s _ hq, dif_neg]
        rw [e, List.append_nil]
        omega
      rw [this]; decide
    | cons b R =>
      have hb' := hb b (by rw [e]; simp)
      have key : ∃ c T, qb b = c :: T ∧ c ≠ 42 ∧ c ≠ 43 ∧ c ≠ 63 ∧ c ≠ 123 ∧ c ≠ 124 ∧ c ≠ 41 := by
        unfold qb
        by_cases h : asB b = true
        · rw [if_pos h]
          obtain ⟨n, hn'⟩ := Int.eq_ofNat_of_zero_le hb'.1
          rw [hn'] at h
          have := asB_spec n (by omega) h
          refine ⟨b, [], rfl, ?_⟩
          omega
        · rw [if_neg h]
          exact ⟨92, _, rfl, by decide⟩
      obtain ⟨c, Tl, k1, k2⟩ := key
      have : pk (b2s (bs.flatMap qb)) (pre.flatMap qb).length = c := pk_mid _ _ c (Tl ++ R.flatMap qb) hq (by rw [e, List.flatMap_append, List.flatMap_cons, k1]; rfl)
      rw [this]
      exact k2
  have loop : ∀ (R pre : List Int) (x : T27), bs = pre ++ R → M.syntax_parser_sequence_l0 (x, pre.map leaf, pS (b2s (bs.flatMap qb)) (pre.flatMap qb).length 0) = some (r, pS (b2s (bs.flatMap qb)) (bs.flatMap qb).length 0) := by
    intro R
    induction R with
    | nil =>
      intro pre x e
      rw [List.append_nil] at e
      rw [← e]
      exact seq_stop x _ (by rw [hz]; omega) hr
    | cons b R ih =>
      intro pre x e
      have hb' := hb b (by rw [e]; simp)
      have hpl : (pre.flatMap qb).length + (qb b).length ≤ 240 := by
        have : (bs.flatMap qb).length = (pre.flatMap qb).length + ((qb b).length + (R.flatMap qb).length) := by rw [e, List.flatMap_append, List.flatMap_cons]; simp
        omega
      have hlt : (pre.flatMap qb).length < (b2s (bs.flatMap qb)).size := by
        have : (bs.flatMap qb).length = (pre.flatMap qb).length + ((qb b).length + (R.flatMap qb).length) := by rw [e, List.flatMap_append, List.flatMap_cons]; simp
        have := (qb_range hb'.1 hb'.2).2.2
        rw [hz]; omega
      have f0 := first (b :: R) pre e
      have f1 := first R (pre ++ [b]) (by rw [e]; simp)
      have e1 : ((pre ++ [b]).flatMap qb).length = (pre.flatMap qb).length + (qb b).length := by rw [List.flatMap_append]; simp
      rw [e1] at f1
      have hpc : M.syntax_parser_piece (pS (b2s (bs.flatMap qb)) (pre.flatMap qb).length 0) = some (leaf b, pS (b2s (bs.flatMap qb)) ((pre.flatMap qb).length + (qb b).length) 0) := by
        obtain ⟨n, hn'⟩ := Int.eq_ofNat_of_zero_le hb'.1
        by_cases h : asB b = true
        · have hqb : qb b = [b] := by unfold qb; rw [if_pos h]
          have hpk : pk (b2s (bs.flatMap qb)) (pre.flatMap qb).length = b := pk_mid _ _ b (R.flatMap qb) hq (by rw [e, List.flatMap_append, List.flatMap_cons, hqb]; rfl)
          rw [hn'] at h
          have sp := asB_spec n (by omega) h
          rw [hqb] at f1 hpl ⊢
          refine piece_bare (by simp at hpl; simp; omega) (atom_eq _ _ 0 (by omega) (oneL b) (by omega) (by omega) (by rw [hpk, hn']; exact sp.2.2.1) (by omega) (by rw [hpk]; exact one_eq hb'.1 hb'.2)) ?_
          exact ⟨f1.1, f1.2.1, f1.2.2.1, f1.2.2.2.1⟩
        · have hqb : qb b = [92, 120, hx (b / 16), hx (b % 16)] := by unfold qb; rw [if_neg h]
          have hfl : bs.flatMap qb = pre.flatMap qb ++ (92 :: 120 :: hx (b / 16) :: hx (b % 16) :: R.flatMap qb) := by rw [e, List.flatMap_append, List.flatMap_cons, hqb]; rfl
          have p0 := pk_mid _ (pre.flatMap qb) 92 _ hq hfl
          have p1 := pk_mid _ (pre.flatMap qb ++ [92]) 120 (hx (b / 16) :: hx (b % 16) :: R.flatMap qb) hq (by rw [hfl]; simp)
          have p2 := pk_mid _ (pre.flatMap qb ++ [92, 120]) (hx (b / 16)) (hx (b % 16) :: R.flatMap qb) hq (by rw [hfl]; simp)
          have p3 := pk_mid _ (pre.flatMap qb ++ [92, 120, hx (b / 16)]) (hx (b % 16)) (R.flatMap qb) hq (by rw [hfl]; simp)
          simp only [List.length_append, List.length_cons, List.length_nil] at p1 p2 p3
          rw [hqb] at f1 hpl ⊢
          simp only [List.length_cons, List.length_nil] at f1 hpl ⊢
          rw [hn'] at p2 p3
          have := atom_hex (b2s (bs.flatMap qb)) (pre.flatMap qb).length 0 (by omega) n (by omega) p0 p1 p2 p3
          rw [← hn'] at this
          exact piece_bare (by omega) this ⟨f1.1, f1.2.1, f1.2.2.1, f1.2.2.2.1⟩
      have hbl : bs.length = pre.length + (R.length + 1) := by rw [e]; simp
      rw [seq_more x _ (by rw [List.length_map]; omega) ⟨hlt, f0.2.2.2.2.1, f0.2.2.2.2.2⟩ hpc]
      have := ih (pre ++ [b]) x (by rw [e]; simp)
      rw [e1, List.map_append] at this
      exact this
  have h0 := loop bs [] ⟨0, [0, 0, 0, 0], [], 0, 0⟩ rfl
  refine parse_eq _ (by rw [hz]; omega) r (bs.flatMap qb).length 0 (by rw [hz]; omega) ?_
  have h0' : M.syntax_parser_sequence_l0 (⟨0, [0, 0, 0, 0], [], 0, 0⟩, [], pS (b2s (bs.flatMap qb)) 0 0) = some (r, pS (b2s (bs.flatMap qb)) (bs.flatMap qb).length 0) := h0
  rw [M.syntax_parser_alternation, M.syntax_parser_sequence, h0', bnd]; dsimp only
  exact alt_stop (by omega) _ _ (by
    have := first [] bs (by simp)
    exact this.2.2.2.2.1) (several_one _ _)

/-! ### What it means -/
theorem leaf_lg {b : Int} (hb : 0 ≤ b ∧ b ≤ 255) {w : List Int} (hw : ∀ c ∈ w, 0 ≤ c ∧ c ≤ 255) : Lg (leaf b) w ↔ w = [b] := by
  constructor
  · intro h
    obtain ⟨c, rfl, hc⟩ := leaf_inv h
    have := hw c (by simp)
    rw [(Hs_oneL hb.1 hb.2 this.1 this.2).1 hc]
  · rintro rfl
    exact .inl ⟨rfl, b, rfl, (Hs_oneL hb.1 hb.2 hb.1 hb.2).2 rfl⟩
theorem leaves_lg : ∀ (bs : List Int), (∀ b ∈ bs, 0 ≤ b ∧ b ≤ 255) → ∀ w : List Int, (∀ c ∈ w, 0 ≤ c ∧ c ≤ 255) → (LgAll (bs.map leaf) w ↔ w = bs)
  | [], _, w, _ => by rw [List.map_nil, LgAll]
  | b :: bs, hb, w, hw => by
    rw [List.map_cons, LgAll]
    constructor
    · rintro ⟨u, v, rfl, h1, h2⟩
      rw [(leaf_lg (hb b (by simp)) (fun c hc => hw c (by simp [hc]))).1 h1, (leaves_lg bs (fun x hx => hb x (by simp [hx])) v (fun c hc => hw c (by simp [hc]))).1 h2]
      rfl
    · rintro rfl
      exact ⟨[b], bs, rfl, (leaf_lg (hb b (by simp)) (fun c hc => hb c (by simp at hc; simp [hc]))).2 rfl, (leaves_lg bs (fun x hx => hb x (by simp [hx])) bs (fun c hc => hb c (by simp [hc]))).2 rfl⟩
theorem nds_leaves : ∀ bs : List Int, nds (bs.map leaf) = bs.length
  | [] => rfl
  | b :: bs => by rw [List.map_cons, nds, nds_leaves bs, nd_eq]; simp [leaf, nds]; omega
theorem szs_leaves : ∀ bs : List Int, szs (bs.map leaf) = bs.length
  | [] => rfl
  | b :: bs => by rw [List.map_cons, szs, szs_leaves bs, sz_eq]; simp [leaf]; omega
theorem quoted_good (bs : List Int) (hb : ∀ b ∈ bs, 0 ≤ b ∧ b ≤ 255) (hn : bs.length ≤ 60) (r : T27) (hr : M.syntax_several 2 (bs.map leaf) = some r) : Good r ∧ ∀ w : List Int, (∀ c ∈ w, 0 ≤ c ∧ c ≤ 255) → (Lg r w ↔ w = bs) := by
  have rl : ∀ b ∈ bs, Rt 1 (leaf b) := fun b h => ⟨.inl ⟨rfl, rfl, rfl, rfl⟩, oneL_ok (hb b h).1 (hb b h).2, by simp [leaf]⟩
  obtain ⟨r', h1, h2⟩ := several_all (bs.map leaf)
  rw [hr] at h1
  cases h1
  rcases h2 with ⟨x, h2, rfl⟩ | rfl
  · match bs, h2 with
    | [b], h2 =>
      simp at h2
      subst h2
      refine ⟨⟨(rl b (by simp)).mono (by omega), by rw [nd_eq]; simp [leaf, nds], by rw [sz_eq]; simp [leaf]⟩, fun w hw => leaf_lg (hb b (by simp)) hw⟩
  · refine ⟨⟨?_, by rw [nd_eq]; simp only [nds_leaves]; omega, by rw [sz_eq]; simp [szs_leaves]; omega⟩, fun w hw => ?_⟩
    · refine Rt.mono (d := 2) ⟨.inr (.inl ⟨.inl rfl, rfl, rfl, rfl⟩), SetOk.Z4, fun x hx => ?_⟩ (by omega)
      obtain ⟨b, hb', rfl⟩ := List.mem_map.1 hx
      exact rl b hb'
    · rw [← leaves_lg bs hb w hw]
      constructor
      · rintro (⟨h, _⟩ | ⟨_, h⟩ | ⟨h, _⟩ | ⟨h, _⟩)
        · omega
        · exact h
        · omega
        · omega
      · intro h; exact .inr (.inl ⟨rfl, h⟩)
theorem full_ok (s t : ByteArray) (hs : s.size ≤ 60) (ht : t.size ≤ 60) : ∃ q, M.syntax_Quote s = some q ∧ ∃ b, M.sim_Full q t = some (b, 0, 0) ∧ (b = true ↔ s2b t = s2b s) := by
  have hlen : (s2b s).length = s.size := by simp only [s2b, List.length_map, Array.length_toList]; rfl
  refine ⟨_, quote_ok s (by omega), ?_⟩
  obtain ⟨r, h1, h2⟩ := read_ok (s2b s) (s2b_range s) (by omega)
  obtain ⟨g1, g2⟩ := quoted_good (s2b s) (s2b_range s) (by omega) r h2
  obtain ⟨l, m, _, _, _, k⟩ := good_prog g1
  obtain ⟨b, k1, k2⟩ := k t (by omega)
  refine ⟨b, ?_, ?_⟩
  · rw [M.sim_Full, h1, bnd]; try dsimp only
    rw [if_pos rfl, m, bnd]; try dsimp only
    rw [if_pos rfl, k1, bnd]
  · rw [k2, U_s2b]
    exact g2 _ (s2b_range t)
theorem ss_size (s : ByteArray) (i j : Nat) (h1 : i ≤ j) (h2 : j ≤ s.size) : (ss s (i : Int) (j : Int)).size = j - i := by
  simp only [ss, ByteArray.size_extract, Int.toNat_natCast]
  omega
theorem quotes_law (x0 x1 : ByteArray) : M.tidepolelaw12_SimQuotes x0 x1 = some true := by
  have hi : ∀ x : ByteArray, ∃ k : Nat, imn (x.size : Int) 60 = (k : Int) ∧ k ≤ 60 ∧ k ≤ x.size := by
    intro x
    refine ⟨min x.size 60, ?_, by omega, by omega⟩
    simp only [imn]
    split <;> omega
  obtain ⟨k, hk, k1, k2⟩ := hi x0
  obtain ⟨m, hm, m1, m2⟩ := hi x1
  have z0 : (ss x0 0 (k : Int)).size = k := ss_size x0 0 k (Nat.zero_le _) k2
  have z1 : (ss x1 0 (m : Int)).size = m := ss_size x1 0 m (Nat.zero_le _) m2
  obtain ⟨q, e1, b, e2, e3⟩ := full_ok (ss x0 0 (k : Int)) (ss x1 0 (m : Int)) (by omega) (by omega)
  obtain ⟨q', e1', c, e4, e5⟩ := full_ok (ss x0 0 (k : Int)) (ss x0 0 (k : Int)) (by omega) (by omega)
  rw [e1] at e1'
  cases e1'
  have hc : c = true := e5.2 rfl
  have hb : b = ((ss x0 0 (k : Int)).toList == (ss x1 0 (m : Int)).toList) := by
    rw [Bool.eq_iff_iff, e3, beq_iff_eq, s2b_inj]
    exact eq_comm
  rw [M.tidepolelaw12_SimQuotes, works_ok, bnd, if_pos rfl, hk, hm, if_pos (by omega), if_pos (by omega), if_pos (by omega), if_pos (by omega), e1, bnd, e2, bnd, bnd, e4, bnd]; try dsimp only
  rw [if_pos rfl, if_pos rfl, hb, hc, if_pos (by simp)]
end Go.Proofs.Ytemokppdnkiejaa
