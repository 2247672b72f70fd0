/-
  How many ones a word of 64 bits has: Go's way of counting them, and one after the other. Pure.
-/
import Derived.Test.YtemokppdnkiejaaDoorPPrB
set_option linter.unusedVariables false
set_option linter.unusedSimpArgs false
namespace Go.Proofs.YtemokppdnkiejaaDoor
open Go.Gx

theorem land256 {a c : Nat} (y d : Nat) (ha : a < 256) (hc : c < 256) : (a + 256 * y) &&& (c + 256 * d) = (a &&& c) + 256 * (y &&& d) := by
  have h1 := Nat.and_mod_two_pow (a := a + 256 * y) (b := c + 256 * d) (n := 8)
  have h2 := Nat.and_div_two_pow (a := a + 256 * y) (b := c + 256 * d) (n := 8)
  rw [show (2 : Nat) ^ 8 = 256 from rfl] at h1 h2
  rw [show (a + 256 * y) % 256 = a by omega, show (c + 256 * d) % 256 = c by omega] at h1
  rw [show (a + 256 * y) / 256 = y by omega, show (c + 256 * d) / 256 = d by omega] at h2
  omega
def mask (m : Nat) : Nat → Nat
  | 0 => 0
  | k + 1 => m + 256 * mask m k
/-- a word, each of its bytes turned -/
def B (g : Nat → Nat) : Nat → Nat → Nat
  | 0, _ => 0
  | k + 1, x => g (x % 256) + 256 * B g k (x / 256)
theorem B_id : ∀ (k x : Nat), x < 256 ^ k → B (fun a => a) k x = x
  | 0, x, h => by simp at h; simp [B, h]
  | k + 1, x, h => by
    have h2 : x / 256 < 256 ^ k := by rw [Nat.div_lt_iff_lt_mul (by omega)]; rw [Nat.pow_succ] at h; exact h
    simp only [B]
    rw [B_id k _ h2]
    omega
theorem stepA (h : Nat → Nat) (m s : Nat) (hm : m < 256) (hh : ∀ a, a < 256 → h a < 256) (hs : s = 1 ∨ s = 2)
    (hc : ∀ a, a < 256 → ∀ c, c < 2 ^ s → ((h a / 2 ^ s + c * 2 ^ (8 - s)) &&& m) = (h a / 2 ^ s &&& m)) :
    ∀ (k x : Nat), (B h k x / 2 ^ s &&& mask m k) + (B h k x &&& mask m k) = B (fun a => (h a / 2 ^ s &&& m) + (h a &&& m)) k x
  | 0, x => by simp [B, mask]
  | k + 1, x => by
    have ih := stepA h m s hm hh hs hc k (x / 256)
    have ha := Nat.mod_lt x (show 256 > 0 by omega)
    have hb := hh _ ha
    simp only [B, mask]
    generalize B h k (x / 256) = Y at ih
    have e1 : (h (x % 256) + 256 * Y) / 2 ^ s = (h (x % 256) / 2 ^ s + (Y % 2 ^ s) * 2 ^ (8 - s)) + 256 * (Y / 2 ^ s) := by
      rcases hs with rfl | rfl <;> simp <;> omega
    have e2 : h (x % 256) / 2 ^ s + (Y % 2 ^ s) * 2 ^ (8 - s) < 256 := by
      rcases hs with rfl | rfl <;> simp <;> omega
    rw [e1, land256 _ _ e2 hm, land256 _ _ hb hm, hc _ ha _ (Nat.mod_lt _ (Nat.two_pow_pos s)), ← ih]
    omega
theorem stepB (h : Nat → Nat) (hh : ∀ a, a < 256 → h a ≤ 68 ∧ h a % 16 ≤ 4) (hc : ∀ a, a < 256 → ∀ c, c ≤ 4 → ((h a / 16 + 16 * c + h a) &&& 15) = ((h a / 16 + h a) &&& 15)) :
    ∀ (k x : Nat), ((B h k x / 16 + B h k x) &&& mask 15 k) = B (fun a => (h a / 16 + h a) &&& 15) k x
  | 0, x => by simp [B, mask]
  | k + 1, x => by
    have ih := stepB h hh hc k (x / 256)
    have ha := Nat.mod_lt x (show 256 > 0 by omega)
    have hb := hh _ ha
    have hY : B h k (x / 256) % 16 ≤ 4 := by
      cases k with
      | zero => simp [B]
      | succ k =>
        simp only [B]
        have := (hh _ (Nat.mod_lt (x / 256) (show 256 > 0 by omega))).2
        omega
    simp only [B, mask]
    generalize B h k (x / 256) = Y at ih hY
    have e1 : (h (x % 256) + 256 * Y) / 16 + (h (x % 256) + 256 * Y) = (h (x % 256) / 16 + 16 * (Y % 16) + h (x % 256)) + 256 * (Y / 16 + Y) := by omega
    rw [e1, land256 _ _ (by omega) (by omega), hc _ ha _ hY, ih]
/-- the ones of a byte -/
def p1 (a : Nat) : Nat := (a / 2 ^ 1 &&& 85) + (a &&& 85)
def p2 (a : Nat) : Nat := (p1 a / 2 ^ 2 &&& 51) + (p1 a &&& 51)
def p3 (a : Nat) : Nat := (p2 a / 16 + p2 a) &&& 15
theorem p1_lt : ∀ a, a < 256 → p1 a < 256 := by decide +kernel
theorem p2_le : ∀ a, a < 256 → p2 a ≤ 68 ∧ p2 a % 16 ≤ 4 := by decide +kernel
theorem p3_le : ∀ a, a < 256 → p3 a ≤ 8 := by decide +kernel
/-- the ones among the lowest bits -/
def ones : Nat → Nat → Nat
  | 0, _ => 0
  | k + 1, x => ones k x + (x / 2 ^ k) % 2
theorem p3_ones : ∀ a, a < 256 → p3 a = ones 8 a := by decide +kernel
theorem ones_low : ∀ (k x : Nat), k ≤ 8 → ones k x = ones k (x % 256)
  | 0, _, _ => rfl
  | k + 1, x, h => by
    rw [ones, ones, ones_low k x (by omega)]
    congr 1
    have h1 := Nat.testBit_mod_two_pow x 8 k
    rw [show (2 : Nat) ^ 8 = 256 from rfl, show decide (k < 8) = true from decide_eq_true (by omega), Bool.true_and] at h1
    simp only [Nat.testBit_eq_decide_div_mod_eq] at h1
    have h2 := decide_eq_decide.1 h1
    have a := Nat.mod_lt (x / 2 ^ k) (show 2 > 0 by omega)
    have b := Nat.mod_lt (x % 256 / 2 ^ k) (show 2 > 0 by omega)
    omega
theorem ones_hi : ∀ (k x : Nat), ones (8 + k) x = ones 8 x + ones k (x / 256)
  | 0, x => by simp [ones]
  | k + 1, x => by
    have e : x / 2 ^ (8 + k) = x / 256 / 2 ^ k := by rw [Nat.pow_add, ← Nat.div_div_eq_div_mul]
    show ones (8 + k) x + x / 2 ^ (8 + k) % 2 = ones 8 x + (ones k (x / 256) + x / 256 / 2 ^ k % 2)
    rw [ones_hi k x, e]
    generalize ones 8 x = u
    generalize x / 256 / 2 ^ k % 2 = v
    omega
theorem ones_B : ∀ (k x : Nat), ones (8 * k) x = (((List.range k).map fun i => p3 (x / 256 ^ i % 256)).sum)
  | 0, x => rfl
  | k + 1, x => by
    rw [show 8 * (k + 1) = 8 + 8 * k by omega, ones_hi, ones_B k (x / 256), ones_low 8 x (Nat.le_refl _), ← p3_ones _ (Nat.mod_lt x (show 256 > 0 by omega)), List.range_succ_eq_map]
    simp only [List.map_cons, List.sum_cons, List.map_map, Nat.pow_zero, Nat.div_one]
    congr 2
    apply List.map_congr_left
    intro i _
    simp only [Function.comp, Nat.succ_eq_add_one]
    rw [Nat.pow_succ', Nat.div_div_eq_div_mul]
theorem div256 (a b : Nat) (h : a < 256) : (a + 256 * b) / 256 = b := by omega
theorem div65536 (a b c : Nat) (h : a < 256) (h' : b < 256) : (a + 256 * (b + 256 * c)) / 65536 = c := by omega
theorem div2p32 (a b c d e : Nat) (ha : a < 256) (hb : b < 256) (hc : c < 256) (hd : d < 256) : (a + 256 * (b + 256 * (c + 256 * (d + 256 * e)))) / 4294967296 = e := by
  rw [show 4294967296 = 65536 * 65536 from rfl, ← Nat.div_div_eq_div_mul, div65536 a b _ ha hb, div65536 c d _ hc hd]
theorem st1 (a b y y1 : Nat) (ha : a < 256) (e : y = a + 256 * b) (h : y1 = y + y / 256) : y1 = a + 256 * b + b := by rw [h, e, div256 a b ha]
theorem st2 (a b c y y1 : Nat) (ha : a < 256) (hb : b < 256) (e : y = a + 256 * (b + 256 * c)) (h : y1 = y + y / 65536) : y1 = a + 256 * (b + 256 * c) + c := by rw [h, e, div65536 a b c ha hb]
theorem st3 (a b c d f y y1 : Nat) (ha : a < 256) (hb : b < 256) (hc : c < 256) (hd : d < 256) (e : y = a + 256 * (b + 256 * (c + 256 * (d + 256 * f)))) (h : y1 = y + y / 4294967296) : y1 = a + 256 * (b + 256 * (c + 256 * (d + 256 * f))) + f := by rw [h, e, div2p32 a b c d f ha hb hc hd]
theorem li1 (c0 c1 c2 c3 c4 c5 c6 c7 : Nat) : c0 + 256 * (c1 + 256 * (c2 + 256 * (c3 + 256 * (c4 + 256 * (c5 + 256 * (c6 + 256 * c7)))))) + (c1 + 256 * (c2 + 256 * (c3 + 256 * (c4 + 256 * (c5 + 256 * (c6 + 256 * c7)))))) =
    (c0 + c1) + 256 * ((c1 + c2) + 256 * ((c2 + c3) + 256 * ((c3 + c4) + 256 * ((c4 + c5) + 256 * ((c5 + c6) + 256 * ((c6 + c7) + 256 * c7)))))) := by omega
theorem li2 (c0 c1 c2 c3 c4 c5 c6 c7 : Nat) : (c0 + c1) + 256 * ((c1 + c2) + 256 * ((c2 + c3) + 256 * ((c3 + c4) + 256 * ((c4 + c5) + 256 * ((c5 + c6) + 256 * ((c6 + c7) + 256 * c7)))))) + ((c2 + c3) + 256 * ((c3 + c4) + 256 * ((c4 + c5) + 256 * ((c5 + c6) + 256 * ((c6 + c7) + 256 * c7))))) =
    (c0 + c1 + c2 + c3) + 256 * ((c1 + c2 + c3 + c4) + 256 * ((c2 + c3 + c4 + c5) + 256 * ((c3 + c4 + c5 + c6) + 256 * ((c4 + c5 + c6 + c7) + 256 * ((c5 + c6 + c7) + 256 * ((c6 + c7) + 256 * c7)))))) := by omega
theorem li3 (c0 c1 c2 c3 c4 c5 c6 c7 : Nat) : (c0 + c1 + c2 + c3) + 256 * ((c1 + c2 + c3 + c4) + 256 * ((c2 + c3 + c4 + c5) + 256 * ((c3 + c4 + c5 + c6) + 256 * ((c4 + c5 + c6 + c7) + 256 * ((c5 + c6 + c7) + 256 * ((c6 + c7) + 256 * c7)))))) + ((c4 + c5 + c6 + c7) + 256 * ((c5 + c6 + c7) + 256 * ((c6 + c7) + 256 * c7))) =
    (c0 + c1 + c2 + c3 + c4 + c5 + c6 + c7) + 256 * ((c1 + c2 + c3 + c4 + (c5 + c6 + c7)) + 256 * ((c2 + c3 + c4 + c5 + (c6 + c7)) + 256 * ((c3 + c4 + c5 + c6 + c7) + 256 * ((c4 + c5 + c6 + c7) + 256 * ((c5 + c6 + c7) + 256 * ((c6 + c7) + 256 * c7)))))) := by omega
theorem swar0 (c0 c1 c2 c3 c4 c5 c6 c7 y y1 y2 y3 : Nat) (l0 : c0 ≤ 8) (l1 : c1 ≤ 8) (l2 : c2 ≤ 8) (l3 : c3 ≤ 8) (l4 : c4 ≤ 8) (l5 : c5 ≤ 8) (l6 : c6 ≤ 8) (l7 : c7 ≤ 8)
    (hB : y = c0 + 256 * (c1 + 256 * (c2 + 256 * (c3 + 256 * (c4 + 256 * (c5 + 256 * (c6 + 256 * c7))))))) (h1 : y1 = y + y / 256) (h2 : y2 = y1 + y1 / 65536) (h3 : y3 = y2 + y2 / 4294967296) : y3 < 18446744073709551616 ∧ y3 % 128 = c0 + c1 + c2 + c3 + c4 + c5 + c6 + c7 := by
  have a1 : c0 < 256 := Nat.lt_of_le_of_lt l0 (by decide)
  have g1 := (st1 _ _ _ _ a1 hB h1).trans (li1 c0 c1 c2 c3 c4 c5 c6 c7)
  have a2 : c0 + c1 < 256 := Nat.lt_of_le_of_lt (Nat.add_le_add l0 l1) (by decide)
  have a3 : c1 + c2 < 256 := Nat.lt_of_le_of_lt (Nat.add_le_add l1 l2) (by decide)
  have g2 := (st2 _ _ _ _ _ a2 a3 g1 h2).trans (li2 c0 c1 c2 c3 c4 c5 c6 c7)
  have b1 : c0 + c1 + c2 + c3 < 256 := Nat.lt_of_le_of_lt (Nat.add_le_add (Nat.add_le_add (Nat.add_le_add l0 l1) l2) l3) (by decide)
  have b2 : c1 + c2 + c3 + c4 < 256 := Nat.lt_of_le_of_lt (Nat.add_le_add (Nat.add_le_add (Nat.add_le_add l1 l2) l3) l4) (by decide)
  have b3 : c2 + c3 + c4 + c5 < 256 := Nat.lt_of_le_of_lt (Nat.add_le_add (Nat.add_le_add (Nat.add_le_add l2 l3) l4) l5) (by decide)
  have b4 : c3 + c4 + c5 + c6 < 256 := Nat.lt_of_le_of_lt (Nat.add_le_add (Nat.add_le_add (Nat.add_le_add l3 l4) l5) l6) (by decide)
  have g3 := (st3 _ _ _ _ _ _ _ b1 b2 b3 b4 g2 h3).trans (li3 c0 c1 c2 c3 c4 c5 c6 c7)
  clear g1 g2 h1 h2 h3 hB a1 a2 a3 b1 b2 b3 b4
  have hK : (c1 + c2 + c3 + c4 + (c5 + c6 + c7)) + 256 * ((c2 + c3 + c4 + c5 + (c6 + c7)) + 256 * ((c3 + c4 + c5 + c6 + c7) + 256 * ((c4 + c5 + c6 + c7) + 256 * ((c5 + c6 + c7) + 256 * ((c6 + c7) + 256 * c7))))) ≤ 20000000000000000 := by omega
  generalize (c1 + c2 + c3 + c4 + (c5 + c6 + c7)) + 256 * ((c2 + c3 + c4 + c5 + (c6 + c7)) + 256 * ((c3 + c4 + c5 + c6 + c7) + 256 * ((c4 + c5 + c6 + c7) + 256 * ((c5 + c6 + c7) + 256 * ((c6 + c7) + 256 * c7))))) = K at g3 hK
  have hS : c0 + c1 + c2 + c3 + c4 + c5 + c6 + c7 ≤ 64 := by omega
  generalize c0 + c1 + c2 + c3 + c4 + c5 + c6 + c7 = s at g3 hS
  clear l0 l1 l2 l3 l4 l5 l6 l7
  omega
theorem swar (x : Nat) : ∀ y, y = B p3 8 x → ∀ y1, y1 = y + y / 256 → ∀ y2, y2 = y1 + y1 / 65536 → ∀ y3, y3 = y2 + y2 / 4294967296 → y3 < 18446744073709551616 ∧ y3 % 128 = ones 64 x := by
  intro y hy y1 h1 y2 h2 y3 h3
  have ho := ones_B 8 x
  simp only [List.range_succ, List.range_zero, List.nil_append, List.cons_append, List.map_cons, List.map_nil, List.sum_cons, List.sum_nil] at ho
  rw [show 8 * 8 = 64 from rfl] at ho
  have e : ∀ i, x / 256 ^ i / 256 = x / 256 ^ (i + 1) := fun i => by rw [Nat.pow_succ, Nat.div_div_eq_div_mul]
  have l : ∀ i, p3 (x / 256 ^ i % 256) ≤ 8 := fun i => p3_le _ (Nat.mod_lt _ (by omega))
  have hB : y = p3 (x / 256 ^ 0 % 256) + 256 * (p3 (x / 256 ^ 1 % 256) + 256 * (p3 (x / 256 ^ 2 % 256) + 256 * (p3 (x / 256 ^ 3 % 256) + 256 * (p3 (x / 256 ^ 4 % 256) + 256 * (p3 (x / 256 ^ 5 % 256) + 256 * (p3 (x / 256 ^ 6 % 256) + 256 * p3 (x / 256 ^ 7 % 256))))))) := by
    have e0 : x = x / 256 ^ 0 := by rw [Nat.pow_zero, Nat.div_one]
    rw [hy]
    conv => lhs; rw [e0]
    simp only [B, e, Nat.zero_add, Nat.reduceAdd, Nat.mul_zero, Nat.add_zero]
  have := swar0 _ _ _ _ _ _ _ _ y y1 y2 y3 (l 0) (l 1) (l 2) (l 3) (l 4) (l 5) (l 6) (l 7) hB h1 h2 h3
  refine ⟨this.1, ?_⟩
  rw [this.2, ho]
  simp only [Nat.add_zero, Nat.add_assoc]

/-! ### In the model's words -/
theorem iand_u64 {a m : Nat} (ha : a < 18446744073709551616) (hm : m < 18446744073709551616) : iand .u64 (a : Int) (m : Int) = ((a &&& m : Nat) : Int) := by
  unfold iand
  have t : ∀ n : Nat, n < 18446744073709551616 → (BitVec.ofInt IntKind.u64.bits (n : Int)).toNat = n := by
    intro n hn
    simp only [IntKind.bits, BitVec.toNat_ofInt]
    have : (n : Int) % ((2 ^ 64 : Nat) : Int) = (n : Int) := Int.emod_eq_of_lt (by omega) (by omega)
    rw [this]
    rfl
  have hb : ((BitVec.ofInt IntKind.u64.bits (a : Int)) &&& (BitVec.ofInt IntKind.u64.bits (m : Int))).toNat = a &&& m := by
    rw [BitVec.toNat_and, t a ha, t m hm]
  rw [hb]
  have hl : a &&& m ≤ a := Nat.and_le_left
  simp only [IntKind.wrap, IntKind.signed, IntKind.bits]
  simp
  generalize a &&& m = n at hl
  exact Int.emod_eq_of_lt (by omega) (by omega)
theorem ishr_u64 (a : Nat) (k : Nat) (hk : k ≤ 64) : ishr .u64 (a : Int) (k : Int) = ((a / 2 ^ k : Nat) : Int) := by
  unfold ishr
  rw [Int.toNat_natCast, show min k IntKind.u64.bits = k by have : IntKind.u64.bits = 64 := rfl; omega, Int.fdiv_eq_ediv_of_nonneg _ (by exact_mod_cast Nat.zero_le _)]
  push_cast
  rfl
theorem wr_u64 {a : Nat} (h : a < 18446744073709551616) : wr .u64 (a : Int) = (a : Int) := by
  simp only [wr, IntKind.wrap, IntKind.signed, IntKind.bits]
  simp
  exact Int.emod_eq_of_lt (by omega) (by omega)
def t1 (x : Int) : Int := wr .u64 ((iand .u64 (ishr .u64 x 1) 6148914691236517205) + (iand .u64 x 6148914691236517205))
def t2 (x : Int) : Int := wr .u64 ((iand .u64 (ishr .u64 x 2) 3689348814741910323) + (iand .u64 x 3689348814741910323))
def t3 (x : Int) : Int := iand .u64 (wr .u64 ((ishr .u64 x 4) + x)) 1085102592571150095
def t4 (x : Int) : Int := wr .u64 (x + ishr .u64 x 8)
def t5 (x : Int) : Int := wr .u64 (x + ishr .u64 x 16)
def t6 (x : Int) : Int := wr .u64 (x + ishr .u64 x 32)
theorem oc_t (x : Int) : oc x = iand .i64 (wr .i64 (t6 (t5 (t4 (t3 (t2 (t1 x))))))) 127 := rfl
theorem B_lt (g : Nat → Nat) (hg : ∀ a, a < 256 → g a < 256) : ∀ (k x : Nat), B g k x < 256 ^ k
  | 0, _ => by simp [B]
  | k + 1, x => by
    have := B_lt g hg k (x / 256)
    have h1 := hg _ (Nat.mod_lt x (show 256 > 0 by omega))
    simp only [B]
    rw [Nat.pow_succ]
    generalize 256 ^ k = P at *
    generalize B g k (x / 256) = Y at *
    omega
theorem oc_ones (x : Nat) (h : x < 18446744073709551616) : oc (x : Int) = ((ones 64 x : Nat) : Int) := by
  have P8 : (256 : Nat) ^ 8 = 18446744073709551616 := rfl
  have c1 : ∀ a, a < 256 → ∀ c, c < 2 ^ 1 → ((a / 2 ^ 1 + c * 2 ^ (8 - 1)) &&& 85) = (a / 2 ^ 1 &&& 85) := by decide +kernel
  have c2 : ∀ a, a < 256 → ∀ c, c < 2 ^ 2 → ((p1 a / 2 ^ 2 + c * 2 ^ (8 - 2)) &&& 51) = (p1 a / 2 ^ 2 &&& 51) := by decide +kernel
  have c3 : ∀ a, a < 256 → ∀ c, c ≤ 4 → ((p2 a / 16 + 16 * c + p2 a) &&& 15) = ((p2 a / 16 + p2 a) &&& 15) := by decide +kernel
  have s1 := stepA (fun a => a) 85 1 (by omega) (fun a h => h) (.inl rfl) c1 8 x
  have s2 := stepA p1 51 2 (by omega) p1_lt (.inr rfl) c2 8 x
  have s3 := stepB p2 p2_le c3 8 x
  rw [B_id 8 x (by rw [P8]; exact h)] at s1
  have b1 := B_lt p1 p1_lt 8 x
  have b2 := B_lt p2 (fun a h => by have := p2_le a h; omega) 8 x
  have b3 := B_lt p3 (fun a h => by have := p3_le a h; omega) 8 x
  rw [P8] at b1 b2 b3
  have s1' : (x / 2 ^ 1 &&& 6148914691236517205) + (x &&& 6148914691236517205) = B p1 8 x := s1
  have s2' : (B p1 8 x / 2 ^ 2 &&& 3689348814741910323) + (B p1 8 x &&& 3689348814741910323) = B p2 8 x := s2
  have s3' : ((B p2 8 x / 16 + B p2 8 x) &&& 1085102592571150095) = B p3 8 x := s3
  have e1 : t1 (x : Int) = ((B p1 8 x : Nat) : Int) := by
    unfold t1
    rw [show (1 : Int) = ((1 : Nat) : Int) from rfl, ishr_u64 x 1 (by omega), show (6148914691236517205 : Int) = ((6148914691236517205 : Nat) : Int) from rfl, iand_u64 (by have := Nat.div_le_self x (2 ^ 1); omega) (by omega), iand_u64 h (by omega), ← Int.natCast_add, s1', wr_u64 b1]
  have e2 : t2 ((B p1 8 x : Nat) : Int) = ((B p2 8 x : Nat) : Int) := by
    unfold t2
    rw [show (2 : Int) = ((2 : Nat) : Int) from rfl, ishr_u64 _ 2 (by omega), show (3689348814741910323 : Int) = ((3689348814741910323 : Nat) : Int) from rfl, iand_u64 (by have := Nat.div_le_self (B p1 8 x) (2 ^ 2); omega) (by omega), iand_u64 b1 (by omega), ← Int.natCast_add, s2', wr_u64 b2]
  have b2' : B p2 8 x / 16 + B p2 8 x < 18446744073709551616 := by
    have : B p2 8 x ≤ 68 * 72340172838076673 := by
      have hb : ∀ k y, B p2 k y ≤ 68 * mask 1 k := by
        intro k
        induction k with
        | zero => intro y; simp [B]
        | succ k ih =>
          intro y
          have := ih (y / 256)
          have := (p2_le _ (Nat.mod_lt y (show 256 > 0 by omega))).1
          simp only [B, mask]
          omega
      exact hb 8 x
    omega
  have e3 : t3 ((B p2 8 x : Nat) : Int) = ((B p3 8 x : Nat) : Int) := by
    unfold t3
    rw [show (4 : Int) = ((4 : Nat) : Int) from rfl, ishr_u64 _ 4 (by omega), ← Int.natCast_add, show (2 : Nat) ^ 4 = 16 from rfl, wr_u64 b2', show (1085102592571150095 : Int) = ((1085102592571150095 : Nat) : Int) from rfl, iand_u64 b2' (by omega), s3']
  obtain ⟨w1, w2⟩ := swar x _ rfl _ rfl _ rfl _ rfl
  generalize hy : B p3 8 x = y at *
  have e4 : t4 (y : Int) = ((y + y / 256 : Nat) : Int) := by
    unfold t4
    rw [show (8 : Int) = ((8 : Nat) : Int) from rfl, ishr_u64 _ 8 (by omega), show (2 : Nat) ^ 8 = 256 from rfl, ← Int.natCast_add, wr_u64 (by omega)]
  generalize y + y / 256 = y1 at *
  have e5 : t5 (y1 : Int) = ((y1 + y1 / 65536 : Nat) : Int) := by
    unfold t5
    rw [show (16 : Int) = ((16 : Nat) : Int) from rfl, ishr_u64 _ 16 (by omega), show (2 : Nat) ^ 16 = 65536 from rfl, ← Int.natCast_add, wr_u64 (by omega)]
  generalize y1 + y1 / 65536 = y2 at *
  have e6 : t6 (y2 : Int) = ((y2 + y2 / 4294967296 : Nat) : Int) := by
    unfold t6
    rw [show (32 : Int) = ((32 : Nat) : Int) from rfl, ishr_u64 _ 32 (by omega), show (2 : Nat) ^ 32 = 4294967296 from rfl, ← Int.natCast_add, wr_u64 w1]
  generalize y2 + y2 / 4294967296 = y3 at *
  rw [oc_t, e1, e2, e3, e4, e5, e6, ← w2]
  -- the last seven bits
  unfold iand
  have hb : ((BitVec.ofInt IntKind.i64.bits (wr .i64 (y3 : Int))) &&& (BitVec.ofInt IntKind.i64.bits 127)).toNat = y3 % 128 := by
    rw [BitVec.toNat_and]
    have h127 : (BitVec.ofInt IntKind.i64.bits 127).toNat = 2 ^ 7 - 1 := by decide
    rw [h127, Nat.and_two_pow_sub_one_eq_mod]
    simp only [wr, IntKind.wrap, IntKind.signed, IntKind.bits, BitVec.toNat_ofInt]
    simp
    omega
  rw [hb]
  have : IntKind.wrap .i64 ((y3 % 128 : Nat) : Int) = ((y3 % 128 : Nat) : Int) := wr_i64 (by omega) (by omega)
  rw [this]
end Go.Proofs.YtemokppdnkiejaaDoor
