/-
 Numbers sorted by the program's own sort (fourth part: the patterns, the whole).
-/
import Derived.Test.YtbclkjbkebebeaaGreatQIvU
set_option linter.unusedVariables false
set_option linter.unusedSimpArgs false
namespace Go.Proofs.YtbclkjbkebebeaaGreat
open Go.Gx
open Go.Sort (ltInt swp)
theorem wru {a : Nat} (h : a < 18446744073709551616) : wr .u64 (a : Int) = (a : Int) := by
 simp only [wr, IntKind.wrap, IntKind.signed, IntKind.bits]
 simp
 exact Int.emod_eq_of_lt (by omega) (by omega)
theorem bv64 (n : Nat) (hn : n < 18446744073709551616) : (BitVec.ofInt IntKind.u64.bits (n : Int)).toNat = n := by
 simp only [IntKind.bits, BitVec.toNat_ofInt]
 have : (n : Int) % ((2 ^ 64 : Nat) : Int) = (n : Int) := Int.emod_eq_of_lt (by omega) (by omega)
 rw [this]
 rfl
theorem iandU {a m : Nat} (ha : a < 18446744073709551616) (hm : m < 18446744073709551616) : iand .u64 (a : Int) (m : Int) = ((a &&& m : Nat) : Int) := by
 have hb : ((BitVec.ofInt IntKind.u64.bits (a : Int)) &&& (BitVec.ofInt IntKind.u64.bits (m : Int))).toNat = a &&& m := by
  rw [BitVec.toNat_and, bv64 a ha, bv64 m hm]
 have hl : a &&& m ≤ a := Nat.and_le_left
 show wr .u64 _ = _
 rw [hb]
 exact wru (by omega)
theorem ixorU {a m : Nat} (ha : a < 18446744073709551616) (hm : m < 18446744073709551616) : ixor .u64 (a : Int) (m : Int) = ((a ^^^ m : Nat) : Int) := by
 have hb : ((BitVec.ofInt IntKind.u64.bits (a : Int)) ^^^ (BitVec.ofInt IntKind.u64.bits (m : Int))).toNat = a ^^^ m := by
  rw [BitVec.toNat_xor, bv64 a ha, bv64 m hm]
 have hl : a ^^^ m < 2 ^ 64 := Nat.xor_lt_two_pow ha hm
 show wr .u64 _ = _
 rw [hb]
 exact wru hl
theorem ishrU (a : Nat) (k : Nat) (hk : k ≤ 64) : ishr .u64 (a : Int) (k : Int) = ((a / 2 ^ k : Nat) : Int) := by
 unfold ishr
 rw [Int.toNat_natCast, show min k IntKind.u64.bits = k by have : IntKind.u64.bits = 64 := rfl; omega, Int.fdiv_eq_ediv_of_nonneg _ (by exact_mod_cast Nat.zero_le _)]
 push_cast
 rfl
theorem wrm (a : Nat) : wr .u64 (a : Int) = ((a % 18446744073709551616 : Nat) : Int) := by
 simp only [wr, IntKind.wrap, IntKind.signed, IntKind.bits]
 simp
theorem ishlU (a : Nat) (k : Nat) (hk : k ≤ 64) : ishl .u64 (a : Int) (k : Int) = ((a * 2 ^ k % 18446744073709551616 : Nat) : Int) := by
 show wr .u64 _ = _
 rw [Int.toNat_natCast, show min k IntKind.u64.bits = k by have : IntKind.u64.bits = 64 := rfl; omega, show (a : Int) * 2 ^ k = ((a * 2 ^ k : Nat) : Int) by push_cast; rfl]
 exact wrm _
theorem xorS (x : Nat) (h : x < 18446744073709551616) : M.a3b (x : Int) = some (((Go.Sort.xorNextN x : Nat) : Int), ((Go.Sort.xorNextN x : Nat) : Int)) := by
 have p : (18446744073709551616 : Nat) = 2 ^ 64 := by decide
 have s1 := ishlU x 13 (by omega)
 rw [show ((13 : Nat) : Int) = 13 from rfl, show 2 ^ 13 = 8192 by decide] at s1
 have hm : x * 8192 % 18446744073709551616 < 18446744073709551616 := Nat.mod_lt _ (by decide)
 have e1 : ixor .u64 (x : Int) (ishl .u64 (x : Int) 13) = ((x ^^^ (x * 8192 % 18446744073709551616) : Nat) : Int) := by rw [s1]; exact ixorU h hm
 have ha : x ^^^ (x * 8192 % 18446744073709551616) < 18446744073709551616 := by rw [p] at *; exact Nat.xor_lt_two_pow h hm
 rw [M.a3b, Go.Sort.xorNextN]
 simp only [e1]
 generalize x ^^^ (x * 8192 % 18446744073709551616) = a at *
 have s2 := ishrU a 7 (by omega)
 rw [show ((7 : Nat) : Int) = 7 from rfl, show 2 ^ 7 = 128 by decide] at s2
 have e2 : ixor .u64 (a : Int) (ishr .u64 (a : Int) 7) = ((a ^^^ (a / 128) : Nat) : Int) := by rw [s2]; exact ixorU ha (by omega)
 have hb : a ^^^ (a / 128) < 18446744073709551616 := by rw [p] at *; exact Nat.xor_lt_two_pow ha (by omega)
 simp only [e2]
 generalize a ^^^ (a / 128) = b at *
 have s3 := ishlU b 17 (by omega)
 rw [show ((17 : Nat) : Int) = 17 from rfl, show 2 ^ 17 = 131072 by decide] at s3
 have e3 : ixor .u64 (b : Int) (ishl .u64 (b : Int) 17) = ((b ^^^ (b * 131072 % 18446744073709551616) : Nat) : Int) := by rw [s3]; exact ixorU hb (Nat.mod_lt _ (by decide))
 simp only [e3]
/-! ### how many bits -/
theorem lenT : ∀ n : Nat, n < 256 → M.a13 ((n : Int), 0) = some ((Go.Sort.bitsLen n : Nat) : Int) := by decide +kernel
theorem bl8 (n : Nat) (h : 256 ≤ n) : Go.Sort.bitsLen n = Go.Sort.bitsLen (n / 256) + 8 := by
 have h1 : Go.Sort.bitsLen n ≤ Go.Sort.bitsLen (n / 256) + 8 := by
  rw [Go.Sort.bitsLen_le_iff, Nat.pow_add]
  have := Go.Sort.lt_two_pow_bitsLen (n / 256)
  omega
 have h2 : Go.Sort.bitsLen (n / 256) + 8 ≤ Go.Sort.bitsLen n := by
  have h3 : Go.Sort.bitsLen (n / 256) ≤ Go.Sort.bitsLen n - 8 := by
   rw [Go.Sort.bitsLen_le_iff]
   have h8 : 8 ≤ Go.Sort.bitsLen n := by
    rcases Nat.lt_or_ge (Go.Sort.bitsLen n) 8 with hh | hh
    ·have := (Go.Sort.bitsLen_le_iff n 7).1 (by omega); omega
    ·exact hh
   have := Go.Sort.lt_two_pow_bitsLen n
   rw [show Go.Sort.bitsLen n = (Go.Sort.bitsLen n - 8) + 8 by omega, Nat.pow_add] at this
   omega
  have h8 : 8 ≤ Go.Sort.bitsLen n := by
   rcases Nat.lt_or_ge (Go.Sort.bitsLen n) 8 with hh | hh
   ·have := (Go.Sort.bitsLen_le_iff n 7).1 (by omega); omega
   ·exact hh
  omega
 omega
theorem wr_rng (x : Int) : -9223372036854775808 ≤ wr .i64 x ∧ wr .i64 x ≤ 9223372036854775807 := by
 simp only [wr, IntKind.wrap, IntKind.signed, IntKind.bits]
 simp
 split <;> omega
theorem len_aux (X : Int) (m : Nat) (h0 : -9223372036854775808 ≤ X ∧ X ≤ 9223372036854775807) (hm : m ≤ 1000) (h : wr .i64 (0 + X) = (m : Int)) : wr .i64 ((wr .i64 (0 + 8)) + X) = ((m + 8 : Nat) : Int) := by
 rw [wi (by omega) (by omega)] at h
 rw [wi (x := 0 + 8) (by omega) (by omega), wi (by omega) (by omega)]
 omega
theorem bl_le (n : Nat) (h : n < 65536) : Go.Sort.bitsLen n ≤ 16 := (Go.Sort.bitsLen_le_iff n 16).2 h
theorem len1 (n : Nat) (h : 256 ≤ n) (h2 : n < 65536) : M.a13 ((n : Int), 0) = some ((Go.Sort.bitsLen n : Nat) : Int) := by
 have hk := lenT (n / 256) (by omega)
 have e : ishr .u64 (n : Int) 8 = ((n / 256 : Nat) : Int) := by
  have s := ishrU n 8 (by omega)
  rw [show ((8 : Nat) : Int) = 8 from rfl, show 2 ^ 8 = 256 by decide] at s
  exact s
 rw [M.a13, if_neg (by omega)] at hk
 rw [M.a13, if_pos (by omega), e]
 split at hk
 ·rename_i c1
  refine (if_pos c1).trans ?_
  split at hk
  ·rename_i c2
   refine (if_pos c2).trans (Eq.trans ?_ (congrArg (fun z : Nat => some (z : Int)) (bl8 n h).symm))
   replace hk := Option.some.inj hk
   exact congrArg some (len_aux _ _ (wr_rng _) (by have := bl_le (n / 256) (by omega); omega) hk)
  ·cases hk
 ·cases hk
theorem lenS (n : Nat) (h : n < 65536) : M.a3e (n : Int) = some ((Go.Sort.bitsLen n : Nat) : Int) := by
 have h1 : M.a13 ((n : Int), 0) = some ((Go.Sort.bitsLen n : Nat) : Int) := by
  rcases Nat.lt_or_ge n 256 with h2 | h2
  ·exact lenT n h2
  ·exact len1 n h2 h
 have h3 : M.a4s (n : Int) = some ((Go.Sort.bitsLen n : Nat) : Int) := by
  show (if (n : Int) ≥ 4294967296 then _ else M.a4r ((n : Int), 0)) = _
  refine (if_neg (by omega)).trans ?_
  show (if (n : Int) ≥ 65536 then _ else M.a13 ((n : Int), 0)) = _
  exact (if_neg (by omega)).trans h1
 show (M.a4s (n : Int) >>= fun y1 => some y1) = _
 exact (congrArg (fun z => z >>= fun y1 => some y1) h3).trans rfl
theorem npS (n : Nat) (h : n < 65536) : M.a3c (n : Int) = some ((1 <<< Go.Sort.bitsLen n : Nat) : Int) := by
 have hb := bl_le n h
 have hp : 2 ^ Go.Sort.bitsLen n ≤ 2 ^ 16 := Nat.pow_le_pow_right (by decide) hb
 have s := ishlU 1 (Go.Sort.bitsLen n) (by omega)
 rw [show ((1 : Nat) : Int) = 1 from rfl, Nat.one_mul, Nat.mod_eq_of_lt (by omega)] at s
 rw [M.a3c, wru (by omega), lenS n h, bnd, if_pos (by omega), s, Nat.one_shiftLeft]
/-! ### the patterns -/
theorem brk1 (a l m : Nat) (st : UInt64 × Array Int) (idx : Nat) (hl : 8 ≤ l) (hal : a + l ≤ st.2.size) (hs : st.2.size ≤ 65535) (hm : m = 1 <<< Go.Sort.bitsLen l) (hi : idx < st.2.size) (hle : (idx : Int) ≤ wr .i64 ((wr .i64 ((a : Int) + (wr .i64 ((iquo .i64 (l : Int) 4) * 2)))) + 1)) :
  M.a8 ((a : Int), (l : Int), ((st.1.toNat : Nat) : Int), (m : Int), (idx : Int), st.2.toList) = M.a8 ((a : Int), (l : Int), (((Go.Sort.breakStep a l m st idx).1.toNat : Nat) : Int), (m : Int), ((idx + 1 : Nat) : Int), (Go.Sort.breakStep a l m st idx).2.toList) := by
 have hx := xorS st.1.toNat (UInt64.toNat_lt st.1)
 rw [← Go.Sort.xorNext_toNat] at hx
 have hb := bl_le l (by omega)
 have hp : 2 ^ Go.Sort.bitsLen l ≤ 2 ^ 16 := Nat.pow_le_pow_right (by decide) hb
 have hp0 : 0 < 2 ^ Go.Sort.bitsLen l := Nat.two_pow_pos _
 have hp2 := Go.Sort.two_pow_bitsLen_le (n := l) (by omega)
 have hr := UInt64.toNat_lt (Go.Sort.xorNext st.1)
 rw [Nat.one_shiftLeft] at hm
 rw [M.a8, if_pos hle, hx, bnd, Go.Sort.breakStep]
 simp only []
 have e1 : wr .u64 ((m : Int) - 1) = ((m - 1 : Nat) : Int) := by rw [show ((m : Int) - 1) = ((m - 1 : Nat) : Int) by omega]; exact wru (by omega)
 have e2 : iand .u64 (((Go.Sort.xorNext st.1).toNat : Nat) : Int) ((m - 1 : Nat) : Int) = (((Go.Sort.xorNext st.1).toNat &&& (m - 1) : Nat) : Int) := iandU hr (by omega)
 have hle2 : (Go.Sort.xorNext st.1).toNat &&& (m - 1) ≤ m - 1 := Nat.and_le_right
 simp only [e1, e2]
 generalize (Go.Sort.xorNext st.1).toNat &&& (m - 1) = q at *
 have b1 : ∀ q : Nat, q < l → M.a1h ((a : Int), (l : Int), (((Go.Sort.xorNext st.1).toNat : Nat) : Int), (m : Int), (idx : Int), (q : Int), st.2.toList) = M.a8 ((a : Int), (l : Int), (((Go.Sort.xorNext st.1).toNat : Nat) : Int), (m : Int), ((idx + 1 : Nat) : Int), (swp st.2 idx (a + q)).toList) := fun q hq => by
  have e3 : wr .i64 ((a : Int) + (q : Int)) = ((a + q : Nat) : Int) := by rw [wi (by omega) (by omega)]; omega
  rw [M.a1h]
  simp only [e3, bnd, swA]
  refine (g4 (by omega) (by rw [leA]; omega) (by omega) (by rw [leA]; omega)).trans ?_
  rw [wi (by omega) (by omega), su]
 rw [wi (x := (q : Int)) (by omega) (by omega)]
 by_cases h : q ≥ l
 ·rw [if_pos (by omega), wi (by omega) (by omega), show (q : Int) - (l : Int) = ((q - l : Nat) : Int) by omega, b1 (q - l) (by omega)]
  simp only [if_pos h]
 ·rw [if_neg (by omega), b1 q (by omega)]
  simp only [if_neg h]
theorem brkS (d : Array Int) (a b : Nat) (hab : a ≤ b) (hb : b ≤ d.size) (hs : d.size ≤ 65535) : M.a2n d.toList (a : Int) (b : Int) = some (Go.Sort.breakPatterns d a b).toList := by
 have e0 : wr .i64 ((b : Int) - (a : Int)) = ((b - a : Nat) : Int) := by rw [wi (by omega) (by omega)]; omega
 rw [M.a2n, Go.Sort.breakPatterns]
 simp only [e0]
 generalize hl : b - a = l at *
 by_cases h8 : l ≥ 8
 ·rw [if_pos (by omega), npS l (by omega), bnd, if_pos h8]
  have q2 := quar a l 2 (by omega) (by omega)
  rw [show ((2 : Nat) : Int) = 2 from rfl] at q2
  have hd : l / 4 * 4 ≤ l := Nat.div_mul_le_self _ _
  have hq1 : 2 ≤ l / 4 := by omega
  have e1 : wr .i64 ((wr .i64 ((a : Int) + (wr .i64 ((iquo .i64 (l : Int) 4) * 2)))) - 1) = ((a + l / 4 * 2 - 1 : Nat) : Int) := by rw [q2, wi (by omega) (by omega)]; omega
  have e2 : wr .i64 ((wr .i64 ((a : Int) + (wr .i64 ((iquo .i64 (l : Int) 4) * 2)))) + 1) = ((a + l / 4 * 2 + 1 : Nat) : Int) := by rw [q2, wi (by omega) (by omega)]; omega
  rw [e1, wru (by omega)]
  have hn : ((UInt64.ofNat l).toNat : Nat) = l := UInt64.toNat_ofNat_of_lt' (by show l < 2 ^ 64; omega)
  have st := brk1 a l (1 <<< Go.Sort.bitsLen l) (UInt64.ofNat l, d) (a + l / 4 * 2 - 1) h8 (by show a + l ≤ d.size; omega) hs rfl (by show _ < d.size; omega) (by rw [e2]; omega)
  rw [hn] at st
  rw [st]
  generalize hz1 : Go.Sort.breakStep a l (1 <<< Go.Sort.bitsLen l) (UInt64.ofNat l, d) (a + l / 4 * 2 - 1) = s1 at *
  have z1 : s1.2.size = d.size := by rw [← hz1, Go.Sort.breakStep]; exact sz _ _ _
  rw [brk1 a l _ s1 _ h8 (by omega) (by omega) rfl (by omega) (by rw [e2]; omega)]
  generalize hz2 : Go.Sort.breakStep a l (1 <<< Go.Sort.bitsLen l) s1 (a + l / 4 * 2 - 1 + 1) = s2 at *
  have z2 : s2.2.size = d.size := by rw [← hz2, Go.Sort.breakStep]; exact (sz _ _ _).trans z1
  rw [brk1 a l _ s2 _ h8 (by omega) (by omega) rfl (by omega) (by rw [e2]; omega)]
  rw [M.a8, if_neg (by rw [e2]; omega)]
 ·rw [if_neg (by omega), if_neg h8]
/-! ### the whole -/
theorem prt_size (a b : Nat) : ∀ (s i : Nat) (d : Array Int), (Go.Sort.partialIns ltInt a b s i d).1.size = d.size
 | 0, i, d => rfl
 | s + 1, i, d => by
  rw [Go.Sort.partialIns_succ]
  split
  ·rfl
  ·split
   ·rfl
   ·rw [prt_size a b s, Go.Sort.fixUp, Go.Sort.fixDown]
    split <;> split <;> simp only [up_size b _ _ _ (Nat.le_refl _), down_size, sz]
def pdqT (a b limit : Nat) (wb wp : Bool) (d3 : Array Int) (pivot : Nat) : Array Int :=
 if a > 0 && !ltInt d3[a - 1]! d3[pivot]! then
  match Go.Sort.partitionEqual ltInt d3 a b pivot with
  | (mid, d4) => if _h : a < mid ∧ mid ≤ b then Go.Sort.pdq ltInt d4 mid b limit wb wp else d4
 else
  match Go.Sort.partition ltInt d3 a b pivot with
  | (mid, alreadyPartitioned, d4) =>
   if _h : a ≤ mid ∧ mid < b then
    if mid - a < b - mid then
     Go.Sort.pdq ltInt (Go.Sort.pdq ltInt d4 a mid limit true true) (mid + 1) b limit (decide (mid - a ≥ (b - a) / 8)) alreadyPartitioned
    else
     Go.Sort.pdq ltInt (Go.Sort.pdq ltInt d4 (mid + 1) b limit true true) a mid limit (decide (b - mid ≥ (b - a) / 8)) alreadyPartitioned
   else d4
theorem pdq_unf (d : Array Int) (a b limit : Nat) (wb wp : Bool) : Go.Sort.pdq ltInt d a b limit wb wp =
  if b - a ≤ 12 then Go.Sort.insertionSort ltInt d a b else
  if limit = 0 then Go.Sort.heapSort ltInt d a b else
  let d1 := if !wb then Go.Sort.breakPatterns d a b else d
  let limit := if !wb then limit - 1 else limit
  let c := Go.Sort.choosePivot ltInt d1 a b
  let d2 := if c.2 = .decreasing then Go.Sort.reverseRange d1 a b else d1
  let pivot := if c.2 = .decreasing then (b - 1) - (c.1 - a) else c.1
  let hint := if c.2 = .decreasing then Go.Sort.Hint.increasing else c.2
  let pi := if wb && wp && hint = .increasing then Go.Sort.partialInsertionSort ltInt d2 a b else (d2, false)
  if pi.2 then pi.1 else pdqT a b limit wb wp pi.1 pivot := by
 rw [Go.Sort.pdq]; rfl
theorem pdqL : ∀ (n a b limit : Nat) (wb wp : Bool) (d : Array Int), b - a ≤ n → a ≤ b → b ≤ d.size → d.size ≤ 65535 → limit ≤ 1000 → (wb = false → limit ≤ 1000) →
  M.am ((a : Int), (b : Int), (limit : Int), wb, wp, d.toList) = some (Go.Sort.pdq ltInt d a b limit wb wp).toList ∧ (Go.Sort.pdq ltInt d a b limit wb wp).size = d.size
 | n, a, b, limit, wb, wp, d, hn, hab, hb, hs, hl, _ => by
  have e0 : wr .i64 ((b : Int) - (a : Int)) = ((b - a : Nat) : Int) := by rw [wi (by omega) (by omega)]; omega
  rw [M.am, pdq_unf, e0]
  by_cases h12 : b - a ≤ 12
  ·rw [if_pos (by omega), if_pos h12, insS a b d hb hab (by omega), bnd]
   exact ⟨rfl, (Go.Sort.insertionSort_holds Go.Sort.swo_ltInt d a b hab hb).1.1⟩
  rw [if_neg (by omega), if_neg h12]
  by_cases h0 : limit = 0
  ·rw [if_pos (by omega), if_pos h0, heapS a b d hb hab (by omega), bnd]
   exact ⟨rfl, (Go.Sort.heapSort_holds Go.Sort.swo_ltInt d a b hab hb).1.1⟩
  rw [if_neg (by omega), if_neg h0]
  match n, hn with
  | 0, hn => omega
  | n + 1, hn =>
  have ih := fun (a b limit : Nat) (wb wp : Bool) (d : Array Int) (hn : b - a ≤ n) (hab : a ≤ b) (hb : b ≤ d.size) (hs : d.size ≤ 65535) (hl : limit ≤ 1000) => pdqL n a b limit wb wp d hn hab hb hs hl (fun _ => hl)
  -- behind the insertion's try
  have T5 : ∀ (limit : Nat) (wb wp : Bool) (d3 : Array Int) (pivot : Nat), limit ≤ 1000 → d3.size = d.size → a ≤ pivot → pivot < b →
    M.a1k ((a : Int), (b : Int), (limit : Int), wb, wp, ((b - a : Nat) : Int), (pivot : Int), d3.toList) = some (pdqT a b limit wb wp d3 pivot).toList ∧ (pdqT a b limit wb wp d3 pivot).size = d.size := by
   intro limit wb wp d3 pivot hl hz hp1 hp2
   have q5 : ∀ c : Bool, (decide (a > 0) && !ltInt d3[a - 1]! d3[pivot]!) = c → M.a1l ((a : Int), (b : Int), (limit : Int), wb, wp, ((b - a : Nat) : Int), (pivot : Int), c, d3.toList) = some (pdqT a b limit wb wp d3 pivot).toList ∧ (pdqT a b limit wb wp d3 pivot).size = d.size := by
    intro c hc
    rw [M.a1l, pdqT, hc]
    cases c
    ·rw [if_neg (by simp), if_neg (by simp), pTn d3 a b pivot (by omega) (by omega) (by omega) (by omega), bnd]
     obtain ⟨r1, r2, r3, -, -⟩ := Go.Sort.partition_holds (lt := ltInt) Go.Sort.swo_ltInt d3 a b pivot hp1 hp2 (by omega)
     have r4 := r3.1
     clear r3
     generalize Go.Sort.partition ltInt d3 a b pivot = P at *
     obtain ⟨mid, al, d4⟩ := P
     simp only [] at r1 r2 r4 ⊢
     have e1 : wr .i64 ((mid : Int) - (a : Int)) = ((mid - a : Nat) : Int) := by rw [wi (by omega) (by omega)]; omega
     have e2 : wr .i64 ((b : Int) - (mid : Int)) = ((b - mid : Nat) : Int) := by rw [wi (by omega) (by omega)]; omega
     have e3 : wr .i64 ((mid : Int) + 1) = ((mid + 1 : Nat) : Int) := by rw [wi (by omega) (by omega)]; omega
     have e4 : iquo .i64 ((b - a : Nat) : Int) 8 = (((b - a) / 8 : Nat) : Int) := by rw [show (8 : Int) = ((8 : Nat) : Int) from rfl]; exact iq (by omega)
     have e5 : ∀ x y : Nat, decide ((x : Int) ≥ (y : Int)) = decide (x ≥ y) := fun x y => by congr 1; simp
     rw [e1, e2, e3, e4, dif_pos ⟨r1, r2⟩, e5, e5]
     by_cases h : mid - a < b - mid
     ·rw [if_pos (by omega), if_pos h, M.ac]
      obtain ⟨i1, i2⟩ := ih a mid limit true true d4 (by omega) r1 (by omega) (by omega) hl
      rw [i1, bnd, M.a1m]
      obtain ⟨j1, j2⟩ := ih (mid + 1) b limit (decide (mid - a ≥ (b - a) / 8)) al (Go.Sort.pdq ltInt d4 a mid limit true true) (by omega) (by omega) (by omega) (by omega) hl
      exact ⟨j1, j2.trans (i2.trans (r4.trans hz))⟩
     ·rw [if_neg (by omega), if_neg h, M.ac]
      obtain ⟨i1, i2⟩ := ih (mid + 1) b limit true true d4 (by omega) (by omega) (by omega) (by omega) hl
      rw [i1, bnd, M.a1m]
      obtain ⟨j1, j2⟩ := ih a mid limit (decide (b - mid ≥ (b - a) / 8)) al (Go.Sort.pdq ltInt d4 (mid + 1) b limit true true) (by omega) r1 (by omega) (by omega) hl
      exact ⟨j1, j2.trans (i2.trans (r4.trans hz))⟩
    ·obtain ⟨r0, r1, r2, r3⟩ := pEq d3 a b pivot (by omega) (by omega) (by omega) (by omega)
     rw [if_pos rfl, if_pos rfl, r0, bnd]
     generalize Go.Sort.partitionEqual ltInt d3 a b pivot = P at *
     obtain ⟨mid, d4⟩ := P
     simp only [] at r1 r2 r3 ⊢
     rw [dif_pos ⟨r1, r2⟩]
     obtain ⟨i1, i2⟩ := ih mid b limit wb wp d4 (by omega) r2 (by omega) (by omega) hl
     exact ⟨i1, i2.trans (r3.trans hz)⟩
   rw [M.a1k]
   by_cases ha : a > 0
   ·have e1 : wr .i64 ((a : Int) - 1) = ((a - 1 : Nat) : Int) := by rw [wi (by omega) (by omega)]; omega
    rw [if_pos (by omega), e1]
    rw [g4 (by omega) (by rw [leA]; omega) (by omega) (by rw [leA]; omega), less, bnd, giA, giA]
    exact q5 _ (by simp [ha])
   ·rw [if_neg (by omega)]
    exact q5 _ (by simp [ha])
  have T3 : ∀ (limit : Nat) (wb wp c : Bool) (d2 : Array Int) (pivot : Nat), limit ≤ 1000 → d2.size = d.size → a ≤ pivot → pivot < b →
    M.an ((a : Int), (b : Int), (limit : Int), wb, wp, ((b - a : Nat) : Int), (pivot : Int), c, d2.toList) = some (if (if c then Go.Sort.partialInsertionSort ltInt d2 a b else (d2, false)).2 then (if c then Go.Sort.partialInsertionSort ltInt d2 a b else (d2, false)).1 else pdqT a b limit wb wp (if c then Go.Sort.partialInsertionSort ltInt d2 a b else (d2, false)).1 pivot).toList ∧
    (if (if c then Go.Sort.partialInsertionSort ltInt d2 a b else (d2, false)).2 then (if c then Go.Sort.partialInsertionSort ltInt d2 a b else (d2, false)).1 else pdqT a b limit wb wp (if c then Go.Sort.partialInsertionSort ltInt d2 a b else (d2, false)).1 pivot).size = d.size := by
   intro limit wb wp c d2 pivot hl hz hp1 hp2
   rw [M.an]
   cases c
   ·rw [if_neg (by simp)]
    exact T5 limit wb wp d2 pivot hl hz hp1 hp2
   ·have hz2 : (Go.Sort.partialInsertionSort ltInt d2 a b).1.size = d.size := (prt_size a b 5 (a + 1) d2).trans hz
    rw [if_pos rfl, partialS a b d2 (by omega) (by omega) (by omega), bnd]
    simp only [if_true]
    generalize Go.Sort.partialInsertionSort ltInt d2 a b = P at *
    obtain ⟨d3, f⟩ := P
    cases f
    ·exact T5 limit wb wp d3 pivot hl hz2 hp1 hp2
    ·exact ⟨rfl, hz2⟩
  have T1 : ∀ (limit : Nat) (wb wp : Bool) (d1 : Array Int), limit ≤ 1000 → d1.size = d.size →
    M.a1i ((a : Int), (b : Int), (limit : Int), wb, wp, ((b - a : Nat) : Int), d1.toList) = some (
     let c := Go.Sort.choosePivot ltInt d1 a b
     let d2 := if c.2 = .decreasing then Go.Sort.reverseRange d1 a b else d1
     let pivot := if c.2 = .decreasing then (b - 1) - (c.1 - a) else c.1
     let hint := if c.2 = .decreasing then Go.Sort.Hint.increasing else c.2
     let pi := if wb && wp && hint = .increasing then Go.Sort.partialInsertionSort ltInt d2 a b else (d2, false)
     if pi.2 then pi.1 else pdqT a b limit wb wp pi.1 pivot).toList ∧ (
     let c := Go.Sort.choosePivot ltInt d1 a b
     let d2 := if c.2 = .decreasing then Go.Sort.reverseRange d1 a b else d1
     let pivot := if c.2 = .decreasing then (b - 1) - (c.1 - a) else c.1
     let hint := if c.2 = .decreasing then Go.Sort.Hint.increasing else c.2
     let pi := if wb && wp && hint = .increasing then Go.Sort.partialInsertionSort ltInt d2 a b else (d2, false)
     if pi.2 then pi.1 else pdqT a b limit wb wp pi.1 pivot).size = d.size := by
   intro limit wb wp d1 hl hz
   obtain ⟨c1, c2⟩ := Go.Sort.choosePivot_holds ltInt d1 a b (by omega)
   rw [M.a1i, pivS d1 a b (by omega) (by omega) (by omega), bnd]
   simp only []
   generalize Go.Sort.choosePivot ltInt d1 a b = C at *
   obtain ⟨p, h⟩ := C
   simp only [] at c1 c2 ⊢
   have T2 : ∀ (d2 : Array Int) (pivot : Nat) (h : Go.Sort.Hint), d2.size = d.size → a ≤ pivot → pivot < b → M.a1j ((a : Int), (b : Int), (limit : Int), wb, wp, ((b - a : Nat) : Int), (pivot : Int), hintI h, d2.toList) = M.an ((a : Int), (b : Int), (limit : Int), wb, wp, ((b - a : Nat) : Int), (pivot : Int), wb && wp && decide (h = .increasing), d2.toList) := by
    intro d2 pivot h hz hp1 hp2
    have hh : decide (hintI h = 1) = decide (h = .increasing) := by cases h <;> decide
    rw [M.a1j, hh]
    cases wb <;> cases wp <;> simp
   by_cases hd : h = .decreasing
   ·subst hd
    have e1 : wr .i64 ((wr .i64 ((b : Int) - 1)) - (wr .i64 ((p : Int) - (a : Int)))) = ((b - 1 - (p - a) : Nat) : Int) := by rw [wi (x := (b : Int) - 1) (by omega) (by omega), wi (x := (p : Int) - (a : Int)) (by omega) (by omega), wi (by omega) (by omega)]; omega
    rw [if_pos (by decide), revS d1 a b (by omega) (by omega) (by omega) (by omega), bnd, e1]
    have := T2 (Go.Sort.reverseRange d1 a b) (b - 1 - (p - a)) .increasing ((Go.Sort.reverseRange_holds d1 a b (by omega) (by omega)).1.trans hz) (by omega) (by omega)
    rw [show hintI .increasing = 1 from rfl] at this
    rw [this]
    simp only [if_true]
    exact T3 limit wb wp _ _ _ hl ((Go.Sort.reverseRange_holds d1 a b (by omega) (by omega)).1.trans hz) (by omega) (by omega)
   ·rw [if_neg (by cases h <;> first | exact absurd rfl hd | decide), T2 d1 p h hz c1 c2]
    simp only [if_neg hd]
    exact T3 limit wb wp _ _ _ hl hz c1 c2
  cases wb
  ·rw [if_neg (by simp), brkS d a b hab hb hs, bnd, wi (by omega) (by omega), show (limit : Int) - 1 = ((limit - 1 : Nat) : Int) by omega]
   exact T1 (limit - 1) false wp _ (by omega) (Go.Sort.breakPatterns_holds d a b hab hb).1
  ·rw [if_pos rfl]
   exact T1 limit true wp d hl rfl
theorem sortU (l : List Int) (h : l.length ≤ 65535) : M.a6 l = some (srtI l) := by
 have hz : l.toArray.size ≤ 65535 := by simpa using h
 have := (pdqL _ 0 l.toArray.size (Go.Sort.bitsLen l.length) true true l.toArray (Nat.le_refl _) (Nat.zero_le _) (Nat.le_refl _) hz (by have := bl_le l.length (by omega); omega) (fun h => by cases h)).1
 rw [M.a6, wru (by omega), lenS l.length (by omega), bnd, if_pos (by omega), M.ac]
 have e : (Go.Sort.pdq ltInt l.toArray 0 l.toArray.size (Go.Sort.bitsLen l.length) true true).toList = srtI l := by
  have := Go.Sort.sortInt l
  rw [Go.Sort.sort] at this
  simpa [srtI] using this
 rw [e] at this
 have e2 : l.toArray.size = l.length := by simp
 rw [e2] at this
 have e3 : M.am (0, (l.length : Int), ((Go.Sort.bitsLen l.length : Nat) : Int), true, true, l) = some (srtI l) := this
 rw [e3]
 rfl
end Go.Proofs.YtbclkjbkebebeaaGreat
