/-
  The checksum's functions, in words of 32 bits: what they compute, that the program's and the reference's compute the same, and that a burst of errors is found.
-/
import Derived.Test.YtbmbligkbbfpbaaMCrc
import Derived.Test.YtbmbligkbbfpbaaGR
set_option linter.unusedVariables false
namespace Go.Proofs.Ytbmbligkbbfpbaa
open Go.Gx

/-! ### Words -/
abbrev W32 := BitVec 32
def u (a : W32) : Int := (a.toNat : Int)
theorem u_lt (a : W32) : 0 ≤ u a ∧ u a < 4294967296 := ⟨Int.natCast_nonneg _, by have := a.isLt; unfold u; omega⟩
theorem ofInt_u (a : W32) : BitVec.ofInt 32 (u a) = a := by simp [u]
theorem wrap_u (a : W32) : IntKind.u32.wrap (u a) = u a := by
  have := u_lt a
  simp only [IntKind.wrap, IntKind.signed, IntKind.bits]
  simp
  omega
theorem wr_u (x : Int) : wr .u32 x = u (BitVec.ofInt 32 x) := by
  simp only [wr, IntKind.wrap, IntKind.signed, IntKind.bits, u, BitVec.toNat_ofInt]
  simp
  omega
theorem wrap_nat (n : Nat) (h : n < 4294967296) : IntKind.u32.wrap ((n : Nat) : Int) = ((n : Nat) : Int) := by
  simp only [IntKind.wrap, IntKind.signed, IntKind.bits]
  simp
  omega
theorem u_of {x : Int} (h : okInt .u32 x) : u (BitVec.ofInt 32 x) = x := by
  simp only [okInt, Lit.wf, IntKind.min, IntKind.max, IntKind.signed, IntKind.bits] at h
  simp at h
  simp only [u, BitVec.toNat_ofInt]
  omega
theorem u_inj {a b : W32} : u a = u b ↔ a = b := by
  constructor
  · intro h; apply BitVec.eq_of_toNat_eq; unfold u at h; omega
  · rintro rfl; rfl
theorem ixor_u (a b : W32) : ixor .u32 (u a) (u b) = u (a ^^^ b) := by
  simp only [ixor]
  rw [show BitVec.ofInt IntKind.u32.bits (u a) = a from ofInt_u a, show BitVec.ofInt IntKind.u32.bits (u b) = b from ofInt_u b]
  exact wrap_u (a ^^^ b)
theorem iand_u (a b : W32) : iand .u32 (u a) (u b) = u (a &&& b) := by
  simp only [iand]
  rw [show BitVec.ofInt IntKind.u32.bits (u a) = a from ofInt_u a, show BitVec.ofInt IntKind.u32.bits (u b) = b from ofInt_u b]
  exact wrap_u (a &&& b)
theorem ishr_u (a : W32) (n : Nat) (hn : n ≤ 32) : ishr .u32 (u a) (n : Int) = u (a >>> n) := by
  simp only [ishr, IntKind.bits, u, BitVec.toNat_ushiftRight, Nat.shiftRight_eq_div_pow]
  rw [Int.toNat_natCast, Nat.min_eq_left hn, Int.fdiv_eq_ediv_of_nonneg _ (Int.le_of_lt (Int.pow_pos (by decide)))]
  rw [Int.natCast_ediv, Int.natCast_pow]
  rfl
theorem irem_u (a : W32) (n : Nat) : irem .u32 (u a) (n : Int) = ((a.toNat % n : Nat) : Int) := by
  simp only [irem, u]
  rw [Int.tmod_eq_emod_of_nonneg (Int.natCast_nonneg _), Int.natCast_emod]
theorem iquo_u (a : W32) (n : Nat) (hn : n ≤ 32) : iquo .u32 (u a) ((2 ^ n : Nat) : Int) = u (a >>> n) := by
  simp only [iquo]
  have e : (u a).tdiv ((2 ^ n : Nat) : Int) = u (a >>> n) := by
    simp only [u, BitVec.toNat_ushiftRight, Nat.shiftRight_eq_div_pow]
    rw [Int.tdiv_eq_ediv_of_nonneg (Int.natCast_nonneg _), Int.natCast_ediv]
  rw [e]
  exact wrap_u _
theorem wr_i64 {x : Int} (h0 : -9223372036854775808 ≤ x) (h1 : x ≤ 9223372036854775807) : wr .i64 x = x := by
  simp only [wr, IntKind.wrap, IntKind.signed, IntKind.bits]
  simp
  split <;> omega
theorem byte_ok {x : Int} (h : okInt .u8 x) : 0 ≤ x ∧ x ≤ 255 := by
  simp only [okInt, Lit.wf, IntKind.min, IntKind.max, IntKind.signed, IntKind.bits] at h
  simp at h
  omega
theorem bk_len (xs : List Int) : bkSl (fun _ => 1) xs = xs.length + 1 := by
  unfold bkSl
  congr 1
  induction xs with
  | nil => rfl
  | cons x xs ih => simp only [List.map_cons, List.sum_cons, ih, List.length_cons]; omega
theorem gi_ok {xs : List Int} (h : okSl (okInt .u8) xs) (i : Int) : 0 ≤ gi xs i ∧ gi xs i ≤ 255 := by
  unfold gi
  rw [List.getD_eq_getElem?_getD]
  cases e : xs[i.toNat]? with
  | none => simp
  | some b => exact byte_ok (h b (List.mem_of_getElem? e))

/-! ### The register -/
def PP : W32 := 2197175160#32
def S (a : W32) : W32 := if a.toNat % 2 = 1 then (a >>> 1) ^^^ PP else a >>> 1
def it : Nat → W32 → W32
  | 0, a => a
  | n + 1, a => it n (S a)
def byt (s : W32) (b : Int) : W32 := it 8 (s ^^^ BitVec.ofInt 32 b)
def crcF (s : W32) (xs : List Int) : W32 := xs.foldl byt s
def ones : W32 := 4294967295#32
def crcS (xs : List Int) : W32 := crcF ones xs ^^^ ones

theorem stepInt (a : W32) : ixor .u32 (ishr .u32 (u a) 1) (iand .u32 (wr .u32 (0 - (iand .u32 (u a) 1))) 2197175160) = u (S a) := by
  have e1 : iand .u32 (u a) 1 = u (a &&& 1#32) := iand_u a 1#32
  have e2 : ishr .u32 (u a) 1 = u (a >>> 1) := ishr_u a 1 (by omega)
  rw [e1, e2, wr_u]
  have e3 : iand .u32 (u (BitVec.ofInt 32 (0 - u (a &&& 1#32)))) 2197175160 = u (BitVec.ofInt 32 (0 - u (a &&& 1#32)) &&& PP) := iand_u _ PP
  rw [e3, ixor_u]
  congr 1
  unfold S
  have hm : (a &&& 1#32).toNat = a.toNat % 2 := by rw [BitVec.toNat_and]; exact Nat.and_one_is_mod _
  split
  · rename_i h
    rw [show a &&& 1#32 = 1#32 from BitVec.eq_of_toNat_eq (by rw [hm, h]; rfl)]
    congr 1
  · rename_i h
    rw [show a &&& 1#32 = 0#32 from BitVec.eq_of_toNat_eq (by rw [hm, show a.toNat % 2 = 0 by omega]; rfl)]
    have : BitVec.ofInt 32 (0 - u 0#32) &&& PP = 0#32 := by decide
    rw [this]; simp
theorem ref_step (k : Nat) : ∀ (i : Int) (a : W32), i = 8 - (k : Int) → 0 ≤ i → M.tidepoleref02_step_l0 (u a, i) = some (u (it k a)) := by
  induction k with
  | zero =>
    intro i a hi h0
    rw [M.tidepoleref02_step_l0]
    try dsimp only
    rw [if_neg (by omega)]
    rfl
  | succ k ih =>
    intro i a hi h0
    have e1 : irem .u32 (u a) 2 = ((a.toNat % 2 : Nat) : Int) := irem_u a 2
    have e2 : iquo .u32 (u a) 2 = u (a >>> 1) := iquo_u a 1 (by omega)
    have e3 : ixor .u32 (u (a >>> 1)) 2197175160 = u ((a >>> 1) ^^^ PP) := ixor_u _ PP
    rw [M.tidepoleref02_step_l0]
    try dsimp only
    rw [if_pos (by omega), e1, e2, e3]
    have go : ∀ b : W32, M.tidepoleref02_step_l1 (u b, i) = some (u (it k b)) := by
      intro b
      rw [M.tidepoleref02_step_l1]
      try dsimp only
      rw [wr_i64 (by omega) (by omega)]
      exact ih (i + 1) b (by omega) (by omega)
    rw [go, go]
    simp only [it, S]
    split
    · rw [if_pos (by omega)]
    · rw [if_neg (by omega)]
theorem crc_bits (k : Nat) : ∀ (i : Int) (a : W32), i = 8 - (k : Int) → 0 ≤ i → M.crc_bits_1_l0 (u a, i, u a) = some (u (it k a), u (it k a)) := by
  induction k with
  | zero =>
    intro i a hi h0
    rw [M.crc_bits_1_l0]
    try dsimp only
    rw [if_neg (by omega)]
    rfl
  | succ k ih =>
    intro i a hi h0
    rw [M.crc_bits_1_l0]
    try dsimp only
    rw [if_pos (by omega), stepInt, wr_i64 (by omega) (by omega)]
    simp only [M.crc_step_r, Option.bind_eq_bind, Option.bind_some]
    exact ih (i + 1) (S a) (by omega) (by omega)
theorem crc_step (a : W32) : M.crc_step (u a) = some (u (it 8 a)) := by
  simp only [M.crc_step, M.crc_bits, M.crc_bits_1, Option.bind_eq_bind, Option.bind_some]
  rw [crc_bits 8 0 a (by omega) (by omega)]
  rfl
theorem ref_step8 (a : W32) : M.tidepoleref02_step (u a) = some (u (it 8 a)) := ref_step 8 0 a (by omega) (by omega)
theorem getD_drop (xs : List Int) (i : Nat) (h : i < xs.length) : xs.drop i = gi xs (i : Int) :: xs.drop (i + 1) := by
  rw [List.drop_eq_getElem_cons h]
  simp [gi, h]
theorem crc_More_l0 (xs : List Int) (hl : xs.length ≤ 1048576) (k : Nat) : ∀ (i : Nat) (s : W32), i + k = xs.length → M.crc_More_l0 (u s, xs, (xs.length : Int), (i : Int)) = some (u (crcF s (xs.drop i) ^^^ ones)) := by
  induction k with
  | zero =>
    intro i s hi
    rw [M.crc_More_l0]
    try dsimp only
    rw [if_neg (by omega)]
    have : ixor .u32 4294967295 (u s) = u (ones ^^^ s) := ixor_u ones s
    rw [this, List.drop_eq_nil_of_le (by omega), BitVec.xor_comm]
    rfl
  | succ k ih =>
    intro i s hi
    rw [M.crc_More_l0]
    try dsimp only
    rw [if_pos (by omega), if_pos (by omega), if_pos (by omega), wr_u, ixor_u, crc_step]
    simp only [Option.bind_eq_bind, Option.bind_some]
    rw [wr_i64 (by omega) (by omega), show (i : Int) + 1 = ((i + 1 : Nat) : Int) by omega, ih (i + 1) _ (by omega), getD_drop xs i (by omega)]
    rfl
theorem ref_More_l0 (xs : List Int) (hl : xs.length ≤ 1048576) (k : Nat) : ∀ (i : Nat) (s : W32), i + k = xs.length → M.tidepoleref02_More_l0 (xs, u s, (i : Int)) = some (u (crcF s (xs.drop i) ^^^ ones)) := by
  induction k with
  | zero =>
    intro i s hi
    rw [M.tidepoleref02_More_l0]
    try dsimp only
    rw [if_neg (by omega)]
    have : ixor .u32 (u s) 4294967295 = u (s ^^^ ones) := ixor_u s ones
    rw [this, List.drop_eq_nil_of_le (by omega)]
    rfl
  | succ k ih =>
    intro i s hi
    rw [M.tidepoleref02_More_l0]
    try dsimp only
    rw [if_pos (by omega), if_pos (by omega), wr_u, ixor_u, ref_step8]
    simp only [Option.bind_eq_bind, Option.bind_some]
    rw [wr_i64 (by omega) (by omega), show (i : Int) + 1 = ((i + 1 : Nat) : Int) by omega, ih (i + 1) _ (by omega), getD_drop xs i (by omega)]
    rfl
theorem crc_More (c : W32) (xs : List Int) (hl : xs.length ≤ 1048576) : M.crc_More (u c) xs = some (u (crcF (ones ^^^ c) xs ^^^ ones)) := by
  have e : ixor .u32 4294967295 (u c) = u (ones ^^^ c) := ixor_u ones c
  rw [M.crc_More, e]
  exact crc_More_l0 xs hl xs.length 0 _ (by omega)
theorem ref_More (c : W32) (xs : List Int) (hl : xs.length ≤ 1048576) : M.tidepoleref02_More (u c) xs = some (u (crcF (ones ^^^ c) xs ^^^ ones)) := by
  have e : ixor .u32 (u c) 4294967295 = u (c ^^^ ones) := ixor_u c ones
  rw [M.tidepoleref02_More, e, BitVec.xor_comm]
  exact ref_More_l0 xs hl xs.length 0 _ (by omega)
theorem crc_Sum (xs : List Int) (hl : xs.length ≤ 1048576) : M.crc_Sum xs = some (u (crcS xs)) := by
  have := crc_More 0#32 xs hl
  rw [M.crc_Sum, show (0 : Int) = u 0#32 from rfl, this]
  rfl
theorem ref_Sum (xs : List Int) (hl : xs.length ≤ 1048576) : M.tidepoleref02_Sum xs = some (u (crcS xs)) := by
  have := ref_More 0#32 xs hl
  rw [M.tidepoleref02_Sum, show (0 : Int) = u 0#32 from rfl, this]
  rfl

/-! ### Four bytes -/
def le4 (c : W32) : List Int := [((c.toNat % 256 : Nat) : Int), ((c.toNat / 256 % 256 : Nat) : Int), ((c.toNat / 65536 % 256 : Nat) : Int), ((c.toNat / 16777216 : Nat) : Int)]
theorem wr_u8 {x : Int} (h0 : 0 ≤ x) (h1 : x ≤ 255) : wr .u8 x = x := by
  simp only [wr, IntKind.wrap, IntKind.signed, IntKind.bits]
  simp
  omega
theorem wr_u8_mod (n : Nat) : wr .u8 ((n : Nat) : Int) = ((n % 256 : Nat) : Int) := by
  simp only [wr, IntKind.wrap, IntKind.signed, IntKind.bits]
  simp
theorem le4_ref (c : W32) : [wr .u8 (irem .u32 (u c) 256), wr .u8 (irem .u32 (iquo .u32 (u c) 256) 256), wr .u8 (irem .u32 (iquo .u32 (u c) 65536) 256), wr .u8 (iquo .u32 (u c) 16777216)] = le4 c := by
  have e1 : irem .u32 (u c) 256 = _ := irem_u c 256
  have e2 : iquo .u32 (u c) 256 = u (c >>> 8) := iquo_u c 8 (by omega)
  have e3 : iquo .u32 (u c) 65536 = u (c >>> 16) := iquo_u c 16 (by omega)
  have e4 : iquo .u32 (u c) 16777216 = u (c >>> 24) := iquo_u c 24 (by omega)
  have e5 : irem .u32 (u (c >>> 8)) 256 = _ := irem_u _ 256
  have e6 : irem .u32 (u (c >>> 16)) 256 = _ := irem_u _ 256
  rw [e1, e2, e3, e4, e5, e6]
  have := c.isLt
  simp only [wr_u8_mod, u, BitVec.toNat_ushiftRight, Nat.shiftRight_eq_div_pow, le4]
  congr 1
  · omega
  congr 1
  · omega
  congr 1
  · omega
  congr 1
  omega
theorem put_byte (c : W32) (n : Nat) (hn : n ≤ 32) : wr .u8 (ishr .u32 (u c) (n : Int)) = ((c.toNat / 2 ^ n % 256 : Nat) : Int) := by
  rw [ishr_u c n hn]
  simp only [u, wr_u8_mod, BitVec.toNat_ushiftRight, Nat.shiftRight_eq_div_pow]
theorem crc_Put (xs : List Int) (c : W32) (hl : xs.length ≤ 1048570) : M.crc_Put xs (u c) = some (xs ++ le4 c) := by
  have hlt := c.isLt
  rw [M.crc_Put, wr_i64 (by omega) (by omega), if_pos (by omega), if_pos (by omega), if_pos (by simp; omega)]
  have e0 : (List.replicate (0 : Int).toNat 0 : List Int) ++ xs = xs := rfl
  rw [e0]
  have p0 : wr .u8 (ishr .u32 (u c) 0) = _ := put_byte c 0 (by omega)
  have p1 : wr .u8 (ishr .u32 (u c) 8) = _ := put_byte c 8 (by omega)
  have p2 : wr .u8 (ishr .u32 (u c) 16) = _ := put_byte c 16 (by omega)
  have p3 : wr .u8 (ishr .u32 (u c) 24) = _ := put_byte c 24 (by omega)
  rw [M.crc_Put_l0]; try dsimp only
  rw [if_pos (by omega), show wr .i64 (8 * 0) = 0 from rfl, show wr .i64 (0 + 1) = 1 from rfl, p0, if_pos (by omega), if_pos (by simp; omega)]
  rw [M.crc_Put_l0]; try dsimp only
  rw [if_pos (by omega), show wr .i64 (8 * 1) = 8 from rfl, show wr .i64 (1 + 1) = 2 from rfl, p1, if_pos (by omega), if_pos (by simp; omega)]
  rw [M.crc_Put_l0]; try dsimp only
  rw [if_pos (by omega), show wr .i64 (8 * 2) = 16 from rfl, show wr .i64 (2 + 1) = 3 from rfl, p2, if_pos (by omega), if_pos (by simp; omega)]
  rw [M.crc_Put_l0]; try dsimp only
  rw [if_pos (by omega), show wr .i64 (8 * 3) = 24 from rfl, show wr .i64 (3 + 1) = 4 from rfl, p3, if_pos (by omega), if_pos (by simp; omega)]
  rw [M.crc_Put_l0]; try dsimp only
  rw [if_neg (by omega)]
  simp only [List.append_assoc, List.cons_append, List.nil_append, le4]
  congr 2
  congr 1
  · omega
  congr 1
  congr 1
  congr 1
  omega
theorem ref_Put (xs : List Int) (c : W32) (hl : xs.length ≤ 1048570) : M.tidepoleref02_Put xs (u c) = some (xs ++ le4 c) := by
  rw [M.tidepoleref02_Put, le4_ref, if_pos (by omega), if_pos (by simp [le4]; omega)]
theorem crc_Sealed (xs : List Int) (hl : xs.length ≤ 1048570) : M.crc_Sealed xs = some (xs ++ le4 (crcS xs)) := by
  simp only [M.crc_Sealed, crc_Sum xs (by omega), Option.bind_eq_bind, Option.bind_some, crc_Put xs _ hl]
theorem ref_Sealed (xs : List Int) (hl : xs.length ≤ 1048570) : M.tidepoleref02_Sealed xs = some (xs ++ le4 (crcS xs)) := by
  simp only [M.tidepoleref02_Sealed, ref_Sum xs (by omega), Option.bind_eq_bind, Option.bind_some, ref_Put xs _ hl]
def rd4 (xs : List Int) : Int := gi xs 0 + 256 * gi xs 1 + 65536 * gi xs 2 + 16777216 * gi xs 3
theorem ior_add (x b : Int) (k : Nat) (hk : k ≤ 24) (h0 : 0 ≤ x) (h1 : x < 2 ^ k) (h2 : 0 ≤ b) (h3 : b ≤ 255) : ior .u32 x (ishl .u32 (wr .u32 b) (k : Int)) = x + 2 ^ k * b := by
  obtain ⟨y, rfl⟩ := Int.eq_ofNat_of_zero_le h0
  obtain ⟨c, rfl⟩ := Int.eq_ofNat_of_zero_le h2
  have hy : y < 2 ^ k := by
    have : ((2 ^ k : Nat) : Int) = 2 ^ k := by simp
    omega
  have hp : 2 ^ k ≤ 2 ^ 24 := Nat.pow_le_pow_right (by omega) hk
  have hc : 2 ^ k * c ≤ 2 ^ 24 * 255 := Nat.mul_le_mul hp (by omega)
  have e1 : wr .u32 ((c : Nat) : Int) = ((c : Nat) : Int) := by
    simp only [wr, IntKind.wrap, IntKind.signed, IntKind.bits]; simp; omega
  have e2 : ishl .u32 ((c : Nat) : Int) (k : Int) = ((2 ^ k * c : Nat) : Int) := by
    simp only [ishl, IntKind.bits, Int.toNat_natCast, Nat.min_eq_left (show k ≤ 32 by omega)]
    rw [show ((c : Nat) : Int) * 2 ^ k = ((2 ^ k * c : Nat) : Int) by push_cast; rw [Int.mul_comm]]
    exact wrap_nat _ (by omega)
  rw [e1, e2]
  simp only [ior, IntKind.bits]
  have e3 : (BitVec.ofInt 32 ((y : Nat) : Int) ||| BitVec.ofInt 32 ((2 ^ k * c : Nat) : Int)).toNat = 2 ^ k * c + y := by
    rw [BitVec.toNat_or, BitVec.toNat_ofInt, BitVec.toNat_ofInt]
    have a1 : (((y : Nat) : Int) % ((2 ^ 32 : Nat) : Int)).toNat = y := by omega
    have a2 : (((2 ^ k * c : Nat) : Int) % ((2 ^ 32 : Nat) : Int)).toNat = 2 ^ k * c := by omega
    rw [a1, a2, Nat.or_comm, Nat.two_pow_add_eq_or_of_lt hy]
  have e4 := wrap_nat (2 ^ k * c + y) (by omega)
  rw [← e3] at e4
  refine e4.trans ?_
  rw [e3]
  push_cast
  omega
theorem crc_Read (xs : List Int) (hl : 4 ≤ xs.length) (hok : okSl (okInt .u8) xs) : M.crc_Read xs = some (rd4 xs, 0) := by
  obtain ⟨a0, a1⟩ := gi_ok hok 0
  obtain ⟨b0, b1⟩ := gi_ok hok 1
  obtain ⟨c0, c1⟩ := gi_ok hok 2
  obtain ⟨d0, d1⟩ := gi_ok hok 3
  have p0 : ior .u32 0 (ishl .u32 (wr .u32 (gi xs 0)) 0) = gi xs 0 := by
    have := ior_add 0 (gi xs 0) 0 (by omega) (by omega) (by omega) a0 a1
    simpa using this
  have p1 := ior_add (gi xs 0) (gi xs 1) 8 (by omega) (by omega) (by omega) b0 b1
  have p2 := ior_add (gi xs 0 + 2 ^ 8 * gi xs 1) (gi xs 2) 16 (by omega) (by omega) (by omega) c0 c1
  have p3 := ior_add (gi xs 0 + 2 ^ 8 * gi xs 1 + 2 ^ 16 * gi xs 2) (gi xs 3) 24 (by omega) (by omega) (by omega) d0 d1
  rw [M.crc_Read, if_neg (by omega)]
  rw [M.crc_Read_l0]; try dsimp only
  rw [if_pos (by omega), if_pos (by omega), if_pos (by omega), show wr .i64 (8 * 0) = 0 from rfl, show wr .i64 (0 + 1) = 1 from rfl, if_pos (by omega), p0]
  rw [M.crc_Read_l0]; try dsimp only
  rw [if_pos (by omega), if_pos (by omega), if_pos (by omega), show wr .i64 (8 * 1) = ((8 : Nat) : Int) from rfl, show wr .i64 (1 + 1) = 2 from rfl, if_pos (by omega), p1]
  rw [M.crc_Read_l0]; try dsimp only
  rw [if_pos (by omega), if_pos (by omega), if_pos (by omega), show wr .i64 (8 * 2) = ((16 : Nat) : Int) from rfl, show wr .i64 (2 + 1) = 3 from rfl, if_pos (by omega), p2]
  rw [M.crc_Read_l0]; try dsimp only
  rw [if_pos (by omega), if_pos (by omega), if_pos (by omega), show wr .i64 (8 * 3) = ((24 : Nat) : Int) from rfl, show wr .i64 (3 + 1) = 4 from rfl, if_pos (by omega), p3]
  rw [M.crc_Read_l0]; try dsimp only
  rw [if_neg (by omega)]
  simp only [rd4]
  congr 2
theorem ref_Read (xs : List Int) (hl : 4 ≤ xs.length) (hok : okSl (okInt .u8) xs) : M.tidepoleref02_Read xs = some (rd4 xs, 0) := by
  obtain ⟨a0, a1⟩ := gi_ok hok 0
  obtain ⟨b0, b1⟩ := gi_ok hok 1
  obtain ⟨c0, c1⟩ := gi_ok hok 2
  obtain ⟨d0, d1⟩ := gi_ok hok 3
  have w : ∀ x : Int, 0 ≤ x → x ≤ 4294967295 → wr .u32 x = x := by
    intro x h0 h1
    simp only [wr, IntKind.wrap, IntKind.signed, IntKind.bits]; simp; omega
  rw [M.tidepoleref02_Read, if_neg (by omega), if_pos (by omega), if_pos (by omega), if_pos (by omega), if_pos (by omega)]
  rw [w (gi xs 0) (by omega) (by omega), w (gi xs 1) (by omega) (by omega), w (gi xs 2) (by omega) (by omega), w (gi xs 3) (by omega) (by omega),
    w (256 * gi xs 1) (by omega) (by omega), w (65536 * gi xs 2) (by omega) (by omega), w (16777216 * gi xs 3) (by omega) (by omega)]
  rw [w (gi xs 0 + 256 * gi xs 1) (by omega) (by omega), w (gi xs 0 + 256 * gi xs 1 + 65536 * gi xs 2) (by omega) (by omega), w (gi xs 0 + 256 * gi xs 1 + 65536 * gi xs 2 + 16777216 * gi xs 3) (by omega) (by omega)]
  rfl
theorem crc_ReadShort (xs : List Int) (hl : xs.length < 4) : M.crc_Read xs = some (0, 7) := by rw [M.crc_Read, if_pos (by omega)]
theorem ref_ReadShort (xs : List Int) (hl : xs.length < 4) : M.tidepoleref02_Read xs = some (0, 7) := by rw [M.tidepoleref02_Read, if_pos (by omega)]
def openF (xs : List Int) : List Int × Bool :=
  if xs.length < 4 then ([], false) else if rd4 (xs.drop (xs.length - 4)) = u (crcS (xs.take (xs.length - 4))) then (xs.take (xs.length - 4), true) else ([], false)
theorem ok_drop {xs : List Int} (h : okSl (okInt .u8) xs) (n : Nat) : okSl (okInt .u8) (xs.drop n) := fun x hx => h x (List.mem_of_mem_drop hx)
theorem ok_take {xs : List Int} (h : okSl (okInt .u8) xs) (n : Nat) : okSl (okInt .u8) (xs.take n) := fun x hx => h x (List.mem_of_mem_take hx)
theorem crc_Open (xs : List Int) (hl : xs.length ≤ 1048570) (hok : okSl (okInt .u8) xs) : M.crc_Open xs = some (openF xs) := by
  rw [M.crc_Open, wr_i64 (by omega) (by omega), openF]
  by_cases h : xs.length < 4
  · rw [if_pos (by omega), if_pos h]
  · rw [if_neg (by omega), if_neg h, if_pos (by omega), if_pos (by omega)]
    have e1 : sl xs ((xs.length : Int) - 4) (xs.length : Int) = xs.drop (xs.length - 4) := by
      simp only [sl]
      rw [Int.toNat_natCast, List.take_length, show ((xs.length : Int) - 4).toNat = xs.length - 4 by omega]
    have e2 : sl xs 0 ((xs.length : Int) - 4) = xs.take (xs.length - 4) := by
      simp only [sl]
      rw [show ((xs.length : Int) - 4).toNat = xs.length - 4 by omega]
      rfl
    rw [e1, e2, crc_Read _ (by simp; omega) (ok_drop hok _), crc_Sum _ (by simp; omega)]
    simp only [Option.bind_eq_bind, Option.bind_some]
    split
    · rw [if_pos (by simp; omega)]
    · rfl
theorem ref_Open (xs : List Int) (hl : xs.length ≤ 1048570) (hok : okSl (okInt .u8) xs) : M.tidepoleref02_Open xs = some (openF xs) := by
  rw [M.tidepoleref02_Open, wr_i64 (by omega) (by omega), openF]
  by_cases h : xs.length < 4
  · rw [if_pos (by omega), if_pos h]
  · rw [if_neg (by omega), if_neg h, if_pos (by omega), if_pos (by omega)]
    have e1 : sl xs ((xs.length : Int) - 4) (xs.length : Int) = xs.drop (xs.length - 4) := by
      simp only [sl]
      rw [Int.toNat_natCast, List.take_length, show ((xs.length : Int) - 4).toNat = xs.length - 4 by omega]
    have e2 : sl xs 0 ((xs.length : Int) - 4) = xs.take (xs.length - 4) := by
      simp only [sl]
      rw [show ((xs.length : Int) - 4).toNat = xs.length - 4 by omega]
      rfl
    rw [e1, e2, ref_Read _ (by simp; omega) (ok_drop hok _), ref_Sum _ (by simp; omega)]
    simp only [Option.bind_eq_bind, Option.bind_some]
    split
    · rw [if_pos (by simp; omega)]
    · rfl
theorem same_self (xs : List Int) : M.tidepolebase_SameBytes xs xs = some true := by simp [M.tidepolebase_SameBytes]
theorem short_eq (xs : List Int) (h : xs.length ≤ 1048576) : ∃ ys, M.tidepolelaw02_short xs = some ys ∧ ys.length ≤ 300 ∧ (okSl (okInt .u8) xs → okSl (okInt .u8) ys) := by
  refine ⟨xs.take 300, ?_, by simp; omega, fun hk => ok_take hk _⟩
  simp only [M.tidepolelaw02_short]
  have hm : imn (xs.length : Int) 300 = ((min 300 xs.length : Nat) : Int) := by unfold imn; split <;> omega
  rw [hm, if_pos (by omega), if_pos (by omega)]
  simp only [sl, Int.toNat_natCast]
  congr 1
  simp
theorem bytes_eq (xs : List Int) (h : xs.length ≤ 1048576) : M.tidepolebase_Bytes xs = some xs := by rw [M.tidepolebase_Bytes, if_pos (by omega)]
theorem rd4_le4 (c : W32) : rd4 (le4 c) = u c := by
  have := c.isLt
  simp only [rd4, le4, gi, u]
  simp
  omega
theorem le4_rd4 {a b c d : Int} {w : W32} (ha : 0 ≤ a ∧ a ≤ 255) (hb : 0 ≤ b ∧ b ≤ 255) (hc : 0 ≤ c ∧ c ≤ 255) (hd : 0 ≤ d ∧ d ≤ 255) (h : rd4 [a, b, c, d] = u w) : le4 w = [a, b, c, d] := by
  simp only [rd4, gi, u] at h
  simp at h
  simp only [le4]
  congr 1
  · omega
  congr 1
  · omega
  congr 1
  · omega
  congr 1
  omega
theorem le4_ok (c : W32) : okSl (okInt .u8) (le4 c) := by
  have := c.isLt
  intro x hx
  simp only [le4, List.mem_cons, List.not_mem_nil, or_false] at hx
  simp only [okInt, Lit.wf, IntKind.min, IntKind.max, IntKind.signed, IntKind.bits]
  simp
  omega
theorem openF_sealed (xs : List Int) : openF (xs ++ le4 (crcS xs)) = (xs, true) := by
  have hl : (xs ++ le4 (crcS xs)).length = xs.length + 4 := by simp [le4]
  rw [openF, if_neg (by omega), hl, Nat.add_sub_cancel, List.drop_left, List.take_left, rd4_le4, if_pos rfl]
theorem sealed_openF (xs : List Int) (hok : okSl (okInt .u8) xs) (h : (openF xs).2 = true) : (openF xs).1 ++ le4 (crcS (openF xs).1) = xs ∧ (openF xs).1.length ≤ xs.length := by
  rw [openF] at h ⊢
  split at h
  · cases h
  · rename_i h4
    rw [if_neg h4]
    split at h
    · rename_i hr
      rw [if_pos hr]
      refine ⟨?_, by simp⟩
      have hd : (xs.drop (xs.length - 4)).length = 4 := by simp; omega
      have hokd := ok_drop hok (xs.length - 4)
      generalize hdd : xs.drop (xs.length - 4) = ds at hr hd hokd
      match ds, hd with
      | [a, b, c, d], _ =>
        have := le4_rd4 (byte_ok (hokd a (by simp))) (byte_ok (hokd b (by simp))) (byte_ok (hokd c (by simp))) (byte_ok (hokd d (by simp))) hr
        simp only
        rw [this, ← hdd, List.take_append_drop]
    · cases h
theorem works_eq : M.tidepolelaw02_works = some true := by
  have hs := crc_Sealed [97, 98] (by simp)
  have ho := crc_Open ([97, 98] ++ le4 (crcS [97, 98])) (by simp [le4]) (by
    intro x hx
    rcases List.mem_append.1 hx with h | h
    · simp at h; rcases h with rfl | rfl <;> rfl
    · exact le4_ok _ x h)
  rw [openF_sealed] at ho
  have hsum := crc_Sum [49, 50, 51, 52, 53, 54, 55, 56, 57] (by simp)
  have hv : u (crcS [49, 50, 51, 52, 53, 54, 55, 56, 57]) = 3808858755 := by decide +kernel
  rw [hv] at hsum
  simp only [M.tidepolelaw02_works, hs, ho, hsum, Option.bind_eq_bind, Option.bind_some, if_true]
  rw [show b2s [97, 98] = (⟨#[97, 98]⟩ : ByteArray) from rfl, if_pos (beq_self_eq_true _)]

theorem pureCrcSums (x0 : Int) (x1 : List Int) (o0 : (okInt .u32) x0) (o1 : (okSl (okInt .u8)) x1) (hb : 1 + (bkSl (fun _ => 1)) x1 ≤ 1048576) : M.tidepolelaw02_CrcSums x0 x1 = some true := by
  rw [bk_len] at hb
  obtain ⟨ys, hs, hl, hok⟩ := short_eq x1 (by omega)
  have e0 := u_of o0
  generalize BitVec.ofInt 32 x0 = c at e0
  subst e0
  simp only [M.tidepolelaw02_CrcSums, hs, bytes_eq ys (by omega), crc_Sum ys (by omega), ref_Sum ys (by omega), crc_More c ys (by omega), ref_More c ys (by omega), same_self, works_eq, Option.bind_eq_bind, Option.bind_some, if_true]
theorem pureCrcSeals (x0 : List Int) (x1 : Int) (o0 : (okSl (okInt .u8)) x0) (o1 : (okInt .u32) x1) (hb : (bkSl (fun _ => 1)) x0 + 1 ≤ 1048576) : M.tidepolelaw02_CrcSeals x0 x1 = some true := by
  rw [bk_len] at hb
  obtain ⟨ys, hs, hl, hok⟩ := short_eq x0 (by omega)
  have e1 := u_of o1
  generalize BitVec.ofInt 32 x1 = c at e1
  subst e1
  have hr : ∃ r, M.crc_Read ys = some r ∧ M.tidepoleref02_Read ys = some r := by
    by_cases h4 : ys.length < 4
    · exact ⟨_, crc_ReadShort ys h4, ref_ReadShort ys h4⟩
    · exact ⟨_, crc_Read ys (by omega) (hok o0), ref_Read ys (by omega) (hok o0)⟩
  obtain ⟨r, hr1, hr2⟩ := hr
  simp only [M.tidepolelaw02_CrcSeals, hs, bytes_eq ys (by omega), hr1, hr2, crc_Open ys (by omega) (hok o0), ref_Open ys (by omega) (hok o0), crc_Put ys c (by omega), ref_Put ys c (by omega), crc_Sealed ys (by omega), ref_Sealed ys (by omega), same_self, works_eq, Option.bind_eq_bind, Option.bind_some, if_true, beq_self_eq_true]
theorem pureCrcOpens (x0 : List Int) (o0 : (okSl (okInt .u8)) x0) (hb : (bkSl (fun _ => 1)) x0 ≤ 1048576) : M.tidepolelaw02_CrcOpens x0 = some true := by
  rw [bk_len] at hb
  obtain ⟨ys, hs, hl, hok⟩ := short_eq x0 (by omega)
  have hokys := hok o0
  have ho := crc_Open (ys ++ le4 (crcS ys)) (by simp [le4]; omega) (by
    intro x hx
    rcases List.mem_append.1 hx with h | h
    · exact hokys x h
    · exact le4_ok _ x h)
  rw [openF_sealed] at ho
  simp only [M.tidepolelaw02_CrcOpens, works_eq, hs, crc_Sealed ys (by omega), ho, crc_Open ys (by omega) hokys, same_self, Option.bind_eq_bind, Option.bind_some, if_true]
  split
  · rename_i h
    obtain ⟨h1, h2⟩ := sealed_openF ys hokys h
    simp only [crc_Sealed _ (show (openF ys).1.length ≤ 1048570 by omega), h1, same_self, Option.bind_some]
  · rfl
end Go.Proofs.Ytbmbligkbbfpbaa
