/-
  The frame's functions: sectors, and the numbers that they bear.
-/
import Derived.Test.YtbmbligkbbfpbaaMFrm
import Derived.Test.YtbmbligkbbfpbaaGR
set_option linter.unusedVariables false
set_option linter.unusedSimpArgs false

namespace Go.Proofs.Ytbmbligkbbfpbaa
open Go.Gx

/-! ### Words -/
abbrev W32 := BitVec 32
def u (a : W32) : Int := (a.toNat : Int)
theorem u_lt (a : W32) : 0 ≤ u a ∧ u a < 4294967296 := ⟨Int.natCast_nonneg _, by have := a.isLt; unfold u; omega⟩
theorem ofInt_u (a : W32) : BitVec.ofInt 32 (u a) = a := by simp [u]
theorem wrap_u (a : W32) : IntKind.u32.wrap (u a) = u a := by
  have := u_lt a
  simp only [IntKind.wrap, IntKind.signed, IntKind.bits]
  simp
  omega
theorem wr_u (x : Int) : wr .u32 x = u (BitVec.ofInt 32 x) := by
  simp only [wr, IntKind.wrap, IntKind.signed, IntKind.bits, u, BitVec.toNat_ofInt]
  simp
  omega
theorem wrap_nat (n : Nat) (h : n < 4294967296) : IntKind.u32.wrap ((n : Nat) : Int) = ((n : Nat) : Int) := by
  simp only [IntKind.wrap, IntKind.signed, IntKind.bits]
  simp
  omega
theorem u_of {x : Int} (h : okInt .u32 x) : u (BitVec.ofInt 32 x) = x := by
  simp only [okInt, Lit.wf, IntKind.min, IntKind.max, IntKind.signed, IntKind.bits] at h
  simp at h
  simp only [u, BitVec.toNat_ofInt]
  omega
theorem u_inj {a b : W32} : u a = u b ↔ a = b := by
  constructor
  · intro h; apply BitVec.eq_of_toNat_eq; unfold u at h; omega
  · rintro rfl; rfl
theorem ixor_u (a b : W32) : ixor .u32 (u a) (u b) = u (a ^^^ b) := by
  simp only [ixor]
  rw [show BitVec.ofInt IntKind.u32.bits (u a) = a from ofInt_u a, show BitVec.ofInt IntKind.u32.bits (u b) = b from ofInt_u b]
  exact wrap_u (a ^^^ b)
theorem iand_u (a b : W32) : iand .u32 (u a) (u b) = u (a &&& b) := by
  simp only [iand]
  rw [show BitVec.ofInt IntKind.u32.bits (u a) = a from ofInt_u a, show BitVec.ofInt IntKind.u32.bits (u b) = b from ofInt_u b]
  exact wrap_u (a &&& b)
theorem ishr_u (a : W32) (n : Nat) (hn : n ≤ 32) : ishr .u32 (u a) (n : Int) = u (a >>> n) := by
  simp only [ishr, IntKind.bits, u, BitVec.toNat_ushiftRight, Nat.shiftRight_eq_div_pow]
  rw [Int.toNat_natCast, Nat.min_eq_left hn, Int.fdiv_eq_ediv_of_nonneg _ (Int.le_of_lt (Int.pow_pos (by decide)))]
  rw [Int.natCast_ediv, Int.natCast_pow]
  rfl
theorem irem_u (a : W32) (n : Nat) : irem .u32 (u a) (n : Int) = ((a.toNat % n : Nat) : Int) := by
  simp only [irem, u]
  rw [Int.tmod_eq_emod_of_nonneg (Int.natCast_nonneg _), Int.natCast_emod]
theorem iquo_u (a : W32) (n : Nat) (hn : n ≤ 32) : iquo .u32 (u a) ((2 ^ n : Nat) : Int) = u (a >>> n) := by
  simp only [iquo]
  have e : (u a).tdiv ((2 ^ n : Nat) : Int) = u (a >>> n) := by
    simp only [u, BitVec.toNat_ushiftRight, Nat.shiftRight_eq_div_pow]
    rw [Int.tdiv_eq_ediv_of_nonneg (Int.natCast_nonneg _), Int.natCast_ediv]
  rw [e]
  exact wrap_u _
theorem wr_i64 {x : Int} (h0 : -9223372036854775808 ≤ x) (h1 : x ≤ 9223372036854775807) : wr .i64 x = x := by
  simp only [wr, IntKind.wrap, IntKind.signed, IntKind.bits]
  simp
  split <;> omega
theorem byte_ok {x : Int} (h : okInt .u8 x) : 0 ≤ x ∧ x ≤ 255 := by
  simp only [okInt, Lit.wf, IntKind.min, IntKind.max, IntKind.signed, IntKind.bits] at h
  simp at h
  omega
theorem bk_len (xs : List Int) : bkSl (fun _ => 1) xs = xs.length + 1 := by
  unfold bkSl
  congr 1
  induction xs with
  | nil => rfl
  | cons x xs ih => simp only [List.map_cons, List.sum_cons, ih, List.length_cons]; omega
theorem gi_ok {xs : List Int} (h : okSl (okInt .u8) xs) (i : Int) : 0 ≤ gi xs i ∧ gi xs i ≤ 255 := by
  unfold gi
  rw [List.getD_eq_getElem?_getD]
  cases e : xs[i.toNat]? with
  | none => simp
  | some b => exact byte_ok (h b (List.mem_of_getElem? e))

/-! ### The register -/
def PP : W32 := 2197175160#32
def S (a : W32) : W32 := if a.toNat % 2 = 1 then (a >>> 1) ^^^ PP else a >>> 1
def it : Nat → W32 → W32
  | 0, a => a
  | n + 1, a => it n (S a)
def byt (s : W32) (b : Int) : W32 := it 8 (s ^^^ BitVec.ofInt 32 b)
def crcF (s : W32) (xs : List Int) : W32 := xs.foldl byt s
def ones : W32 := 4294967295#32
def crcS (xs : List Int) : W32 := crcF ones xs ^^^ ones

theorem stepInt (a : W32) : ixor .u32 (ishr .u32 (u a) 1) (iand .u32 (wr .u32 (0 - (iand .u32 (u a) 1))) 2197175160) = u (S a) := by
  have e1 : iand .u32 (u a) 1 = u (a &&& 1#32) := iand_u a 1#32
  have e2 : ishr .u32 (u a) 1 = u (a >>> 1) := ishr_u a 1 (by omega)
  rw [e1, e2, wr_u]
  have e3 : iand .u32 (u (BitVec.ofInt 32 (0 - u (a &&& 1#32)))) 2197175160 = u (BitVec.ofInt 32 (0 - u (a &&& 1#32)) &&& PP) := iand_u _ PP
  rw [e3, ixor_u]
  congr 1
  unfold S
  have hm : (a &&& 1#32).toNat = a.toNat % 2 := by rw [BitVec.toNat_and]; exact Nat.and_one_is_mod _
  split
  · rename_i h
    rw [show a &&& 1#32 = 1#32 from BitVec.eq_of_toNat_eq (by rw [hm, h]; rfl)]
    congr 1
  · rename_i h
    rw [show a &&& 1#32 = 0#32 from BitVec.eq_of_toNat_eq (by rw [hm, show a.toNat % 2 = 0 by omega]; rfl)]
    have : BitVec.ofInt 32 (0 - u 0#32) &&& PP = 0#32 := by decide
    rw [this]; simp
theorem ref_step (k : Nat) : ∀ (i : Int) (a : W32), i = 8 - (k : Int) → 0 ≤ i → M.tidepoleref02_step_l0 (u a, i) = some (u (it k a)) := by
  induction k with
  | zero =>
    intro i a hi h0
    rw [M.tidepoleref02_step_l0]
    try dsimp only
    rw [if_neg (by omega)]
    rfl
  | succ k ih =>
    intro i a hi h0
    have e1 : irem .u32 (u a) 2 = ((a.toNat % 2 : Nat) : Int) := irem_u a 2
    have e2 : iquo .u32 (u a) 2 = u (a >>> 1) := iquo_u a 1 (by omega)
    have e3 : ixor .u32 (u (a >>> 1)) 2197175160 = u ((a >>> 1) ^^^ PP) := ixor_u _ PP
    rw [M.tidepoleref02_step_l0]
    try dsimp only
    rw [if_pos (by omega), e1, e2, e3]
    have go : ∀ b : W32, M.tidepoleref02_step_l1 (u b, i) = some (u (it k b)) := by
      intro b
      rw [M.tidepoleref02_step_l1]
      try dsimp only
      rw [wr_i64 (by omega) (by omega)]
      exact ih (i + 1) b (by omega) (by omega)
    rw [go, go]
    simp only [it, S]
    split
    · rw [if_pos (by omega)]
    · rw [if_neg (by omega)]
theorem crc_bits (k : Nat) : ∀ (i : Int) (a : W32), i = 8 - (k : Int) → 0 ≤ i → M.crc_bits_1_l0 (i, u a, u a) = some (u (it k a), u (it k a)) := by
  induction k with
  | zero =>
    intro i a hi h0
    rw [M.crc_bits_1_l0]
    try dsimp only
    rw [if_neg (by omega)]
    rfl
  | succ k ih =>
    intro i a hi h0
    rw [M.crc_bits_1_l0]
    try dsimp only
    rw [if_pos (by omega), stepInt, wr_i64 (by omega) (by omega)]
    simp only [M.crc_step_r, Option.bind_eq_bind, Option.bind_some]
    exact ih (i + 1) (S a) (by omega) (by omega)
theorem crc_step (a : W32) : M.crc_step (u a) = some (u (it 8 a)) := by
  simp only [M.crc_step, M.crc_bits, M.crc_bits_1, Option.bind_eq_bind, Option.bind_some]
  rw [crc_bits 8 0 a (by omega) (by omega)]
  rfl
theorem ref_step8 (a : W32) : M.tidepoleref02_step (u a) = some (u (it 8 a)) := ref_step 8 0 a (by omega) (by omega)
theorem getD_drop (xs : List Int) (i : Nat) (h : i < xs.length) : xs.drop i = gi xs (i : Int) :: xs.drop (i + 1) := by
  rw [List.drop_eq_getElem_cons h]
  simp [gi, h]
theorem crc_More_l0 (xs : List Int) (hl : xs.length ≤ 1048576) (k : Nat) : ∀ (i : Nat) (s : W32), i + k = xs.length → M.crc_More_l0 (u s, xs, (xs.length : Int), (i : Int)) = some (u (crcF s (xs.drop i) ^^^ ones)) := by
  induction k with
  | zero =>
    intro i s hi
    rw [M.crc_More_l0]
    try dsimp only
    rw [if_neg (by omega)]
    have : ixor .u32 4294967295 (u s) = u (ones ^^^ s) := ixor_u ones s
    rw [this, List.drop_eq_nil_of_le (by omega), BitVec.xor_comm]
    rfl
  | succ k ih =>
    intro i s hi
    rw [M.crc_More_l0]
    try dsimp only
    rw [if_pos (by omega), if_pos (by omega), if_pos (by omega), wr_u, ixor_u, crc_step]
    simp only [Option.bind_eq_bind, Option.bind_some]
    rw [wr_i64 (by omega) (by omega), show (i : Int) + 1 = ((i + 1 : Nat) : Int) by omega, ih (i + 1) _ (by omega), getD_drop xs i (by omega)]
    rfl
theorem ref_More_l0 (xs : List Int) (hl : xs.length ≤ 1048576) (k : Nat) : ∀ (i : Nat) (s : W32), i + k = xs.length → M.tidepoleref02_More_l0 (xs, u s, (i : Int)) = some (u (crcF s (xs.drop i) ^^^ ones)) := by
  induction k with
  | zero =>
    intro i s hi
    rw [M.tidepoleref02_More_l0]
    try dsimp only
    rw [if_neg (by omega)]
    have : ixor .u32 (u s) 4294967295 = u (s ^^^ ones) := ixor_u s ones
    rw [this, List.drop_eq_nil_of_le (by omega)]
    rfl
  | succ k ih =>
    intro i s hi
    rw [M.tidepoleref02_More_l0]
    try dsimp only
    rw [if_pos (by omega), if_pos (by omega), wr_u, ixor_u, ref_step8]
    simp only [Option.bind_eq_bind, Option.bind_some]
    rw [wr_i64 (by omega) (by omega), show (i : Int) + 1 = ((i + 1 : Nat) : Int) by omega, ih (i + 1) _ (by omega), getD_drop xs i (by omega)]
    rfl
theorem crc_More (c : W32) (xs : List Int) (hl : xs.length ≤ 1048576) : M.crc_More (u c) xs = some (u (crcF (ones ^^^ c) xs ^^^ ones)) := by
  have e : ixor .u32 4294967295 (u c) = u (ones ^^^ c) := ixor_u ones c
  rw [M.crc_More, e]
  exact crc_More_l0 xs hl xs.length 0 _ (by omega)
theorem ref_More (c : W32) (xs : List Int) (hl : xs.length ≤ 1048576) : M.tidepoleref02_More (u c) xs = some (u (crcF (ones ^^^ c) xs ^^^ ones)) := by
  have e : ixor .u32 (u c) 4294967295 = u (c ^^^ ones) := ixor_u c ones
  rw [M.tidepoleref02_More, e, BitVec.xor_comm]
  exact ref_More_l0 xs hl xs.length 0 _ (by omega)
theorem crc_Sum (xs : List Int) (hl : xs.length ≤ 1048576) : M.crc_Sum xs = some (u (crcS xs)) := by
  have := crc_More 0#32 xs hl
  rw [M.crc_Sum, show (0 : Int) = u 0#32 from rfl, this]
  rfl
theorem ref_Sum (xs : List Int) (hl : xs.length ≤ 1048576) : M.tidepoleref02_Sum xs = some (u (crcS xs)) := by
  have := ref_More 0#32 xs hl
  rw [M.tidepoleref02_Sum, show (0 : Int) = u 0#32 from rfl, this]
  rfl

/-! ### Four bytes -/
/-! ### Four bytes -/
def le4 (c : W32) : List Int := [((c.toNat % 256 : Nat) : Int), ((c.toNat / 256 % 256 : Nat) : Int), ((c.toNat / 65536 % 256 : Nat) : Int), ((c.toNat / 16777216 : Nat) : Int)]
theorem wr_u8 {x : Int} (h0 : 0 ≤ x) (h1 : x ≤ 255) : wr .u8 x = x := by
  simp only [wr, IntKind.wrap, IntKind.signed, IntKind.bits]
  simp
  omega
theorem wr_u8_mod (n : Nat) : wr .u8 ((n : Nat) : Int) = ((n % 256 : Nat) : Int) := by
  simp only [wr, IntKind.wrap, IntKind.signed, IntKind.bits]
  simp
theorem le4_ref (c : W32) : [wr .u8 (irem .u32 (u c) 256), wr .u8 (irem .u32 (iquo .u32 (u c) 256) 256), wr .u8 (irem .u32 (iquo .u32 (u c) 65536) 256), wr .u8 (iquo .u32 (u c) 16777216)] = le4 c := by
  have e1 : irem .u32 (u c) 256 = _ := irem_u c 256
  have e2 : iquo .u32 (u c) 256 = u (c >>> 8) := iquo_u c 8 (by omega)
  have e3 : iquo .u32 (u c) 65536 = u (c >>> 16) := iquo_u c 16 (by omega)
  have e4 : iquo .u32 (u c) 16777216 = u (c >>> 24) := iquo_u c 24 (by omega)
  have e5 : irem .u32 (u (c >>> 8)) 256 = _ := irem_u _ 256
  have e6 : irem .u32 (u (c >>> 16)) 256 = _ := irem_u _ 256
  rw [e1, e2, e3, e4, e5, e6]
  have := c.isLt
  simp only [wr_u8_mod, u, BitVec.toNat_ushiftRight, Nat.shiftRight_eq_div_pow, le4]
  congr 1
  · omega
  congr 1
  · omega
  congr 1
  · omega
  congr 1
  omega
theorem put_byte (c : W32) (n : Nat) (hn : n ≤ 32) : wr .u8 (ishr .u32 (u c) (n : Int)) = ((c.toNat / 2 ^ n % 256 : Nat) : Int) := by
  rw [ishr_u c n hn]
  simp only [u, wr_u8_mod, BitVec.toNat_ushiftRight, Nat.shiftRight_eq_div_pow]
theorem crc_Put0 (c : W32) : M.crc_Put [] (u c) = some (le4 c) := by
  have hlt := c.isLt
  have p0 : wr .u8 (ishr .u32 (u c) 0) = _ := put_byte c 0 (by omega)
  have p1 : wr .u8 (ishr .u32 (u c) 8) = _ := put_byte c 8 (by omega)
  have p2 : wr .u8 (ishr .u32 (u c) 16) = _ := put_byte c 16 (by omega)
  have p3 : wr .u8 (ishr .u32 (u c) 24) = _ := put_byte c 24 (by omega)
  rw [M.crc_Put, if_pos (by decide), if_pos (by decide), if_pos (by decide)]
  rw [M.crc_Put_l0]; try dsimp only
  rw [if_pos (by omega), show wr .i64 (8 * 0) = 0 from rfl, show wr .i64 (0 + 1) = 1 from rfl, p0, if_pos (by omega), Option.bind_eq_bind, Option.bind_some, if_pos (by simp)]
  rw [M.crc_Put_l0]; try dsimp only
  rw [if_pos (by omega), show wr .i64 (8 * 1) = 8 from rfl, show wr .i64 (1 + 1) = 2 from rfl, p1, if_pos (by omega), Option.bind_eq_bind, Option.bind_some, if_pos (by simp)]
  rw [M.crc_Put_l0]; try dsimp only
  rw [if_pos (by omega), show wr .i64 (8 * 2) = 16 from rfl, show wr .i64 (2 + 1) = 3 from rfl, p2, if_pos (by omega), Option.bind_eq_bind, Option.bind_some, if_pos (by simp)]
  rw [M.crc_Put_l0]; try dsimp only
  rw [if_pos (by omega), show wr .i64 (8 * 3) = 24 from rfl, show wr .i64 (3 + 1) = 4 from rfl, p3, if_pos (by omega), Option.bind_eq_bind, Option.bind_some, if_pos (by simp)]
  rw [M.crc_Put_l0]; try dsimp only
  rw [if_neg (by omega)]
  simp only [List.append_assoc, List.cons_append, List.nil_append, le4]
  congr 2
  · omega
  congr 1
  congr 1
  congr 1
  omega
theorem ref_Put (xs : List Int) (c : W32) (hl : xs.length ≤ 1048570) : M.tidepoleref02_Put xs (u c) = some (xs ++ le4 c) := by
  rw [M.tidepoleref02_Put, le4_ref, if_pos (by omega), Option.bind_eq_bind, Option.bind_some, if_pos (by simp [le4]; omega)]
theorem le4_len (c : W32) : (le4 c).length = 4 := rfl

/-! ### Sectors -/
theorem ishr64 (n k : Nat) (hk : k ≤ 64) : ishr .i64 (n : Int) (k : Int) = ((n / 2 ^ k : Nat) : Int) := by
  simp only [ishr, IntKind.bits]
  rw [Int.toNat_natCast, Nat.min_eq_left hk, Int.fdiv_eq_ediv_of_nonneg _ (Int.le_of_lt (Int.pow_pos (by decide)))]
  rw [Int.natCast_ediv, Int.natCast_pow]
  rfl
theorem irem64 (n m : Nat) : irem .i64 (n : Int) (m : Int) = ((n % m : Nat) : Int) := by
  simp only [irem]
  rw [Int.tmod_eq_emod_of_nonneg (Int.natCast_nonneg _), Int.natCast_emod]
theorem iquo64 (n m : Nat) (h : n ≤ 9223372036854775807) : iquo .i64 (n : Int) (m : Int) = ((n / m : Nat) : Int) := by
  simp only [iquo]
  rw [Int.tdiv_eq_ediv_of_nonneg (Int.natCast_nonneg _), ← Int.natCast_ediv]
  have : n / m ≤ n := Nat.div_le_self _ _
  generalize n / m = q at *
  exact wr_i64 (by omega) (by omega)
def hd (n l : Nat) (fl : Int) : List Int := [((n % 256 : Nat) : Int), ((n / 256 % 256 : Nat) : Int), ((n / 65536 % 256 : Nat) : Int), ((n / 16777216 % 256 : Nat) : Int), ((l % 256 : Nat) : Int), ((l / 256 % 256 : Nat) : Int), fl]
def body (n : Nat) (p : List Int) (fl : Int) : List Int := hd n p.length fl ++ (p ++ List.replicate (244 - p.length) 0)
def sec (n : Nat) (p : List Int) (fl : Int) : List Int := body n p fl ++ (le4 (crcS (body n p fl)) ++ [255])
theorem body_len (n : Nat) (p : List Int) (fl : Int) (hp : p.length ≤ 244) : (body n p fl).length = 251 := by simp [body, hd]; omega
theorem sec_len (n : Nat) (p : List Int) (fl : Int) (hp : p.length ≤ 244) : (sec n p fl).length = 256 := by simp [sec, body_len n p fl hp, le4_len]
theorem sector_l0 (n : Nat) (p : List Int) (fl : Int) (hp : p.length ≤ 244) (v : List Int) (hv : v = [((n % 256 : Nat) : Int), ((n / 256 % 256 : Nat) : Int), ((n / 65536 % 256 : Nat) : Int), ((n / 16777216 % 256 : Nat) : Int), 0, 0, 0] ++ List.replicate 249 0) :
    M.frame_sector_l0 ((n : Int), p, fl, (List.replicate 256 0), v, 4) = some (sec n p fl) := by
  have hb := body_len n p fl hp
  rw [M.frame_sector_l0]; try dsimp only
  rw [if_neg (by omega), show ishr .i64 (p.length : Int) 8 = _ from ishr64 p.length 8 (by omega), wr_u8_mod, wr_u8_mod, hv]
  have e1 : si (si ([((n % 256 : Nat) : Int), ((n / 256 % 256 : Nat) : Int), ((n / 65536 % 256 : Nat) : Int), ((n / 16777216 % 256 : Nat) : Int), 0, 0, 0] ++ List.replicate 249 0) 4 ((p.length % 256 : Nat) : Int)) 5 ((p.length / 2 ^ 8 % 256 : Nat) : Int) = [((n % 256 : Nat) : Int), ((n / 256 % 256 : Nat) : Int), ((n / 65536 % 256 : Nat) : Int), ((n / 16777216 % 256 : Nat) : Int), ((p.length % 256 : Nat) : Int), ((p.length / 256 % 256 : Nat) : Int), 0] ++ List.replicate 249 0 := rfl
  have e2 : ∀ w : List Int, si ([((n % 256 : Nat) : Int), ((n / 256 % 256 : Nat) : Int), ((n / 65536 % 256 : Nat) : Int), ((n / 16777216 % 256 : Nat) : Int), ((p.length % 256 : Nat) : Int), ((p.length / 256 % 256 : Nat) : Int), 0] ++ w) 6 fl = hd n p.length fl ++ w := fun _ => rfl
  have e3 : cpy (hd n p.length fl ++ List.replicate 249 0) 7 (256 - 7) p = body n p fl ++ List.replicate 5 0 := by
    have r1 : List.replicate (249 - p.length) (0 : Int) = List.replicate (244 - p.length) 0 ++ List.replicate 5 0 := by
      rw [List.replicate_append_replicate]; congr 1; omega
    simp only [cpy, body, List.append_assoc, ← r1]
    rw [List.take_left' (show (hd n p.length fl).length = 7 from rfl), List.take_of_length_le (by omega), List.drop_append, List.drop_of_length_le (by simp [hd]), List.nil_append, List.drop_replicate]
    congr 3
    simp only [hd, List.length_cons, List.length_nil]; omega
  rw [e1, Option.bind_eq_bind, Option.bind_some, e2, e3]
  have e4 : sl (body n p fl ++ List.replicate 5 0) 0 251 = body n p fl := by
    simp only [sl]
    rw [List.take_left' (by rw [hb]; rfl)]
    rfl
  rw [e4, crc_Sum _ (by omega), Option.bind_eq_bind, Option.bind_some, crc_Put0, Option.bind_some]
  have e5 : cpy (body n p fl ++ List.replicate 5 0) 251 (256 - 251) (le4 (crcS (body n p fl))) = body n p fl ++ (le4 (crcS (body n p fl)) ++ [0]) := by
    simp only [cpy]
    rw [List.take_left' hb, List.take_of_length_le (by rw [le4_len]; omega), List.drop_append, List.drop_of_length_le (by rw [hb, le4_len]; omega), hb, le4_len]
    rfl
  rw [e5, Option.bind_some]
  congr 1
  simp only [si, sec]
  rw [List.set_append_right _ _ (by rw [hb]; decide), hb]
  rfl
theorem rep256 : List.replicate 256 (0 : Int) = [0, 0, 0, 0, 0, 0, 0] ++ List.replicate 249 0 := by
  have h := List.replicate_append_replicate (n := 7) (m := 249) (a := (0 : Int))
  rw [show (7 + 249 : Nat) = 256 from rfl] at h
  rw [← h]
  congr 1
theorem sector_eq (n : Nat) (hn : n < 4294967296) (p : List Int) (fl : Int) (hp : p.length ≤ 244) : M.frame_sector (n : Int) p fl = some (sec n p fl) := by
  have p0 : wr .u8 (ishr .i64 (n : Int) 0) = _ := (congrArg (wr .u8) (ishr64 n 0 (by omega))).trans (wr_u8_mod _)
  have p1 : wr .u8 (ishr .i64 (n : Int) 8) = _ := (congrArg (wr .u8) (ishr64 n 8 (by omega))).trans (wr_u8_mod _)
  have p2 : wr .u8 (ishr .i64 (n : Int) 16) = _ := (congrArg (wr .u8) (ishr64 n 16 (by omega))).trans (wr_u8_mod _)
  have p3 : wr .u8 (ishr .i64 (n : Int) 24) = _ := (congrArg (wr .u8) (ishr64 n 24 (by omega))).trans (wr_u8_mod _)
  rw [M.frame_sector]
  rw [M.frame_sector_l0]; try dsimp only
  rw [if_pos (by omega), show wr .i64 (8 * 0) = 0 from rfl, show wr .i64 (0 + 1) = 1 from rfl, p0, if_pos (by omega), if_pos (by omega), if_pos (by omega), Option.bind_eq_bind, Option.bind_some]
  rw [M.frame_sector_l0]; try dsimp only
  rw [if_pos (by omega), show wr .i64 (8 * 1) = 8 from rfl, show wr .i64 (1 + 1) = 2 from rfl, p1, if_pos (by omega), if_pos (by omega), if_pos (by omega), Option.bind_eq_bind, Option.bind_some]
  rw [M.frame_sector_l0]; try dsimp only
  rw [if_pos (by omega), show wr .i64 (8 * 2) = 16 from rfl, show wr .i64 (2 + 1) = 3 from rfl, p2, if_pos (by omega), if_pos (by omega), if_pos (by omega), Option.bind_eq_bind, Option.bind_some]
  rw [M.frame_sector_l0]; try dsimp only
  rw [if_pos (by omega), show wr .i64 (8 * 3) = 24 from rfl, show wr .i64 (3 + 1) = 4 from rfl, p3, if_pos (by omega), if_pos (by omega), if_pos (by omega), Option.bind_eq_bind, Option.bind_some]
  exact sector_l0 n p fl hp _ (by rw [show n / 2 ^ 0 = n by omega, rep256]; rfl)
theorem rsector_eq (n : Nat) (hn : n < 4294967296) (p : List Int) (fl : Int) (hf : 0 ≤ fl ∧ fl ≤ 255) (hp : p.length ≤ 244) : M.tidepoleref03_Sector (n : Int) p fl = some (sec n p fl) := by
  have hb := body_len n p fl hp
  unfold M.tidepoleref03_Sector
  have q1 : irem .i64 (n : Int) 256 = _ := irem64 n 256
  have q2 : iquo .i64 (n : Int) 256 = _ := iquo64 n 256 (by omega)
  have q3 : iquo .i64 (n : Int) 65536 = _ := iquo64 n 65536 (by omega)
  have q4 : iquo .i64 (n : Int) 16777216 = ((n / 16777216 : Nat) : Int) := iquo64 n 16777216 (by omega)
  have q5 : irem .i64 (p.length : Int) 256 = _ := irem64 p.length 256
  have q6 : iquo .i64 (p.length : Int) 256 = _ := iquo64 p.length 256 (by omega)
  have q7 : irem .i64 ((n / 256 : Nat) : Int) 256 = _ := irem64 (n / 256) 256
  have q8 : irem .i64 ((n / 65536 : Nat) : Int) 256 = _ := irem64 (n / 65536) 256
  rw [q1, q2, q3, q4, q5, q6, q7, q8, wr_u8 hf.1 hf.2]
  simp only [wr_u8_mod, Nat.mod_mod]
  have e : [((n % 256 : Nat) : Int), ((n / 256 % 256 : Nat) : Int), ((n / 65536 % 256 : Nat) : Int), ((n / 16777216 % 256 : Nat) : Int), ((p.length % 256 : Nat) : Int), ((p.length / 256 % 256 : Nat) : Int), fl] = hd n p.length fl := rfl
  rw [e, Option.bind_eq_bind, Option.bind_some]
  have hl : ((hd n p.length fl ++ p).length : Int) = 7 + p.length := by simp [hd]; omega
  rw [hl, wr_i64 (by omega) (by omega), if_pos (by omega), if_pos (by omega), if_pos (by omega), Option.bind_some]
  have e2 : hd n p.length fl ++ p ++ List.replicate (251 - (7 + (p.length : Int))).toNat 0 = body n p fl := by
    rw [body, List.append_assoc]; congr 3; omega
  rw [e2, ref_Sum _ (by omega), Option.bind_eq_bind, Option.bind_some, ref_Put _ _ (by omega), Option.bind_some, if_pos (by simp [hb, le4_len])]
  rw [sec, List.append_assoc]

end Go.Proofs.Ytbmbligkbbfpbaa
