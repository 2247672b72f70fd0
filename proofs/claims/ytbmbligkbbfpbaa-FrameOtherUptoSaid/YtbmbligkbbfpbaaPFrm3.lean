/-
  Sectors read: First, Read.
-/
import Derived.Test.YtbmbligkbbfpbaaPFrm2
set_option linter.unusedVariables false
set_option linter.unusedSimpArgs false
namespace Go.Proofs.Ytbmbligkbbfpbaa
open Go.Gx

/-! ### First -/
theorem ior_add64 (x b : Int) (k : Nat) (hk : k ≤ 24) (h0 : 0 ≤ x) (h1 : x < 2 ^ k) (h2 : 0 ≤ b) (h3 : b ≤ 255) : ior .i64 x (ishl .i64 (wr .i64 b) (k : Int)) = x + 2 ^ k * b := by
  obtain ⟨y, rfl⟩ := Int.eq_ofNat_of_zero_le h0
  obtain ⟨c, rfl⟩ := Int.eq_ofNat_of_zero_le h2
  have hy : y < 2 ^ k := by
    have : ((2 ^ k : Nat) : Int) = 2 ^ k := by simp
    omega
  have hp : 2 ^ k ≤ 2 ^ 24 := Nat.pow_le_pow_right (by omega) hk
  have hc : 2 ^ k * c ≤ 2 ^ 24 * 255 := Nat.mul_le_mul hp (by omega)
  have e1 : wr .i64 ((c : Nat) : Int) = ((c : Nat) : Int) := wr_i64 (by omega) (by omega)
  have e2 : ishl .i64 ((c : Nat) : Int) (k : Int) = ((2 ^ k * c : Nat) : Int) := by
    simp only [ishl, IntKind.bits, Int.toNat_natCast, Nat.min_eq_left (show k ≤ 64 by omega)]
    rw [show ((c : Nat) : Int) * 2 ^ k = ((2 ^ k * c : Nat) : Int) by push_cast; rw [Int.mul_comm]]
    exact wr_i64 (by omega) (by omega)
  rw [e1, e2]
  simp only [ior, IntKind.bits]
  have e3 : (BitVec.ofInt 64 ((y : Nat) : Int) ||| BitVec.ofInt 64 ((2 ^ k * c : Nat) : Int)).toNat = 2 ^ k * c + y := by
    rw [BitVec.toNat_or, BitVec.toNat_ofInt, BitVec.toNat_ofInt]
    have a1 : (((y : Nat) : Int) % ((2 ^ 64 : Nat) : Int)).toNat = y := by omega
    have a2 : (((2 ^ k * c : Nat) : Int) % ((2 ^ 64 : Nat) : Int)).toNat = 2 ^ k * c := by omega
    rw [a1, a2, Nat.or_comm, Nat.two_pow_add_eq_or_of_lt hy]
  have e4 : IntKind.i64.wrap ((2 ^ k * c + y : Nat) : Int) = ((2 ^ k * c + y : Nat) : Int) := wr_i64 (by omega) (by omega)
  rw [← e3] at e4
  refine e4.trans ?_
  rw [e3]
  push_cast
  omega
def rdN (xs : List Int) : Int := gi xs 0 + 256 * gi xs 1 + 65536 * gi xs 2 + 16777216 * gi xs 3
def rdL (xs : List Int) : Int := gi xs 4 + 256 * gi xs 5
def rdB (xs : List Int) : List Int := (xs.drop 7).take (rdL xs).toNat
def firstOk (xs : List Int) : Prop := 256 ≤ xs.length ∧ rdL xs ≤ 244 ∧ gi xs 6 ≤ 3 ∧ sec (rdN xs).toNat (rdB xs) (gi xs 6) = xs.take 256
instance (xs : List Int) : Decidable (firstOk xs) := by unfold firstOk; infer_instance
def firstF (xs : List Int) : Int × List Int × Int × Int := if firstOk xs then (rdN xs, rdB xs, gi xs 6, 0) else (0, [], 0, 30)
theorem first_l1 (xs : List Int) (hl : xs.length ≤ 1048576) (hok : okSl (okInt .u8) xs) (h256 : 256 ≤ xs.length) (b : Bool) (hb : b = decide (rdL xs > 244 ∨ gi xs 6 > 3)) :
    M.frame_First_l1 (xs, rdN xs, rdL xs, gi xs 6, b) = some (firstF xs) := by
  obtain ⟨a0, a1⟩ := gi_ok hok 0
  obtain ⟨b0, b1⟩ := gi_ok hok 1
  obtain ⟨c0, c1⟩ := gi_ok hok 2
  obtain ⟨d0, d1⟩ := gi_ok hok 3
  obtain ⟨g0, g1⟩ := gi_ok hok 4
  obtain ⟨i0, i1⟩ := gi_ok hok 5
  obtain ⟨f0, f1⟩ := gi_ok hok 6
  rw [M.frame_First_l1]; try dsimp only
  rw [firstF]
  by_cases hbad : rdL xs > 244 ∨ gi xs 6 > 3
  · rw [hb, decide_eq_true hbad, if_pos rfl, if_neg (by unfold firstOk; omega)]
  · rw [hb, decide_eq_false hbad, if_neg (by decide)]
    have hL : 0 ≤ rdL xs := by unfold rdL; omega
    have hN : 0 ≤ rdN xs ∧ rdN xs < 4294967296 := by unfold rdN; omega
    rw [wr_i64 (x := 7 + rdL xs) (by omega) (by omega), if_pos (by omega), if_pos (by omega), if_pos (by omega)]
    have e1 : sl xs 7 (7 + rdL xs) = rdB xs := by
      have := sl_mid xs 7 (7 + (rdL xs).toNat)
      rw [show ((7 + (rdL xs).toNat : Nat) : Int) = 7 + rdL xs by omega] at this
      rw [show sl xs 7 (7 + rdL xs) = _ from this, rdB]
      congr 1
      omega
    have hB : (rdB xs).length ≤ 244 := by unfold rdB; simp; omega
    have hs := sector_eq (rdN xs).toNat (by omega) (rdB xs) (gi xs 6) hB
    rw [Int.toNat_of_nonneg hN.1] at hs
    rw [e1, hs]; simp only [Option.bind_eq_bind, Option.bind_some]
    by_cases hq : sec (rdN xs).toNat (rdB xs) (gi xs 6) = xs.take 256
    · rw [if_pos hq, if_pos (by omega), if_pos ⟨h256, by omega, by omega, hq⟩, wr_i64 (by omega) (by omega)]
    · rw [if_neg hq, if_neg (fun h => hq h.2.2.2)]
theorem first_eq (xs : List Int) (hl : xs.length ≤ 1048576) (hok : okSl (okInt .u8) xs) : M.frame_First xs = some (firstF xs) := by
  obtain ⟨a0, a1⟩ := gi_ok hok 0
  obtain ⟨b0, b1⟩ := gi_ok hok 1
  obtain ⟨c0, c1⟩ := gi_ok hok 2
  obtain ⟨d0, d1⟩ := gi_ok hok 3
  obtain ⟨g0, g1⟩ := gi_ok hok 4
  obtain ⟨i0, i1⟩ := gi_ok hok 5
  unfold M.frame_First
  by_cases h256 : xs.length < 256
  · rw [if_pos (by omega), firstF, if_neg (by unfold firstOk; omega)]
  rw [if_neg (by omega)]
  have p0 : ior .i64 0 (ishl .i64 (wr .i64 (gi xs 0)) 0) = gi xs 0 := by
    have := ior_add64 0 (gi xs 0) 0 (by omega) (by omega) (by omega) a0 a1
    simpa using this
  have p1 := ior_add64 (gi xs 0) (gi xs 1) 8 (by omega) (by omega) (by omega) b0 b1
  have p2 := ior_add64 (gi xs 0 + 2 ^ 8 * gi xs 1) (gi xs 2) 16 (by omega) (by omega) (by omega) c0 c1
  have p3 := ior_add64 (gi xs 0 + 2 ^ 8 * gi xs 1 + 2 ^ 16 * gi xs 2) (gi xs 3) 24 (by omega) (by omega) (by omega) d0 d1
  have p4 := ior_add64 (gi xs 4) (gi xs 5) 8 (by omega) (by omega) (by omega) i0 i1
  rw [M.frame_First_l0]; try dsimp only
  rw [if_pos (by omega), if_pos (by omega), if_pos (by omega), show wr .i64 (8 * 0) = 0 from rfl, show wr .i64 (0 + 1) = 1 from rfl, if_pos (by omega), p0]
  rw [M.frame_First_l0]; try dsimp only
  rw [if_pos (by omega), if_pos (by omega), if_pos (by omega), show wr .i64 (8 * 1) = ((8 : Nat) : Int) from rfl, show wr .i64 (1 + 1) = 2 from rfl, if_pos (by omega), p1]
  rw [M.frame_First_l0]; try dsimp only
  rw [if_pos (by omega), if_pos (by omega), if_pos (by omega), show wr .i64 (8 * 2) = ((16 : Nat) : Int) from rfl, show wr .i64 (2 + 1) = 3 from rfl, if_pos (by omega), p2]
  rw [M.frame_First_l0]; try dsimp only
  rw [if_pos (by omega), if_pos (by omega), if_pos (by omega), show wr .i64 (8 * 3) = ((24 : Nat) : Int) from rfl, show wr .i64 (3 + 1) = 4 from rfl, if_pos (by omega), p3]
  rw [M.frame_First_l0]; try dsimp only
  rw [if_neg (by omega), if_pos (by omega), if_pos (by omega), if_pos (by omega), show ior .i64 (wr .i64 (gi xs 4)) (ishl .i64 (wr .i64 (gi xs 5)) 8) = rdL xs by
    rw [wr_i64 (x := gi xs 4) (by omega) (by omega)]; exact p4]
  have eN : gi xs 0 + 2 ^ 8 * gi xs 1 + 2 ^ 16 * gi xs 2 + 2 ^ 24 * gi xs 3 = rdN xs := by unfold rdN; omega
  rw [eN]
  by_cases hL : rdL xs > 244
  · rw [if_pos hL]
    exact first_l1 xs hl hok (by omega) true (by simp [hL])
  · rw [if_neg hL]
    exact first_l1 xs hl hok (by omega) _ (by simp only [hL, false_or])
theorem gi_take (xs : List Int) (m i : Nat) (h : i < m) : gi (xs.take m) (i : Int) = gi xs (i : Int) := by
  simp [gi, List.getD_eq_getElem?_getD, List.getElem?_take, h]
theorem rfirst_l1 (xs v : List Int) (n l : Int) (hv : v.length = 256) (h256 : 256 ≤ xs.length) (hl : xs.length ≤ 1048576) (hL : 0 ≤ l ∧ l ≤ 244) (h6 : 0 ≤ gi xs 6 ∧ gi xs 6 ≤ 255) (k : Nat) : ∀ i : Nat, i + k = 256 → M.tidepoleref03_First_l1 (xs, n, l, v, (i : Int)) = some (if v.drop i = (xs.take 256).drop i then (n, sl xs 7 (7 + l), gi xs 6, 0) else (0, [], 0, 30)) := by
  induction k with
  | zero =>
    intro i hi
    rw [M.tidepoleref03_First_l1]; try dsimp only
    have hsl : (sl xs 7 (7 + l)).length ≤ 1048576 := by simp only [sl]; simp; omega
    rw [if_neg (by omega), wr_i64 (by omega) (by omega), if_pos (by omega), if_pos (by omega), if_pos (by omega), if_pos (by omega), wr_i64 (by omega) (by omega), List.drop_of_length_le (by omega), List.drop_of_length_le (by simp; omega), if_pos rfl]
  | succ k ih =>
    intro i hi
    rw [M.tidepoleref03_First_l1]; try dsimp only
    have hx : (xs.take 256).length = 256 := by simp; omega
    have e1 : v.drop i = gi v (i : Int) :: v.drop (i + 1) := getD_drop v i (by omega)
    have e2 : (xs.take 256).drop i = gi (xs.take 256) (i : Int) :: (xs.take 256).drop (i + 1) := getD_drop _ i (by omega)
    rw [gi_take xs 256 i (by omega)] at e2
    rw [if_pos (by omega), if_pos (by omega), if_pos (by omega), if_pos (by omega), wr_i64 (x := (i : Int) + 1) (by omega) (by omega), show (i : Int) + 1 = ((i + 1 : Nat) : Int) by omega, ih (i + 1) (by omega), e1, e2]
    by_cases hq : gi xs (i : Int) = gi v (i : Int)
    · rw [if_pos hq, hq]
      congr 1
      by_cases hd : v.drop (i + 1) = (xs.take 256).drop (i + 1)
      · rw [if_pos hd, if_pos (by rw [hd])]
      · rw [if_neg hd, if_neg (by simpa using hd)]
    · rw [if_neg hq, if_neg (by intro h; injection h with h1 _; exact hq h1.symm)]
theorem rfirst_eq (xs : List Int) (hl : xs.length ≤ 1048576) (hok : okSl (okInt .u8) xs) : M.tidepoleref03_First xs = some (firstF xs) := by
  obtain ⟨a0, a1⟩ := gi_ok hok 0
  obtain ⟨b0, b1⟩ := gi_ok hok 1
  obtain ⟨c0, c1⟩ := gi_ok hok 2
  obtain ⟨d0, d1⟩ := gi_ok hok 3
  obtain ⟨g0, g1⟩ := gi_ok hok 4
  obtain ⟨i0, i1⟩ := gi_ok hok 5
  obtain ⟨f0, f1⟩ := gi_ok hok 6
  have w : ∀ x : Int, 0 ≤ x → x ≤ 4294967295 → wr .i64 x = x := fun x h0 h1 => wr_i64 (by omega) (by omega)
  unfold M.tidepoleref03_First
  by_cases h256 : xs.length < 256
  · rw [if_pos (by omega), firstF, if_neg (by unfold firstOk; omega)]
  rw [if_neg (by omega), if_pos (by omega), if_pos (by omega), if_pos (by omega), if_pos (by omega), if_pos (by omega), if_pos (by omega)]
  rw [w (gi xs 0) (by omega) (by omega), w (gi xs 1) (by omega) (by omega), w (gi xs 2) (by omega) (by omega), w (gi xs 3) (by omega) (by omega), w (gi xs 4) (by omega) (by omega), w (gi xs 5) (by omega) (by omega),
    w (256 * gi xs 1) (by omega) (by omega), w (65536 * gi xs 2) (by omega) (by omega), w (16777216 * gi xs 3) (by omega) (by omega), w (256 * gi xs 5) (by omega) (by omega)]
  rw [w (gi xs 0 + 256 * gi xs 1) (by omega) (by omega), w (gi xs 0 + 256 * gi xs 1 + 65536 * gi xs 2) (by omega) (by omega), w (gi xs 0 + 256 * gi xs 1 + 65536 * gi xs 2 + 16777216 * gi xs 3) (by omega) (by omega), w (gi xs 4 + 256 * gi xs 5) (by omega) (by omega)]
  rw [show gi xs 0 + 256 * gi xs 1 + 65536 * gi xs 2 + 16777216 * gi xs 3 = rdN xs from rfl, show gi xs 4 + 256 * gi xs 5 = rdL xs from rfl]
  have hL : 0 ≤ rdL xs := by unfold rdL; omega
  have hN : 0 ≤ rdN xs ∧ rdN xs < 4294967296 := by unfold rdN; omega
  by_cases hbad : rdL xs > 244
  · rw [if_pos hbad, M.tidepoleref03_First_l0]; try dsimp only
    rw [if_pos rfl, firstF, if_neg (by unfold firstOk; omega)]
  rw [if_neg hbad, if_pos (by omega)]
  by_cases hb2 : gi xs 6 > 3
  · rw [decide_eq_true hb2, M.tidepoleref03_First_l0]; try dsimp only
    rw [if_pos rfl, firstF, if_neg (by unfold firstOk; omega)]
  rw [decide_eq_false hb2, M.tidepoleref03_First_l0]; try dsimp only
  have e1 : sl xs 7 (7 + rdL xs) = rdB xs := by
    have := sl_mid xs 7 (7 + (rdL xs).toNat)
    rw [show ((7 + (rdL xs).toNat : Nat) : Int) = 7 + rdL xs by omega] at this
    rw [show sl xs 7 (7 + rdL xs) = _ from this, rdB]
    congr 1
    omega
  have hB : (rdB xs).length ≤ 244 := by unfold rdB; simp; omega
  have hs := rsector_eq (rdN xs).toNat (by omega) (rdB xs) (gi xs 6) (by omega) hB
  rw [Int.toNat_of_nonneg hN.1] at hs
  rw [if_neg (by decide), wr_i64 (x := 7 + rdL xs) (by omega) (by omega), if_pos (by omega), if_pos (by omega), if_pos (by omega), w (gi xs 6) (by omega) (by omega), e1, hs]; simp only [Option.bind_eq_bind, Option.bind_some]
  have hr : ∀ k : Nat, k = 256 → M.tidepoleref03_First_l1 (xs, rdN xs, rdL xs, sec (rdN xs).toNat (rdB xs) (gi xs 6), 0) = _ := fun k hk => rfirst_l1 xs (sec (rdN xs).toNat (rdB xs) (gi xs 6)) (rdN xs) (rdL xs) (sec_len _ _ _ hB) (by omega) hl ⟨hL, by omega⟩ ⟨f0, f1⟩ k 0 (by omega)
  rw [e1] at hr
  have h256 : (256 : Nat) = 256 := rfl
  have hr2 := hr 256 h256
  rewrite [hr2]
  unfold firstF
  rewrite [List.drop_zero]
  rewrite [List.drop_zero]
  refine congrArg some ?_
  by_cases hq : sec (rdN xs).toNat (rdB xs) (gi xs 6) = xs.take 256
  · rw [if_pos hq, if_pos ⟨by omega, by omega, by omega, hq⟩]
  · rw [if_neg hq, if_neg (fun h => hq h.2.2.2)]
theorem firstF_short (xs : List Int) (h : xs.length < 256) : firstF xs = (0, [], 0, 30) := by rw [firstF, if_neg (by unfold firstOk; omega)]
theorem firstF_sec (n : Nat) (hn : n < 4294967296) (p : List Int) (fl : Int) (hp : p.length ≤ 244) (hf : fl ≤ 3) (rest : List Int) : firstF (sec n p fl ++ rest) = ((n : Int), p, fl, 0) := by
  have hx : sec n p fl ++ rest = hd n p.length fl ++ (p ++ (List.replicate (244 - p.length) 0 ++ ((le4 (crcS (body n p fl)) ++ [255]) ++ rest))) := by
    rw [sec, body]; simp only [List.append_assoc]
  have hN : rdN (sec n p fl ++ rest) = (n : Int) := by
    rw [hx]
    generalize p ++ (List.replicate (244 - p.length) 0 ++ ((le4 (crcS (body n p fl)) ++ [255]) ++ rest)) = w
    have : rdN (hd n p.length fl ++ w) = ((n % 256 : Nat) : Int) + 256 * ((n / 256 % 256 : Nat) : Int) + 65536 * ((n / 65536 % 256 : Nat) : Int) + 16777216 * ((n / 16777216 % 256 : Nat) : Int) := rfl
    rw [this]; omega
  have hL : rdL (sec n p fl ++ rest) = (p.length : Int) := by
    rw [hx]
    generalize p ++ (List.replicate (244 - p.length) 0 ++ ((le4 (crcS (body n p fl)) ++ [255]) ++ rest)) = w
    have : rdL (hd n p.length fl ++ w) = ((p.length % 256 : Nat) : Int) + 256 * ((p.length / 256 % 256 : Nat) : Int) := rfl
    rw [this]; omega
  have h6 : gi (sec n p fl ++ rest) 6 = fl := by rw [hx]; rfl
  have hB : rdB (sec n p fl ++ rest) = p := by
    rw [rdB, hL, hx, Int.toNat_natCast]
    rw [List.drop_left' (show (hd n p.length fl).length = 7 from rfl), List.take_left' rfl]
  have hl := sec_len n p fl hp
  rw [firstF, if_pos ⟨by simp [hl], by omega, by omega, by rw [hN, hB, h6, List.take_left' hl, Int.toNat_natCast]⟩, hN, hB, h6]

/-! ### Read -/
abbrev St := List (List Int) × List Int × Int × Bool
def rdP : Nat → List (List Int × Int) → St → St
  | _, [], s => s
  | i, q :: t, s => rdP (i + 1) t (if q.2 < 2 then (s.1, s.2.1 ++ q.1, s.2.2.1, true) else (s.1 ++ [s.2.1 ++ q.1], [], (i : Int) + 1, false))
theorem read_r (recs : List (List Int)) (cur : List Int) (cnt : Int) (mid : Bool) (e5 : List Int) (e6 : Int) (i : Nat) (q : List Int × Int) (h1 : recs.length ≤ 1000000) (h2 : cur.length ≤ 1000000) (hi : i ≤ 1000000)
    (hq : q.1.length ≤ 244 ∧ (q.2 = 0 ∨ q.2 = 1 ∨ q.2 = 2 ∨ q.2 = 3) ∧ (q.2 % 2 = if mid then 0 else 1) ∧ (q.2 < 2 → q.1.length = 244)) :
    M.frame_Read_r recs cur cnt mid e5 e6 (i : Int) ⟨q.1, q.2⟩ = some (0, (if q.2 < 2 then (recs, cur ++ q.1, cnt, true, e5, e6) else (recs ++ [cur ++ q.1], [], (i : Int) + 1, false, e5, e6))) := by
  obtain ⟨b, f⟩ := q
  obtain ⟨hb, hf, hm, h244⟩ := hq
  dsimp only at hb hf hm h244 ⊢
  have a1 : iand .i64 f 1 = f % 2 := by rcases hf with rfl | rfl | rfl | rfl <;> rfl
  have a2 : iand .i64 f 2 = 0 ↔ f < 2 := by rcases hf with rfl | rfl | rfl | rfl <;> decide
  have fin : M.frame_Read_r_l0 ((i : Int), ⟨b, f⟩, false, recs, cur, cnt, mid, e5, e6) = some (0, (if f < 2 then (recs, cur ++ b, cnt, true, e5, e6) else (recs ++ [cur ++ b], [], (i : Int) + 1, false, e5, e6))) := by
    rw [M.frame_Read_r_l0]; try dsimp only
    rw [if_neg (by decide), if_pos (by simp; omega)]
    by_cases h : f < 2
    · rw [if_pos (a2.2 h), if_pos h]
    · rw [if_neg (fun x => h (a2.1 x)), if_neg h, if_pos (by simp; omega), wr_i64 (by omega) (by omega)]
  rw [M.frame_Read_r]
  dsimp only
  have hne : ¬ (((!(decide (iand .i64 f 1 = 0))) == mid) = true) := by
    rw [a1, hm]
    cases mid <;> decide
  rw [if_neg hne]
  by_cases h3 : (b.length : Int) < 244
  · rw [if_pos h3, decide_eq_false (by rw [a2]; intro h; have := h244 h; omega)]
    exact fin
  · rw [if_neg h3]
    exact fin
theorem stop_l0 (n i : Nat) (recs cur cnt mid) (bytes tail : List Int) (hd : bytes.drop (256 * i) = tail) (hi : 256 * i ≤ bytes.length) (hl : bytes.length ≤ 1000000) (hok : okSl (okInt .u8) bytes) (hn : n ≤ 4294967296)
    (hs : (firstF tail).2.2.2 ≠ 0 ∨ (firstF tail).1 ≠ ((n + i : Nat) : Int)) :
    M.frame_sectors_1_l0 ((i : Int), recs, cur, cnt, mid, bytes, (n : Int)) = some (0, recs, cur, cnt, mid, bytes, (n : Int)) := by
  have ht : tail.length ≤ 1000000 := by rw [← hd]; simp; omega
  have hoks : okSl (okInt .u8) tail := by rw [← hd]; exact fun x hx => hok x (List.mem_of_mem_drop hx)
  have e1 : imn (bytes.length : Int) (wr .i64 ((i : Int) * 256)) = ((256 * i : Nat) : Int) := by
    rw [wr_i64 (by omega) (by omega)]; unfold imn; split <;> omega
  rw [M.frame_sectors_1_l0]; try dsimp only
  rw [e1, if_pos (by omega), if_pos (by omega), sl_drop, hd]; simp only [Option.bind_eq_bind, Option.bind_some]
  rw [first_eq tail (by omega) hoks, Option.bind_some, wr_i64 (by omega) (by omega)]
  have fin : M.frame_sectors_1_l1 ((i : Int), true, recs, cur, cnt, mid, bytes, (n : Int)) = some (0, recs, cur, cnt, mid, bytes, (n : Int)) := by
    rw [M.frame_sectors_1_l1]; try dsimp only
    rw [if_pos rfl]
  by_cases h : (firstF tail).2.2.2 = 0
  · rw [if_pos h, if_neg (by rcases hs with h' | h' <;> omega), fin]
  · rw [if_neg h, fin]
theorem read_l0 (n : Nat) (bytes tail : List Int) (hl : bytes.length ≤ 1000000) (hok : okSl (okInt .u8) bytes) (hn : n ≤ 4000000000) :
    ∀ (P : List (List Int × Int)) (mid : Bool) (i : Nat) (recs : List (List Int)) (cur : List Int) (cnt : Int), wf mid P → bytes.drop (256 * i) = secs (n + i) P ++ tail → 256 * i ≤ bytes.length → recs.length ≤ i → cur.length ≤ 244 * i →
      (firstF tail).2.2.2 ≠ 0 ∨ (firstF tail).1 ≠ ((n + i + P.length : Nat) : Int) →
      M.frame_sectors_1_l0 ((i : Int), recs, cur, cnt, mid, bytes, (n : Int)) = some (0, (rdP i P (recs, cur, cnt, mid)).1, (rdP i P (recs, cur, cnt, mid)).2.1, (rdP i P (recs, cur, cnt, mid)).2.2.1, (rdP i P (recs, cur, cnt, mid)).2.2.2, bytes, (n : Int))
  | [], mid, i, recs, cur, cnt, _, hd, hi, h1, h2, hs => by
    rw [stop_l0 n i recs cur cnt mid bytes tail (by rw [hd]; rfl) hi hl hok (by omega) (by simpa using hs)]
    rfl
  | q :: t, mid, i, recs, cur, cnt, hw, hd, hi, h1, h2, hs => by
    have hsq := sec_len (n + i) q.1 q.2 hw.1
    have hlen : (bytes.drop (256 * i)).length = 256 + (secs (n + i + 1) t).length + tail.length := by rw [hd, secs]; simp [hsq]; omega
    rw [List.length_drop] at hlen
    have hoks : okSl (okInt .u8) (bytes.drop (256 * i)) := fun x hx => hok x (List.mem_of_mem_drop hx)
    have e1 : imn (bytes.length : Int) (wr .i64 ((i : Int) * 256)) = ((256 * i : Nat) : Int) := by
      rw [wr_i64 (by omega) (by omega)]; unfold imn; split <;> omega
    have hfl : q.2 ≤ 3 := by rcases hw.2.1 with h | h | h | h <;> omega
    have hF : firstF (bytes.drop (256 * i)) = (((n + i : Nat) : Int), q.1, q.2, 0) := by
      rw [hd, secs, List.append_assoc]
      exact firstF_sec (n + i) (by omega) q.1 q.2 hw.1 hfl _
    rw [M.frame_sectors_1_l0]; try dsimp only
    rw [e1, if_pos (by omega), if_pos (by omega), sl_drop]; simp only [Option.bind_eq_bind, Option.bind_some]
    rw [first_eq _ (by rw [List.length_drop]; omega) hoks, Option.bind_some, hF]
    dsimp only
    rw [if_pos rfl, wr_i64 (x := (n : Int) + i) (by omega) (by omega), if_pos (by omega)]
    rw [read_r recs cur cnt mid bytes (n : Int) i q (by omega) (by omega) (by omega) ⟨hw.1, hw.2.1, hw.2.2.1, hw.2.2.2.1⟩, Option.bind_some]
    dsimp only
    rw [if_pos rfl]
    have hd' : bytes.drop (256 * (i + 1)) = secs (n + (i + 1)) t ++ tail := by
      rw [show 256 * (i + 1) = 256 * i + 256 by omega, ← List.drop_drop, hd, secs, List.append_assoc, List.drop_left' hsq]
      rfl
    have hrec := fun recs cur cnt h1 h2 => read_l0 n bytes tail hl hok hn t (decide (q.2 < 2)) (i + 1) recs cur cnt hw.2.2.2.2 hd' (by omega) h1 h2 (by
      rw [show n + (i + 1) + t.length = n + i + (t.length + 1) by omega]
      rw [List.length_cons] at hs; exact hs)
    have hq1 := hw.1
    by_cases h : q.2 < 2
    · rw [if_pos h, M.frame_sectors_1_l1]; try dsimp only
      rw [if_neg (by decide), wr_i64 (x := (i : Int) + 1) (by omega) (by omega), show (i : Int) + 1 = ((i + 1 : Nat) : Int) by omega]
      have := hrec recs (cur ++ q.1) cnt (by omega) (by simp; omega)
      rw [decide_eq_true h] at this
      rw [this]
      simp only [rdP, if_pos h]
    · rw [if_neg h, M.frame_sectors_1_l1]; try dsimp only
      rw [if_neg (by decide), wr_i64 (x := (i : Int) + 1) (by omega) (by omega)]
      have := hrec (recs ++ [cur ++ q.1]) [] ((i : Int) + 1) (by simp; omega) (by simp)
      rw [decide_eq_false h] at this
      rw [show (((i + 1 : Nat) : Nat) : Int) = (i : Int) + 1 by omega] at this
      rw [this]
      simp only [rdP, if_neg h]
theorem read_eq (n : Nat) (tail : List Int) (P : List (List Int × Int)) (hl : (secs n P ++ tail).length ≤ 1000000) (hok : okSl (okInt .u8) (secs n P ++ tail)) (hn : n ≤ 4000000000) (hw : wf false P)
    (hs : (firstF tail).2.2.2 ≠ 0 ∨ (firstF tail).1 ≠ ((n + P.length : Nat) : Int)) :
    M.frame_Read (n : Int) (secs n P ++ tail) = some ((rdP 0 P ([], [], 0, false)).1, (rdP 0 P ([], [], 0, false)).2.2.1, 0) := by
  rw [M.frame_Read, if_neg (by omega), decide_eq_false (by omega), M.frame_Read_l0]; try dsimp only
  rw [if_neg (by decide), M.frame_sectors]; simp only [Option.bind_eq_bind, Option.bind_some]
  have := read_l0 n _ tail hl hok hn P false 0 [] [] 0 hw (by rfl) (by omega) (by simp) (by simp) hs
  rw [M.frame_sectors_1]
  rw [show ((0 : Nat) : Int) = 0 from rfl] at this
  rw [this, Option.bind_some]
  dsimp only
  rw [if_pos rfl]
end Go.Proofs.Ytbmbligkbbfpbaa
