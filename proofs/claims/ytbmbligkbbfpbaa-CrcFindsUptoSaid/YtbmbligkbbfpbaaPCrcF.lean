/-
  A burst of errors, of at most 32 bits, is found.
-/
import Derived.Test.YtbmbligkbbfpbaaPCrc
set_option linter.unusedVariables false
namespace Go.Proofs.Ytbmbligkbbfpbaa
open Go.Gx

theorem byte_mk {x : Int} (h0 : 0 ≤ x) (h1 : x ≤ 255) : okInt .u8 x := by
  simp only [okInt, Lit.wf, IntKind.min, IntKind.max, IntKind.signed, IntKind.bits]
  simp
  omega
theorem S_eq (a : W32) : S a = (a >>> 1) ^^^ (if a.getLsbD 0 then PP else 0#32) := by
  unfold S
  have : a.getLsbD 0 = decide (a.toNat % 2 = 1) := by
    rw [BitVec.getLsbD, Nat.testBit_zero]
  rw [this]
  by_cases h : a.toNat % 2 = 1
  · simp [h]
  · simp [h]
theorem xlc (a b c : W32) : a ^^^ (b ^^^ c) = b ^^^ (a ^^^ c) := by rw [← BitVec.xor_assoc, BitVec.xor_comm a, BitVec.xor_assoc]
theorem xss (a b : W32) : a ^^^ (a ^^^ b) = b := by rw [← BitVec.xor_assoc]; simp
theorem S_xor (a b : W32) : S (a ^^^ b) = S a ^^^ S b := by
  simp only [S_eq, BitVec.ushiftRight_xor_distrib, BitVec.getLsbD_xor]
  cases a.getLsbD 0 <;> cases b.getLsbD 0 <;> simp only [Bool.xor_false, Bool.xor_true, Bool.not_true, Bool.not_false, if_true, if_false, Bool.false_eq_true, BitVec.xor_zero]
  · rw [BitVec.xor_assoc]
  · rw [BitVec.xor_assoc, BitVec.xor_assoc, BitVec.xor_comm (b >>> 1)]
  · rw [BitVec.xor_assoc, BitVec.xor_comm (b >>> 1) PP, xss]
theorem S_zero {a : W32} (h : S a = 0#32) : a = 0#32 := by
  unfold S at h
  have hlt := a.isLt
  split at h
  · have h1 : a >>> 1 = PP := by
      have := congrArg (· ^^^ PP) h
      simpa [BitVec.xor_assoc] using this
    have h2 := congrArg BitVec.toNat h1
    simp only [BitVec.toNat_ushiftRight, Nat.shiftRight_eq_div_pow] at h2
    have h3 : PP.toNat = 2197175160 := rfl
    rw [h3] at h2
    omega
  · rename_i h0
    have h2 := congrArg BitVec.toNat h
    simp only [BitVec.toNat_ushiftRight, Nat.shiftRight_eq_div_pow] at h2
    apply BitVec.eq_of_toNat_eq
    have h3 : (0#32 : W32).toNat = 0 := rfl
    rw [h3] at h2 ⊢
    omega
theorem it_xor (n : Nat) : ∀ a b : W32, it n (a ^^^ b) = it n a ^^^ it n b := by
  induction n with
  | zero => intro a b; rfl
  | succ n ih => intro a b; simp only [it, S_xor, ih]
theorem it_zero (n : Nat) : it n 0#32 = 0#32 := by
  induction n with
  | zero => rfl
  | succ n ih => simp only [it]; rw [show S 0#32 = 0#32 by decide, ih]
theorem it_inj (n : Nat) : ∀ {a : W32}, it n a = 0#32 → a = 0#32 := by
  induction n with
  | zero => intro a h; exact h
  | succ n ih => intro a h; exact S_zero (ih h)
theorem it_add (m n : Nat) : ∀ a : W32, it (m + n) a = it n (it m a) := by
  induction m with
  | zero => intro a; rw [Nat.zero_add]; rfl
  | succ m ih => intro a; rw [show m + 1 + n = (m + n) + 1 by omega]; simp only [it]; exact ih _
theorem S_even {a : W32} (h : a.toNat % 2 = 0) : S a = a >>> 1 := by
  unfold S
  rw [if_neg (by omega)]
theorem byt_xor (s d : W32) (b : Int) : byt (s ^^^ d) b = byt s b ^^^ it 8 d := by
  unfold byt
  rw [show s ^^^ d ^^^ BitVec.ofInt 32 b = (s ^^^ BitVec.ofInt 32 b) ^^^ d by simp [BitVec.xor_assoc, BitVec.xor_comm d], it_xor]
theorem crcF_xor (xs : List Int) : ∀ s d : W32, crcF (s ^^^ d) xs = crcF s xs ^^^ it (8 * xs.length) d := by
  induction xs with
  | nil => intro s d; rfl
  | cons x xs ih =>
    intro s d
    simp only [crcF, List.foldl_cons] at ih ⊢
    rw [byt_xor, ih, List.length_cons, show 8 * (xs.length + 1) = 8 + 8 * xs.length by omega, it_add]
theorem xor_byte {b : Int} (h0 : 0 ≤ b) (h1 : b ≤ 255) (m : Nat) (hm : m ≤ 7) :
    BitVec.ofInt 32 (ixor .u8 b (ishl .u8 1 (m : Int))) = BitVec.ofInt 32 b ^^^ BitVec.ofNat 32 (2 ^ m) ∧ 0 ≤ ixor .u8 b (ishl .u8 1 (m : Int)) ∧ ixor .u8 b (ishl .u8 1 (m : Int)) ≤ 255 := by
  obtain ⟨c, rfl⟩ := Int.eq_ofNat_of_zero_le h0
  have hp : 2 ^ m ≤ 2 ^ 7 := Nat.pow_le_pow_right (by omega) hm
  have e1 : ishl .u8 1 (m : Int) = ((2 ^ m : Nat) : Int) := by
    simp only [ishl, IntKind.bits, Int.toNat_natCast, Nat.min_eq_left (show m ≤ 8 by omega), Int.one_mul]
    rw [show (2 : Int) ^ m = ((2 ^ m : Nat) : Int) by simp]
    generalize 2 ^ m = q at hp
    exact wr_u8 (x := ((q : Nat) : Int)) (by omega) (by omega)
  have hx : c ^^^ 2 ^ m < 2 ^ 8 := Nat.xor_lt_two_pow (by omega) (by omega)
  have e2 : ixor .u8 ((c : Nat) : Int) ((2 ^ m : Nat) : Int) = ((c ^^^ 2 ^ m : Nat) : Int) := by
    simp only [ixor]
    have a3 : (BitVec.ofInt IntKind.u8.bits ((c : Nat) : Int) ^^^ BitVec.ofInt IntKind.u8.bits ((2 ^ m : Nat) : Int)).toNat = c ^^^ 2 ^ m := by
      rw [BitVec.toNat_xor, BitVec.toNat_ofInt, BitVec.toNat_ofInt]
      have a1 : (((c : Nat) : Int) % ((2 ^ IntKind.u8.bits : Nat) : Int)).toNat = c := by simp only [IntKind.bits]; omega
      have a2 : (((2 ^ m : Nat) : Int) % ((2 ^ IntKind.u8.bits : Nat) : Int)).toNat = 2 ^ m := by
        generalize 2 ^ m = q at hp
        simp only [IntKind.bits]
        omega
      rw [a1, a2]
    rw [a3]
    exact wr_u8 (by omega) (by omega)
  rw [e1, e2]
  refine ⟨?_, by omega, by omega⟩
  apply BitVec.eq_of_toNat_eq
  rw [BitVec.toNat_xor, BitVec.toNat_ofInt, BitVec.toNat_ofInt, BitVec.toNat_ofNat]
  have a1 : (((c : Nat) : Int) % ((2 ^ 32 : Nat) : Int)).toNat = c := by omega
  have a2 : (((c ^^^ 2 ^ m : Nat) : Int) % ((2 ^ 32 : Nat) : Int)).toNat = c ^^^ 2 ^ m := by omega
  rw [a1, a2, Nat.mod_eq_of_lt (show 2 ^ m < 2 ^ 32 by omega)]
theorem it_pow (m : Nat) : ∀ n, m ≤ 7 → it (m + n) (BitVec.ofNat 32 (2 ^ m)) = it n 1#32 := by
  induction m with
  | zero => intro n _; rw [Nat.zero_add]
  | succ m ih =>
    intro n hm
    rw [show m + 1 + n = (m + n) + 1 by omega]
    simp only [it]
    have hp : 2 ^ (m + 1) ≤ 2 ^ 7 := Nat.pow_le_pow_right (by omega) (by omega)
    have e : (BitVec.ofNat 32 (2 ^ (m + 1))).toNat = 2 ^ (m + 1) := by rw [BitVec.toNat_ofNat]; exact Nat.mod_eq_of_lt (by omega)
    rw [S_even (by rw [e, Nat.pow_succ]; omega)]
    have e2 : BitVec.ofNat 32 (2 ^ (m + 1)) >>> 1 = BitVec.ofNat 32 (2 ^ m) := by
      apply BitVec.eq_of_toNat_eq
      rw [BitVec.toNat_ushiftRight, e, Nat.shiftRight_eq_div_pow, BitVec.toNat_ofNat, Nat.pow_succ]
      rw [Nat.mod_eq_of_lt (by rw [Nat.pow_succ] at hp; omega)]
      omega
    rw [e2]
    exact ih n (by omega)
theorem crcF_set (xs : List Int) : ∀ (s : W32) (j m : Nat), j < xs.length → m ≤ 7 → (0 ≤ gi xs (j : Int) ∧ gi xs (j : Int) ≤ 255) →
    crcF s (si xs (j : Int) (ixor .u8 (gi xs (j : Int)) (ishl .u8 1 (m : Int)))) = crcF s xs ^^^ it (8 * xs.length - (8 * j + m)) 1#32 := by
  induction xs with
  | nil => intro s j m hj; simp at hj
  | cons x xs ih =>
    intro s j m hj hm hb
    cases j with
    | zero =>
      have e : gi (x :: xs) ((0 : Nat) : Int) = x := rfl
      rw [e] at hb ⊢
      obtain ⟨hx, -, -⟩ := xor_byte hb.1 hb.2 m hm
      simp only [si, Int.toNat_natCast, List.set_cons_zero, crcF, List.foldl_cons, byt, hx]
      have := crcF_xor xs (it 8 (s ^^^ BitVec.ofInt 32 x)) (it 8 (BitVec.ofNat 32 (2 ^ m)))
      rw [← BitVec.xor_assoc, it_xor]
      simp only [crcF] at this
      rw [this, ← it_add, List.length_cons]
      congr 1
      have h2 := it_pow m (8 * (xs.length + 1) - (8 * 0 + m)) hm
      rw [← h2]
      congr 1
      omega
    | succ j =>
      have e : gi (x :: xs) ((j + 1 : Nat) : Int) = gi xs (j : Int) := by
        simp only [gi, Int.toNat_natCast, List.getD_cons_succ]
      rw [e] at hb ⊢
      have := ih (byt s x) j m (by simpa using hj) hm hb
      simp only [si, Int.toNat_natCast, List.set_cons_succ, crcF, List.foldl_cons] at this ⊢
      rw [this, List.length_cons]
      congr 2
      omega
theorem quo8 (k : Nat) (hk : k < 1000000) : iquo .i64 ((k : Nat) : Int) 8 = ((k / 8 : Nat) : Int) := by
  simp only [iquo]
  rw [Int.tdiv_eq_ediv_of_nonneg (Int.natCast_nonneg _)]
  have := wr_i64 (x := ((k : Nat) : Int) / 8) (by omega) (by omega)
  simp only [wr] at this
  rw [this]
  omega
theorem rem8 (k : Nat) : wr .u64 (irem .i64 ((k : Nat) : Int) 8) = ((k % 8 : Nat) : Int) := by
  simp only [irem]
  rw [Int.tmod_eq_emod_of_nonneg (Int.natCast_nonneg _)]
  simp only [wr, IntKind.wrap, IntKind.signed, IntKind.bits]
  simp
  omega
theorem finds_l1 (x0 : List Int) (hx0 : x0.length ≤ 300) (p : Nat) (n : Nat) (hn : n ≤ 300) (hpn : p + 32 ≤ 8 * n) (k : Nat) : ∀ (i : Nat) (w : W32) (xs : List Int), i + k = 32 → xs.length = n → okSl (okInt .u8) xs → w.toNat < 2 ^ k →
    ∃ ys, M.tidepolelaw02_CrcFinds_l1 (x0, (p : Int), u w, xs, (i : Int)) = some (!(decide (u (crcS ys) = u (crcS x0)))) ∧ crcF ones ys = crcF ones xs ^^^ it (8 * n - (p + i)) w := by
  induction k with
  | zero =>
    intro i w xs hi hl hok hw
    have hw0 : w = 0#32 := BitVec.eq_of_toNat_eq (by simp at hw; simp [hw])
    refine ⟨xs, ?_, by rw [hw0, it_zero]; simp⟩
    rw [M.tidepolelaw02_CrcFinds_l1]
    try dsimp only
    rw [if_neg (by omega), crc_Sum xs (by omega), crc_Sum x0 (by omega)]
    rfl
  | succ k ih =>
    intro i w xs hi hl hok hw
    have hlt := w.isLt
    have e1 : irem .u32 (u w) 2 = ((w.toNat % 2 : Nat) : Int) := irem_u w 2
    have e2 : iquo .u32 (u w) 2 = u (w >>> 1) := iquo_u w 1 (by omega)
    have hw' : (w >>> 1).toNat < 2 ^ k := by
      rw [BitVec.toNat_ushiftRight, Nat.shiftRight_eq_div_pow]
      rw [Nat.pow_succ] at hw
      omega
    have go : ∀ zs : List Int, zs.length = n → okSl (okInt .u8) zs → ∃ ys, M.tidepolelaw02_CrcFinds_l2 (x0, (p : Int), u w, zs, (i : Int)) = some (!(decide (u (crcS ys) = u (crcS x0)))) ∧ crcF ones ys = crcF ones zs ^^^ it (8 * n - (p + (i + 1))) (w >>> 1) := by
      intro zs hz hokz
      rw [M.tidepolelaw02_CrcFinds_l2]
      try dsimp only
      rw [e2, wr_i64 (by omega) (by omega)]
      exact ih (i + 1) (w >>> 1) zs (by omega) hz hokz hw'
    rw [M.tidepolelaw02_CrcFinds_l1]
    try dsimp only
    rw [if_pos (by omega), e1]
    by_cases hodd : w.toNat % 2 = 1
    · rw [if_pos (by omega)]
      have e3 : wr .i64 ((p : Int) + (i : Int)) = ((p + i : Nat) : Int) := by rw [wr_i64 (by omega) (by omega)]; omega
      rw [e3, quo8 _ (by omega), rem8, if_pos (by omega), if_pos (by omega), if_pos (by omega)]
      have hb := gi_ok hok (((p + i) / 8 : Nat) : Int)
      have hset := crcF_set xs ones ((p + i) / 8) ((p + i) % 8) (by omega) (by omega) hb
      obtain ⟨-, hx0', hx1'⟩ := xor_byte hb.1 hb.2 ((p + i) % 8) (by omega)
      generalize hnew : si xs (((p + i) / 8 : Nat) : Int) (ixor .u8 (gi xs (((p + i) / 8 : Nat) : Int)) (ishl .u8 1 (((p + i) % 8 : Nat) : Int))) = zs at hset
      have hzl : zs.length = n := by rw [← hnew]; simp [si, hl]
      have hzok : okSl (okInt .u8) zs := by
        rw [← hnew]
        intro b hbm
        simp only [si] at hbm
        rcases List.mem_or_eq_of_mem_set hbm with h | h
        · exact hok b h
        · subst h
          exact byte_mk hx0' hx1'
      obtain ⟨ys, h1, h2⟩ := go zs hzl hzok
      refine ⟨ys, h1, ?_⟩
      rw [h2, hset, hl, BitVec.xor_assoc]
      congr 1
      rw [show 8 * n - (8 * ((p + i) / 8) + (p + i) % 8) = (8 * n - (p + (i + 1))) + 1 by omega, show 8 * n - (p + i) = (8 * n - (p + (i + 1))) + 1 by omega]
      generalize 8 * n - (p + (i + 1)) = r
      have hw1 : w = 1#32 ^^^ (w ^^^ 1#32) := by
        rw [BitVec.xor_comm w, ← BitVec.xor_assoc]; simp
      have hev : (w ^^^ 1#32).toNat % 2 = 0 := by
        have : (w ^^^ 1#32).getLsbD 0 = false := by
          rw [BitVec.getLsbD_xor]
          have : w.getLsbD 0 = true := by rw [BitVec.getLsbD, Nat.testBit_zero]; simpa using hodd
          rw [this]; rfl
        rw [BitVec.getLsbD, Nat.testBit_zero] at this
        have := of_decide_eq_false this
        omega
      have hsh : (w ^^^ 1#32) >>> 1 = w >>> 1 := by
        rw [BitVec.ushiftRight_xor_distrib]
        simp
      conv => rhs; rw [hw1]
      rw [it_xor]
      congr 1
      rw [show it (r + 1) (w ^^^ 1#32) = it r (S (w ^^^ 1#32)) from rfl, S_even hev, hsh]
    · rw [if_neg (by omega)]
      obtain ⟨ys, h1, h2⟩ := go xs hl hok
      refine ⟨ys, h1, ?_⟩
      rw [h2, show 8 * n - (p + i) = (8 * n - (p + (i + 1))) + 1 by omega]
      congr 1
      rw [show it (8 * n - (p + (i + 1)) + 1) w = it (8 * n - (p + (i + 1))) (S w) from rfl, S_even (by omega)]
theorem among_eq (x : Int) (n : Nat) (hn : 1 ≤ n) (hn2 : n < 1000000) : ∃ p : Nat, M.tidepolebase_Among x (n : Int) = some (p : Int) ∧ p < n := by
  have e1 : wr .u64 ((n : Nat) : Int) = ((n : Nat) : Int) := by
    simp only [wr, IntKind.wrap, IntKind.signed, IntKind.bits]; simp; omega
  have e2 : ∃ q : Nat, wr .u64 x = ((q : Nat) : Int) := by
    refine ⟨(wr .u64 x).toNat, ?_⟩
    rw [Int.toNat_of_nonneg]
    simp only [wr, IntKind.wrap, IntKind.signed, IntKind.bits]
    simp
    omega
  obtain ⟨q, hq⟩ := e2
  have hlt : q % n < n := Nat.mod_lt _ hn
  refine ⟨q % n, ?_, hlt⟩
  rw [M.tidepolebase_Among, if_neg (by omega), e1, hq, if_pos (by omega)]
  simp only [irem]
  rw [Int.tmod_eq_emod_of_nonneg (Int.natCast_nonneg _), ← Int.natCast_emod, wr_i64 (by omega) (by omega)]
theorem pureCrcFinds (x0 : List Int) (x1 : Int) (x2 : Int) (o0 : (okSl (okInt .u8)) x0) (o1 : (okInt .i64) x1) (o2 : (okInt .u32) x2) (hb : (bkSl (fun _ => 1)) x0 + 1 + 1 ≤ 1048576) : M.tidepolelaw02_CrcFinds x0 x1 x2 = some true := by
  rw [bk_len] at hb
  obtain ⟨ys, hs, hl, hok⟩ := short_eq x0 (by omega)
  have hokys := hok o0
  have e2 := u_of o2
  generalize BitVec.ofInt 32 x2 = c at e2
  subst e2
  simp only [M.tidepolelaw02_CrcFinds, works_eq, hs, Option.bind_eq_bind, Option.bind_some, if_true]
  by_cases h5 : ys.length < 5
  · rw [if_pos (by omega), M.tidepolelaw02_CrcFinds_l0]
    simp
  · rw [if_neg (by omega), M.tidepolelaw02_CrcFinds_l0]
    try dsimp only
    by_cases hc : c = 0#32
    · rw [if_pos (by rw [hc]; rfl)]
    · have hc' : ¬ u c = 0 := fun h => hc (u_inj.1 (h.trans (show (0 : Int) = u 0#32 from rfl)))
      rw [if_neg (by simpa using hc'), bytes_eq ys (by omega), wr_i64 (x := (ys.length : Int) - 4) (by omega) (by omega), wr_i64 (by omega) (by omega)]
      obtain ⟨p, hp, hpl⟩ := among_eq x1 (8 * (ys.length - 4)) (by omega) (by omega)
      rw [show 8 * ((ys.length : Int) - 4) = ((8 * (ys.length - 4) : Nat) : Int) by omega, hp]
      simp only [Option.bind_eq_bind, Option.bind_some]
      obtain ⟨zs, h1, h2⟩ := finds_l1 ys hl p ys.length hl (by omega) 32 0 c ys rfl rfl hokys c.isLt
      rw [show (0 : Int) = ((0 : Nat) : Int) from rfl, h1]
      have hne : crcS zs ≠ crcS ys := by
        intro h
        have h3 : crcF ones zs = crcF ones ys := by
          have := congrArg (· ^^^ ones) h
          simpa [crcS, BitVec.xor_assoc] using this
        rw [h2] at h3
        have h4 : it (8 * ys.length - (p + 0)) c = 0#32 := by
          have := congrArg (crcF ones ys ^^^ ·) h3
          simpa [← BitVec.xor_assoc] using this
        exact hc (it_inj _ h4)
      have : ¬ u (crcS zs) = u (crcS ys) := fun h => hne (u_inj.1 h)
      simp [this]
end Go.Proofs.Ytbmbligkbbfpbaa
