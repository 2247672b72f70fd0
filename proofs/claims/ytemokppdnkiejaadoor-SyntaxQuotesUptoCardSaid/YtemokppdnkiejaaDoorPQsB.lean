/-
  Quoting and reading any text of at most 256 bytes; the only text that a pattern of bytes means. Pure.
-/
import Derived.Test.YtemokppdnkiejaaDoorPQsA
set_option linter.unusedVariables false
set_option linter.unusedSimpArgs false
namespace Go.Proofs.YtemokppdnkiejaaDoor
open Go.Gx
theorem quote_ok (s : ByteArray) (hs : s.size ≤ 256) : M.syntax_Quote s = some (b2s ((s2b s).flatMap qb)) := by
  have hlen : (s2b s).length = s.size := by simp only [s2b, List.length_map, Array.length_toList]; rfl
  have hrange := s2b_range s
  -- one round's text
  have piece : ∀ b : Int, 0 ≤ b → b ≤ 255 → s2b ((⟨#[92, 120]⟩ : ByteArray) ++ (ss HEX (b / 16) (b / 16 + 1)) ++ (ss HEX (b % 16) (b % 16 + 1))) = [92, 120, hx (b / 16), hx (b % 16)] := by
    intro b h0 h1
    obtain ⟨a, ha⟩ := Int.eq_ofNat_of_zero_le (show 0 ≤ b / 16 by omega)
    obtain ⟨c, hc⟩ := Int.eq_ofNat_of_zero_le (show 0 ≤ b % 16 by omega)
    have p := (hex_at a (by omega)).1
    have q := (hex_at c (by omega)).1
    rw [ha, hc, show (a : Int) + 1 = ((a + 1 : Nat) : Int) by push_cast; rfl, show (c : Int) + 1 = ((c + 1 : Nat) : Int) by push_cast; rfl, s2b_app, s2b_app, p, q]
    rfl
  have round : ∀ (F : ByteArray × List Int × Int × Int → Option ByteArray) (WB : List Int → Int → Option (List Int)) (WS : List Int → ByteArray → Option (Int × List Int)) (K : List Int → Option ByteArray)
      (hWB : ∀ acc x, acc.length ≤ 4000 → WB acc x = some (acc ++ [x])) (hWS : ∀ acc x, acc.length ≤ 4000 → x.size ≤ 4 → WS acc x = some ((x.size : Int), acc ++ s2b x)) (pre R : List Int) (b : Int) (acc : List Int),
      s2b s = pre ++ b :: R → acc.length ≤ 4000 →
      (∀ i, i = (pre.length : Int) → (if i < (s.size : Int) then if 0 ≤ i then if i < (s.size : Int) then
        M.syntax_asIs (bt s i) >>= fun y37 => if y37 = true then WB acc (bt s i) >>= fun y40 => F (s, y40, (s.size : Int), wr .i64 (i + 1))
        else if 0 ≤ ishr .u8 (bt s i) 4 then if ishr .u8 (bt s i) 4 ≤ wr .u8 ((ishr .u8 (bt s i) 4) + 1) then if wr .u8 ((ishr .u8 (bt s i) 4) + 1) ≤ (HEX.size : Int) then
        if ((⟨#[92, 120]⟩ : ByteArray).size : Int) + ((ss HEX (ishr .u8 (bt s i) 4) (wr .u8 ((ishr .u8 (bt s i) 4) + 1))).size : Int) ≤ 1099511627776 then
        some ((⟨#[92, 120]⟩ : ByteArray) ++ (ss HEX (ishr .u8 (bt s i) 4) (wr .u8 ((ishr .u8 (bt s i) 4) + 1)))) >>= fun v50 =>
        if 0 ≤ iand .u8 (bt s i) 15 then if iand .u8 (bt s i) 15 ≤ wr .u8 ((iand .u8 (bt s i) 15) + 1) then if wr .u8 ((iand .u8 (bt s i) 15) + 1) ≤ (HEX.size : Int) then
        if (v50.size : Int) + ((ss HEX (iand .u8 (bt s i) 15) (wr .u8 ((iand .u8 (bt s i) 15) + 1))).size : Int) ≤ 1099511627776 then
        some (v50 ++ (ss HEX (iand .u8 (bt s i) 15) (wr .u8 ((iand .u8 (bt s i) 15) + 1)))) >>= fun v53 =>
        WS acc v53 >>= fun y55 => F (s, y55.2, (s.size : Int), wr .i64 (i + 1))
        else none else none else none else none else none else none else none else none else none else none else K acc) = F (s, acc ++ qb b, (s.size : Int), ((pre.length + 1 : Nat) : Int))) := by
    intro F WB WS K hWB hWS pre R b acc e ha i hi
    subst hi
    have hl2 : s.size = pre.length + (R.length + 1) := by rw [← hlen, e]; simp
    have hb := hrange b (by rw [e]; simp)
    have hbt : bt s (pre.length : Int) = b := by
      have : (U s s.size)[pre.length]'(by simp [U]; omega) = b := by
        simp only [U_s2b, e]
        simp
      rw [← this]
      simp [U]
    obtain ⟨n, hn⟩ := Int.eq_ofNat_of_zero_le hb.1
    have hsh := shr4 n (by omega)
    obtain ⟨a, ha'⟩ := Int.eq_ofNat_of_zero_le (show 0 ≤ b / 16 by omega)
    obtain ⟨c, hc'⟩ := Int.eq_ofNat_of_zero_le (show 0 ≤ b % 16 by omega)
    have ua := u8_small a (by omega)
    have uc := u8_small c (by omega)
    have za := (hex_at a (by omega)).2
    have zc := (hex_at c (by omega)).2
    have hp := piece b hb.1 hb.2
    rw [if_pos (by omega), if_pos (by omega), if_pos (by omega), hbt, asis_tot, bnd, wr_i64 (x := (pre.length : Int) + 1) (by omega) (by omega), show (pre.length : Int) + 1 = ((pre.length + 1 : Nat) : Int) by push_cast; rfl]
    unfold qb
    by_cases h : asB b = true
    · rw [if_pos h, if_pos h, hWB acc b ha, bnd]
    · rw [if_neg h, if_neg h]
      rw [← hn] at hsh
      rw [hsh.1, hsh.2]
      rw [ha', hc', show (a : Int) + 1 = ((a + 1 : Nat) : Int) by push_cast; rfl, show (c : Int) + 1 = ((c + 1 : Nat) : Int) by push_cast; rfl] at hp
      have ua2 := ua.2
      have uc2 := uc.2
      have hz : (HEX.size : Int) = 16 := rfl
      have hz2 : ((⟨#[92, 120]⟩ : ByteArray).size : Int) = 2 := rfl
      rw [ha', hc', ua2, uc2, hz, if_pos (by omega), if_pos (by omega), if_pos (by omega), hz2, za, if_pos (by omega), bnd, if_pos (by omega), if_pos (by omega), if_pos (by omega)]
      have z1 : ((⟨#[92, 120]⟩ : ByteArray) ++ (ss HEX (a : Int) ((a + 1 : Nat) : Int))).size = 3 := by
        rw [ByteArray.size_append, za]
        rfl
      rw [z1, zc, if_pos (by omega), bnd, hWS acc _ ha (by rw [ByteArray.size_append, z1, zc]; omega), bnd, hp]
  have WB1 : ∀ (acc : List Int) (x : Int), acc.length ≤ 4000 → M.strings_Builder_WriteByte acc x = some (acc ++ [x]) := by
    intro acc x h
    rw [M.strings_Builder_WriteByte, M.strings_Builder_copyCheck, bnd, if_pos (by simp; omega)]
  have WB2 : ∀ (acc : List Int) (x : Int), acc.length ≤ 4000 → M.strings_Builder_WriteByte_2 acc x = some (acc ++ [x]) := by
    intro acc x h
    rw [M.strings_Builder_WriteByte_2, M.strings_Builder_copyCheck_2, bnd, if_pos (by simp; omega)]
  have sl : ∀ x : ByteArray, (s2b x).length = x.size := by
    intro x
    simp only [s2b, List.length_map, Array.length_toList]
    rfl
  have WS1 : ∀ (acc : List Int) (x : ByteArray), acc.length ≤ 4000 → x.size ≤ 4 → M.strings_Builder_WriteString acc x = some ((x.size : Int), acc ++ s2b x) := by
    intro acc x h h2
    have := sl x
    rw [M.strings_Builder_WriteString, M.strings_Builder_copyCheck, bnd, if_pos (by simp only [List.length_append]; omega)]
  have WS2 : ∀ (acc : List Int) (x : ByteArray), acc.length ≤ 4000 → x.size ≤ 4 → M.strings_Builder_WriteString_2 acc x = some ((x.size : Int), acc ++ s2b x) := by
    intro acc x h h2
    have := sl x
    rw [M.strings_Builder_WriteString_2, M.strings_Builder_copyCheck_2, bnd, if_pos (by simp only [List.length_append]; omega)]
  have loop : ∀ (R pre : List Int), s2b s = pre ++ R → M.syntax_Quote_l1 (s, pre.flatMap qb, (s.size : Int), (pre.length : Int)) = some (b2s ((s2b s).flatMap qb)) := by
    intro R
    induction R with
    | nil =>
      intro pre e
      have hp : pre.length = s.size := by rw [← hlen, e]; simp
      have hq := qfl_len pre (fun x hx => hrange x (by rw [e]; simp [hx]))
      rw [M.syntax_Quote_l1]; try dsimp only
      rw [if_neg (by omega), M.strings_Builder_String_2, if_pos (by omega), bnd, e, List.append_nil]
    | cons b R ih =>
      intro pre e
      have hl2 : s.size = pre.length + (R.length + 1) := by rw [← hlen, e]; simp
      have hq := qfl_len pre (fun x hx => hrange x (by rw [e]; simp [hx]))
      have h := round M.syntax_Quote_l1 M.strings_Builder_WriteByte_2 M.strings_Builder_WriteString_2 (fun acc => M.strings_Builder_String_2 acc >>= fun y58 => some y58.1) WB2 WS2 pre R b (pre.flatMap qb) e (by omega) _ rfl
      have := ih (pre ++ [b]) (by rw [e]; simp)
      rw [List.flatMap_append, show ([b] : List Int).flatMap qb = qb b by simp, show (((pre ++ [b]).length : Nat) : Int) = ((pre.length + 1 : Nat) : Int) by simp] at this
      rw [← this, ← h]
      conv => lhs; rw [M.syntax_Quote_l1]
      rfl
  rw [M.syntax_Quote]
  cases hR : s2b s with
  | nil =>
    have h0 : s.size = 0 := by rw [← hlen, hR]; rfl
    rw [M.syntax_Quote_l0]; try dsimp only
    rw [if_neg (by omega), M.strings_Builder_String, if_pos (by simp), bnd]
    rfl
  | cons b R =>
    have h := round M.syntax_Quote_l1 M.strings_Builder_WriteByte M.strings_Builder_WriteString (fun acc => M.strings_Builder_String acc >>= fun y58 => some y58.1) WB1 WS1 [] R b [] hR (by simp) 0 rfl
    have := loop R [b] (by rw [hR]; rfl)
    rw [hR] at this
    rw [show ([b] : List Int).flatMap qb = qb b by simp] at this
    rw [← this]
    have h' : _ = M.syntax_Quote_l1 (s, qb b, (s.size : Int), 1) := h
    have h2 : M.syntax_Quote_l1 (s, qb b, (s.size : Int), (([b] : List Int).length : Int)) = M.syntax_Quote_l1 (s, qb b, (s.size : Int), 1) := rfl
    rw [h2, ← h']
    conv => lhs; rw [M.syntax_Quote_l0]
    rfl

theorem qfl_ge : ∀ l : List Int, (∀ b ∈ l, 0 ≤ b ∧ b ≤ 255) → l.length ≤ (l.flatMap qb).length
  | [], _ => by simp
  | b :: l, h => by
    have h1 := (qb_range (h b (by simp)).1 (h b (by simp)).2).2.2
    have h2 := qfl_ge l (fun x hx => h x (by simp [hx]))
    simp only [List.flatMap_cons, List.length_append, List.length_cons]
    omega
theorem read_ok (bs : List Int) (hb : ∀ b ∈ bs, 0 ≤ b ∧ b ≤ 255) (hn : (bs.flatMap qb).length ≤ 256) : ∃ r, M.syntax_Parse (b2s (bs.flatMap qb)) = some (r, 0, 0) ∧ M.syntax_several 2 (bs.map leaf) = some r := by
  have hl := qfl_ge bs hb
  have hq := qfl_range bs hb
  obtain ⟨r, hr, _⟩ := several_all (bs.map leaf)
  refine ⟨r, ?_, hr⟩
  have hz := b2s_size (bs.flatMap qb)
  -- what stands at the beginning of a byte's quote, or at the end
  have first : ∀ (R pre : List Int), bs = pre ++ R → pk (b2s (bs.flatMap qb)) (pre.flatMap qb).length ≠ 42 ∧ pk (b2s (bs.flatMap qb)) (pre.flatMap qb).length ≠ 43 ∧ pk (b2s (bs.flatMap qb)) (pre.flatMap qb).length ≠ 63 ∧
      pk (b2s (bs.flatMap qb)) (pre.flatMap qb).length ≠ 123 ∧ pk (b2s (bs.flatMap qb)) (pre.flatMap qb).length ≠ 124 ∧ pk (b2s (bs.flatMap qb)) (pre.flatMap qb).length ≠ 41 := by
    intro R pre e
    cases R with
    | nil =>
      have : pk (b2s (bs.flatMap qb)) (pre.flatMap qb).length = 0 := by
        rw [pk_b2s _ hq, dif_neg]
        rw [e, List.append_nil]
        omega
      rw [this]; decide
    | cons b R =>
      have hb' := hb b (by rw [e]; simp)
      have key : ∃ c T, qb b = c :: T ∧ c ≠ 42 ∧ c ≠ 43 ∧ c ≠ 63 ∧ c ≠ 123 ∧ c ≠ 124 ∧ c ≠ 41 := by
        unfold qb
        by_cases h : asB b = true
        · rw [if_pos h]
          obtain ⟨n, hn'⟩ := Int.eq_ofNat_of_zero_le hb'.1
          rw [hn'] at h
          have := asB_spec n (by omega) h
          refine ⟨b, [], rfl, ?_⟩
          omega
        · rw [if_neg h]
          exact ⟨92, _, rfl, by decide⟩
      obtain ⟨c, Tl, k1, k2⟩ := key
      have : pk (b2s (bs.flatMap qb)) (pre.flatMap qb).length = c := pk_mid _ _ c (Tl ++ R.flatMap qb) hq (by rw [e, List.flatMap_append, List.flatMap_cons, k1]; rfl)
      rw [this]
      exact k2
  have loop : ∀ (R pre : List Int) (x : T27), bs = pre ++ R → M.syntax_parser_sequence_l0 (x, pre.map leaf, pS (b2s (bs.flatMap qb)) (pre.flatMap qb).length 0) = some (r, pS (b2s (bs.flatMap qb)) (bs.flatMap qb).length 0) := by
    intro R
    induction R with
    | nil =>
      intro pre x e
      rw [List.append_nil] at e
      rw [← e]
      exact seq_stop x _ (by rw [hz]; omega) hr
    | cons b R ih =>
      intro pre x e
      have hb' := hb b (by rw [e]; simp)
      have hpl : (pre.flatMap qb).length + (qb b).length ≤ 256 := by
        have : (bs.flatMap qb).length = (pre.flatMap qb).length + ((qb b).length + (R.flatMap qb).length) := by rw [e, List.flatMap_append, List.flatMap_cons]; simp
        omega
      have hlt : (pre.flatMap qb).length < (b2s (bs.flatMap qb)).size := by
        have : (bs.flatMap qb).length = (pre.flatMap qb).length + ((qb b).length + (R.flatMap qb).length) := by rw [e, List.flatMap_append, List.flatMap_cons]; simp
        have := (qb_range hb'.1 hb'.2).2.2
        rw [hz]; omega
      have f0 := first (b :: R) pre e
      have f1 := first R (pre ++ [b]) (by rw [e]; simp)
      have e1 : ((pre ++ [b]).flatMap qb).length = (pre.flatMap qb).length + (qb b).length := by rw [List.flatMap_append]; simp
      rw [e1] at f1
      have hpc : M.syntax_parser_piece (pS (b2s (bs.flatMap qb)) (pre.flatMap qb).length 0) = some (leaf b, pS (b2s (bs.flatMap qb)) ((pre.flatMap qb).length + (qb b).length) 0) := by
        obtain ⟨n, hn'⟩ := Int.eq_ofNat_of_zero_le hb'.1
        by_cases h : asB b = true
        · have hqb : qb b = [b] := by unfold qb; rw [if_pos h]
          have hpk : pk (b2s (bs.flatMap qb)) (pre.flatMap qb).length = b := pk_mid _ _ b (R.flatMap qb) hq (by rw [e, List.flatMap_append, List.flatMap_cons, hqb]; rfl)
          rw [hn'] at h
          have sp := asB_spec n (by omega) h
          rw [hqb] at f1 hpl ⊢
          refine piece_bare (by simp at hpl; simp; omega) (atom_eq _ _ 0 (by omega) (oneL b) (by omega) (by omega) (by rw [hpk, hn']; exact sp.2.2.1) (by omega) (by rw [hpk]; exact one_eq hb'.1 hb'.2)) ?_
          exact ⟨f1.1, f1.2.1, f1.2.2.1, f1.2.2.2.1⟩
        · have hqb : qb b = [92, 120, hx (b / 16), hx (b % 16)] := by unfold qb; rw [if_neg h]
          have hfl : bs.flatMap qb = pre.flatMap qb ++ (92 :: 120 :: hx (b / 16) :: hx (b % 16) :: R.flatMap qb) := by rw [e, List.flatMap_append, List.flatMap_cons, hqb]; rfl
          have p0 := pk_mid _ (pre.flatMap qb) 92 _ hq hfl
          have p1 := pk_mid _ (pre.flatMap qb ++ [92]) 120 (hx (b / 16) :: hx (b % 16) :: R.flatMap qb) hq (by rw [hfl]; simp)
          have p2 := pk_mid _ (pre.flatMap qb ++ [92, 120]) (hx (b / 16)) (hx (b % 16) :: R.flatMap qb) hq (by rw [hfl]; simp)
          have p3 := pk_mid _ (pre.flatMap qb ++ [92, 120, hx (b / 16)]) (hx (b % 16)) (R.flatMap qb) hq (by rw [hfl]; simp)
          simp only [List.length_append, List.length_cons, List.length_nil] at p1 p2 p3
          rw [hqb] at f1 hpl ⊢
          simp only [List.length_cons, List.length_nil] at f1 hpl ⊢
          rw [hn'] at p2 p3
          have := atom_hex (b2s (bs.flatMap qb)) (pre.flatMap qb).length 0 (by omega) n (by omega) p0 p1 p2 p3
          rw [← hn'] at this
          exact piece_bare (by omega) this ⟨f1.1, f1.2.1, f1.2.2.1, f1.2.2.2.1⟩
      have hbl : bs.length = pre.length + (R.length + 1) := by rw [e]; simp
      rw [seq_more x _ (by rw [List.length_map]; omega) ⟨hlt, f0.2.2.2.2.1, f0.2.2.2.2.2⟩ hpc]
      have := ih (pre ++ [b]) x (by rw [e]; simp)
      rw [e1, List.map_append] at this
      exact this
  have h0 := loop bs [] ⟨0, [0, 0, 0, 0], [], 0, 0⟩ rfl
  refine parse_eq _ (by rw [hz]; omega) r (bs.flatMap qb).length 0 (by rw [hz]; omega) ?_
  have h0' : M.syntax_parser_sequence_l0 (⟨0, [0, 0, 0, 0], [], 0, 0⟩, [], pS (b2s (bs.flatMap qb)) 0 0) = some (r, pS (b2s (bs.flatMap qb)) (bs.flatMap qb).length 0) := h0
  rw [M.syntax_parser_alternation, M.syntax_parser_sequence, h0', bnd]; dsimp only
  exact alt_stop (by omega) _ _ (by
    have := first [] bs (by simp)
    exact this.2.2.2.2.1) (several_one _ _)


/-! ### The document's quoting -/
def AM : List Int := [95, 44, 58, 59, 60, 61, 62, 64, 33, 34, 35, 37, 38, 39, 126]
theorem bt_mid {s : ByteArray} {pre R : List Int} {b : Int} (e : s2b s = pre ++ b :: R) : bt s (pre.length : Int) = b ∧ s.size = pre.length + (R.length + 1) := by
  have hlen : (s2b s).length = s.size := by simp only [s2b, List.length_map, Array.length_toList]; rfl
  have hl2 : s.size = pre.length + (R.length + 1) := by rw [← hlen, e]; simp
  refine ⟨?_, hl2⟩
  have : (U s s.size)[pre.length]'(by simp [U]; omega) = b := by
    simp only [U_s2b, e]
    simp
  rw [← this]
  simp [U]
theorem bt_end {s : ByteArray} {pre : List Int} (e : s2b s = pre) : s.size = pre.length := by
  have hlen : (s2b s).length = s.size := by simp only [s2b, List.length_map, Array.length_toList]; rfl
  rw [← hlen, e]
theorem among_ok (c : Int) (s : ByteArray) (hs : s.size ≤ 1000) : M.tidepoleref10_among c s = some (decide (c ∈ s2b s)) := by
  have loop : ∀ (R pre : List Int), s2b s = pre ++ R → M.tidepoleref10_among_l0 (c, s, (pre.length : Int)) = some (decide (c ∈ R)) := by
    intro R
    induction R with
    | nil =>
      intro pre e
      have := bt_end e
      rw [M.tidepoleref10_among_l0]; try dsimp only
      rw [if_neg (by simp at this; omega)]
      simp
    | cons b R ih =>
      intro pre e
      have h := bt_mid e
      rw [M.tidepoleref10_among_l0]; try dsimp only
      rw [if_pos (by omega), if_pos (by omega), h.1]
      by_cases hb : b = c
      · rw [if_pos hb, hb]; simp
      · rw [if_neg hb, wr_i64 (by omega) (by omega), show (pre.length : Int) + 1 = (((pre ++ [b]).length : Nat) : Int) by simp, ih (pre ++ [b]) (by rw [e]; simp)]
        have : c ≠ b := fun h => hb h.symm
        simp [this]
  exact loop (s2b s) [] rfl
theorem plain_all : ∀ n : Nat, n < 256 → asB (n : Int) = (decide (97 ≤ n ∧ n ≤ 122) || decide (65 ≤ n ∧ n ≤ 90) || decide (48 ≤ n ∧ n ≤ 57) || decide ((n : Int) ∈ AM)) := by decide +kernel
theorem plain_t {b : Int} (h0 : 0 ≤ b) (h1 : b ≤ 255) (h : 97 ≤ b ∧ b ≤ 122 ∨ 65 ≤ b ∧ b ≤ 90 ∨ 48 ≤ b ∧ b ≤ 57) : true = asB b := by
  obtain ⟨n, rfl⟩ := Int.eq_ofNat_of_zero_le h0
  rw [plain_all n (by omega)]
  rcases h with h | h | h
  · rw [decide_eq_true (p := 97 ≤ n ∧ n ≤ 122) (by omega)]; simp
  · rw [decide_eq_true (p := 65 ≤ n ∧ n ≤ 90) (by omega)]; simp
  · rw [decide_eq_true (p := 48 ≤ n ∧ n ≤ 57) (by omega)]; simp
theorem plain_f {b : Int} (h0 : 0 ≤ b) (h1 : b ≤ 255) (h : ¬ (97 ≤ b ∧ b ≤ 122 ∨ 65 ≤ b ∧ b ≤ 90 ∨ 48 ≤ b ∧ b ≤ 57)) : decide (b ∈ AM) = asB b := by
  obtain ⟨n, rfl⟩ := Int.eq_ofNat_of_zero_le h0
  rw [plain_all n (by omega), decide_eq_false (p := 97 ≤ n ∧ n ≤ 122) (by omega), decide_eq_false (p := 65 ≤ n ∧ n ≤ 90) (by omega), decide_eq_false (p := 48 ≤ n ∧ n ≤ 57) (by omega)]
  simp
theorem hex_bt : ∀ v : Nat, v < 16 → bt HEX (v : Int) = hx (v : Int) := by decide +kernel
theorem quo16 : ∀ b : Nat, b < 256 → iquo .u8 (b : Int) 16 = (b : Int) / 16 ∧ irem .u8 (b : Int) 16 = (b : Int) % 16 := by decide +kernel
theorem am_s2b : s2b (⟨#[95, 44, 58, 59, 60, 61, 62, 64, 33, 34, 35, 37, 38, 39, 126]⟩ : ByteArray) = AM := by decide
theorem rquote_ok (s : ByteArray) (hs : s.size ≤ 256) : M.tidepoleref10_Quote s = some (b2s ((s2b s).flatMap qb)) := by
  have hrange := s2b_range s
  have hlen : (s2b s).length = s.size := by simp only [s2b, List.length_map, Array.length_toList]; rfl
  have loop : ∀ (R pre : List Int), s2b s = pre ++ R → M.tidepoleref10_Quote_l0 (s, pre.flatMap qb, HEX, (pre.length : Int)) = some (b2s ((s2b s).flatMap qb)) := by
    intro R
    induction R with
    | nil =>
      intro pre e
      have hp := bt_end e
      rw [List.append_nil] at hp
      rw [M.tidepoleref10_Quote_l0]; try dsimp only
      rw [if_neg (by omega), e, List.append_nil]
    | cons b R ih =>
      intro pre e
      have h := bt_mid e
      have hb := hrange b (by rw [e]; simp)
      have hq := qfl_len pre (fun x hx => hrange x (by rw [e]; simp [hx]))
      have next := ih (pre ++ [b]) (by rw [e]; simp)
      rw [List.flatMap_append, show ([b] : List Int).flatMap qb = qb b by simp, show (((pre ++ [b]).length : Nat) : Int) = (pre.length : Int) + 1 by simp] at next
      have one : M.tidepoleref10_Quote_l1 (s, pre.flatMap qb, HEX, (pre.length : Int), b, asB b) = some (b2s ((s2b s).flatMap qb)) := by
        obtain ⟨n, hn⟩ := Int.eq_ofNat_of_zero_le hb.1
        obtain ⟨a, ha⟩ := Int.eq_ofNat_of_zero_le (show 0 ≤ b / 16 by omega)
        obtain ⟨c, hc⟩ := Int.eq_ofNat_of_zero_le (show 0 ≤ b % 16 by omega)
        have q16 := quo16 n (by omega)
        rw [← hn] at q16
        have za : bt HEX (b / 16) = hx (b / 16) := by rw [ha]; exact hex_bt a (by omega)
        have zc : bt HEX (b % 16) = hx (b % 16) := by rw [hc]; exact hex_bt c (by omega)
        have hz : (HEX.size : Int) = 16 := rfl
        rw [M.tidepoleref10_Quote_l1]; try dsimp only
        unfold qb at next
        by_cases hA : asB b = true
        · rw [if_pos hA] at next
          rw [if_pos hA, if_pos (by simp only [List.length_append, List.length_cons, List.length_nil]; omega), M.tidepoleref10_Quote_l2]; try dsimp only
          rw [wr_i64 (by omega) (by omega)]
          exact next
        · rw [if_neg hA] at next
          rw [if_neg hA, q16.1, q16.2, hz, if_pos (by omega), if_pos (by omega), if_pos (by omega), if_pos (by omega), bnd, za, zc, if_pos (by simp only [List.length_append, List.length_cons, List.length_nil]; omega), M.tidepoleref10_Quote_l2]; try dsimp only
          rw [wr_i64 (by omega) (by omega)]
          exact next
      rw [M.tidepoleref10_Quote_l0]; try dsimp only
      rw [if_pos (by omega), if_pos (by omega), h.1]
      simp only [among_ok b _ (show (⟨#[95, 44, 58, 59, 60, 61, 62, 64, 33, 34, 35, 37, 38, 39, 126]⟩ : ByteArray).size ≤ 1000 by decide), bnd, am_s2b]
      rw [← one]
      (repeat' split) <;> first | exact congrArg (fun v => M.tidepoleref10_Quote_l1 (s, pre.flatMap qb, HEX, (pre.length : Int), b, v)) (plain_t hb.1 hb.2 (by omega)) | exact congrArg (fun v => M.tidepoleref10_Quote_l1 (s, pre.flatMap qb, HEX, (pre.length : Int), b, v)) (plain_f hb.1 hb.2 (by omega))
  exact loop (s2b s) [] rfl

/-! ### What a pattern of bytes spells -/
theorem ones0 : M.bits_OnesCount64 0 = some 0 := by decide +kernel
theorem ones1 : ∀ k : Nat, k < 64 → M.bits_OnesCount64 (ishl .u64 1 (k : Int)) = some 1 := by decide +kernel
theorem tz1 : ∀ k : Nat, k < 64 → M.bits_TrailingZeros64 (ishl .u64 1 (k : Int)) = some (k : Int) := by decide +kernel
theorem shl_ne : ∀ k : Nat, k < 64 → ishl .u64 1 (k : Int) ≠ 0 := by decide +kernel
theorem only_ok {b : Int} (h0 : 0 ≤ b) (h1 : b ≤ 255) : M.syntax_only (oneL b) = some (b, true) := by
  obtain ⟨k, hk⟩ := Int.eq_ofNat_of_zero_le (show 0 ≤ b % 64 by omega)
  have hk64 : k < 64 := by omega
  have o1 := ones1 k hk64
  have t1 := tz1 k hk64
  have n1 := shl_ne k hk64
  have word : ∀ (q : Int), 0 ≤ q → q < 4 → gi (oneL b) q = if q = b / 64 then ishl .u64 1 (k : Int) else 0 := by
    intro q g0 g1
    unfold oneL
    rw [hk]
    generalize ishl .u64 1 (k : Int) = z
    have hq : q = 0 ∨ q = 1 ∨ q = 2 ∨ q = 3 := by omega
    have hd : b / 64 = 0 ∨ b / 64 = 1 ∨ b / 64 = 2 ∨ b / 64 = 3 := by omega
    rcases hq with rfl | rfl | rfl | rfl <;> rcases hd with e | e | e | e <;> rw [e] <;> rfl
  have step : ∀ (q c at_ : Int), 0 ≤ q → q < 4 → 0 ≤ c → c ≤ 4 → M.syntax_only_l0 (c, at_, oneL b, q) = if q = b / 64 then M.syntax_only_l0 (c + 1, b, oneL b, q + 1) else M.syntax_only_l0 (c, at_, oneL b, q + 1) := by
    intro q c at_ g0 g1 c0 c1
    conv => lhs; rw [M.syntax_only_l0]
    try dsimp only
    rw [if_pos g1, if_pos g0, word q g0 g1]
    by_cases hq : q = b / 64
    · rw [if_pos hq, if_pos hq, o1, bnd, if_neg n1, t1, bnd, M.syntax_only_l1]; try dsimp only
      rw [wr_i64 (by omega) (by omega), wr_i64 (x := q * 64) (by omega) (by omega), wr_i64 (by omega) (by omega), wr_i64 (by omega) (by omega), show q * 64 + (k : Int) = b by omega]
    · rw [if_neg hq, if_neg hq, ones0, bnd, if_pos rfl, M.syntax_only_l1]; try dsimp only
      rw [wr_i64 (by omega) (by omega), wr_i64 (by omega) (by omega), Int.add_zero]
  have last : ∀ at_ : Int, at_ = b → M.syntax_only_l0 (1, at_, oneL b, 4) = some (b, true) := by
    intro at_ e
    rw [M.syntax_only_l0]; try dsimp only
    rw [if_neg (by omega), e]
    have : wr .u8 b = b := by
      have : ∀ n : Nat, n < 256 → wr .u8 (n : Int) = (n : Int) := by decide +kernel
      obtain ⟨n, rfl⟩ := Int.eq_ofNat_of_zero_le h0
      exact this n (by omega)
    rw [this]
    rfl
  rw [M.syntax_only, step 0 _ _ (by omega) (by omega) (by omega) (by omega)]
  have hd : b / 64 = 0 ∨ b / 64 = 1 ∨ b / 64 = 2 ∨ b / 64 = 3 := by omega
  rcases hd with e | e | e | e
  · rw [if_pos (by omega), step _ _ _ (by omega) (by omega) (by omega) (by omega), if_neg (by omega), step _ _ _ (by omega) (by omega) (by omega) (by omega), if_neg (by omega), step _ _ _ (by omega) (by omega) (by omega) (by omega), if_neg (by omega)]
    exact last b rfl
  · rw [if_neg (by omega), step _ _ _ (by omega) (by omega) (by omega) (by omega), if_pos (by omega), step _ _ _ (by omega) (by omega) (by omega) (by omega), if_neg (by omega), step _ _ _ (by omega) (by omega) (by omega) (by omega), if_neg (by omega)]
    exact last b rfl
  · rw [if_neg (by omega), step _ _ _ (by omega) (by omega) (by omega) (by omega), if_neg (by omega), step _ _ _ (by omega) (by omega) (by omega) (by omega), if_pos (by omega), step _ _ _ (by omega) (by omega) (by omega) (by omega), if_neg (by omega)]
    exact last b rfl
  · rw [if_neg (by omega), step _ _ _ (by omega) (by omega) (by omega) (by omega), if_neg (by omega), step _ _ _ (by omega) (by omega) (by omega) (by omega), if_neg (by omega), step _ _ _ (by omega) (by omega) (by omega) (by omega), if_pos (by omega)]
    exact last b rfl
theorem length_leaf {b : Int} (h0 : 0 ≤ b) (h1 : b ≤ 255) : M.syntax_length (leaf b) = some (1, true) := by
  rw [M.syntax_length]; try dsimp only
  rw [if_pos (show (leaf b).Kind = 1 from rfl), show (leaf b).Set = oneL b from rfl, only_ok h0 h1, bnd]
theorem spelled_leaf {b : Int} (h0 : 0 ≤ b) (h1 : b ≤ 255) : M.syntax_spelled (leaf b) = some (b2s [b]) := by
  rw [M.syntax_spelled]; try dsimp only
  rw [if_pos (show (leaf b).Kind = 1 from rfl), show (leaf b).Set = oneL b from rfl, only_ok h0 h1, bnd]
theorem length_seq (bs : List Int) (hb : ∀ b ∈ bs, 0 ≤ b ∧ b ≤ 255) (hn : bs.length ≤ 256) : M.syntax_length ⟨2, Z4, bs.map leaf, 0, 0⟩ = some ((bs.length : Int), true) := by
  have loop : ∀ (R pre : List Int), bs = pre ++ R → M.syntax_length_l1 ((pre.length : Int), bs.map leaf, (bs.length : Int), (pre.length : Int)) = some ((bs.length : Int), true) := by
    intro R
    induction R with
    | nil =>
      intro pre e
      rw [List.append_nil] at e
      rw [M.syntax_length_l1]; try dsimp only
      rw [if_neg (by rw [e]; omega), e]
    | cons b R ih =>
      intro pre e
      have hb' := hb b (by rw [e]; simp)
      have hl : bs.length = pre.length + (R.length + 1) := by rw [e]; simp
      have hg : gi (bs.map leaf) (pre.length : Int) = leaf b := by
        have := gi_mid (pre.map leaf) (leaf b) (R.map leaf)
        rw [List.length_map] at this
        rw [e, List.map_append, List.map_cons]
        exact this
      rw [M.syntax_length_l1]; try dsimp only
      rw [if_pos (by omega), if_pos (by omega), if_pos (by rw [List.length_map]; omega), hg, eta27, length_leaf hb'.1 hb'.2, bnd]; dsimp only
      rw [if_pos rfl, wr_i64 (by omega) (by omega), show imn ((pre.length : Int) + 1) 65537 = (pre.length : Int) + 1 by simp only [imn]; split <;> omega, show (pre.length : Int) + 1 = (((pre ++ [b]).length : Nat) : Int) by simp]
      exact ih (pre ++ [b]) (by rw [e]; simp)
  rw [M.syntax_length]; try dsimp only
  rw [if_neg (by decide), if_neg (by decide), if_neg (by decide), List.length_map]
  exact loop bs [] rfl
theorem spelled_seq (bs : List Int) (hb : ∀ b ∈ bs, 0 ≤ b ∧ b ≤ 255) (hn : bs.length ≤ 256) : M.syntax_spelled ⟨2, Z4, bs.map leaf, 0, 0⟩ = some (b2s bs) := by
  have sb : ∀ b : Int, 0 ≤ b → b ≤ 255 → s2b (b2s [b]) = [b] := by
    have : ∀ n : Nat, n < 256 → s2b (b2s [(n : Int)]) = [(n : Int)] := by decide +kernel
    intro b h0 h1
    obtain ⟨n, rfl⟩ := Int.eq_ofNat_of_zero_le h0
    exact this n (by omega)
  have get : ∀ (R pre : List Int) (b : Int), bs = pre ++ b :: R → gi (bs.map leaf) (pre.length : Int) = leaf b := by
    intro R pre b e
    have := gi_mid (pre.map leaf) (leaf b) (R.map leaf)
    rw [List.length_map] at this
    rw [e, List.map_append, List.map_cons]
    exact this
  have loop : ∀ (R pre : List Int), bs = pre ++ R → M.syntax_spelled_l2 (pre, bs.map leaf, (bs.length : Int), (pre.length : Int)) = some (b2s bs) := by
    intro R
    induction R with
    | nil =>
      intro pre e
      rw [List.append_nil] at e
      rw [M.syntax_spelled_l2]; try dsimp only
      rw [if_neg (by rw [e]; omega), M.strings_Builder_String_2, if_pos (by rw [← e]; omega), bnd, e]
    | cons b R ih =>
      intro pre e
      have hb' := hb b (by rw [e]; simp)
      have hl : bs.length = pre.length + (R.length + 1) := by rw [e]; simp
      rw [M.syntax_spelled_l2]; try dsimp only
      rw [if_pos (by omega), if_pos (by omega), if_pos (by rw [List.length_map]; omega), get R pre b e, eta27, spelled_leaf hb'.1 hb'.2, bnd, M.strings_Builder_WriteString_2, M.strings_Builder_copyCheck_2, bnd, sb b hb'.1 hb'.2, if_pos (by simp only [List.length_append, List.length_cons, List.length_nil]; omega), bnd]; dsimp only
      rw [wr_i64 (by omega) (by omega), show (pre.length : Int) + 1 = (((pre ++ [b]).length : Nat) : Int) by simp]
      exact ih (pre ++ [b]) (by rw [e]; simp)
  rw [M.syntax_spelled]; try dsimp only
  rw [if_neg (by decide), if_neg (by decide), M.syntax_spelled_l0]; try dsimp only
  rw [if_neg (by decide), if_neg (by decide), List.length_map]
  cases hR : bs with
  | nil =>
    rw [M.syntax_spelled_l1]; try dsimp only
    rw [if_neg (by simp), M.strings_Builder_String, if_pos (by simp), bnd]
  | cons b R =>
    have hb' := hb b (by rw [hR]; simp)
    have hg := get R [] b (by rw [hR]; rfl)
    have hl : bs.length = R.length + 1 := by rw [hR]; simp
    have := loop R [b] (by rw [hR]; rfl)
    rw [hR] at hg this
    rw [M.syntax_spelled_l1]; try dsimp only
    rw [if_pos (by simp only [List.length_cons]; omega), if_pos (by omega), if_pos (by rw [List.length_map]; simp only [List.length_cons]; omega)]
    have hg' : gi ((b :: R).map leaf) 0 = leaf b := hg
    rw [hg', eta27, spelled_leaf hb'.1 hb'.2, bnd, M.strings_Builder_WriteString, M.strings_Builder_copyCheck, bnd, sb b hb'.1 hb'.2, if_pos (by simp), bnd]; dsimp only
    rw [wr_i64 (by omega) (by omega)]
    exact this
theorem literal_ok (bs : List Int) (hb : ∀ b ∈ bs, 0 ≤ b ∧ b ≤ 255) (hn : bs.length ≤ 256) (r : T27) (hr : M.syntax_several 2 (bs.map leaf) = some r) : M.syntax_Literal r = some (b2s bs, true) := by
  have rl : ∀ b ∈ bs, Rt 1 (leaf b) := fun b h => ⟨.inl ⟨rfl, rfl, rfl, rfl⟩, oneL_ok (hb b h).1 (hb b h).2, by simp [leaf]⟩
  have fin : ∀ n : Int, 0 ≤ n → n ≤ 256 → Rt 128 r → nd r ≤ 4096 → M.syntax_length r = some (n, true) → M.syntax_spelled r = some (b2s bs) → M.syntax_Literal r = some (b2s bs, true) := by
    intro n g0 g1 h1 h2 h3 h4
    obtain ⟨c, hc, hi⟩ := check_tot r (h1.fit 128 h2)
    have : c = true := hi.2 ⟨h1, h2⟩
    subst this
    rw [M.syntax_Literal, hc, bnd, if_pos rfl, M.syntax_literal, h3, bnd]; dsimp only
    rw [if_pos rfl, if_neg (by omega), h4, bnd, bnd]
  obtain ⟨r', h1, h2⟩ := several_all (bs.map leaf)
  rw [hr] at h1
  cases h1
  rcases h2 with ⟨x, h2, rfl⟩ | rfl
  · match bs, h2 with
    | [b], h2 =>
      simp at h2
      subst h2
      have hb' := hb b (by simp)
      exact fin 1 (by omega) (by omega) ((rl b (by simp)).mono (by omega)) (by rw [nd_eq]; simp [leaf, nds]) (length_leaf hb'.1 hb'.2) (spelled_leaf hb'.1 hb'.2)
  · refine fin (bs.length : Int) (by omega) (by omega) ?_ (by rw [nd_eq]; simp only [nds_leaves]; omega) (length_seq bs hb hn) (spelled_seq bs hb hn)
    refine Rt.mono (d := 2) ⟨.inr (.inl ⟨.inl rfl, rfl, rfl, rfl⟩), SetOk.Z4, fun x hx => ?_⟩ (by omega)
    obtain ⟨b, hb', rfl⟩ := List.mem_map.1 hx
    exact rl b hb'
end Go.Proofs.YtemokppdnkiejaaDoor
