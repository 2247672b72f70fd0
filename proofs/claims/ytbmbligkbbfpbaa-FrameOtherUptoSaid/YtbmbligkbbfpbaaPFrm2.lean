/-
  Records written: pieces, and how many sectors they need.
-/
import Derived.Test.YtbmbligkbbfpbaaPFrm
set_option linter.unusedVariables false
set_option linter.unusedSimpArgs false
namespace Go.Proofs.Ytbmbligkbbfpbaa
open Go.Gx

theorem gi_natI (xs : List Int) (i : Nat) (h : i < xs.length) : gi xs (i : Int) = xs[i] := by simp [gi, h]
theorem gi_natB (xs : List (List Int)) (i : Nat) (h : i < xs.length) : gi xs (i : Int) = xs[i] := by simp [gi, h]
theorem sl_take (xs : List Int) (m : Nat) : sl xs 0 (m : Int) = xs.take m := by simp [sl]
theorem sl_drop (xs : List Int) (m : Nat) : sl xs (m : Int) (xs.length : Int) = xs.drop m := by simp [sl]

/-! ### Pieces -/
def pcs (fl : Int) (r : List Int) : List (List Int × Int) :=
  if 244 < r.length then (r.take 244, fl) :: pcs 0 (r.drop 244) else [(r, fl + 2)]
termination_by r.length
decreasing_by simp; omega
theorem pcs_long (fl : Int) (r : List Int) (h : 244 < r.length) : pcs fl r = (r.take 244, fl) :: pcs 0 (r.drop 244) := by rw [pcs, if_pos h]
theorem pcs_short (fl : Int) (r : List Int) (h : ¬ 244 < r.length) : pcs fl r = [(r, fl + 2)] := by rw [pcs, if_neg h]
def nd (l : Nat) : Nat := max 1 ((l + 243) / 244)
theorem pcs_len (k : Nat) : ∀ (fl : Int) (r : List Int), r.length ≤ k → (pcs fl r).length = nd r.length := by
  induction k with
  | zero =>
    intro fl r h
    rw [pcs_short _ _ (by omega)]; simp [nd]; omega
  | succ k ih =>
    intro fl r h
    by_cases hl : 244 < r.length
    · rw [pcs_long _ _ hl, List.length_cons, ih _ _ (by simp; omega)]
      simp only [nd, List.length_drop]; omega
    · rw [pcs_short _ _ hl]; simp only [nd, List.length_cons, List.length_nil]; omega
def secs : Nat → List (List Int × Int) → List Int
  | _, [] => []
  | n, q :: t => sec n q.1 q.2 ++ secs (n + 1) t
theorem secs_append (a b : List (List Int × Int)) : ∀ n, secs n (a ++ b) = secs n a ++ secs (n + a.length) b := by
  induction a with
  | nil => intro n; simp [secs]
  | cons q t ih => intro n; simp only [List.cons_append, secs, ih, List.append_assoc, List.length_cons]; congr 3; omega
def wf : Bool → List (List Int × Int) → Prop
  | _, [] => True
  | mid, q :: t => q.1.length ≤ 244 ∧ (q.2 = 0 ∨ q.2 = 1 ∨ q.2 = 2 ∨ q.2 = 3) ∧ (q.2 % 2 = if mid then 0 else 1) ∧ (q.2 < 2 → q.1.length = 244) ∧ wf (decide (q.2 < 2)) t
theorem wf_pcs (k : Nat) : ∀ (fl : Int) (r : List Int) (rest : List (List Int × Int)), r.length ≤ k → fl = 0 ∨ fl = 1 → wf false rest → wf (decide (fl = 0)) (pcs fl r ++ rest) := by
  induction k with
  | zero =>
    intro fl r rest h hf hr
    rw [pcs_short _ _ (by omega)]
    refine ⟨by simp; omega, by simp; omega, ?_, by simp; omega, ?_⟩
    · rcases hf with rfl | rfl <;> rfl
    · rw [show decide (fl + 2 < 2) = false by simp; omega]; exact hr
  | succ k ih =>
    intro fl r rest h hf hr
    by_cases hl : 244 < r.length
    · rw [pcs_long _ _ hl]
      refine ⟨by simp; omega, by simp; omega, ?_, by simp; omega, ?_⟩
      · rcases hf with rfl | rfl <;> rfl
      · rw [show decide (fl < 2) = decide ((0 : Int) = 0) by simp; omega]; exact ih 0 _ rest (by simp; omega) (.inl rfl) hr
    · rw [pcs_short _ _ hl]
      refine ⟨by simp; omega, by simp; omega, ?_, by simp; omega, ?_⟩
      · rcases hf with rfl | rfl <;> rfl
      · rw [show decide (fl + 2 < 2) = false by simp; omega]; exact hr
def pieces (rs : List (List Int)) : List (List Int × Int) := rs.flatMap (pcs 1)
theorem wf_pieces (rs : List (List Int)) : wf false (pieces rs) := by
  induction rs with
  | nil => exact trivial
  | cons r rs ih => exact wf_pcs r.length 1 r (pieces rs) (Nat.le_refl _) (.inr rfl) ih
theorem wf_take : ∀ (P : List (List Int × Int)) (mid : Bool) (k : Nat), wf mid P → wf mid (P.take k)
  | [], mid, k, _ => by simp [wf]
  | q :: t, mid, 0, _ => by simp [wf]
  | q :: t, mid, k + 1, h => ⟨h.1, h.2.1, h.2.2.1, h.2.2.2.1, wf_take t _ k h.2.2.2.2⟩
theorem secs_len : ∀ (P : List (List Int × Int)) (mid : Bool) (n : Nat), wf mid P → (secs n P).length = 256 * P.length
  | [], mid, n, _ => rfl
  | q :: t, mid, n, h => by
    rw [secs, List.length_append, sec_len _ _ _ h.1, secs_len t _ _ h.2.2.2.2, List.length_cons]; omega
theorem pieces_len (rs : List (List Int)) : (pieces rs).length = (rs.map fun r => nd r.length).sum := by
  induction rs with
  | nil => rfl
  | cons r rs ih => rw [pieces, List.flatMap_cons, List.length_append, pcs_len r.length _ _ (Nat.le_refl _), List.map_cons, List.sum_cons, ← ih]; rfl

/-! ### How many they need -/
def Fit (rs : List (List Int)) : Prop := rs.length ≤ 12 ∧ ∀ r ∈ rs, r.length ≤ 65537
theorem Fit.at {rs : List (List Int)} (h : Fit rs) (i : Nat) (hi : i < rs.length) : rs[i].length ≤ 65537 := h.2 _ (List.getElem_mem hi)
theorem nd_le {l : Nat} (h : l ≤ 65537) : nd l ≤ 270 := by unfold nd; omega
theorem imx_nd (l : Nat) (h : l ≤ 65537) : imx 1 (iquo .i64 (wr .i64 ((l : Int) + 243)) 244) = (nd l : Int) := by
  rw [wr_i64 (by omega) (by omega), show iquo .i64 ((l : Int) + 243) 244 = _ from iquo64 (l + 243) 244 (by omega)]
  unfold imx nd; split <;> omega
theorem need_byte (r : List Int) (h : r.length ≤ 65537) : M.frame_need_byte r = some (nd r.length : Int) := by
  rw [M.frame_need_byte, wr_i64 (x := (r.length : Int) + 244) (by omega) (by omega), show (r.length : Int) + 244 - 1 = (r.length : Int) + 243 by omega, imx_nd _ h]
def big (rs : List (List Int)) : Prop := ∃ r ∈ rs, 65536 < r.length
instance (rs : List (List Int)) : Decidable (big rs) := by unfold big; infer_instance
def needF (t : Nat) (rs : List (List Int)) : Int × Int := if big rs then (0, 3) else (((t + (pieces rs).length : Nat) : Int), 0)
theorem big_cons {r : List Int} {rs : List (List Int)} : big (r :: rs) ↔ 65536 < r.length ∨ big rs := by simp [big]
theorem big_nil : ¬ big [] := by simp [big]
theorem plen_cons (r : List Int) (rs : List (List Int)) : (pieces (r :: rs)).length = nd r.length + (pieces rs).length := by
  simp only [pieces_len, List.map_cons, List.sum_cons]
theorem need_l0 (rs : List (List Int)) (hf : Fit rs) (k : Nat) : ∀ (i t : Nat), i + k = rs.length → t ≤ 270 * i → M.frame_Need_l0 ((t : Int), rs, (rs.length : Int), (i : Int)) = some (needF t (rs.drop i)) := by
  have hc := hf.1
  induction k with
  | zero =>
    intro i t hi ht
    rw [M.frame_Need_l0]; try dsimp only
    rw [if_neg (by omega), List.drop_eq_nil_of_le (by omega), needF, if_neg big_nil]; rfl
  | succ k ih =>
    intro i t hi ht
    have hlt : i < rs.length := by omega
    have hb := hf.at i hlt
    have hn := nd_le hb
    rw [M.frame_Need_l0]; try dsimp only
    rw [if_pos (by omega), if_pos (by omega), if_pos (by omega), gi_natB rs i hlt, List.drop_eq_getElem_cons hlt]
    simp only [needF, big_cons, plen_cons]
    by_cases hg : 65536 < rs[i].length
    · rw [if_pos (by omega), if_pos (.inl hg)]
    · rw [if_neg (by omega), need_byte _ hb]; simp only [Option.bind_eq_bind, Option.bind_some]
      rw [wr_i64 (by omega) (by omega), wr_i64 (by omega) (by omega), show (t : Int) + (nd rs[i].length : Int) = ((t + nd rs[i].length : Nat) : Int) by omega, show (i : Int) + 1 = ((i + 1 : Nat) : Int) by omega, ih (i + 1) _ (by omega) (by omega)]
      simp only [needF, hg, false_or, Nat.add_assoc]
theorem rneed_l0 (rs : List (List Int)) (hf : Fit rs) (k : Nat) : ∀ (i t : Nat), i + k = rs.length → t ≤ 270 * i → M.tidepoleref03_Need_l0 (rs, (t : Int), (i : Int)) = some (needF t (rs.drop i)) := by
  have hc := hf.1
  induction k with
  | zero =>
    intro i t hi ht
    rw [M.tidepoleref03_Need_l0]; try dsimp only
    rw [if_neg (by omega), List.drop_eq_nil_of_le (by omega), needF, if_neg big_nil]; rfl
  | succ k ih =>
    intro i t hi ht
    have hlt : i < rs.length := by omega
    have hb := hf.at i hlt
    have hn := nd_le hb
    rw [M.tidepoleref03_Need_l0]; try dsimp only
    rw [if_pos (by omega), if_pos (by omega), gi_natB rs i hlt, List.drop_eq_getElem_cons hlt]
    simp only [needF, big_cons, plen_cons]
    by_cases hg : 65536 < rs[i].length
    · rw [if_pos (by omega), if_pos (.inl hg)]
    · rw [if_neg (by omega), imx_nd _ hb]
      rw [wr_i64 (by omega) (by omega), wr_i64 (by omega) (by omega), show (t : Int) + (nd rs[i].length : Int) = ((t + nd rs[i].length : Nat) : Int) by omega, show (i : Int) + 1 = ((i + 1 : Nat) : Int) by omega, ih (i + 1) _ (by omega) (by omega)]
      simp only [needF, hg, false_or, Nat.add_assoc]
theorem need_eq (rs : List (List Int)) (hf : Fit rs) : M.frame_Need rs = some (needF 0 rs) := by
  have hc := hf.1
  rw [M.frame_Need, if_neg (by omega)]
  exact need_l0 rs hf rs.length 0 0 (by omega) (by omega)
theorem rneed_eq (rs : List (List Int)) (hf : Fit rs) : M.tidepoleref03_Need rs = some (needF 0 rs) := by
  have hc := hf.1
  rw [M.tidepoleref03_Need, if_neg (by omega)]
  exact rneed_l0 rs hf rs.length 0 0 (by omega) (by omega)
theorem plen_le (rs : List (List Int)) (h : ∀ r ∈ rs, r.length ≤ 65537) : (pieces rs).length ≤ 270 * rs.length := by
  induction rs with
  | nil => simp [pieces]
  | cons r rs ih =>
    have h1 := ih (fun x hx => h x (by simp [hx]))
    have h2 := nd_le (h r (by simp))
    rw [plen_cons, List.length_cons]; omega

/-! ### Written -/
theorem ior_fl {fl : Int} (hf : fl = 0 ∨ fl = 1) : ior .u8 fl 2 = fl + 2 := by rcases hf with rfl | rfl <;> rfl
theorem write_r (n : Nat) (hn : n < 4294967296) (acc : List Int) (ha : acc.length ≤ 1000000000) (a b c d) (p : List Int) (hp : p.length ≤ 244) (fl : Int) : M.frame_Write_r (n : Int) acc a b c d p fl = some (((n + 1 : Nat) : Int), acc ++ sec n p fl, d) := by
  have hs := sec_len n p fl hp
  rw [M.frame_Write_r, sector_eq n hn p fl hp]; simp only [Option.bind_eq_bind, Option.bind_some]
  rw [show sl (sec n p fl) 0 256 = _ from sl_take _ 256, List.take_of_length_le (by omega), if_pos (by simp [hs]; omega), wr_i64 (by omega) (by omega)]
  rfl
theorem write_r' (n : Nat) (hn : n < 4294967296) (acc : List Int) (ha : acc.length ≤ 1000000000) (a b c d) (p : List Int) (hp : p.length ≤ 244) (fl : Int) (hf : fl = 0 ∨ fl = 1) : M.frame_Write_r (n : Int) acc a b c d p (ior .u8 fl 2) = some (((n + 1 : Nat) : Int), acc ++ sec n p (fl + 2), d) := by
  rw [ior_fl hf]; exact write_r n hn acc ha a b c d p hp _
theorem pieces_l0 (a b c) (k : Nat) : ∀ (n : Nat) (acc r : List Int) (fl : Int), r.length ≤ k → r.length ≤ 65537 → acc.length + 256 * k ≤ 900000000 → fl = 0 ∨ fl = 1 → n + (pcs fl r).length ≤ 4294967296 →
    ∃ z, M.frame_pieces_1_l0 (fl, (n : Int), acc, r, a, b, c) = some (((n + (pcs fl r).length : Nat) : Int), acc ++ secs n (pcs fl r), z) := by
  induction k with
  | zero =>
    intro n acc r fl hk hr ha hf hn
    rw [pcs_short _ _ (by omega)] at hn ⊢
    rw [List.length_singleton] at hn
    rw [M.frame_pieces_1_l0]; try dsimp only
    rw [if_neg (by omega), write_r' n (by omega) acc (by omega) a b c r r (by omega) fl hf]
    exact ⟨r, by simp [secs]⟩
  | succ k ih =>
    intro n acc r fl hk hr ha hf hn
    by_cases hl : 244 < r.length
    · rw [pcs_long _ _ hl] at hn ⊢
      rw [List.length_cons] at hn
      have ht : (r.take 244).length = 244 := by simp; omega
      rw [M.frame_pieces_1_l0]; try dsimp only
      rw [if_pos (by omega), if_pos (by omega), show sl r 0 244 = _ from sl_take r 244, write_r n (by omega) acc (by omega) a b c r _ (by omega) fl]; simp only [Option.bind_eq_bind, Option.bind_some]
      rw [if_pos (by omega), show sl r 244 (r.length : Int) = _ from sl_drop r 244]
      obtain ⟨z, hz⟩ := ih (n + 1) (acc ++ sec n (r.take 244) fl) (r.drop 244) 0 (by simp; omega) (by simp; omega) (by rw [List.length_append, sec_len _ _ _ (by omega)]; omega) (.inl rfl) (by omega)
      refine ⟨z, ?_⟩
      rw [hz, secs, List.length_cons, List.append_assoc]
      congr 3
      omega
    · rw [pcs_short _ _ hl] at hn ⊢
      rw [List.length_singleton] at hn
      rw [M.frame_pieces_1_l0]; try dsimp only
      rw [if_neg (by omega), write_r' n (by omega) acc (by omega) a b c r r (by omega) fl hf]
      exact ⟨r, by simp [secs]⟩
theorem write_l1 (rs : List (List Int)) (hf : Fit rs) (k : Nat) : ∀ (i n : Nat) (acc : List Int), i + k = rs.length → acc.length ≤ 17000000 * i → n + (pieces (rs.drop i)).length ≤ 4294967296 → M.frame_Write_l1 ((n : Int), acc, rs, (rs.length : Int), (i : Int)) = some (acc ++ secs n (pieces (rs.drop i)), 0) := by
  have hc := hf.1
  induction k with
  | zero =>
    intro i n acc hi ha hn
    rw [M.frame_Write_l1]; try dsimp only
    rw [if_neg (by omega), List.drop_eq_nil_of_le (by omega), pieces, List.flatMap_nil, secs, List.append_nil]
  | succ k ih =>
    intro i n acc hi ha hn
    have hlt : i < rs.length := by omega
    have hb := hf.at i hlt
    have hnd := nd_le hb
    rw [List.drop_eq_getElem_cons hlt] at hn ⊢
    rw [plen_cons] at hn
    have hp := pcs_len rs[i].length 1 rs[i] (Nat.le_refl _)
    rw [M.frame_Write_l1]; try dsimp only
    rw [if_pos (by omega), if_pos (by omega), if_pos (by omega), gi_natB rs i hlt, M.frame_pieces]; simp only [Option.bind_eq_bind, Option.bind_some]
    rw [M.frame_pieces_1]
    obtain ⟨z, hz⟩ := pieces_l0 rs (rs.length : Int) (i : Int) rs[i].length n acc rs[i] 1 (Nat.le_refl _) hb (by omega) (.inr rfl) (by omega)
    have hsl : (secs n (pcs 1 rs[i])).length = 256 * (pcs 1 rs[i]).length := secs_len _ false n (by have := wf_pcs rs[i].length 1 rs[i] [] (Nat.le_refl _) (.inr rfl) trivial; rw [List.append_nil] at this; exact this)
    rw [hz, Option.bind_some]
    dsimp only
    rw [wr_i64 (by omega) (by omega), show (i : Int) + 1 = ((i + 1 : Nat) : Int) by omega, ih (i + 1) _ _ (by omega) (by rw [List.length_append, hsl]; omega) (by omega)]
    rw [pieces, pieces, List.flatMap_cons, secs_append, List.append_assoc]
theorem rwrite_go (rs : List (List Int)) (hf : Fit rs) (i : Nat) (hi : i < rs.length) (n p : Nat) (acc : List Int) (hp : p = 0 ∨ p < rs[i].length) :
    M.tidepoleref03_Write_l2 ((n : Int), rs, acc, (i : Int), (p : Int)) = M.tidepoleref03_Write_l4 ((n : Int), rs, acc, (i : Int), (p : Int), if p = 0 then 1 else 0) := by
  rw [M.tidepoleref03_Write_l2]; try dsimp only
  by_cases h0 : p = 0
  · rw [if_pos (by omega), M.tidepoleref03_Write_l3]; try dsimp only
    rw [if_pos rfl, if_pos (by omega), if_pos h0]
  · rw [if_neg (by omega), if_pos (by omega), if_pos (by omega), gi_natB rs i hi, decide_eq_true (by omega), M.tidepoleref03_Write_l3]; try dsimp only
    rw [if_pos rfl, if_neg (by omega), if_neg h0]
theorem rwrite_out (rs : List (List Int)) (hf : Fit rs) (i : Nat) (hi : i < rs.length) (n p : Nat) (acc : List Int) (hp : p ≠ 0) (hq : rs[i].length ≤ p) :
    M.tidepoleref03_Write_l2 ((n : Int), rs, acc, (i : Int), (p : Int)) = M.tidepoleref03_Write_l1 ((n : Int), rs, acc, ((i + 1 : Nat) : Int)) := by
  have hc := hf.1
  rw [M.tidepoleref03_Write_l2]; try dsimp only
  rw [if_neg (by omega), if_pos (by omega), if_pos (by omega), gi_natB rs i hi, decide_eq_false (by omega), M.tidepoleref03_Write_l3]; try dsimp only
  rw [if_neg (by decide), wr_i64 (by omega) (by omega)]
  rfl
theorem sl_mid (xs : List Int) (a b : Nat) : sl xs (a : Int) (b : Int) = (xs.drop a).take (b - a) := by simp [sl, List.drop_take]
theorem rwrite_l5 (rs : List (List Int)) (hf : Fit rs) (i : Nat) (hi : i < rs.length) (n p e : Nat) (acc : List Int) (fl : Int) (hfl : 0 ≤ fl ∧ fl ≤ 3) (hn : n < 4294967296) (hp : p ≤ e) (he : e ≤ rs[i].length) (hd : e ≤ p + 244) (ha : acc.length ≤ 900000000) :
    M.tidepoleref03_Write_l5 ((n : Int), rs, acc, (i : Int), (p : Int), fl, (e : Int)) = M.tidepoleref03_Write_l2 (((n + 1 : Nat) : Int), rs, acc ++ sec n ((rs[i].drop p).take (e - p)) fl, (i : Int), ((p + 244 : Nat) : Int)) := by
  have hc := hf.1
  have hb := hf.at i hi
  rw [M.tidepoleref03_Write_l5]; try dsimp only
  have hl : ((rs[i].drop p).take (e - p)).length ≤ 244 := by simp; omega
  rw [if_pos (by omega), if_pos (by omega), gi_natB rs i hi, if_pos (by omega), if_pos (by omega), if_pos (by omega), sl_mid, rsector_eq n hn _ fl (by omega) hl]; simp only [Option.bind_eq_bind, Option.bind_some]
  rw [if_pos (by rw [List.length_append, sec_len _ _ _ hl]; omega), wr_i64 (by omega) (by omega), wr_i64 (by omega) (by omega)]
  rfl
theorem rwrite_l2 (rs : List (List Int)) (hf : Fit rs) (i : Nat) (hi : i < rs.length) (k : Nat) : ∀ (n p : Nat) (acc : List Int), (p = 0 ∨ p < rs[i].length) → rs[i].length ≤ p + k → acc.length + 256 * k ≤ 900000000 → n + (pcs (if p = 0 then 1 else 0) (rs[i].drop p)).length ≤ 4294967296 →
    M.tidepoleref03_Write_l2 ((n : Int), rs, acc, (i : Int), (p : Int)) = M.tidepoleref03_Write_l1 (((n + (pcs (if p = 0 then 1 else 0) (rs[i].drop p)).length : Nat) : Int), rs, acc ++ secs n (pcs (if p = 0 then 1 else 0) (rs[i].drop p)), ((i + 1 : Nat) : Int)) := by
  have hc := hf.1
  have hb := hf.at i hi
  induction k with
  | zero =>
    intro n p acc hp hk ha hn
    have h0 : p = 0 := by omega
    subst h0
    have hs := pcs_short (if (0 : Nat) = 0 then 1 else 0) (rs[i].drop 0) (by simp; omega)
    rw [hs, List.length_singleton] at hn
    rw [rwrite_go rs hf i hi n 0 acc hp, M.tidepoleref03_Write_l4]; try dsimp only
    have hm : imn (rs[i].length : Int) (wr .i64 (((0 : Nat) : Int) + 244)) = (rs[i].length : Int) := by rw [wr_i64 (by omega) (by omega)]; unfold imn; split <;> omega
    rw [if_pos (by omega), if_pos (by omega), gi_natB rs i hi, hm, if_pos rfl, wr_i64 (by simp) (by simp), rwrite_l5 rs hf i hi n 0 rs[i].length acc _ (by simp) (by omega) (by omega) (by omega) (by omega) (by omega)]
    rw [rwrite_out rs hf i hi _ _ _ (by omega) (by omega), hs]
    simp [secs]
  | succ k ih =>
    intro n p acc hp hk ha hn
    have hff : ∀ (f : Int), f = (if p = 0 then 1 else 0) → (f = 0 ∨ f = 1) := by intro f hf; split at hf <;> omega
    rw [rwrite_go rs hf i hi n p acc hp]
    generalize hfl : (if p = 0 then (1 : Int) else 0) = fl at hn ⊢
    have hfl' := hff fl hfl.symm
    rw [M.tidepoleref03_Write_l4]; try dsimp only
    rw [if_pos (by omega), if_pos (by omega), gi_natB rs i hi, wr_i64 (x := (p : Int) + 244) (by omega) (by omega)]
    by_cases hl : 244 < (rs[i].drop p).length
    · rw [pcs_long _ _ hl] at hn ⊢
      rw [List.length_cons] at hn
      rw [List.length_drop] at hl
      have hm : imn (rs[i].length : Int) ((p : Int) + 244) = ((p + 244 : Nat) : Int) := by unfold imn; split <;> omega
      have h5 : ∀ e : Nat, e = p + 244 → M.tidepoleref03_Write_l5 ((n : Int), rs, acc, (i : Int), (p : Int), fl, (e : Int)) = _ := fun e he => rwrite_l5 rs hf i hi n p e acc fl (by omega) (by omega) (by omega) (by omega) (by omega) (by omega)
      rw [hm, if_neg (by omega), h5 (p + 244) rfl]
      have hsl : (sec n ((rs[i].drop p).take (p + 244 - p)) fl).length = 256 := sec_len _ _ _ (by simp; omega)
      have := ih (n + 1) (p + 244) (acc ++ sec n ((rs[i].drop p).take (p + 244 - p)) fl) (.inr (by omega)) (by omega) (by rw [List.length_append, hsl]; omega) (by
        rw [if_neg (by omega)]; rw [List.drop_drop] at hn; omega)
      rw [this, if_neg (by omega), secs, List.length_cons, List.append_assoc, List.drop_drop, show p + 244 - p = 244 by omega]
      congr 3
      omega
    · rw [pcs_short _ _ hl] at hn ⊢
      rw [List.length_singleton] at hn
      rw [List.length_drop] at hl
      have hm : imn (rs[i].length : Int) ((p : Int) + 244) = (rs[i].length : Int) := by unfold imn; split <;> omega
      rw [hm, if_pos rfl, wr_i64 (by omega) (by omega), rwrite_l5 rs hf i hi n p rs[i].length acc (fl + 2) (by omega) (by omega) (by omega) (by omega) (by omega) (by omega)]
      rw [rwrite_out rs hf i hi _ _ _ (by omega) (by omega), List.take_of_length_le (by simp)]
      simp [secs]
theorem rwrite_l1 (rs : List (List Int)) (hf : Fit rs) (k : Nat) : ∀ (i n : Nat) (acc : List Int), i + k = rs.length → acc.length ≤ 17000000 * i → n + (pieces (rs.drop i)).length ≤ 4294967296 → M.tidepoleref03_Write_l1 ((n : Int), rs, acc, (i : Int)) = some (acc ++ secs n (pieces (rs.drop i)), 0) := by
  have hc := hf.1
  induction k with
  | zero =>
    intro i n acc hi ha hn
    rw [M.tidepoleref03_Write_l1]; try dsimp only
    rw [if_neg (by omega), List.drop_eq_nil_of_le (by omega), pieces, List.flatMap_nil, secs, List.append_nil]
  | succ k ih =>
    intro i n acc hi ha hn
    have hlt : i < rs.length := by omega
    have hb := hf.at i hlt
    have hnd := nd_le hb
    rw [List.drop_eq_getElem_cons hlt] at hn ⊢
    rw [plen_cons] at hn
    have hp := pcs_len rs[i].length 1 rs[i] (Nat.le_refl _)
    rw [M.tidepoleref03_Write_l1]; try dsimp only
    rw [if_pos (by omega)]
    have := rwrite_l2 rs hf i hlt rs[i].length n 0 acc (.inl rfl) (by omega) (by omega) (by rw [if_pos rfl, List.drop_zero]; omega)
    rw [if_pos rfl, List.drop_zero] at this
    have hsl : (secs n (pcs 1 rs[i])).length = 256 * (pcs 1 rs[i]).length := secs_len _ false n (by have := wf_pcs rs[i].length 1 rs[i] [] (Nat.le_refl _) (.inr rfl) trivial; rw [List.append_nil] at this; exact this)
    rw [show (0 : Int) = ((0 : Nat) : Int) from rfl, this, ih (i + 1) _ _ (by omega) (by rw [List.length_append, hsl]; omega) (by omega)]
    rw [pieces, pieces, List.flatMap_cons, secs_append, List.append_assoc]
    rfl
def wrF (n : Int) (rs : List (List Int)) : List Int × Int :=
  if big rs then ([], 3) else if n < 0 ∨ n > 4294967295 ∨ ((pieces rs).length > 0 ∧ n > 4294967296 - (pieces rs).length) then ([], 2) else (secs n.toNat (pieces rs), 0)
theorem write_eq (n : Int) (rs : List (List Int)) (hf : Fit rs) : M.frame_Write n rs = some (wrF n rs) := by
  have hpl := plen_le rs hf.2
  have hc := hf.1
  rw [M.frame_Write, need_eq rs hf, needF, wrF]; simp only [Option.bind_eq_bind, Option.bind_some]
  by_cases hg : big rs
  · rw [if_pos hg, if_pos hg, if_neg (by decide)]
  rw [if_neg hg, if_neg hg, if_pos rfl]
  dsimp only
  rw [Nat.zero_add, wr_i64 (x := 4294967295 - ((pieces rs).length : Int)) (by omega) (by omega), wr_i64 (by omega) (by omega)]
  have ht : M.frame_Write_l0 (rs, n, ((pieces rs).length : Int), true) = some ([], 2) := by
    rw [M.frame_Write_l0]; try dsimp only
    rw [if_pos rfl]
  have hff : 0 ≤ n → n + (pieces rs).length ≤ 4294967296 → M.frame_Write_l0 (rs, n, ((pieces rs).length : Int), false) = some (secs n.toNat (pieces rs), 0) := by
    intro h1 h2
    rw [M.frame_Write_l0]; try dsimp only
    have := write_l1 rs hf rs.length 0 n.toNat [] (by omega) (by simp) (by rw [List.drop_zero]; omega)
    rw [List.nil_append, List.drop_zero, Int.toNat_of_nonneg h1] at this
    rw [if_neg (by decide), wr_i64 (by omega) (by omega), if_pos (by omega), if_pos (by omega)]
    exact this
  by_cases h1 : n < 0
  · rw [if_pos h1, if_pos (.inl h1), ht]
  rw [if_neg h1]
  by_cases h2 : n > 4294967295
  · rw [if_pos h2, if_pos (.inr (.inl h2)), ht]
  rw [if_neg h2]
  by_cases h3 : ((pieces rs).length : Int) > 0
  · rw [if_pos h3]
    by_cases h4 : n > 4294967295 - ((pieces rs).length : Int) + 1
    · rw [decide_eq_true h4, ht, if_pos (by omega)]
    · rw [decide_eq_false h4, hff (by omega) (by omega), if_neg (by omega)]
  · rw [if_neg h3, hff (by omega) (by omega), if_neg (by omega)]
theorem rwrite_eq (n : Int) (rs : List (List Int)) (hf : Fit rs) : M.tidepoleref03_Write n rs = some (wrF n rs) := by
  have hpl := plen_le rs hf.2
  have hc := hf.1
  rw [M.tidepoleref03_Write, rneed_eq rs hf, needF, wrF]; simp only [Option.bind_eq_bind, Option.bind_some]
  by_cases hg : big rs
  · rw [if_pos hg, if_pos hg, if_neg (by decide)]
  rw [if_neg hg, if_neg hg, if_pos rfl]
  dsimp only
  rw [Nat.zero_add, wr_i64 (x := 4294967295 - ((pieces rs).length : Int)) (by omega) (by omega), wr_i64 (by omega) (by omega)]
  have ht : M.tidepoleref03_Write_l0 (n, rs, true) = some ([], 2) := by
    rw [M.tidepoleref03_Write_l0]; try dsimp only
    rw [if_pos rfl]
  have hff : 0 ≤ n → n + (pieces rs).length ≤ 4294967296 → M.tidepoleref03_Write_l0 (n, rs, false) = some (secs n.toNat (pieces rs), 0) := by
    intro h1 h2
    rw [M.tidepoleref03_Write_l0]; try dsimp only
    have := rwrite_l1 rs hf rs.length 0 n.toNat [] (by omega) (by simp) (by rw [List.drop_zero]; omega)
    rw [List.nil_append, List.drop_zero, Int.toNat_of_nonneg h1] at this
    rw [if_neg (by decide)]
    exact this
  by_cases h1 : n < 0
  · rw [if_pos h1, if_pos (.inl h1), ht]
  rw [if_neg h1]
  by_cases h2 : n > 4294967295
  · rw [if_pos h2, if_pos (.inr (.inl h2)), ht]
  rw [if_neg h2]
  by_cases h3 : ((pieces rs).length : Int) > 0
  · rw [if_pos h3]
    by_cases h4 : n > 4294967295 - ((pieces rs).length : Int) + 1
    · rw [decide_eq_true h4, ht, if_pos (by omega)]
    · rw [decide_eq_false h4, hff (by omega) (by omega), if_neg (by omega)]
  · rw [if_neg h3, hff (by omega) (by omega), if_neg (by omega)]
end Go.Proofs.Ytbmbligkbbfpbaa
