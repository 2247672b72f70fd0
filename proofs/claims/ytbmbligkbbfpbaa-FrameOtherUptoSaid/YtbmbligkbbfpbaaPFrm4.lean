/-
  The four laws of the frame.
-/
import Derived.Test.YtbmbligkbbfpbaaPFrm3
set_option linter.unusedVariables false
set_option linter.unusedSimpArgs false
namespace Go.Proofs.Ytbmbligkbbfpbaa
open Go.Gx

theorem bnd {α β : Type} (a : α) (f : α → Option β) : (some a >>= f) = f a := rfl
/-! ### What is read of whole records, and of parts -/
theorem rdP_rec (k : Nat) : ∀ (fl : Int) (r : List Int) (rest : List (List Int × Int)) (i : Nat) (recs : List (List Int)) (cur : List Int) (cnt : Int) (mid : Bool), r.length ≤ k → fl = 0 ∨ fl = 1 →
    rdP i (pcs fl r ++ rest) (recs, cur, cnt, mid) = rdP (i + (pcs fl r).length) rest (recs ++ [cur ++ r], [], ((i + (pcs fl r).length : Nat) : Int), false) := by
  induction k with
  | zero =>
    intro fl r rest i recs cur cnt mid hk hf
    rw [pcs_short _ _ (by omega)]
    simp only [List.cons_append, List.nil_append, rdP, List.length_cons, List.length_nil]
    rw [if_neg (by omega)]
    rfl
  | succ k ih =>
    intro fl r rest i recs cur cnt mid hk hf
    by_cases hl : 244 < r.length
    · rw [pcs_long _ _ hl]
      simp only [List.cons_append, rdP, List.length_cons]
      rw [if_pos (by omega), ih 0 (r.drop 244) rest (i + 1) recs (cur ++ r.take 244) cnt true (by simp; omega) (.inl rfl), List.append_assoc, List.take_append_drop, show i + 1 + (pcs 0 (r.drop 244)).length = i + ((pcs 0 (r.drop 244)).length + 1) by omega]
    · rw [pcs_short _ _ hl]
      simp only [List.cons_append, List.nil_append, rdP, List.length_cons, List.length_nil]
      rw [if_neg (by omega)]
      rfl
theorem rdP_part (k : Nat) : ∀ (fl : Int) (r : List Int) (m i : Nat) (s : St), r.length ≤ k → fl = 0 ∨ fl = 1 → m < (pcs fl r).length →
    (rdP i ((pcs fl r).take m) s).1 = s.1 ∧ (rdP i ((pcs fl r).take m) s).2.2.1 = s.2.2.1 := by
  induction k with
  | zero =>
    intro fl r m i s hk hf hm
    rw [pcs_short _ _ (by omega), List.length_singleton] at hm
    rw [show m = 0 by omega]; exact ⟨rfl, rfl⟩
  | succ k ih =>
    intro fl r m i s hk hf hm
    by_cases hl : 244 < r.length
    · rw [pcs_long _ _ hl, List.length_cons] at hm
      rw [pcs_long _ _ hl]
      cases m with
      | zero => exact ⟨rfl, rfl⟩
      | succ m =>
        rw [List.take_succ_cons]
        simp only [rdP]
        rw [if_pos (by omega)]
        exact ih 0 (r.drop 244) m (i + 1) _ (by simp; omega) (.inl rfl) (by omega)
    · rw [pcs_short _ _ hl, List.length_singleton] at hm
      rw [show m = 0 by omega]; exact ⟨rfl, rfl⟩
theorem rdP_all : ∀ (rs : List (List Int)) (i : Nat) (recs : List (List Int)), rdP i (pieces rs) (recs, [], (i : Int), false) = (recs ++ rs, [], ((i + (pieces rs).length : Nat) : Int), false)
  | [], i, recs => by simp [pieces, rdP]
  | r :: rs, i, recs => by
    have h := rdP_rec r.length 1 r (pieces rs) i recs [] (i : Int) false (Nat.le_refl _) (.inr rfl)
    rw [show pieces (r :: rs) = pcs 1 r ++ pieces rs from rfl, h, rdP_all rs, List.append_assoc, List.length_append]
    simp [Nat.add_assoc]

/-! ### The law's own functions -/
def fewF : Nat → List (List Int) → List (List Int)
  | _, [] => []
  | room, r :: t => if 65536 < r.length then r.take 65537 :: fewF room t else r.take room :: fewF (room - min r.length room) t
theorem fewF_idem : ∀ (l : List (List Int)) (room : Nat), fewF room (fewF room l) = fewF room l
  | [], room => rfl
  | r :: t, room => by
    rw [fewF]
    by_cases h : 65536 < r.length
    · rw [if_pos h, fewF, if_pos (by simp; omega), List.take_take, fewF_idem t]; rfl
    · rw [if_neg h, fewF, if_neg (by simp; omega), List.take_take, Nat.min_self]
      have : room - min (r.take room).length room = room - min r.length room := by simp only [List.length_take]; omega
      rw [this, fewF_idem t]
theorem fewF_len : ∀ (l : List (List Int)) (room : Nat), (fewF room l).length = l.length
  | [], room => rfl
  | r :: t, room => by rw [fewF]; split <;> simp [fewF_len t]
theorem fewF_le : ∀ (l : List (List Int)) (room : Nat), ∀ r ∈ fewF room l, r.length ≤ 65537
  | [], room => by simp [fewF]
  | r :: t, room => by
    rw [fewF]; split
    · intro x hx
      rcases List.mem_cons.1 hx with rfl | hx
      · simp; omega
      · exact fewF_le t _ x hx
    · intro x hx
      rcases List.mem_cons.1 hx with rfl | hx
      · simp; omega
      · exact fewF_le t _ x hx
theorem few_l0 (l : List (List Int)) (hl : l.length ≤ 1048576) (hb : ∀ r ∈ l, r.length ≤ 1048576) (k : Nat) : ∀ (i room : Nat) (acc : List (List Int)), min l.length 12 ≤ i + k → i ≤ 12 → room ≤ 5000 → acc.length ≤ 20 →
    acc.length + k ≤ 20 → M.tidepolelaw03_few_l0 (l, acc, (room : Int), (i : Int)) = some (acc ++ fewF room ((l.take 12).drop i)) := by
  have stop : ∀ (i : Nat) (room : Nat) (acc : List (List Int)), min l.length 12 ≤ i → M.tidepolelaw03_few_l0 (l, acc, (room : Int), (i : Int)) = some (acc ++ fewF room ((l.take 12).drop i)) := by
    intro i room acc h
    rw [List.drop_of_length_le (by simp; omega), fewF, List.append_nil, M.tidepolelaw03_few_l0]; try dsimp only
    have e : M.tidepolelaw03_few_l1 (l, acc, (room : Int), (i : Int), false) = some acc := by
      rw [M.tidepolelaw03_few_l1]; try dsimp only
      rw [if_neg (by decide)]
    by_cases hi : (i : Int) < l.length
    · rw [if_pos hi, decide_eq_false (by omega), e]
    · rw [if_neg hi, e]
  induction k with
  | zero => intro i room acc h h12 hr ha ha2; exact stop i room acc (by omega)
  | succ k ih =>
    intro i room acc h h12 hr ha ha2
    by_cases hlt : i < min l.length 12
    · have hil : i < l.length := by omega
      have hbi := hb _ (List.getElem_mem hil)
      have ed : (l.take 12).drop i = l[i] :: (l.take 12).drop (i + 1) := by
        rw [List.drop_eq_getElem_cons (by simp; omega)]
        simp
      have e2 : ∀ (room' : Nat) (v : List Int), room' ≤ 5000 → v.length ≤ 65537 → M.tidepolelaw03_few_l2 (l, acc, (room' : Int), (i : Int), v) = some ((acc ++ [v]) ++ fewF room' ((l.take 12).drop (i + 1))) := by
        intro room' v hr' hv
        rw [M.tidepolelaw03_few_l2]; try dsimp only
        rw [M.tidepolebase_Bytes, if_pos (by omega)]; simp only [Option.bind_eq_bind, Option.bind_some]
        rw [if_pos (by simp; omega), wr_i64 (by omega) (by omega), show (i : Int) + 1 = ((i + 1 : Nat) : Int) by omega]
        exact ih (i + 1) room' (acc ++ [v]) (by omega) (by omega) hr' (by simp; omega) (by simp; omega)
      rw [ed, fewF, M.tidepolelaw03_few_l0]; try dsimp only
      rw [if_pos (by omega), decide_eq_true (by omega), M.tidepolelaw03_few_l1]; try dsimp only
      rw [if_pos rfl, if_pos (by omega), if_pos (by omega), gi_natB l i hil]
      by_cases hg : 65536 < l[i].length
      · rw [if_pos (by omega), if_pos (by omega), if_pos hg, show sl l[i] 0 65537 = _ from sl_take l[i] 65537, e2 room _ hr (by simp; omega), List.append_assoc]
        rfl
      · have hm : imn (l[i].length : Int) (room : Int) = ((min l[i].length room : Nat) : Int) := by unfold imn; split <;> omega
        have ht : l[i].take (min l[i].length room) = l[i].take room := by
          rw [List.take_eq_take_iff]; omega
        rw [if_neg (by omega), if_neg hg, hm, if_pos (by omega), if_pos (by omega), sl_take, ht]; simp only [Option.bind_eq_bind, Option.bind_some]
        have hlen : ((l[i].take room).length : Int) = ((min l[i].length room : Nat) : Int) := by simp; omega
        rw [hlen, wr_i64 (by omega) (by omega), show (room : Int) - ((min l[i].length room : Nat) : Int) = ((room - min l[i].length room : Nat) : Int) by omega, e2 _ _ (by omega) (by simp; omega), List.append_assoc]
        rfl
    · exact stop i room acc (by omega)
theorem few_eq (l : List (List Int)) (hl : l.length ≤ 1048576) (hb : ∀ r ∈ l, r.length ≤ 1048576) : M.tidepolelaw03_few l = some (fewF 5000 (l.take 12)) := by
  rw [M.tidepolelaw03_few]
  have := few_l0 l hl hb 12 0 5000 [] (by omega) (by omega) (by omega) (by simp) (by simp)
  rw [List.drop_zero, List.nil_append] at this
  exact this
theorem few_fit (l : List (List Int)) : Fit (fewF 5000 (l.take 12)) := ⟨by rw [fewF_len]; simp; omega, fewF_le _ _⟩
theorem few_few (l : List (List Int)) : M.tidepolelaw03_few (fewF 5000 (l.take 12)) = some (fewF 5000 (l.take 12)) := by
  have hf := few_fit l
  rw [few_eq _ (by have := hf.1; omega) (fun r hr => by have := hf.2 r hr; omega), List.take_of_length_le hf.1, fewF_idem]
theorem same_self (xs : List Int) : M.tidepolebase_SameBytes xs xs = some true := by simp [M.tidepolebase_SameBytes]
theorem same_l0 (l : List (List Int)) (hl : l.length ≤ 1048576) (k : Nat) : ∀ i : Nat, i + k = l.length → M.tidepolelaw03_same_l0 (l, l, (i : Int)) = some true := by
  induction k with
  | zero =>
    intro i hi
    rw [M.tidepolelaw03_same_l0]; try dsimp only
    rw [if_neg (by omega)]
  | succ k ih =>
    intro i hi
    rw [M.tidepolelaw03_same_l0]; try dsimp only
    rw [if_pos (by omega), if_pos (by omega), if_pos (by omega), same_self, bnd, if_pos rfl, wr_i64 (by omega) (by omega)]
    exact ih (i + 1) (by omega)
theorem same_eq (l : List (List Int)) (hl : l.length ≤ 1048576) : M.tidepolelaw03_same l l = some true := by
  rw [M.tidepolelaw03_same, if_pos rfl]
  exact same_l0 l hl l.length 0 (by omega)
theorem among_eq (x : Int) (m : Nat) (h1 : 1 ≤ m) (h2 : m ≤ 1000000000) : ∃ k : Nat, k < m ∧ M.tidepolebase_Among x (m : Int) = some (k : Int) := by
  have wm : wr .u64 (m : Int) = m := by
    simp only [wr, IntKind.wrap, IntKind.signed, IntKind.bits]; simp; omega
  have wx : ∃ y : Nat, wr .u64 x = (y : Int) := by
    refine ⟨(wr .u64 x).toNat, ?_⟩
    simp only [wr, IntKind.wrap, IntKind.signed, IntKind.bits]; simp; omega
  obtain ⟨y, hy⟩ := wx
  rw [M.tidepolebase_Among, if_neg (by omega), wm, if_pos (by omega), hy]
  have : irem .u64 (y : Int) (m : Int) = ((y % m : Nat) : Int) := by
    simp only [irem]
    rw [Int.tmod_eq_emod_of_nonneg (Int.natCast_nonneg _), Int.natCast_emod]
  have hlt : y % m < m := Nat.mod_lt _ (by omega)
  rw [this]
  generalize y % m = z at hlt
  exact ⟨z, hlt, by rw [wr_i64 (by omega) (by omega)]⟩

/-! ### Records laid -/
def Laid (rs : List (List Int)) : Prop := rs.length ≤ 8 ∧ (∀ r ∈ rs, r.length ≤ 600) ∧ okSl (okSl (okInt .u8)) rs
theorem laid_plen : ∀ (rs : List (List Int)), (∀ r ∈ rs, r.length ≤ 600) → (pieces rs).length ≤ 3 * rs.length
  | [], _ => by simp [pieces]
  | r :: rs, h => by
    have h1 := laid_plen rs (fun x hx => h x (by simp [hx]))
    have h2 := h r (by simp)
    have : nd r.length ≤ 3 := by unfold nd; omega
    rw [plen_cons, List.length_cons]; omega
theorem Laid.fit {rs : List (List Int)} (h : Laid rs) : Fit rs := ⟨by have := h.1; omega, fun r hr => by have := h.2.1 r hr; omega⟩
theorem Laid.small {rs : List (List Int)} (h : Laid rs) : ¬ big rs := by rintro ⟨r, hr, hb⟩; have := h.2.1 r hr; omega
theorem Laid.write {rs : List (List Int)} (h : Laid rs) (n : Nat) (hn : n ≤ 1000000) : M.frame_Write (n : Int) rs = some (secs n (pieces rs), 0) := by
  have hp := laid_plen rs h.2.1
  have := h.1
  rw [write_eq _ _ h.fit, wrF, if_neg h.small, if_neg (by omega), Int.toNat_natCast]
theorem Laid.len {rs : List (List Int)} (h : Laid rs) (n : Nat) : (secs n (pieces rs)).length = 256 * (pieces rs).length := secs_len _ _ _ (wf_pieces rs)
theorem Laid.plen {rs : List (List Int)} (h : Laid rs) : (pieces rs).length ≤ 24 := by
  have hp := laid_plen rs h.2.1
  have := h.1
  omega
theorem ok_append {a b : List Int} (ha : okSl (okInt .u8) a) (hb : okSl (okInt .u8) b) : okSl (okInt .u8) (a ++ b) := by
  intro x hx
  rcases List.mem_append.1 hx with h | h
  · exact ha x h
  · exact hb x h
theorem ok_byte {x : Int} (h : 0 ≤ x ∧ x ≤ 255) : okInt .u8 x := by
  simp only [okInt, Lit.wf, IntKind.min, IntKind.max, IntKind.signed, IntKind.bits]; simp; omega
theorem le4_ok (c : W32) : okSl (okInt .u8) (le4 c) := by
  have := c.isLt
  intro x hx
  simp only [le4, List.mem_cons, List.not_mem_nil, or_false] at hx
  exact ok_byte (by omega)
theorem sec_ok (n : Nat) (p : List Int) (fl : Int) (hp : okSl (okInt .u8) p) (hf : 0 ≤ fl ∧ fl ≤ 3) : okSl (okInt .u8) (sec n p fl) := by
  refine ok_append (ok_append ?_ (ok_append hp ?_)) (ok_append (le4_ok _) ?_)
  · intro x hx
    simp only [hd, List.mem_cons, List.not_mem_nil, or_false] at hx
    exact ok_byte (by omega)
  · intro x hx
    rw [List.eq_of_mem_replicate hx]; exact ok_byte (by omega)
  · intro x hx
    rw [List.mem_singleton] at hx
    exact ok_byte (by omega)
def okP (P : List (List Int × Int)) : Prop := ∀ q ∈ P, okSl (okInt .u8) q.1 ∧ 0 ≤ q.2 ∧ q.2 ≤ 3
theorem secs_ok : ∀ (P : List (List Int × Int)) (n : Nat), okP P → okSl (okInt .u8) (secs n P)
  | [], n, h => by intro x hx; cases hx
  | q :: t, n, h => ok_append (sec_ok n q.1 q.2 (h q (by simp)).1 (h q (by simp)).2) (secs_ok t _ (fun x hx => h x (by simp [hx])))
theorem okP_pcs (k : Nat) : ∀ (fl : Int) (r : List Int), r.length ≤ k → fl = 0 ∨ fl = 1 → okSl (okInt .u8) r → okP (pcs fl r) := by
  induction k with
  | zero =>
    intro fl r hk hf hr q hq
    rw [pcs_short _ _ (by omega), List.mem_singleton] at hq
    subst hq; exact ⟨hr, by dsimp only; omega⟩
  | succ k ih =>
    intro fl r hk hf hr
    by_cases hl : 244 < r.length
    · rw [pcs_long _ _ hl]
      intro q hq
      rcases List.mem_cons.1 hq with rfl | hq
      · exact ⟨fun x hx => hr x (List.mem_of_mem_take hx), by dsimp only; omega⟩
      · exact ih 0 _ (by simp; omega) (.inl rfl) (fun x hx => hr x (List.mem_of_mem_drop hx)) q hq
    · intro q hq
      rw [pcs_short _ _ hl, List.mem_singleton] at hq
      subst hq; exact ⟨hr, by dsimp only; omega⟩
theorem okP_pieces (rs : List (List Int)) (h : okSl (okSl (okInt .u8)) rs) : okP (pieces rs) := by
  intro q hq
  obtain ⟨r, hr, hq⟩ := List.mem_flatMap.1 hq
  exact okP_pcs r.length 1 r (Nat.le_refl _) (.inr rfl) (h r hr) q hq
theorem okP_take {P : List (List Int × Int)} (h : okP P) (m : Nat) : okP (P.take m) := fun q hq => h q (List.mem_of_mem_take hq)
theorem okP_drop {P : List (List Int × Int)} (h : okP P) (m : Nat) : okP (P.drop m) := fun q hq => h q (List.mem_of_mem_drop hq)
theorem laid_l0 (n : Nat) (hn : n ≤ 1000000) (l : List (List Int)) (hl : l.length ≤ 1048576) (hb : ∀ r ∈ l, r.length ≤ 1048576) (hok : okSl (okSl (okInt .u8)) l) (k : Nat) : ∀ (i : Nat) (acc : List (List Int)), min l.length 8 ≤ i + k → acc.length ≤ i → i ≤ 8 → Laid acc →
    ∃ rs, Laid rs ∧ M.tidepolelaw03_laid_l0 ((n : Int), l, acc, (i : Int)) = some ((n : Int), rs, secs n (pieces rs)) := by
  have stop : ∀ (i : Nat) (acc : List (List Int)), min l.length 8 ≤ i → Laid acc → ∃ rs, Laid rs ∧ M.tidepolelaw03_laid_l0 ((n : Int), l, acc, (i : Int)) = some ((n : Int), rs, secs n (pieces rs)) := by
    intro i acc hi ha
    have e : M.tidepolelaw03_laid_l1 ((n : Int), l, acc, (i : Int), false) = some ((n : Int), acc, secs n (pieces acc)) := by
      rw [M.tidepolelaw03_laid_l1]; try dsimp only
      rw [if_neg (by decide), ha.write n hn]; rfl
    refine ⟨acc, ha, ?_⟩
    rw [M.tidepolelaw03_laid_l0]; try dsimp only
    by_cases hi : (i : Int) < l.length
    · rw [if_pos hi, decide_eq_false (by omega), e]
    · rw [if_neg hi, e]
  induction k with
  | zero => intro i acc h ha h8 hL; exact stop i acc (by omega) hL
  | succ k ih =>
    intro i acc h ha h8 hL
    by_cases hlt : i < min l.length 8
    · have hil : i < l.length := by omega
      have hbi := hb _ (List.getElem_mem hil)
      have hm : imn (l[i].length : Int) 600 = ((min l[i].length 600 : Nat) : Int) := by unfold imn; split <;> omega
      rw [M.tidepolelaw03_laid_l0]; try dsimp only
      rw [if_pos (by omega), decide_eq_true (by omega), M.tidepolelaw03_laid_l1]; try dsimp only
      rw [if_pos rfl, if_pos (by omega), if_pos (by omega), gi_natB l i hil, hm, if_pos (by omega), if_pos (by omega), sl_take]; simp only [Option.bind_eq_bind, Option.bind_some]
      rw [M.tidepolebase_Bytes, if_pos (by simp; omega), Option.bind_some, if_pos (by simp; omega), wr_i64 (by omega) (by omega), show (i : Int) + 1 = ((i + 1 : Nat) : Int) by omega]
      refine ih (i + 1) _ (by omega) (by simp; omega) (by omega) ⟨by simp; omega, ?_, ?_⟩
      · intro r hr
        rcases List.mem_append.1 hr with hr | hr
        · exact hL.2.1 r hr
        · rw [List.mem_singleton.1 hr]; simp; omega
      · intro r hr
        rcases List.mem_append.1 hr with hr | hr
        · exact hL.2.2 r hr
        · rw [List.mem_singleton.1 hr]; exact fun x hx => hok _ (List.getElem_mem hil) x (List.mem_of_mem_take hx)
    · exact stop i acc (by omega) hL
theorem laid_eq (x : Int) (l : List (List Int)) (hl : l.length ≤ 1048576) (hb : ∀ r ∈ l, r.length ≤ 1048576) (hok : okSl (okSl (okInt .u8)) l) : ∃ (n : Nat) (rs : List (List Int)), n < 1000000 ∧ Laid rs ∧ M.tidepolelaw03_laid x l = some ((n : Int), rs, secs n (pieces rs)) := by
  obtain ⟨n, hn, ha⟩ := among_eq x 1000000 (by omega) (by omega)
  obtain ⟨rs, hr, he⟩ := laid_l0 n (by omega) l hl hb hok 8 0 [] (by omega) (by simp) (by omega) ⟨by simp, by simp, by intro r hr; cases hr⟩
  refine ⟨n, rs, hn, hr, ?_⟩
  rw [M.tidepolelaw03_laid, show (1000000 : Int) = ((1000000 : Nat) : Int) from rfl, ha]; simp only [Option.bind_eq_bind, Option.bind_some]
  exact he
theorem Laid.read {rs : List (List Int)} (h : Laid rs) (n : Nat) (hn : n ≤ 1000000) (tail : List Int) (ht : tail.length ≤ 10000) (hok : okSl (okInt .u8) tail) (hs : (firstF tail).2.2.2 ≠ 0 ∨ (firstF tail).1 ≠ ((n + (pieces rs).length : Nat) : Int)) :
    M.frame_Read (n : Int) (secs n (pieces rs) ++ tail) = some (rs, ((pieces rs).length : Int), 0) := by
  have hp := h.plen
  have hl := h.len n
  rw [read_eq n tail (pieces rs) (by rw [List.length_append]; omega) (ok_append (secs_ok _ _ (okP_pieces rs h.2.2)) hok) (by omega) (wf_pieces rs) hs]
  have := rdP_all rs 0 []
  rw [show ((0 : Nat) : Int) = 0 from rfl] at this
  rw [this]
  simp
theorem works_eq : M.tidepolelaw03_works = some true := by
  have e300 : (300 : Int).toNat = 300 := rfl
  rw [M.tidepolelaw03_works, e300]
  obtain ⟨z, hz⟩ : ∃ z, z = List.replicate 300 (0 : Int) := ⟨_, rfl⟩
  have hzl : z.length = 300 := by rw [hz, List.length_replicate]
  have hzo : okSl (okInt .u8) z := by intro x hx; rw [hz] at hx; rw [List.eq_of_mem_replicate hx]; exact ok_byte (by omega)
  rw [← hz]
  have hL : Laid [[97], z] := by
    refine ⟨by simp, ?_, ?_⟩
    · intro r hr
      rcases List.mem_cons.1 hr with rfl | hr
      · simp
      · rw [List.mem_singleton.1 hr]; omega
    · intro r hr
      rcases List.mem_cons.1 hr with rfl | hr
      · intro x hx; rw [List.mem_singleton.1 hx]; exact ok_byte (by omega)
      · rw [List.mem_singleton.1 hr]; exact hzo
  have hp : (pieces [[97], z]).length = 3 := by
    simp only [plen_cons, hzl, List.length_singleton]
    rfl
  have hw := hL.write 5 (by omega)
  have hlen := hL.len 5
  have hr := hL.read 5 (by omega) [] (by simp) (by intro x hx; cases hx) (.inl (by rw [firstF_short _ (by simp)]; simp))
  rw [List.append_nil] at hr
  rw [hp] at hr hlen
  have e5 : ((5 : Nat) : Int) = 5 := rfl
  rw [e5] at hw hr
  rw [bnd, hw, bnd]
  dsimp only
  rw [hr, bnd]
  dsimp only
  have g0 : gi [[97], z] 0 = [97] := rfl
  have g1 : gi [[97], z] 1 = z := rfl
  rw [g0, g1, hzl, if_pos (by rw [hlen]; rfl), if_pos rfl, if_pos (by simp), if_pos (by simp), if_pos (by rfl), if_pos (by simp), if_pos (by rfl), if_pos (by rfl)]
  rfl
theorem bk_ge (x1 : List (List Int)) : x1.length + 1 ≤ bkSl (bkSl (fun _ => 1)) x1 ∧ ∀ r ∈ x1, r.length + 1 ≤ bkSl (bkSl (fun _ => 1)) x1 := by
  have bk_len : ∀ xs : List Int, bkSl (fun _ => 1) xs = xs.length + 1 := by
    intro xs
    unfold bkSl
    congr 1
    induction xs with
    | nil => rfl
    | cons x xs ih => simp only [List.map_cons, List.sum_cons, ih, List.length_cons]; omega
  rw [show bkSl (bkSl (fun _ => 1)) x1 = (x1.map (bkSl (fun _ => 1))).sum + 1 from rfl]
  induction x1 with
  | nil => simp
  | cons x xs ih =>
    simp only [List.map_cons, List.sum_cons, List.length_cons, bk_len x]
    refine ⟨by omega, ?_⟩
    intro r hr
    rcases List.mem_cons.1 hr with rfl | hr
    · omega
    · have := ih.2 r hr; omega
theorem bk_rows {x1 : List (List Int)} {b : Nat} (h : bkSl (bkSl (fun _ => 1)) x1 + b ≤ 1048576) : x1.length ≤ 1048576 ∧ (∀ r ∈ x1, r.length ≤ 1048576) := by
  have h1 := bk_ge x1
  exact ⟨by omega, fun r hr => by have := h1.2 r hr; omega⟩

/-! ### The laws -/
theorem pureFrameWrites (x0 : Int) (x1 : List (List Int)) (o0 : (okInt .i64) x0) (o1 : (okSl (okSl (okInt .u8))) x1) (hb : 1 + (bkSl (bkSl (fun _ => 1))) x1 ≤ 1048576) : M.tidepolelaw03_FrameWrites x0 x1 = some true := by
  obtain ⟨h1, h2⟩ := bk_rows (b := 1) (x1 := x1) (by omega)
  have hf := few_fit x1
  rw [M.tidepolelaw03_FrameWrites, few_eq x1 h1 h2, bnd]
  rw [few_few, bnd, write_eq _ _ hf, bnd, rwrite_eq _ _ hf, bnd, bnd, need_eq _ hf, bnd, rneed_eq _ hf, bnd, same_self, bnd]
  rw [if_pos rfl, if_pos rfl, if_pos rfl, if_pos rfl, works_eq]
  rfl
theorem imn_take (xs : List Int) : 0 ≤ imn (xs.length : Int) 600 ∧ imn (xs.length : Int) 600 ≤ xs.length ∧ sl xs 0 (imn (xs.length : Int) 600) = xs.take 600 := by
  have hm : imn (xs.length : Int) 600 = ((min xs.length 600 : Nat) : Int) := by unfold imn; split <;> omega
  rw [hm, sl_take]
  refine ⟨by omega, by omega, ?_⟩
  rw [List.take_eq_take_iff]; omega
theorem pureFrameBack (x0 : Int) (x1 : List (List Int)) (x2 : List Int) (o0 : (okInt .i64) x0) (o1 : (okSl (okSl (okInt .u8))) x1) (o2 : (okSl (okInt .u8)) x2) (hb : 1 + (bkSl (bkSl (fun _ => 1))) x1 + (bkSl (fun _ => 1)) x2 ≤ 1048576) : M.tidepolelaw03_FrameBack x0 x1 x2 = some true := by
  obtain ⟨h1, h2⟩ := bk_rows (b := 1) (x1 := x1) (by omega)
  obtain ⟨n, rs, hn, hL, he⟩ := laid_eq x0 x1 h1 h2 o1
  obtain ⟨m0, m1, m2⟩ := imn_take x2
  have hp := hL.plen
  have hl := hL.len n
  have ht : (x2.take 600).length ≤ 600 := by simp; omega
  have hto : okSl (okInt .u8) (x2.take 600) := fun x hx => o2 x (List.mem_of_mem_take hx)
  rw [M.tidepolelaw03_FrameBack, works_eq, bnd, if_pos rfl, he, bnd, if_pos m0, if_pos m1, m2, rfirst_eq _ (by omega) hto, bnd]
  dsimp only
  have q1 : iquo .i64 ((secs n (pieces rs)).length : Int) 256 = ((pieces rs).length : Int) := by
    have := iquo64 (secs n (pieces rs)).length 256 (by omega)
    rw [show ((256 : Nat) : Int) = 256 from rfl] at this
    rw [this, hl]; omega
  have q2 : irem .i64 ((secs n (pieces rs)).length : Int) 256 = 0 := by
    have := irem64 (secs n (pieces rs)).length 256
    rw [show ((256 : Nat) : Int) = 256 from rfl] at this
    rw [this, hl]; omega
  rw [q1, wr_i64 (by omega) (by omega)]
  have fin : (firstF (x2.take 600)).2.2.2 ≠ 0 ∨ (firstF (x2.take 600)).1 ≠ ((n + (pieces rs).length : Nat) : Int) → M.tidepolelaw03_FrameBack_l0 ((n : Int), x2.take 600, rs, secs n (pieces rs), false) = some true := by
    intro hs
    rw [M.tidepolelaw03_FrameBack_l0]; try dsimp only
    rw [if_neg (by decide), M.tidepolebase_Bytes, if_pos (by omega), bnd, if_pos (by rw [List.length_append]; omega), hL.read n (by omega) _ (by omega) hto hs, bnd]
    dsimp only
    rw [if_pos rfl, same_eq rs (by have := hL.1; omega), bnd, if_pos rfl, q1, if_pos rfl, q2]
    rfl
  by_cases h0 : (firstF (x2.take 600)).2.2.2 = 0
  · rw [if_pos h0]
    by_cases hq : (firstF (x2.take 600)).1 = (n : Int) + (pieces rs).length
    · rw [decide_eq_true hq, M.tidepolelaw03_FrameBack_l0]; try dsimp only
      rw [if_pos rfl]
    · rw [decide_eq_false hq, fin (.inr (by omega))]
  · rw [if_neg h0, fin (.inl h0)]
theorem pureFrameOther (x0 : Int) (x1 : List (List Int)) (x2 : Int) (o0 : (okInt .i64) x0) (o1 : (okSl (okSl (okInt .u8))) x1) (o2 : (okInt .i64) x2) (hb : 1 + (bkSl (bkSl (fun _ => 1))) x1 + 1 ≤ 1048576) : M.tidepolelaw03_FrameOther x0 x1 x2 = some true := by
  obtain ⟨h1, h2⟩ := bk_rows (b := 1) (x1 := x1) (by omega)
  obtain ⟨n, rs, hn, hL, he⟩ := laid_eq x0 x1 h1 h2 o1
  obtain ⟨m, hm, ha⟩ := among_eq x2 1000000 (by omega) (by omega)
  have ha' : M.tidepolebase_Among x2 1000000 = some (m : Int) := ha
  have hp := hL.plen
  have hl := hL.len n
  rw [M.tidepolelaw03_FrameOther, works_eq, bnd, if_pos rfl, he, bnd, ha', bnd]
  dsimp only
  by_cases hq : m = n
  · subst hq
    have hr := hL.read m (by omega) [] (by simp) (by intro x hx; cases hx) (.inl (by rw [firstF_short _ (by simp)]; simp))
    rw [List.append_nil] at hr
    rw [hr, bnd]
    dsimp only
    rw [if_pos rfl, if_pos rfl, same_eq rs (by have := hL.1; omega), bnd, if_pos rfl]
  · have hs : (firstF (secs n (pieces rs))).2.2.2 ≠ 0 ∨ (firstF (secs n (pieces rs))).1 ≠ ((m + 0 : Nat) : Int) := by
      have hw := wf_pieces rs
      generalize pieces rs = P at hw
      match P, hw with
      | [], _ => rw [secs, firstF_short _ (by simp)]; simp
      | q :: t, hw =>
        have hfl : q.2 ≤ 3 := by rcases hw.2.1 with h | h | h | h <;> omega
        rw [secs, firstF_sec n (by omega) q.1 q.2 hw.1 hfl]
        right; dsimp only; omega
    have hr := read_eq m (secs n (pieces rs)) [] (by rw [secs, List.nil_append]; omega) (by rw [secs, List.nil_append]; exact secs_ok _ _ (okP_pieces rs hL.2.2)) (by omega) trivial hs
    rw [secs, List.nil_append] at hr
    simp only [rdP] at hr
    rw [hr, bnd]
    dsimp only
    have hne : ¬ ((m : Int) = (n : Int)) := by omega
    rw [if_pos rfl, if_neg hne, if_neg hne, if_pos (by simp)]
    rfl
theorem fronts_l1 (rs recs : List (List Int)) (k : Nat) (cnt : Int) (hL : Laid rs) (hk : k ≤ 100) : ∀ (j i tot : Nat) (acc : List (List Int)), i + j = rs.length → acc.length = i → tot ≤ k →
    (rdP tot ((pieces (rs.drop i)).take (k - tot)) (acc, [], (tot : Int), false)).1 = recs → (rdP tot ((pieces (rs.drop i)).take (k - tot)) (acc, [], (tot : Int), false)).2.2.1 = cnt → recs.length ≤ 1000 →
    M.tidepolelaw03_FrameFronts_l1 (rs, (k : Int), recs, cnt, 0, (tot : Int), acc, (i : Int)) = some true := by
  have hc := hL.1
  intro j
  induction j with
  | zero =>
    intro i tot acc hi ha ht h1 h2 h3
    rw [List.drop_eq_nil_of_le (by omega)] at h1 h2
    simp only [pieces, List.flatMap_nil, List.take_nil, rdP] at h1 h2
    rw [M.tidepolelaw03_FrameFronts_l1]; try dsimp only
    rw [if_neg (by omega), if_pos rfl, ← h1, same_eq acc (by omega), bnd, if_pos rfl, ← h2, decide_eq_true rfl]
  | succ j ih =>
    intro i tot acc hi ha ht h1 h2 h3
    have hlt : i < rs.length := by omega
    have hb := hL.2.1 _ (List.getElem_mem hlt)
    have hpl := pcs_len rs[i].length 1 rs[i] (Nat.le_refl _)
    have hnd := nd_le (show rs[i].length ≤ 65537 by omega)
    rw [List.drop_eq_getElem_cons hlt] at h1 h2
    rw [show pieces (rs[i] :: rs.drop (i + 1)) = pcs 1 rs[i] ++ pieces (rs.drop (i + 1)) from rfl, List.take_append] at h1 h2
    rw [M.tidepolelaw03_FrameFronts_l1]; try dsimp only
    rw [if_pos (by omega), if_pos (by omega), gi_natB rs i hlt, imx_nd _ (by omega), wr_i64 (x := (tot : Int) + (nd rs[i].length : Int)) (by omega) (by omega)]
    by_cases hbig : k < tot + nd rs[i].length
    · rw [show k - tot - (pcs 1 rs[i]).length = 0 by omega, List.take_zero, List.append_nil] at h1 h2
      obtain ⟨p1, p2⟩ := rdP_part rs[i].length 1 rs[i] (k - tot) tot (acc, [], (tot : Int), false) (Nat.le_refl _) (.inr rfl) (by omega)
      rw [p1] at h1
      rw [p2] at h2
      dsimp only at h1 h2
      rw [if_pos (by omega), if_pos rfl, ← h1, same_eq acc (by omega), bnd, if_pos rfl, ← h2, decide_eq_true rfl]
    · rw [List.take_of_length_le (by omega), rdP_rec rs[i].length 1 rs[i] _ tot acc [] (tot : Int) false (Nat.le_refl _) (.inr rfl), hpl, List.nil_append, show k - tot - nd rs[i].length = k - (tot + nd rs[i].length) by omega] at h1 h2
      rw [if_neg (by omega), if_pos (by simp; omega), wr_i64 (by omega) (by omega), show (i : Int) + 1 = ((i + 1 : Nat) : Int) by omega, show (tot : Int) + (nd rs[i].length : Int) = ((tot + nd rs[i].length : Nat) : Int) by omega]
      exact ih (i + 1) (tot + nd rs[i].length) (acc ++ [rs[i]]) (by omega) (by simp; omega) (by omega) h1 h2 h3
theorem rdP_len : ∀ (P : List (List Int × Int)) (i : Nat) (s : St), (rdP i P s).1.length ≤ s.1.length + P.length
  | [], i, s => by simp [rdP]
  | q :: t, i, s => by
    rw [rdP]
    refine Nat.le_trans (rdP_len t _ _) ?_
    split <;> simp <;> omega
theorem fronts_l0 (rs : List (List Int)) (hL : Laid rs) (n : Nat) (hn : n ≤ 1000000) (k : Nat) (hk : k ≤ (pieces rs).length) (tail : List Int) (ht : tail.length ≤ 10000) (hok : okSl (okInt .u8) tail) (hs : (firstF tail).2.2.2 ≠ 0 ∨ (firstF tail).1 ≠ ((n + k : Nat) : Int)) :
    M.tidepolelaw03_FrameFronts_l0 ((n : Int), rs, (k : Int), secs n ((pieces rs).take k) ++ tail) = some true := by
  have hp := hL.plen
  have hw := wf_take (pieces rs) false k (wf_pieces rs)
  have hlk : ((pieces rs).take k).length = k := by simp; omega
  have hl : (secs n ((pieces rs).take k)).length = 256 * k := by rw [secs_len _ _ _ hw, hlk]
  rw [M.tidepolelaw03_FrameFronts_l0]; try dsimp only
  rw [read_eq n tail _ (by rw [List.length_append]; omega) (ok_append (secs_ok _ _ (okP_take (okP_pieces rs hL.2.2) k)) hok) (by omega) hw (by rw [hlk]; exact hs), bnd]
  dsimp only
  have := rdP_len ((pieces rs).take k) 0 ([], [], 0, false)
  have hz := fronts_l1 rs _ k _ hL (by omega) rs.length 0 0 [] (by omega) rfl (by omega) rfl rfl (by
    rw [List.drop_zero, Nat.sub_zero]
    refine Nat.le_trans (rdP_len _ _ _) ?_
    simp; omega)
  rw [List.drop_zero, Nat.sub_zero] at hz
  exact hz
theorem pureFrameFronts (x0 : Int) (x1 : List (List Int)) (x2 : Int) (x3 : Bool) (o0 : (okInt .i64) x0) (o1 : (okSl (okSl (okInt .u8))) x1) (o2 : (okInt .i64) x2) (o3 : (fun _ => True) x3) (hb : 1 + (bkSl (bkSl (fun _ => 1))) x1 + 1 + 1 ≤ 1048576) : M.tidepolelaw03_FrameFronts x0 x1 x2 x3 = some true := by
  obtain ⟨h1, h2⟩ := bk_rows (b := 1) (x1 := x1) (by omega)
  obtain ⟨n, rs, hn, hL, he⟩ := laid_eq x0 x1 h1 h2 o1
  have hp := hL.plen
  have hl := hL.len n
  have hokP := okP_pieces rs hL.2.2
  rw [M.tidepolelaw03_FrameFronts, works_eq, bnd, if_pos rfl, he, bnd]
  dsimp only
  by_cases h0 : ((secs n (pieces rs)).length : Int) = 0
  · rw [if_pos h0]
  rw [if_neg h0]
  have q1 : iquo .i64 ((secs n (pieces rs)).length : Int) 256 = ((pieces rs).length : Int) := by
    have := iquo64 (secs n (pieces rs)).length 256 (by omega)
    rw [show ((256 : Nat) : Int) = 256 from rfl] at this
    rw [this, hl]; omega
  obtain ⟨k, hk, ha⟩ := among_eq x2 (pieces rs).length (by omega) (by omega)
  rw [q1, ha, bnd]
  have cut : ∀ m : Nat, m ≤ (pieces rs).length → (secs n (pieces rs)).take (256 * m) = secs n ((pieces rs).take m) ∧ (secs n (pieces rs)).drop (256 * m) = secs (n + m) ((pieces rs).drop m) := by
    intro m hm
    have e := secs_append ((pieces rs).take m) ((pieces rs).drop m) n
    rw [List.take_append_drop] at e
    have hw := wf_take (pieces rs) false m (wf_pieces rs)
    have hlm : ((pieces rs).take m).length = m := by simp; omega
    have hl2 : (secs n ((pieces rs).take m)).length = 256 * m := by rw [secs_len _ _ _ hw, hlm]
    rw [hlm] at e
    rw [e, List.take_left' hl2, List.drop_left' hl2]
    exact ⟨rfl, rfl⟩
  rw [wr_i64 (x := 256 * (k : Int)) (by omega) (by omega), wr_i64 (x := 256 * (k : Int) + 256) (by omega) (by omega), if_pos (by omega), if_pos (by omega), if_pos (by omega), if_pos (by omega)]
  rw [show (256 * (k : Int) + 256) = ((256 * (k + 1) : Nat) : Int) by omega, show 256 * (k : Int) = ((256 * k : Nat) : Int) by omega, sl_drop, sl_take, (cut (k + 1) hk).2, (cut k (by omega)).1, bnd]
  have hwk := wf_take (pieces rs) false k (wf_pieces rs)
  have hlk : ((pieces rs).take k).length = k := by simp; omega
  have hl2 : (secs n ((pieces rs).take k)).length = 256 * k := by rw [secs_len _ _ _ hwk, hlk]
  have hl3 : (secs (n + (k + 1)) ((pieces rs).drop (k + 1))).length ≤ 256 * 24 := by
    rw [← (cut (k + 1) hk).2, List.length_drop]; omega
  rw [M.tidepolebase_Bytes, if_pos (by omega), bnd, if_pos (by rw [List.length_append]; omega)]
  by_cases h3 : x3 = true
  · rw [if_pos h3]
    obtain ⟨m, hm, ha2⟩ := among_eq x2 256 (by omega) (by omega)
    have ha2' : M.tidepolebase_Among x2 256 = some (m : Int) := ha2
    rw [ha2', bnd, wr_i64 (by omega) (by omega), if_pos (by omega), if_pos (by omega), show ((256 * k : Nat) : Int) + (m : Int) = ((256 * k + m : Nat) : Int) by omega, sl_take, List.take_add, (cut k (by omega)).1, bnd]
    have htl : ((List.drop (256 * k) (secs n (pieces rs))).take m).length ≤ m := by simp; omega
    rw [M.tidepolebase_Bytes, if_pos (by rw [List.length_append]; omega), bnd]
    exact fronts_l0 rs hL n (by omega) k (by omega) _ (by omega) (fun x hx => secs_ok _ n hokP x (List.mem_of_mem_drop (List.mem_of_mem_take hx))) (.inl (by rw [firstF_short _ (by omega)]; simp))
  · rw [if_neg h3]
    refine fronts_l0 rs hL n (by omega) k (by omega) _ (by omega) (secs_ok _ _ (okP_drop hokP _)) ?_
    cases hd : (pieces rs).drop (k + 1) with
    | nil => rw [secs, firstF_short _ (by simp)]; simp
    | cons q t =>
      have hq : q ∈ pieces rs := List.mem_of_mem_drop (by rw [hd]; simp)
      obtain ⟨r, hr, hq⟩ := List.mem_flatMap.1 hq
      have hall : ∀ (P : List (List Int × Int)) (mid : Bool), wf mid P → ∀ q ∈ P, q.1.length ≤ 244 ∧ q.2 ≤ 3 := by
        intro P
        induction P with
        | nil => intro mid _ q hq; cases hq
        | cons p P ih =>
          intro mid hw q hq
          rcases List.mem_cons.1 hq with rfl | hq
          · exact ⟨hw.1, by rcases hw.2.1 with h | h | h | h <;> omega⟩
          · exact ih _ hw.2.2.2.2 q hq
      obtain ⟨b1, b2⟩ := hall (pieces rs) false (wf_pieces rs) q (List.mem_of_mem_drop (by rw [hd]; simp))
      rw [secs, firstF_sec _ (by omega) q.1 q.2 b1 b2]
      right; dsimp only; omega
end Go.Proofs.Ytbmbligkbbfpbaa
