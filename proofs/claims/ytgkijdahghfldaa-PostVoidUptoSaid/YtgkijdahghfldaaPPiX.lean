/-
  An index of lists: what is put and taken, told as by the reference.
-/
import Derived.Test.YtgkijdahghfldaaPPiL
import Derived.Test.YtgkijdahghfldaaPPiV
import Derived.Test.YtgkijdahghfldaaLM
import Derived.Test.YtgkijdahghfldaaOPi
import Derived.Sort.Walk0
import Derived.Lib.Builder
set_option linter.unusedVariables false
set_option linter.unusedSimpArgs false
namespace Go.Proofs.Ytgkijdahghfldaa
open Go.Gx

theorem tl_bl (s : ByteArray) : s.toList = bl s := Lib.toList_data s
theorem tl_eq (a b : ByteArray) : ((a.toList == b.toList) = true) ↔ a = b := by
  rw [tl_bl, tl_bl, beq_iff_eq]
  exact ⟨bl_inj, fun h => by rw [h]⟩
theorem less_bl (a b : ByteArray) : Op.bytesLess a.toList b.toList = decide (bl a < bl b) := by rw [bytesLess_eq, tl_bl, tl_bl]
abbrev So (y : List T58) : Prop := y.Pairwise (fun a b => bl a.Key < bl b.Key)
def prs (y : List T58) : List (ByteArray × List Int) := y.map fun t => (t.Key, t.L)
theorem lt_tr {a b c : List UInt8} (h : a < b) (k : b < c) : a < c := List.lt_trans h k
theorem lt_ir (a : List UInt8) : ¬ a < a := List.lt_irrefl a
theorem lt_cases {a b : List UInt8} (h : ¬ a < b) (hn : a ≠ b) : b < a := by
  rcases List.le_iff_lt_or_eq.1 (List.not_lt.1 h) with h | h
  · exact h
  · exact absurd h.symm hn
theorem prs_keys {y : List T58} (h : So y) : Keys (prs y) := by
  unfold Keys prs
  rw [List.map_map]
  refine (List.pairwise_map.2 (h.imp fun {a b} hab => ?_))
  intro e
  simp only [Function.comp] at e
  rw [e] at hab
  exact lt_ir _ hab
theorem gi_T (y : List T58) (i : Nat) (h : i < y.length) : gi y (i : Int) = y[i] := by simp [gi, h]

/-! ### The reference's list of a key -/
def rget (y : List T58) (k : ByteArray) : List Int := (mget (prs y) k).getD []
theorem rget_nil (k : ByteArray) : rget [] k = [] := rfl
theorem rget_cons (e : T58) (y : List T58) (k : ByteArray) : rget (e :: y) k = if k = e.Key then e.L else rget y k := by
  simp only [rget, prs, List.map_cons, mget]
  by_cases h : k = e.Key
  · subst h; simp
  · have : (k == e.Key) = false := by simpa using h
    simp [this, h]
theorem rlist_l0 (y : List T58) (k : ByteArray) (hl : y.length ≤ 1073741824) (hb : ∀ t ∈ y, t.L.length ≤ 1073741824) (n : Nat) : ∀ i : Nat, i + n = y.length → M.tidepoleref13_Index_List_l0 (k, (i : Int), y) = some (rget (y.drop i) k) := by
  induction n with
  | zero =>
    intro i hi
    rw [M.tidepoleref13_Index_List_l0]; try dsimp only
    rw [if_neg (by omega), List.drop_eq_nil_of_le (by omega)]; rfl
  | succ n ih =>
    intro i hi
    have hlt : i < y.length := by omega
    rw [M.tidepoleref13_Index_List_l0]; try dsimp only
    rw [if_pos (by omega), if_pos (by omega), gi_T y i hlt, List.drop_eq_getElem_cons hlt, rget_cons]
    by_cases h : y[i].Key = k
    · rw [if_pos ((tl_eq _ _).2 h), if_pos (by have := hb _ (List.getElem_mem hlt); omega), if_pos h.symm]
    · rw [if_neg (fun h' => h ((tl_eq _ _).1 h')), if_neg (fun h' => h h'.symm), wr_i64 (by omega) (by omega), show (i : Int) + 1 = ((i + 1 : Nat) : Int) by omega, ih (i + 1) (by omega)]
theorem rlist_eq (y : List T58) (k : ByteArray) (hl : y.length ≤ 1073741824) (hb : ∀ t ∈ y, t.L.length ≤ 1073741824) : M.tidepoleref13_Index_List y k = some (rget y k) := by
  rw [M.tidepoleref13_Index_List]
  exact rlist_l0 y k hl hb y.length 0 (by omega)

/-! ### The reference's key set -/
def setp (k : ByteArray) (l : List Int) : Bool → List T58 → List T58
  | d, [] => if d then [] else [⟨k, l⟩]
  | d, e :: es => (if d = true ∨ bl e.Key < bl k then [] else [⟨k, l⟩]) ++ ((if e.Key = k then [] else [e]) ++ setp k l (if d = true ∨ bl e.Key < bl k then d else true) es)
theorem setp_len (k : ByteArray) (l : List Int) : ∀ (y : List T58) (d : Bool), (setp k l d y).length ≤ y.length + (if d then 0 else 1)
  | [], d => by cases d <;> simp [setp]
  | e :: es, d => by
    have h1 := setp_len k l es d
    have h2 := setp_len k l es true
    simp only [setp, List.length_append]
    cases d
    · simp only [Bool.false_eq_true, false_or, if_false] at h1 h2 ⊢
      split <;> split <;> simp at h1 h2 ⊢ <;> omega
    · simp only [true_or, if_true] at h1 h2 ⊢
      split <;> simp at h1 h2 ⊢ <;> omega
theorem rset_l0 (y : List T58) (k : ByteArray) (l : List Int) (hl : y.length ≤ 1000000) (n : Nat) : ∀ (i : Nat) (acc : List T58) (d : Bool), i + n = y.length → acc.length ≤ 2 * i → M.tidepoleref13_Index_set_l0 (k, l, acc, d, (i : Int), y) = some (acc ++ setp k l d (y.drop i)) := by
  induction n with
  | zero =>
    intro i acc d hi ha
    rw [M.tidepoleref13_Index_set_l0]; try dsimp only
    rw [if_neg (by omega), List.drop_eq_nil_of_le (by omega)]
    cases d
    · rw [if_neg (by decide), if_pos (by simp; omega)]; simp [setp]
    · rw [if_pos rfl]; simp [setp]
  | succ n ih =>
    intro i acc d hi ha
    have hlt : i < y.length := by omega
    have l3 : ∀ (acc : List T58) (d : Bool), acc.length ≤ 2 * (i + 1) → M.tidepoleref13_Index_set_l3 (k, l, acc, d, (i : Int), y) = some (acc ++ setp k l d (y.drop (i + 1))) := fun acc d ha => by
      rw [M.tidepoleref13_Index_set_l3]; try dsimp only
      rw [wr_i64 (by omega) (by omega), show (i : Int) + 1 = ((i + 1 : Nat) : Int) by omega, ih (i + 1) acc d (by omega) (by omega)]
    have l2 : ∀ (acc : List T58) (d : Bool), acc.length ≤ 2 * i + 1 → M.tidepoleref13_Index_set_l2 (k, l, acc, d, (i : Int), y) = some (acc ++ ((if y[i].Key = k then [] else [y[i]]) ++ setp k l d (y.drop (i + 1)))) := fun acc d ha => by
      rw [M.tidepoleref13_Index_set_l2]; try dsimp only
      rw [if_pos (by omega), if_pos (by omega), gi_T y i hlt]
      by_cases h : y[i].Key = k
      · rw [if_pos ((tl_eq _ _).2 h), if_pos h, l3 acc d (by omega)]; simp
      · rw [if_neg (fun h' => h ((tl_eq _ _).1 h')), if_neg h, if_pos (by simp; omega), l3 _ d (by simp; omega)]; simp
    rw [M.tidepoleref13_Index_set_l0]; try dsimp only
    rw [if_pos (by omega), List.drop_eq_getElem_cons hlt, setp]
    cases d
    · rw [if_neg (by decide), if_pos (by omega), gi_T y i hlt, less_bl]
      by_cases h : bl y[i].Key < bl k
      · rw [decide_eq_true h, M.tidepoleref13_Index_set_l1]; try dsimp only
        rw [Bool.not_true, if_neg (by decide), l2 acc false (by omega)]
        simp [h]
      · rw [decide_eq_false h, M.tidepoleref13_Index_set_l1]; try dsimp only
        rw [Bool.not_false, if_pos rfl, if_pos (by simp; omega), l2 _ true (by simp; omega)]
        simp [h]
    · rw [if_pos rfl, M.tidepoleref13_Index_set_l1]; try dsimp only
      rw [if_neg (by decide), l2 acc true (by omega)]
      simp
theorem rset_eq (y : List T58) (k : ByteArray) (l : List Int) (hl : y.length ≤ 1000000) : M.tidepoleref13_Index_set y k l = some (setp k l (decide ((l.length : Int) = 0)) y) := by
  rw [M.tidepoleref13_Index_set]
  exact rset_l0 y k l hl y.length 0 [] _ (by omega) (by simp)
theorem setp_perm (k : ByteArray) (l : List Int) : ∀ (y : List T58) (d : Bool), (setp k l d y).Perm ((if d then [] else [⟨k, l⟩]) ++ y.filter (fun t => !(k == t.Key)))
  | [], d => by cases d <;> simp [setp]
  | e :: es, d => by
    have h1 := setp_perm k l es d
    have h2 := setp_perm k l es true
    have hf : (e :: es).filter (fun t => !(k == t.Key)) = (if e.Key = k then [] else [e]) ++ es.filter (fun t => !(k == t.Key)) := by
      rw [List.filter_cons]
      by_cases h : e.Key = k
      · subst h; simp
      · have : (k == e.Key) = false := by rw [beq_eq_false_iff_ne]; exact fun h' => h h'.symm
        rw [this, if_neg h]; simp
    rw [hf, setp]
    by_cases h : d = true ∨ bl e.Key < bl k
    · rw [if_pos h, if_pos h, List.nil_append]
      refine (h1.append_left _).trans ?_
      rw [← List.append_assoc, ← List.append_assoc]
      exact List.perm_append_comm.append_right _
    · rw [if_neg h, if_neg h]
      have hd : d = false := by
        cases d
        · rfl
        · exact absurd (.inl rfl) h
      subst hd
      exact (h2.append_left _).append_left _
theorem setp_mem {k : ByteArray} {l : List Int} {d : Bool} {y : List T58} {t : T58} (h : t ∈ setp k l d y) : (d = false ∧ t = ⟨k, l⟩) ∨ (t ∈ y ∧ t.Key ≠ k) := by
  have := (setp_perm k l y d).mem_iff.1 h
  rw [List.mem_append, List.mem_filter] at this
  rcases this with h | ⟨h, h'⟩
  · cases d
    · exact .inl ⟨rfl, by simpa using h⟩
    · simp at h
  · refine .inr ⟨h, ?_⟩
    rintro rfl
    simp at h'
theorem setp_so (k : ByteArray) (l : List Int) : ∀ (y : List T58) (d : Bool), So y → So (setp k l d y)
  | [], d, _ => by cases d <;> simp [setp]
  | e :: es, d, h => by
    rw [So, List.pairwise_cons] at h
    have h1 := setp_so k l es d h.2
    have h2 := setp_so k l es true h.2
    rw [setp]
    by_cases hc : d = true ∨ bl e.Key < bl k
    · rw [if_pos hc, if_pos hc, List.nil_append]
      by_cases he : e.Key = k
      · rw [if_pos he]; exact h1
      · rw [if_neg he, List.singleton_append, So, List.pairwise_cons]
        refine ⟨fun t ht => ?_, h1⟩
        rcases setp_mem ht with ⟨hd, rfl⟩ | ⟨ht, _⟩
        · rcases hc with hc | hc
          · rw [hd] at hc; cases hc
          · exact hc
        · exact h.1 t ht
    · rw [if_neg hc, if_neg hc, List.singleton_append, So, List.pairwise_cons]
      have hlt : ¬ bl e.Key < bl k := fun h' => hc (.inr h')
      have hes : ∀ t ∈ es, bl k < bl t.Key := fun t ht => by
        by_cases he : bl e.Key = bl k
        · rw [← he]; exact h.1 t ht
        · exact lt_tr (lt_cases hlt he) (h.1 t ht)
      refine ⟨fun t ht => ?_, ?_⟩
      · rcases List.mem_append.1 ht with ht | ht
        · split at ht
          · cases ht
          · rename_i he
            rw [List.mem_singleton] at ht
            subst ht
            exact lt_cases hlt fun h' => he (bl_inj h')
        · rcases setp_mem ht with ⟨hd, _⟩ | ⟨ht, _⟩
          · cases hd
          · exact hes t ht
      · split
        · exact h2
        · rw [List.singleton_append, List.pairwise_cons]
          refine ⟨fun t ht => ?_, h2⟩
          rcases setp_mem ht with ⟨hd, _⟩ | ⟨ht, _⟩
          · cases hd
          · exact h.1 t ht

/-! ### Both -/
/-- The program's map m, and the reference's list y, of lists that rise, with B numbers at most. -/
structure Ri (B : Nat) (m : List (ByteArray × List Int)) (y : List T58) : Prop where
  pe : m.Perm (prs y)
  so : So y
  ok : ∀ t ∈ y, Rz t.L ∧ t.L.length ≤ B
  ln : y.length ≤ B
theorem Ri.keys {B m y} (h : Ri B m y) : Keys m := ((h.pe.map _).nodup_iff).2 (prs_keys h.so)
theorem Ri.get {B m y} (h : Ri B m y) (k : ByteArray) : (mget m k).getD [] = rget y k := by rw [mget_perm h.pe h.keys]; rfl
theorem Ri.rget_ok {B m y} (h : Ri B m y) (k : ByteArray) : Rz (rget y k) ∧ (rget y k).length ≤ B := by
  unfold rget
  cases hm : mget (prs y) k with
  | none => exact ⟨List.Pairwise.nil, Nat.zero_le _⟩
  | some v =>
    obtain ⟨t, ht, e⟩ := List.mem_map.1 (mget_mem hm)
    cases e
    exact h.ok t ht
theorem Ri.set {B m y} (h : Ri B m y) (k : ByteArray) (X : List Int) (hX : Rz X) (hl : X.length ≤ B + 1) : Ri (B + 1) (if X.length = 0 then mdel m k else mset m k X) (setp k X (decide ((X.length : Int) = 0)) y) := by
  have hf : (m.filter fun e => !(k == e.1)).Perm (prs (y.filter fun t => !(k == t.Key))) := by
    have e : prs (y.filter fun t => !(k == t.Key)) = (prs y).filter fun e => !(k == e.1) := by unfold prs; rw [List.filter_map]; rfl
    rw [e]; exact h.pe.filter _
  refine ⟨?_, setp_so k X y _ h.so, fun t ht => ?_, ?_⟩
  · by_cases h0 : X.length = 0
    · rw [if_pos h0, decide_eq_true (by omega), mdel_eq h.keys]
      refine hf.trans ?_
      have := (setp_perm k X y true).symm.map fun t => (t.Key, t.L)
      simpa [prs] using this
    · rw [if_neg h0, decide_eq_false (by omega)]
      refine (mset_perm h.keys k X).trans ((hf.cons _).trans ?_)
      have := (setp_perm k X y false).symm.map fun t => (t.Key, t.L)
      simpa [prs] using this
  · rcases setp_mem ht with ⟨_, rfl⟩ | ⟨ht, _⟩
    · exact ⟨hX, hl⟩
    · obtain ⟨a, b⟩ := h.ok t ht; exact ⟨a, by omega⟩
  · have := setp_len k X y (decide ((X.length : Int) = 0))
    have := h.ln
    split at * <;> omega
theorem set_eq (m : List (ByteArray × List Int)) (k : ByteArray) (X : List Int) : M.post_lists_string_uint64_set 0 k X [m] = some [if X.length = 0 then mdel m k else mset m k X] := by
  rw [M.post_lists_string_uint64_set]
  by_cases h : X.length = 0
  · rw [if_pos (by omega), if_pos h]; rfl
  · rw [if_neg (by omega), if_neg h]; rfl
theorem put_ok {B m y} (h : Ri B m y) (hB : B ≤ 1000) (k : ByteArray) (n : Int) : ∃ m' y', M.post_Index_Put 0 k n [m] = some (0, [m']) ∧ M.tidepoleref13_Index_Put y k n = some y' ∧ Ri (B + 1) m' y' := by
  obtain ⟨r1, r2⟩ := h.rget_ok k
  obtain ⟨X, a1, a2, a3, a4⟩ := add_ok (rget y k) n r1 (by omega)
  refine ⟨_, _, ?_, ?_, h.set k X a4 (by omega)⟩
  · rw [M.post_Index_Put]
    simp only [M.post_Index_is, Option.bind_eq_bind, Option.bind_some, show gn [m] 0 = m from rfl, h.get k, a1]
    show (M.post_lists_string_uint64_set 0 k X [m] >>= fun y15 => _) = _
    rw [set_eq]; rfl
  · rw [M.tidepoleref13_Index_Put, rlist_eq y k (by have := h.ln; omega) (fun t ht => by have := (h.ok t ht).2; omega)]
    show (M.tidepoleref13_Add (rget y k) n >>= fun y7 => _) = _
    rw [a2]
    show (M.tidepoleref13_Index_set y k X >>= fun y11 => _) = _
    rw [rset_eq y k X (by have := h.ln; omega)]; rfl
theorem take_ok {B m y} (h : Ri B m y) (hB : B ≤ 1000) (k : ByteArray) (n : Int) : ∃ m' y', M.post_Index_Take 0 k n [m] = some (0, [m']) ∧ M.tidepoleref13_Index_Take y k n = some y' ∧ Ri (B + 1) m' y' := by
  obtain ⟨r1, r2⟩ := h.rget_ok k
  obtain ⟨X, a1, a2, a3, a4⟩ := drop_ok (rget y k) n r1 (by omega)
  refine ⟨_, _, ?_, ?_, h.set k X a4 (by omega)⟩
  · rw [M.post_Index_Take]
    simp only [M.post_Index_is, Option.bind_eq_bind, Option.bind_some, show gn [m] 0 = m from rfl, h.get k, a1]
    show (M.post_lists_string_uint64_set 0 k X [m] >>= fun y15 => _) = _
    rw [set_eq]; rfl
  · rw [M.tidepoleref13_Index_Take, rlist_eq y k (by have := h.ln; omega) (fun t ht => by have := (h.ok t ht).2; omega)]
    show (M.tidepoleref13_Drop (rget y k) n >>= fun y7 => _) = _
    rw [a2]
    show (M.tidepoleref13_Index_set y k X >>= fun y11 => _) = _
    rw [rset_eq y k X (by have := h.ln; omega)]; rfl
theorem list_eq {B m y} (h : Ri B m y) (hB : B ≤ 1000) (k : ByteArray) : M.post_Index_List 0 k [m] = some (rget y k) := by
  have := (h.rget_ok k).2
  rw [M.post_Index_List]
  simp only [M.post_Index_is, Option.bind_eq_bind, Option.bind_some, show gn [m] 0 = m from rfl, h.get k]
  rw [clone _ (by omega)]; rfl
theorem keys_eq {B m y} (h : Ri B m y) (hB : B ≤ 1000) : M.post_Index_Keys 0 [m] = some (y.map (·.Key)) := by
  have hl : m.length = y.length := by rw [h.pe.length_eq]; simp [prs]
  have hln := h.ln
  rw [M.post_Index_Keys]
  show (M.post_lists_string_uint64_keys 0 [m] >>= fun y4 => _) = _
  rw [M.post_lists_string_uint64_keys]
  show ((M.slices_Sorted_string 0 [m] >>= fun y5 => _) >>= fun y4 => _) = _
  rw [M.slices_Sorted_string, M.slices_Collect_string, M.slices_AppendSeq_string_string_2, M.maps_Keys_map_string_uint64_string_uint64_1_2]
  rw [Gx.keys_l0, if_pos (.inr (by show 0 + (gn [m] 0).length ≤ _; show 0 + m.length ≤ _; omega))]
  have e : srtS (m.map (·.1)) = y.map (·.Key) := by
    refine srtS_eq (ys := y.map (·.Key)) ?_ ?_
    · have := h.pe.map (·.1)
      rw [prs, List.map_map] at this
      exact this
    · rw [List.pairwise_map]; exact h.so.imp fun h' => List.le_of_lt h'
  simp only [Option.bind_eq_bind, Option.bind_some, show gn [m] 0 = m from rfl, List.nil_append]
  rw [if_pos (by simp; omega), e]; rfl
def lsum (y : List T58) : Int := y.foldl (fun a t => wr .i64 (a + (t.L.length : Int))) 0
theorem size_eq {B m y} (h : Ri B m y) : M.post_Index_Size 0 [m] = some (lsum y) := by
  rw [M.post_Index_Size]
  show (M.post_lists_string_uint64_size 0 [m] >>= fun y4 => _) = _
  rw [M.post_lists_string_uint64_size]
  have := O.post_lists_string_uint64_size_l0 0 0 0 [m] _ _ h.pe
  rw [show gn [m] 0 = m from rfl, this, Gx.size_l0]
  show some _ = some _
  congr 1
  unfold lsum prs
  rw [List.foldl_map]
theorem texts_l0 (xs : List ByteArray) (hl : xs.length ≤ 1073741824) (k : Nat) : ∀ i : Nat, i + k = xs.length → M.tidepolebase_SameTexts_l0 (xs, xs, (i : Int)) = some true := by
  induction k with
  | zero =>
    intro i hi
    rw [M.tidepolebase_SameTexts_l0]; try dsimp only
    rw [if_neg (by omega)]
  | succ k ih =>
    intro i hi
    rw [M.tidepolebase_SameTexts_l0]; try dsimp only
    rw [if_pos (by omega), if_pos (by omega), if_pos (by omega), if_pos (by simp)]
    rw [wr_i64 (by omega) (by omega), show (i : Int) + 1 = ((i + 1 : Nat) : Int) by omega]
    exact ih (i + 1) (by omega)
theorem texts_self (xs : List ByteArray) (hl : xs.length ≤ 1073741824) : M.tidepolebase_SameTexts xs xs = some true := by
  rw [M.tidepolebase_SameTexts, if_pos rfl]
  exact texts_l0 xs hl xs.length 0 (by omega)
theorem among_some (x : Int) : ∃ v, M.tidepolebase_Among x 5 = some v := by
  rw [M.tidepolebase_Among, if_neg (by decide), if_pos (by decide)]
  exact ⟨_, rfl⟩
theorem look_ok {B m y} (h : Ri B m y) (hB : B ≤ 1000) (x0 : List T53) (x1 : ByteArray) (i : Int) (R : Prop) (n : Nat)
    (hgo : ∃ ps, M.tidepolelaw13_PostIndexes_l4 (x0, x1, 0, y, i, false, [m]) = some (true, ps)) : ∀ j : Nat, j + n = y.length →
    ∃ ps, M.tidepolelaw13_PostIndexes_l3 (x0, x1, 0, y, i, (y.take j).map (·.Key), lsum (y.take j), (j : Int), [m]) = some (true, ps) := by
  have hln := h.ln
  induction n with
  | zero =>
    intro j hj
    rw [M.tidepolelaw13_PostIndexes_l3]; try dsimp only
    rw [if_neg (by omega), List.take_of_length_le (by omega), keys_eq h hB]
    show ∃ ps, (M.tidepolebase_SameTexts (y.map (·.Key)) (y.map (·.Key)) >>= fun y104 => _) = _
    rw [texts_self _ (by simp; omega)]
    show ∃ ps, (M.post_Index_Size 0 [m] >>= fun y107 => _) = _
    rw [size_eq h]
    show ∃ ps, (if lsum y = lsum y then _ else _) = _
    rw [if_pos rfl, list_eq h hB]
    show ∃ ps, (M.tidepoleref13_Index_List y x1 >>= fun y113 => _) = _
    rw [rlist_eq y x1 (by omega) (fun t ht => by have := (h.ok t ht).2; omega)]
    show ∃ ps, (M.tidepolelaw13_same (rget y x1) (rget y x1) >>= fun y118 => _) = _
    rw [same_self _ (by have := (h.rget_ok x1).2; omega)]
    exact hgo
  | succ n ih =>
    intro j hj
    have hlt : j < y.length := by omega
    obtain ⟨h1, h2⟩ := h.ok _ (List.getElem_mem hlt)
    have hg : rget y y[j].Key = y[j].L := by
      unfold rget
      rw [mget_of_mem (prs_keys h.so) (List.mem_map.2 ⟨y[j], List.getElem_mem hlt, rfl⟩)]; rfl
    rw [M.tidepolelaw13_PostIndexes_l3]; try dsimp only
    rw [if_pos (by omega), if_pos (by omega), gi_T y j hlt, if_pos (by simp; omega), list_eq h hB, hg]
    show ∃ ps, (M.tidepolelaw13_same y[j].L y[j].L >>= fun y96 => _) = _
    rw [same_self _ (by omega)]
    obtain ⟨ps, hps⟩ := ih (j + 1) (by omega)
    refine ⟨ps, ?_⟩
    rw [← hps]
    show M.tidepolelaw13_PostIndexes_l3 _ = M.tidepolelaw13_PostIndexes_l3 _
    rw [wr_i64 (x := (j : Int) + 1) (by omega) (by omega), show (j : Int) + 1 = ((j + 1 : Nat) : Int) by omega, List.take_succ_eq_append_getElem hlt, List.map_append]
    congr 7
    unfold lsum
    rw [List.foldl_append]; rfl
theorem acts_ok (x0 : List T53) (x1 : ByteArray) (hx : x0.length ≤ 1048576) (n : Nat) : ∀ (i : Nat) (m : List (ByteArray × List Int)) (y : List T58), i + n = 60 → Ri i m y → ∃ ps, M.tidepolelaw13_PostIndexes_l0 (x0, x1, 0, y, (i : Int), [m]) = some (true, ps) := by
  induction n with
  | zero =>
    intro i m y hi h
    have hend : ∃ ps, M.tidepolelaw13_PostIndexes_l1 (x0, x1, 0, y, (i : Int), false, [m]) = some (true, ps) := by
      rw [M.tidepolelaw13_PostIndexes_l1]; try dsimp only
      rw [if_neg (by decide), works_eq]
      exact ⟨_, rfl⟩
    rw [M.tidepolelaw13_PostIndexes_l0]; try dsimp only
    split
    · rw [decide_eq_false (by omega)]; exact hend
    · exact hend
  | succ n ih =>
    intro i m y hi h
    have hend : ∃ ps, M.tidepolelaw13_PostIndexes_l1 (x0, x1, 0, y, (i : Int), false, [m]) = some (true, ps) := by
      rw [M.tidepolelaw13_PostIndexes_l1]; try dsimp only
      rw [if_neg (by decide), works_eq]
      exact ⟨_, rfl⟩
    rw [M.tidepolelaw13_PostIndexes_l0]; try dsimp only
    split
    · rename_i hlt
      rw [decide_eq_true (by omega), M.tidepolelaw13_PostIndexes_l1]; try dsimp only
      rw [if_pos rfl, if_pos (by omega), if_pos hlt]
      obtain ⟨v, hv⟩ := among_some (gi x0 (i : Int)).Do
      rw [hv]
      have hnext : ∀ m' y', Ri (i + 1) m' y' → ∃ ps, M.tidepolelaw13_PostIndexes_l2 (x0, x1, 0, y', (i : Int), [m']) = some (true, ps) := fun m' y' h' => by
        rw [M.tidepolelaw13_PostIndexes_l2]; try dsimp only
        refine look_ok h' (by omega) x0 x1 (i : Int) True y'.length ?_ 0 (by omega)
        rw [M.tidepolelaw13_PostIndexes_l4]; try dsimp only
        rw [if_neg (by decide), wr_i64 (by omega) (by omega), show (i : Int) + 1 = ((i + 1 : Nat) : Int) by omega]
        exact ih (i + 1) m' y' (by omega) h'
      show ∃ ps, (if v < 3 then _ else _) = _
      by_cases h3 : v < 3
      · rw [if_pos h3]
        obtain ⟨m', y', a1, a2, a3⟩ := put_ok h (by omega) (gi x0 (i : Int)).Key (gi x0 (i : Int)).N
        rw [a1]
        show ∃ ps, (M.tidepoleref13_Index_Put y _ _ >>= fun y28 => _) = _
        rw [a2]
        exact hnext m' y' a3
      · rw [if_neg h3]
        obtain ⟨m', y', a1, a2, a3⟩ := take_ok h (by omega) (gi x0 (i : Int)).Key (gi x0 (i : Int)).N
        rw [a1]
        show ∃ ps, (M.tidepoleref13_Index_Take y _ _ >>= fun y28 => _) = _
        rw [a2]
        exact hnext m' y' a3
    · exact hend
theorem purePostIndexes (x0 : List T53) (x1 : ByteArray) (hx : x0.length ≤ 1048576) : ∃ ps, M.tidepolelaw13_PostIndexes x0 x1 [] = some (true, ps) := by
  rw [M.tidepolelaw13_PostIndexes]
  exact acts_ok x0 x1 hx 60 0 [] [] (by omega) ⟨by simp [prs], List.Pairwise.nil, by simp, by simp⟩
end Go.Proofs.Ytgkijdahghfldaa
