/-
  Maps that are gone through: what comes of it does not hang on the order.
-/
import Derived.Test.YtgkijdahghfldaaMPi
set_option linter.unusedVariables false
namespace Go.Gx
theorem keys_l0 (i : Nat) (j : Nat) (pl : List (List (ByteArray × (List Int)))) : ∀ (rem : List (ByteArray × (List Int))) (acc : List ByteArray),
    M.maps_Keys_map_string_uint64_string_uint64_1_2_l0 (i, rem, acc, j, pl) = if rem = [] ∨ acc.length + rem.length ≤ 1099511627776 then some (acc ++ rem.map (·.1)) else none
  | [], acc => by rw [M.maps_Keys_map_string_uint64_string_uint64_1_2_l0]; simp
  | e :: rem, acc => by
    rw [M.maps_Keys_map_string_uint64_string_uint64_1_2_l0]
    unfold M.slices_AppendSeq_string_string__r_2
    by_cases h : ((acc ++ [e.1]).length : Int) ≤ 1099511627776
    · rw [if_pos h]
      show M.maps_Keys_map_string_uint64_string_uint64_1_2_l0 (i, rem, acc ++ [e.1], j, pl) = _
      rw [keys_l0 i j pl rem]
      simp only [List.length_append, List.length_cons, List.length_nil, Nat.zero_add, reduceCtorEq, false_or, List.append_assoc, List.cons_append, List.nil_append, List.map_cons] at h ⊢
      by_cases h0 : rem = []
      · subst h0
        rw [if_pos (.inl rfl), if_pos (by simp; omega)]
      · simp only [h0, false_or]
        by_cases h1 : acc.length + 1 + rem.length ≤ 1099511627776
        · rw [if_pos h1, if_pos (by omega)]
        · rw [if_neg h1, if_neg (by omega)]
    · rw [if_neg h]
      simp only [List.length_append, List.length_cons, List.length_nil] at h
      rw [if_neg (by simp only [reduceCtorEq, false_or, List.length_cons]; omega)]
      rfl
theorem O.maps_Keys_map_string_uint64_string_uint64_1_2_l0 (x5i : Nat) (e1v_0 : List ByteArray) (x0q6b0v_0 : Nat) (pl65 : List (List (ByteArray × (List Int)))) (rem rem' : List (ByteArray × (List Int))) (r : List ByteArray) (hp : rem.Perm rem') (h : M.maps_Keys_map_string_uint64_string_uint64_1_2_l0 (x5i, rem, e1v_0, x0q6b0v_0, pl65) = some r) : ∃ r', M.maps_Keys_map_string_uint64_string_uint64_1_2_l0 (x5i, rem', e1v_0, x0q6b0v_0, pl65) = some r' ∧ r'.Perm r := by
  rw [keys_l0] at h ⊢
  have h0 : rem' = [] ↔ rem = [] := ⟨fun e => by subst e; exact hp.eq_nil, fun e => by subst e; exact hp.symm.eq_nil⟩
  simp only [h0, ← hp.length_eq]
  split at h
  · rename_i hc
    cases h
    rw [if_pos hc]
    exact ⟨_, rfl, (hp.symm.map _).append_left _⟩
  · cases h
theorem wr_add (a b c : Int) : wr .i64 (wr .i64 (a + b) + c) = wr .i64 (wr .i64 (a + c) + b) := by
  simp only [wr, IntKind.wrap, IntKind.signed, IntKind.bits]
  simp
  split <;> split <;> split <;> split <;> omega
theorem size_l0 (i j : Nat) (pl : List (List (ByteArray × (List Int)))) : ∀ (rem : List (ByteArray × (List Int))) (x : Int), M.post_lists_string_uint64_size_l0 (x, i, rem, j, pl) = some (rem.foldl (fun a e => wr .i64 (a + (e.2.length : Int))) x)
  | [], x => by rw [M.post_lists_string_uint64_size_l0]; rfl
  | e :: rem, x => by rw [M.post_lists_string_uint64_size_l0]; exact size_l0 i j pl rem _
theorem O.post_lists_string_uint64_size_l0 (x3 : Int) (x10i : Nat) (x0v_0_0 : Nat) (pl65 : List (List (ByteArray × (List Int)))) (rem rem' : List (ByteArray × (List Int))) (hp : rem.Perm rem') : M.post_lists_string_uint64_size_l0 (x3, x10i, rem, x0v_0_0, pl65) = M.post_lists_string_uint64_size_l0 (x3, x10i, rem', x0v_0_0, pl65) := by
  rw [size_l0, size_l0]
  congr 1
  induction hp generalizing x3 with
  | nil => rfl
  | cons a _ ih => exact ih _
  | swap a b l => simp only [List.foldl_cons]; rw [wr_add]
  | trans _ _ ih1 ih2 => exact (ih1 _).trans (ih2 _)
end Go.Gx
