/-
 Maps that are gone through: what comes of it does not hang on the order.
-/
import Derived.Test.YtbclkjbkebebeaaGreatQIvV
import Derived.Test.YtbclkjbkebebeaaGreatGO
import Derived.Test.YtbclkjbkebebeaaGreatGK
set_option linter.unusedVariables false
set_option linter.unusedSimpArgs false
namespace Go.Gx
theorem fold_perm {α β : Type} (f : β → α → β) (hc : ∀ e a b, f (f e a) b = f (f e b) a) {l l' : List α} (hp : l.Perm l') : ∀ e, l.foldl f e = l'.foldl f e := by
 induction hp with
 | nil => intro e; rfl
 | cons a _ ih => intro e; exact ih _
 | swap a b l => intro e; simp only [List.foldl_cons]; rw [hc]
 | trans _ _ h1 h2 => intro e; exact (h1 e).trans (h2 e)
theorem mdel_comm {κ ν : Type} [BEq κ] [LawfulBEq κ] (a b : κ) : ∀ m : List (κ × ν), mdel (mdel m a) b = mdel (mdel m b) a
 | [] => rfl
 | e :: m => by
  by_cases ha : a = e.1
  ·by_cases hb : b = e.1
   ·subst ha; subst hb; rfl
   ·have hb' : (b == e.1) = false := by simpa using hb
    simp [mdel, ha, hb']
  ·have ha' : (a == e.1) = false := by simpa using ha
   by_cases hb : b = e.1
   ·simp [mdel, ha', hb]
   ·have hb' : (b == e.1) = false := by simpa using hb
    simp [mdel, ha', hb', mdel_comm a b m]
theorem K.api_Labels_1_2_l0 (i j : Nat) (pl : Z) : ∀ (rem : List (Int × (List T55))) (acc : List Int),
  M.a5 (i, rem, acc, j, pl) = if rem = [] ∨ acc.length + rem.length ≤ 1099511627776 then some (acc ++ rem.map (·.1)) else none
 | [], acc => by rw [M.a5]; simp
 | e :: rem, acc => by
  rw [M.a5]
  unfold M.a4c
  by_cases h : ((acc ++ [e.1]).length : Int) ≤ 1099511627776
  ·rw [if_pos h]
   show M.a5 (i, rem, acc ++ [e.1], j, pl) = _
   rw [K.api_Labels_1_2_l0 i j pl rem]
   simp only [List.length_append, List.length_cons, List.length_nil, Nat.zero_add, reduceCtorEq, false_or, List.append_assoc, List.cons_append, List.nil_append, List.map_cons] at h ⊢
   by_cases h0 : rem = []
   ·subst h0
    rw [if_pos (.inl rfl), if_pos (by simp; omega)]
   ·simp only [h0, false_or]
    by_cases h1 : acc.length + 1 + rem.length ≤ 1099511627776
    ·rw [if_pos h1, if_pos (by omega)]
    ·rw [if_neg h1, if_neg (by omega)]
  ·rw [if_neg h]
   simp only [List.length_append, List.length_cons, List.length_nil] at h
   rw [if_neg (by simp only [reduceCtorEq, false_or, List.length_cons]; omega)]
   rfl
theorem O.api_Labels_1_2_l0 (x5i : Nat) (e1v_0 : List Int) (x0q6b0v_0 : Nat) (pl : Z) (rem rem' : List (Int × (List T55))) (r : List Int) (hp : rem.Perm rem') (h : M.a5 (x5i, rem, e1v_0, x0q6b0v_0, pl) = some r) : ∃ r', M.a5 (x5i, rem', e1v_0, x0q6b0v_0, pl) = some r' ∧ r'.Perm r := by
 rw [K.api_Labels_1_2_l0] at h ⊢
 have h0 : rem' = [] ↔ rem = [] := ⟨fun e => by subst e; exact hp.eq_nil, fun e => by subst e; exact hp.symm.eq_nil⟩
 simp only [h0, ← hp.length_eq]
 split at h
 ·rename_i hc
  cases h
  rw [if_pos hc]
  exact ⟨_, rfl, (hp.symm.map _).append_left _⟩
 ·cases h
theorem K.inv_members_uint64_uint64_bool_1_2_l0 (i j : Nat) (pl : Z) : ∀ (rem : List (Int × Bool)) (acc : List Int),
  M.a3 (i, rem, acc, j, pl) = if rem = [] ∨ acc.length + rem.length ≤ 1099511627776 then some (acc ++ rem.map (·.1)) else none
 | [], acc => by rw [M.a3]; simp
 | e :: rem, acc => by
  rw [M.a3]
  unfold M.a4h
  by_cases h : ((acc ++ [e.1]).length : Int) ≤ 1099511627776
  ·rw [if_pos h]
   show M.a3 (i, rem, acc ++ [e.1], j, pl) = _
   rw [K.inv_members_uint64_uint64_bool_1_2_l0 i j pl rem]
   simp only [List.length_append, List.length_cons, List.length_nil, Nat.zero_add, reduceCtorEq, false_or, List.append_assoc, List.cons_append, List.nil_append, List.map_cons] at h ⊢
   by_cases h0 : rem = []
   ·subst h0
    rw [if_pos (.inl rfl), if_pos (by simp; omega)]
   ·simp only [h0, false_or]
    by_cases h1 : acc.length + 1 + rem.length ≤ 1099511627776
    ·rw [if_pos h1, if_pos (by omega)]
    ·rw [if_neg h1, if_neg (by omega)]
  ·rw [if_neg h]
   simp only [List.length_append, List.length_cons, List.length_nil] at h
   rw [if_neg (by simp only [reduceCtorEq, false_or, List.length_cons]; omega)]
   rfl
theorem O.inv_members_uint64_uint64_bool_1_2_l0 (x5i : Nat) (e1v_0 : List Int) (x0q6b0v_0 : Nat) (pl : Z) (rem rem' : List (Int × Bool)) (r : List Int) (hp : rem.Perm rem') (h : M.a3 (x5i, rem, e1v_0, x0q6b0v_0, pl) = some r) : ∃ r', M.a3 (x5i, rem', e1v_0, x0q6b0v_0, pl) = some r' ∧ r'.Perm r := by
 rw [K.inv_members_uint64_uint64_bool_1_2_l0] at h ⊢
 have h0 : rem' = [] ↔ rem = [] := ⟨fun e => by subst e; exact hp.eq_nil, fun e => by subst e; exact hp.symm.eq_nil⟩
 simp only [h0, ← hp.length_eq]
 split at h
 ·rename_i hc
  cases h
  rw [if_pos hc]
  exact ⟨_, rfl, (hp.symm.map _).append_left _⟩
 ·cases h
theorem K.inv_members_uint64_1_2_l0 (i j : Nat) (pl : Z) : ∀ (rem : List (ByteArray × (Option Nat))) (acc : List ByteArray),
  M.a4 (i, rem, acc, j, pl) = if rem = [] ∨ acc.length + rem.length ≤ 1099511627776 then some (acc ++ rem.map (·.1)) else none
 | [], acc => by rw [M.a4]; simp
 | e :: rem, acc => by
  rw [M.a4]
  unfold M.a4o
  by_cases h : ((acc ++ [e.1]).length : Int) ≤ 1099511627776
  ·rw [if_pos h]
   show M.a4 (i, rem, acc ++ [e.1], j, pl) = _
   rw [K.inv_members_uint64_1_2_l0 i j pl rem]
   simp only [List.length_append, List.length_cons, List.length_nil, Nat.zero_add, reduceCtorEq, false_or, List.append_assoc, List.cons_append, List.nil_append, List.map_cons] at h ⊢
   by_cases h0 : rem = []
   ·subst h0
    rw [if_pos (.inl rfl), if_pos (by simp; omega)]
   ·simp only [h0, false_or]
    by_cases h1 : acc.length + 1 + rem.length ≤ 1099511627776
    ·rw [if_pos h1, if_pos (by omega)]
    ·rw [if_neg h1, if_neg (by omega)]
  ·rw [if_neg h]
   simp only [List.length_append, List.length_cons, List.length_nil] at h
   rw [if_neg (by simp only [reduceCtorEq, false_or, List.length_cons]; omega)]
   rfl
theorem O.inv_members_uint64_1_2_l0 (x5i : Nat) (e1v_0 : List ByteArray) (x0q6b0v_0 : Nat) (pl : Z) (rem rem' : List (ByteArray × (Option Nat))) (r : List ByteArray) (hp : rem.Perm rem') (h : M.a4 (x5i, rem, e1v_0, x0q6b0v_0, pl) = some r) : ∃ r', M.a4 (x5i, rem', e1v_0, x0q6b0v_0, pl) = some r' ∧ r'.Perm r := by
 rw [K.inv_members_uint64_1_2_l0] at h ⊢
 have h0 : rem' = [] ↔ rem = [] := ⟨fun e => by subst e; exact hp.eq_nil, fun e => by subst e; exact hp.symm.eq_nil⟩
 simp only [h0, ← hp.length_eq]
 split at h
 ·rename_i hc
  cases h
  rw [if_pos hc]
  exact ⟨_, rfl, (hp.symm.map _).append_left _⟩
 ·cases h
theorem K.maps_Keys_map_uint64_string_uint64_string_1_2_l0 (i j : Nat) (pl : Z) : ∀ (rem : List (Int × ByteArray)) (acc : List Int),
  M.aa (i, rem, acc, j, pl) = if rem = [] ∨ acc.length + rem.length ≤ 1099511627776 then some (acc ++ rem.map (·.1)) else none
 | [], acc => by rw [M.aa]; simp
 | e :: rem, acc => by
  rw [M.aa]
  unfold M.a6b
  by_cases h : ((acc ++ [e.1]).length : Int) ≤ 1099511627776
  ·rw [if_pos h]
   show M.aa (i, rem, acc ++ [e.1], j, pl) = _
   rw [K.maps_Keys_map_uint64_string_uint64_string_1_2_l0 i j pl rem]
   simp only [List.length_append, List.length_cons, List.length_nil, Nat.zero_add, reduceCtorEq, false_or, List.append_assoc, List.cons_append, List.nil_append, List.map_cons] at h ⊢
   by_cases h0 : rem = []
   ·subst h0
    rw [if_pos (.inl rfl), if_pos (by simp; omega)]
   ·simp only [h0, false_or]
    by_cases h1 : acc.length + 1 + rem.length ≤ 1099511627776
    ·rw [if_pos h1, if_pos (by omega)]
    ·rw [if_neg h1, if_neg (by omega)]
  ·rw [if_neg h]
   simp only [List.length_append, List.length_cons, List.length_nil] at h
   rw [if_neg (by simp only [reduceCtorEq, false_or, List.length_cons]; omega)]
   rfl
theorem O.maps_Keys_map_uint64_string_uint64_string_1_2_l0 (x5i : Nat) (e1v_0 : List Int) (x0q6b0v_0 : Nat) (pl : Z) (rem rem' : List (Int × ByteArray)) (r : List Int) (hp : rem.Perm rem') (h : M.aa (x5i, rem, e1v_0, x0q6b0v_0, pl) = some r) : ∃ r', M.aa (x5i, rem', e1v_0, x0q6b0v_0, pl) = some r' ∧ r'.Perm r := by
 rw [K.maps_Keys_map_uint64_string_uint64_string_1_2_l0] at h ⊢
 have h0 : rem' = [] ↔ rem = [] := ⟨fun e => by subst e; exact hp.eq_nil, fun e => by subst e; exact hp.symm.eq_nil⟩
 simp only [h0, ← hp.length_eq]
 split at h
 ·rename_i hc
  cases h
  rw [if_pos hc]
  exact ⟨_, rfl, (hp.symm.map _).append_left _⟩
 ·cases h
theorem O.slices_Sort_uint64_uint64 {x0 b : List Int} {r : List Int} (hp : b.Perm x0) (h : M.a6 x0 = some r) : M.a6 b = some r := by
 by_cases hl : x0.length ≤ 65535
 ·rw [Go.Proofs.YtbclkjbkebebeaaGreat.sortU x0 hl] at h
  rw [Go.Proofs.YtbclkjbkebebeaaGreat.sortU b (by rw [hp.length_eq]; exact hl), ← h, srtI_perm hp]
 ·exfalso
  unfold M.a6 at h
  obtain ⟨y, hy, h⟩ := Option.bind_eq_some_iff.1 h
  rw [if_neg (by omega)] at h
  cases h
def stp (x : Nat) (e : Z) (k : Int) : Z := {e with zf := sn e.zf x (mdel (gn e.zf x) k)}
theorem gn_snL {α : Type} [Inhabited α] (l : List α) (i : Nat) (v : α) (h : i < l.length) : gn (sn l i v) i = v := by simp [gn, sn, h]
theorem gn_snN {α : Type} [Inhabited α] (l : List α) (i j : Nat) (v : α) (h : i ≠ j) : gn (sn l i v) j = gn l j := by simp [gn, sn, List.getElem?_set_ne h]
theorem stp_comm (x : Nat) (e : Z) (a b : Int) : stp x (stp x e a) b = stp x (stp x e b) a := by
 rcases Nat.lt_or_ge x e.zf.length with h | h
 ·simp only [stp]
  rw [gn_snL _ _ _ h, gn_snL _ _ _ h, mdel_comm]
  simp [sn]
 ·have hs : ∀ v, sn e.zf x v = e.zf := fun v => List.set_eq_of_length_le h
  simp only [stp, hs]
theorem stp_gn (x y : Nat) (h : x ≠ y) : ∀ (ks : List Int) (e : Z), gn (ks.foldl (stp x) e).zf y = gn e.zf y
 | [], e => rfl
 | k :: ks, e => by rw [List.foldl_cons, stp_gn x y h ks]; exact gn_snN _ _ _ _ h
theorem inn (x8 i : Nat) (x41 : List (ByteArray × Option Nat)) (j : Nat) : ∀ (x47 : List (Int × Bool)) (e : Z), M.a2 (x8, i, x41, j, x47, e) = if x47 = [] ∨ x8 ≠ j then M.a1 (x8, i, x41, (x47.map (·.1)).foldl (stp x8) e) else none
 | [], e => by rw [M.a2]; simp
 | kv :: x47, e => by
  rw [M.a2]
  by_cases h : x8 ≠ j
  ·simp only [if_pos h]
   have := inn x8 i x41 j x47 (stp x8 e kv.1)
   rw [if_pos (.inr h)] at this
   rw [if_pos (.inr h)]
   exact this
  ·simp only [if_neg h]
   rw [if_neg (by simp [h])]
theorem O.inv_Index_List_l9 (x8 : Nat) (x41i : Nat) (x41 : List (ByteArray × (Option Nat))) (x47i : Nat) (e0 : Z) (rem rem' : List (Int × Bool)) (hp : rem.Perm rem') : M.a2 (x8, x41i, x41, x47i, rem, e0) = M.a2 (x8, x41i, x41, x47i, rem', e0) := by
 have h0 : rem' = [] ↔ rem = [] := ⟨fun e => by subst e; exact hp.eq_nil, fun e => by subst e; exact hp.symm.eq_nil⟩
 rw [inn, inn, fold_perm (stp x8) (stp_comm x8) (hp.map _) e0]
 simp only [h0]
def stG (x8 : Nat) (e : Z) (kv : ByteArray × Option Nat) : Option Z :=
 match kv.2 with
 | none => some e
 | some y => if x8 ≠ y then some (((gn e.zf y).map (·.1)).foldl (stp x8) e) else none
theorem outS (x8 i : Nat) (kv : ByteArray × Option Nat) (rm : List (ByteArray × Option Nat)) (e : Z) : M.a1 (x8, i, kv :: rm, e) = stG x8 e kv >>= fun e' => M.a1 (x8, i, rm, e') := by
 rw [M.a1]
 obtain ⟨k, v⟩ := kv
 cases v with
 | none =>
  show M.ad (x8, i, rm, e) = M.a1 (x8, i, rm, e)
  rw [M.ad, M.ao]
 | some y =>
  show (if x8 ≠ y then M.ae (x8, i, rm, y, gn e.zf y, e) else none) = (if x8 ≠ y then some (((gn e.zf y).map (·.1)).foldl (stp x8) e) else none) >>= fun e' => M.a1 (x8, i, rm, e')
  by_cases h : x8 ≠ y
  ·rw [if_pos h, if_pos h, M.ae, inn, if_pos (.inr h)]; rfl
  ·rw [if_neg h, if_neg h]; rfl
theorem stG_comm (x8 : Nat) (e : Z) (a b : ByteArray × Option Nat) : (stG x8 e a >>= fun e => stG x8 e b) = (stG x8 e b >>= fun e => stG x8 e a) := by
 obtain ⟨ka, va⟩ := a
 obtain ⟨kb, vb⟩ := b
 cases va with
 | none => cases vb with
  | none => rfl
  | some y => simp only [stG]; split <;> rfl
 | some ya => cases vb with
  | none => simp only [stG]; split <;> rfl
  | some yb =>
   simp only [stG]
   by_cases ha : x8 ≠ ya
   ·by_cases hb : x8 ≠ yb
    ·rw [if_pos ha, if_pos hb]
     show (if x8 ≠ yb then _ else _) = (if x8 ≠ ya then _ else _)
     rw [if_pos ha, if_pos hb, stp_gn x8 yb hb, stp_gn x8 ya ha, ← List.foldl_append, ← List.foldl_append]
     exact congrArg some (fold_perm (stp x8) (stp_comm x8) List.perm_append_comm e)
    ·rw [if_pos ha, if_neg hb]
     show (if x8 ≠ yb then _ else none) = none
     rw [if_neg hb]
   ·rw [if_neg ha]
    by_cases hb : x8 ≠ yb
    ·rw [if_pos hb]
     show none = (if x8 ≠ ya then _ else none)
     rw [if_neg ha]
    ·rw [if_neg hb]; rfl
theorem O.inv_Index_List_l5 (x8 : Nat) (x41i : Nat) (e0 : Z) (rem rem' : List (ByteArray × (Option Nat))) (hp : rem.Perm rem') : M.a1 (x8, x41i, rem, e0) = M.a1 (x8, x41i, rem', e0) := by
 induction hp generalizing e0 with
 | nil => rfl
 | cons a _ ih =>
  rw [outS, outS]
  cases stG x8 e0 a with
  | none => rfl
  | some e => exact ih e
 | swap a b l =>
  have h1 : ∀ a b : ByteArray × Option Nat, M.a1 (x8, x41i, a :: b :: l, e0) = (stG x8 e0 a >>= fun e => stG x8 e b) >>= fun e => M.a1 (x8, x41i, l, e) := fun a b => by
   rw [outS]
   cases stG x8 e0 a with
   | none => rfl
   | some e => exact outS x8 x41i b l e
  rw [h1, h1, stG_comm]
 | trans _ _ h1 h2 => exact (h1 e0).trans (h2 e0)
end Go.Gx
