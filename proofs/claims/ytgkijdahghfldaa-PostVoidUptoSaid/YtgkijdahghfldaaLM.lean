/-
  Maps as lists of pairs: what is looked up, set, taken away; their order does not count. Names no program.
-/
import Derived.Test.YtgkijdahghfldaaGW
import Derived.Sort.KeysCollected
import Derived.Lib.SlKeysI
set_option linter.unusedVariables false
set_option linter.unusedSectionVars false
namespace Go.Gx
section
variable {κ ν : Type} [BEq κ] [LawfulBEq κ] [DecidableEq κ]
abbrev Keys (m : List (κ × ν)) : Prop := (m.map (·.1)).Nodup
theorem mget_mem {m : List (κ × ν)} {k : κ} {v : ν} (h : mget m k = some v) : (k, v) ∈ m := by
  induction m with
  | nil => simp [mget] at h
  | cons e m ih =>
    simp only [mget] at h
    split at h
    · rename_i hk
      have := eq_of_beq hk
      subst this
      cases h
      exact List.mem_cons_self ..
    · exact .tail _ (ih h)
theorem mget_of_mem {m : List (κ × ν)} (hn : Keys m) {k : κ} {v : ν} (h : (k, v) ∈ m) : mget m k = some v := by
  induction m with
  | nil => cases h
  | cons e m ih =>
    simp only [mget]
    rw [Keys, List.map_cons, List.nodup_cons] at hn
    rcases List.mem_cons.1 h with rfl | h
    · simp
    · have : (k == e.1) = false := by
        rw [beq_eq_false_iff_ne]
        rintro rfl
        exact hn.1 (List.mem_map.2 ⟨_, h, rfl⟩)
      rw [this]
      exact ih hn.2 h
theorem mget_none {m : List (κ × ν)} {k : κ} : mget m k = none ↔ k ∉ m.map (·.1) := by
  induction m with
  | nil => simp [mget]
  | cons e m ih =>
    simp only [mget, List.map_cons, List.mem_cons]
    by_cases hk : k = e.1
    · subst hk; simp
    · have : (k == e.1) = false := by simpa using hk
      rw [this]
      simp only [Bool.false_eq_true, if_false, ih, hk, false_or]
theorem mget_perm {m p : List (κ × ν)} (hp : m.Perm p) (hn : Keys m) (k : κ) : mget m k = mget p k := by
  have hn' : Keys p := (hp.map _).nodup_iff.1 hn
  cases h : mget m k with
  | none => exact (mget_none.2 fun h' => mget_none.1 h ((hp.map _).mem_iff.2 h')).symm
  | some v => exact (mget_of_mem hn' (hp.mem_iff.1 (mget_mem h))).symm
theorem filter_self {m : List (κ × ν)} {k : κ} (h : k ∉ m.map (·.1)) : m.filter (fun e => !(k == e.1)) = m := by
  rw [List.filter_eq_self]
  intro e he
  have : k ≠ e.1 := fun e' => h (List.mem_map.2 ⟨e, he, e'.symm⟩)
  simp [this]
theorem mset_perm {m : List (κ × ν)} (hn : Keys m) (k : κ) (v : ν) : (mset m k v).Perm ((k, v) :: m.filter (fun e => !(k == e.1))) := by
  induction m with
  | nil => simp [mset]
  | cons e m ih =>
    rw [Keys, List.map_cons, List.nodup_cons] at hn
    simp only [mset]
    by_cases hk : k = e.1
    · subst hk
      rw [List.filter_cons]
      simp only [beq_self_eq_true, if_true, Bool.not_true, Bool.false_eq_true, if_false]
      rw [filter_self hn.1]
    · have hb : (k == e.1) = false := by simpa using hk
      rw [List.filter_cons, hb]
      simp only [Bool.false_eq_true, if_false, Bool.not_false, if_true]
      exact ((ih hn.2).cons e).trans (List.Perm.swap _ _ _)
theorem mdel_eq {m : List (κ × ν)} (hn : Keys m) (k : κ) : mdel m k = m.filter (fun e => !(k == e.1)) := by
  induction m with
  | nil => rfl
  | cons e m ih =>
    rw [Keys, List.map_cons, List.nodup_cons] at hn
    simp only [mdel]
    by_cases hk : k = e.1
    · subst hk
      rw [List.filter_cons]
      simp only [beq_self_eq_true, if_true, Bool.not_true, Bool.false_eq_true, if_false]
      rw [filter_self hn.1]
    · have hb : (k == e.1) = false := by simpa using hk
      rw [List.filter_cons, hb]
      simp only [Bool.false_eq_true, if_false, Bool.not_false, if_true]
      rw [ih hn.2]
theorem keys_filter {m : List (κ × ν)} (hn : Keys m) (q : κ × ν → Bool) : Keys (m.filter q) := hn.sublist (List.filter_sublist.map _)
theorem keys_mset {m : List (κ × ν)} (hn : Keys m) (k : κ) (v : ν) : Keys (mset m k v) := by
  refine ((mset_perm hn k v).map _).nodup_iff.2 ?_
  rw [List.map_cons, List.nodup_cons]
  refine ⟨fun h => ?_, keys_filter hn _⟩
  obtain ⟨e, he, e1⟩ := List.mem_map.1 h
  have := (List.mem_filter.1 he).2
  simp [e1] at this
theorem keys_mdel {m : List (κ × ν)} (hn : Keys m) (k : κ) : Keys (mdel m k) := by rw [mdel_eq hn]; exact keys_filter hn _
theorem mget_mset {m : List (κ × ν)} (k k' : κ) (v : ν) : mget (mset m k v) k' = if k' = k then some v else mget m k' := by
  induction m with
  | nil => simp only [mset, mget]; by_cases h : k' = k <;> simp [h]
  | cons e m ih =>
    simp only [mset]
    by_cases hk : k = e.1
    · subst hk
      simp only [beq_self_eq_true, if_true, mget]
      by_cases h : k' = e.1 <;> simp [h]
    · have hb : (k == e.1) = false := by simpa using hk
      rw [hb]
      simp only [Bool.false_eq_true, if_false, mget, ih]
      by_cases h : k' = e.1
      · subst h; simp [Ne.symm hk]
      · have hb' : (k' == e.1) = false := by simpa using h
        rw [hb']; rfl
theorem mget_mdel {m : List (κ × ν)} (hn : Keys m) (k k' : κ) : mget (mdel m k) k' = if k' = k then none else mget m k' := by
  induction m with
  | nil => simp [mdel, mget]
  | cons e m ih =>
    rw [Keys, List.map_cons, List.nodup_cons] at hn
    simp only [mdel]
    by_cases hk : k = e.1
    · subst hk
      simp only [beq_self_eq_true, if_true, mget]
      by_cases h : k' = e.1
      · subst h; simp only [if_true]; exact mget_none.2 hn.1
      · simp [h]
    · have hb : (k == e.1) = false := by simpa using hk
      rw [hb]
      simp only [Bool.false_eq_true, if_false, mget, ih hn.2]
      by_cases h : k' = e.1
      · subst h; simp [Ne.symm hk]
      · have hb' : (k' == e.1) = false := by simpa using h
        rw [hb']; rfl
end
/-! ### texts in order -/
def bl (s : ByteArray) : List UInt8 := s.data.toList
theorem bl_inj {a b : ByteArray} (h : bl a = bl b) : a = b := by
  obtain ⟨⟨a⟩⟩ := a; obtain ⟨⟨b⟩⟩ := b; simp only [bl] at h; subst h; rfl
theorem srtS_eq {xs ys : List ByteArray} (hp : xs.Perm ys) (hs : ys.Pairwise (fun a b => bl a ≤ bl b)) : srtS xs = ys := by
  have e1 : (xs.map (·.data.toList)).mergeSort Go.leB = (ys.map (·.data.toList)).mergeSort Go.leB := Go.mergeSort_of_perm (hp.map _)
  have e2 : (ys.map (·.data.toList)).mergeSort Go.leB = ys.map (·.data.toList) := by
    refine List.mergeSort_of_pairwise ?_
    rw [List.pairwise_map]
    exact hs.imp fun h => decide_eq_true h
  show ((xs.map (·.data.toList)).mergeSort Go.leB).map _ = _
  rw [e1, e2, List.map_map]
  have : ((fun l => (⟨l.toArray⟩ : ByteArray)) ∘ fun x : ByteArray => x.data.toList) = id := by funext x; rfl
  rw [this, List.map_id]
theorem srtI_eq {xs ys : List Int} (hp : xs.Perm ys) (hs : ys.Pairwise (· ≤ ·)) : srtI xs = ys := by
  have e1 : xs.mergeSort (fun x y => decide (x ≤ y)) = ys.mergeSort (fun x y => decide (x ≤ y)) := Go.mergeSort_of_perm_i hp
  show xs.mergeSort (fun x y => decide (x ≤ y)) = ys
  rw [e1]
  exact List.mergeSort_of_pairwise (hs.imp fun h => decide_eq_true h)
end Go.Gx
