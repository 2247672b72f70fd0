/-
 Maps as lists of pairs: what is looked up, set, taken away; their order does not count. Names no program.
-/
import Derived.Test.YtdccklkdakfnaaaGreatGW
import Derived.Sort.KeysCollected
import Derived.Lib.SlKeysI
set_option linter.unusedVariables false
set_option linter.unusedSectionVars false
namespace Go.Gx
section
variable {κ ν : Type} [BEq κ] [LawfulBEq κ] [DecidableEq κ]
abbrev Keys (m : List (κ × ν)) : Prop := (m.map (·.1)).Nodup
theorem mget_mem {m : List (κ × ν)} {k : κ} {v : ν} (h : mget m k = some v) : (k, v) ∈ m := by
 induction m with
 | nil => simp [mget] at h
 | cons e m ih =>
  simp only [mget] at h
  split at h
  ·rename_i hk
   have := eq_of_beq hk
   subst this
   cases h
   exact List.mem_cons_self ..
  ·exact .tail _ (ih h)
theorem mget_of_mem {m : List (κ × ν)} (hn : Keys m) {k : κ} {v : ν} (h : (k, v) ∈ m) : mget m k = some v := by
 induction m with
 | nil => cases h
 | cons e m ih =>
  simp only [mget]
  rw [Keys, List.map_cons, List.nodup_cons] at hn
  rcases List.mem_cons.1 h with rfl | h
  ·simp
  ·have : (k == e.1) = false := by
    rw [beq_eq_false_iff_ne]
    rintro rfl
    exact hn.1 (List.mem_map.2 ⟨_, h, rfl⟩)
   rw [this]
   exact ih hn.2 h
theorem mget_none {m : List (κ × ν)} {k : κ} : mget m k = none ↔ k ∉ m.map (·.1) := by
 induction m with
 | nil => simp [mget]
 | cons e m ih =>
  simp only [mget, List.map_cons, List.mem_cons]
  by_cases hk : k = e.1
  ·subst hk; simp
  ·have : (k == e.1) = false := by simpa using hk
   rw [this]
   simp only [Bool.false_eq_true, if_false, ih, hk, false_or]
theorem mget_perm {m p : List (κ × ν)} (hp : m.Perm p) (hn : Keys m) (k : κ) : mget m k = mget p k := by
 have hn' : Keys p := (hp.map _).nodup_iff.1 hn
 cases h : mget m k with
 | none => exact (mget_none.2 fun h' => mget_none.1 h ((hp.map _).mem_iff.2 h')).symm
 | some v => exact (mget_of_mem hn' (hp.mem_iff.1 (mget_mem h))).symm
theorem filter_self {m : List (κ × ν)} {k : κ} (h : k ∉ m.map (·.1)) : m.filter (fun e => !(k == e.1)) = m := by
 rw [List.filter_eq_self]
 intro e he
 have : k ≠ e.1 := fun e' => h (List.mem_map.2 ⟨e, he, e'.symm⟩)
 simp [this]
theorem mset_perm {m : List (κ × ν)} (hn : Keys m) (k : κ) (v : ν) : (mset m k v).Perm ((k, v) :: m.filter (fun e => !(k == e.1))) := by
 induction m with
 | nil => simp [mset]
 | cons e m ih =>
  rw [Keys, List.map_cons, List.nodup_cons] at hn
  simp only [mset]
  by_cases hk : k = e.1
  ·subst hk
   rw [List.filter_cons]
   simp only [beq_self_eq_true, if_true, Bool.not_true, Bool.false_eq_true, if_false]
   rw [filter_self hn.1]
  ·have hb : (k == e.1) = false := by simpa using hk
   rw [List.filter_cons, hb]
   simp only [Bool.false_eq_true, if_false, Bool.not_false, if_true]
   exact ((ih hn.2).cons e).trans (List.Perm.swap _ _ _)
theorem mdel_eq {m : List (κ × ν)} (hn : Keys m) (k : κ) : mdel m k = m.filter (fun e => !(k == e.1)) := by
 induction m with
 | nil => rfl
 | cons e m ih =>
  rw [Keys, List.map_cons, List.nodup_cons] at hn
  simp only [mdel]
  by_cases hk : k = e.1
  ·subst hk
   rw [List.filter_cons]
   simp only [beq_self_eq_true, if_true, Bool.not_true, Bool.false_eq_true, if_false]
   rw [filter_self hn.1]
  ·have hb : (k == e.1) = false := by simpa using hk
   rw [List.filter_cons, hb]
   simp only [Bool.false_eq_true, if_false, Bool.not_false, if_true]
   rw [ih hn.2]
end
/-! ### texts in order -/
def bl (s : ByteArray) : List UInt8 := s.data.toList
theorem bl_inj {a b : ByteArray} (h : bl a = bl b) : a = b := by
 obtain ⟨⟨a⟩⟩ := a; obtain ⟨⟨b⟩⟩ := b; simp only [bl] at h; subst h; rfl
end Go.Gx
