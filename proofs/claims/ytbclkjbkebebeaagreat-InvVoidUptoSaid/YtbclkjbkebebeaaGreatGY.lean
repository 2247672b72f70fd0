/-
 Sorting by putting in place: what the kernel computes. Generic: names no program.
-/
import Derived.Test.YtbclkjbkebebeaaGreatGW
set_option linter.unusedVariables false
namespace Go.Gx
def insL {α : Type} (le : α → α → Bool) (a : α) : List α → List α
 | [] => [a]
 | b :: l => if le a b = true then a :: b :: l else b :: insL le a l
def isrt {α : Type} (le : α → α → Bool) : List α → List α
 | [] => []
 | a :: l => insL le a (isrt le l)
section
variable {α : Type} {le : α → α → Bool}
theorem insL_perm (a : α) : ∀ l : List α, (insL le a l).Perm (a :: l)
 | [] => .refl _
 | b :: l => by
  unfold insL
  split
  ·exact .refl _
  ·exact ((insL_perm a l).cons b).trans (.swap a b l)
theorem isrt_perm : ∀ l : List α, (isrt le l).Perm l
 | [] => .refl _
 | a :: l => (insL_perm a _).trans ((isrt_perm l).cons a)
theorem insL_sorted (htr : ∀ a b c, le a b = true → le b c = true → le a c = true) (hto : ∀ a b, le a b = true ∨ le b a = true) (a : α) : ∀ l : List α, l.Pairwise (fun x y => le x y = true) → (insL le a l).Pairwise (fun x y => le x y = true)
 | [], _ => by simp [insL]
 | b :: l, h => by
  have h' := List.pairwise_cons.1 h
  unfold insL
  split
  ·rename_i hab
   refine List.pairwise_cons.2 ⟨fun x hx => ?_, h⟩
   rcases List.mem_cons.1 hx with rfl | hx
   ·exact hab
   ·exact htr _ _ _ hab (h'.1 x hx)
  ·rename_i hab
   refine List.pairwise_cons.2 ⟨fun x hx => ?_, insL_sorted htr hto a l h'.2⟩
   rcases List.mem_cons.1 ((insL_perm a l).mem_iff.1 hx) with rfl | hx
   ·exact (hto x b).resolve_left hab
   ·exact h'.1 x hx
theorem isrt_sorted (htr : ∀ a b c, le a b = true → le b c = true → le a c = true) (hto : ∀ a b, le a b = true ∨ le b a = true) : ∀ l : List α, (isrt le l).Pairwise (fun x y => le x y = true)
 | [] => .nil
 | a :: l => insL_sorted htr hto a _ (isrt_sorted htr hto l)
theorem sorted_uniq (has : ∀ a b, le a b = true → le b a = true → a = b) : ∀ {l m : List α}, l.Pairwise (fun x y => le x y = true) → m.Pairwise (fun x y => le x y = true) → l.Perm m → l = m
 | [], m, _, _, h => (List.Perm.nil_eq h)
 | a :: l, [], _, _, h => absurd h.length_eq (by simp)
 | a :: l, b :: m, hl, hm, h => by
  have hl' := List.pairwise_cons.1 hl
  have hm' := List.pairwise_cons.1 hm
  have e : a = b := by
   rcases List.mem_cons.1 (h.mem_iff.1 (List.mem_cons_self (a := a) (l := l))) with e | e
   ·exact e
   rcases List.mem_cons.1 (h.mem_iff.2 (List.mem_cons_self (a := b) (l := m))) with e' | e'
   ·exact e'.symm
   exact has _ _ (hl'.1 _ e') (hm'.1 _ e)
  subst e
  rw [sorted_uniq has hl'.2 hm'.2 (List.Perm.cons_inv h)]
theorem mergeSort_isrt (htr : ∀ a b c, le a b = true → le b c = true → le a c = true) (hto : ∀ a b, le a b = true ∨ le b a = true) (has : ∀ a b, le a b = true → le b a = true → a = b) (l : List α) : l.mergeSort le = isrt le l :=
 sorted_uniq has (List.pairwise_mergeSort htr (fun a b => by simpa using hto a b) l) (isrt_sorted htr hto l) ((List.mergeSort_perm l le).trans (isrt_perm l).symm)
end
def srtSc (xs : List ByteArray) : List ByteArray := (isrt (fun x y => decide (x ≤ y)) (xs.map (·.data.toList))).map fun l => ⟨l.toArray⟩
theorem srtS_c (xs : List ByteArray) : srtS xs = srtSc xs := by
 unfold srtS srtSc
 rw [mergeSort_isrt]
 ·intro a b c h1 h2; simp at h1 h2 ⊢; exact List.le_trans h1 h2
 ·intro a b; simpa using List.le_total a b
 ·intro a b h1 h2; simp at h1 h2; exact List.le_antisymm h1 h2
theorem srtS_f : srtS = srtSc := funext srtS_c
end Go.Gx
