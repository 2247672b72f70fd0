/-
 Numbers sorted by the program's own sort: it does what the plain sort does (first part).
-/
import Derived.Test.YtbclkjbkebebeaaGreatMIv
import Derived.Test.YtbclkjbkebebeaaGreatGS
import Derived.Sort.AssemblyPlain
import Derived.Sort.LotD5
set_option linter.unusedVariables false
set_option linter.unusedSimpArgs false
namespace Go.Proofs.YtbclkjbkebebeaaGreat
open Go.Gx
open Go.Sort (ltInt swp)
theorem bnd {α β : Type} (a : α) (f : α → Option β) : (some a >>= f) = f a := rfl
theorem wi {x : Int} (h0 : -9223372036854775808 ≤ x) (h1 : x ≤ 9223372036854775807) : wr .i64 x = x := by
 simp only [wr, IntKind.wrap, IntKind.signed, IntKind.bits]
 simp
 split <;> omega
theorem iq {n m : Nat} (h : n ≤ 9223372036854775807) : iquo .i64 (n : Int) (m : Int) = ((n / m : Nat) : Int) := by
 have h2 : n / m ≤ n := Nat.div_le_self n m
 show wr .i64 ((n : Int).tdiv (m : Int)) = _
 rw [← Int.ofNat_tdiv]
 generalize n / m = q at *
 exact wi (by omega) (by omega)
theorem less (x y : Int) : M.a0 x y = some (ltInt x y) := by
 simp [M.a0, M.a4t, bnd, ltInt]
theorem giA (d : Array Int) (i : Nat) : gi d.toList (i : Int) = d[i]! := by
 simp [gi, Array.getElem!_eq_getD, Array.getD_eq_getD_getElem?]
theorem siA (d : Array Int) (i : Nat) (x : Int) : si d.toList (i : Int) x = (d.setIfInBounds i x).toList := by
 simp [si]
theorem leA (d : Array Int) : (d.toList.length : Int) = (d.size : Int) := by simp
theorem swA (d : Array Int) (i j : Nat) : si (si d.toList (i : Int) (gi d.toList (j : Int))) (j : Int) (gi d.toList (i : Int)) = (swp d i j).toList := by
 rw [giA, giA, siA, siA]; rfl
theorem g4 {c1 c2 c3 c4 : Prop} [Decidable c1] [Decidable c2] [Decidable c3] [Decidable c4] {α : Type} {x : Option α} (h1 : c1) (h2 : c2) (h3 : c3) (h4 : c4) : (if c1 then if c2 then if c3 then if c4 then x else none else none else none else none) = x := by
 rw [if_pos h1, if_pos h2, if_pos h3, if_pos h4]
theorem sz (d : Array Int) (i j : Nat) : (swp d i j).size = d.size := Go.Sort.size_swp d i j
theorem pd (n : Nat) : ((n + 1 : Nat) : Int) - 1 = (n : Int) := by omega
theorem su (n : Nat) : ((n : Nat) : Int) + 1 = ((n + 1 : Nat) : Int) := by omega
theorem mi {a b : Nat} (h : a ≤ b) : (b : Int) - (a : Int) = ((b - a : Nat) : Int) := by omega
/-! ### a few by insertion -/
theorem insI (a b i : Nat) : ∀ (j : Nat) (d : Array Int), j < d.size → d.size ≤ 1073741824 →
  M.aq ((a : Int), (b : Int), (i : Int), (j : Int), d.toList) = M.af ((a : Int), (b : Int), wr .i64 ((i : Int) + 1), (Go.Sort.insInner ltInt a j d).toList)
 | 0, d, hj, hs => by
  rw [M.aq, if_neg (by omega), M.ar]
  rw [if_neg (by simp)]
  rfl
 | j + 1, d, hj, hs => by
  have e : wr .i64 (((j + 1 : Nat) : Int) - 1) = (j : Int) := by rw [wi (by omega) (by omega)]; omega
  rw [M.aq, Go.Sort.insInner]
  by_cases h : j + 1 > a
  ·rw [if_pos (by omega)]
   simp only [e]
   refine (g4 (by omega) (by rw [leA]; omega) (by omega) (by rw [leA]; omega)).trans ?_
   rw [less, bnd, M.ar, giA, giA]
   by_cases h2 : ltInt d[j + 1]! d[j]! = true
   ·rw [if_pos h2, if_pos (c := (decide (j + 1 > a) && ltInt d[j + 1]! d[j]!) = true) (by simp [h, h2])]
    simp only [e]
    refine (g4 (by omega) (by rw [leA]; omega) (by omega) (by rw [leA]; omega)).trans ?_
    rw [bnd, bnd, ← giA d (j + 1), swA]
    exact insI a b i j _ (by rw [sz]; omega) (by rw [sz]; exact hs)
   ·rw [if_neg h2, if_neg (by simp [h2])]
  ·rw [if_neg (by omega), if_neg (by simp [h]), M.ar, if_neg (by simp)]
theorem ins_size (a : Nat) : ∀ (j : Nat) (d : Array Int), (Go.Sort.insInner ltInt a j d).size = d.size
 | 0, d => rfl
 | j + 1, d => by
  rw [Go.Sort.insInner]
  split
  ·rw [ins_size a j, sz]
  ·rfl
theorem insO (a b : Nat) : ∀ (n i : Nat) (d : Array Int), b - i ≤ n → b ≤ d.size → d.size ≤ 1073741824 → M.af ((a : Int), (b : Int), (i : Int), d.toList) = some (Go.Sort.insOuter ltInt a b i d).toList
 | n, i, d, hn, hb, hs => by
  rw [M.af, Go.Sort.insOuter]
  by_cases h : i < b
  ·rw [if_pos (by omega), if_pos h, insI a b i i d (by omega) hs, wi (by omega) (by omega), su]
   match n, hn with
   | 0, hn => omega
   | n + 1, hn => exact insO a b n (i + 1) _ (by omega) (by rw [ins_size]; exact hb) (by rw [ins_size]; exact hs)
  ·rw [if_neg (by omega), if_neg h]
theorem insS (a b : Nat) (d : Array Int) (hb : b ≤ d.size) (ha : a ≤ b) (hs : d.size ≤ 1073741824) : M.a2g d.toList (a : Int) (b : Int) = some (Go.Sort.insertionSort ltInt d a b).toList := by
 rw [M.a2g, wi (by omega) (by omega), su]
 exact insO a b _ (a + 1) d (Nat.le_refl _) hb hs
/-! ### the heap -/
theorem sift_size (hi first : Nat) : ∀ (n root : Nat) (d : Array Int), hi - root ≤ n → (Go.Sort.siftDown ltInt hi first root d).size = d.size
 | n, root, d, hn => by
  rw [Go.Sort.siftDown]
  split
  ·rfl
  ·match n, hn with
   | 0, hn => omega
   | n + 1, hn =>
    split
    ·split
     ·rfl
     ·split
      ·rw [sift_size hi first n _ _ (by omega), sz]
      ·rfl
    ·split
     ·rfl
     ·rw [sift_size hi first n _ _ (by omega), sz]
theorem sift2 (hi first root c : Nat) (d : Array Int) (hc : c < hi) (hr : root < hi) (hf : first + hi ≤ d.size) (hs : d.size ≤ 1073741824) :
  M.a18 ((hi : Int), (first : Int), (root : Int), (c : Int), d.toList) = if !ltInt d[first + root]! d[first + c]! then some d.toList else M.ag ((hi : Int), (first : Int), (c : Int), (swp d (first + root) (first + c)).toList) := by
 have e1 : wr .i64 ((first : Int) + (root : Int)) = ((first + root : Nat) : Int) := (wi (by omega) (by omega)).trans (by omega)
 have e2 : wr .i64 ((first : Int) + (c : Int)) = ((first + c : Nat) : Int) := (wi (by omega) (by omega)).trans (by omega)
 rw [M.a18]
 simp only [e1, e2]
 refine (g4 (by omega) (by rw [leA]; omega) (by omega) (by rw [leA]; omega)).trans ?_
 rw [less, bnd]
 simp only [bnd, swA]
 rw [giA, giA]
 cases ltInt d[first + root]! d[first + c]! <;> rfl
theorem siftD (hi first : Nat) : ∀ (n root : Nat) (d : Array Int), hi - root ≤ n → first + hi ≤ d.size → d.size ≤ 1073741824 → root ≤ 1073741824 → M.ag ((hi : Int), (first : Int), (root : Int), d.toList) = some (Go.Sort.siftDown ltInt hi first root d).toList
 | n, root, d, hn, hf, hs, hr => by
  have e1 : wr .i64 ((wr .i64 (2 * (root : Int))) + 1) = ((2 * root + 1 : Nat) : Int) := by rw [wi (x := 2 * (root : Int)) (by omega) (by omega), wi (by omega) (by omega)]; omega
  have e2 : wr .i64 (((2 * root + 1 : Nat) : Int) + 1) = ((2 * root + 2 : Nat) : Int) := by rw [wi (by omega) (by omega)]; omega
  rw [M.ag, Go.Sort.siftDown]
  simp only [e1, e2]
  by_cases h : 2 * root + 1 ≥ hi
  ·rw [if_pos (by omega), dif_pos h]
  ·rw [if_neg (by omega), dif_neg h]
   match n, hn with
   | 0, hn => omega
   | n + 1, hn =>
    have e3 : wr .i64 ((first : Int) + ((2 * root + 1 : Nat) : Int)) = ((first + (2 * root + 1) : Nat) : Int) := by rw [wi (by omega) (by omega)]; omega
    have ih1 := fun (d : Array Int) (hf : first + hi ≤ d.size) (hs : d.size ≤ 1073741824) => siftD hi first n (2 * root + 1) d (by omega) hf hs (by omega)
    by_cases h2 : 2 * root + 2 < hi
    ·have e4 : wr .i64 (((first + (2 * root + 1) : Nat) : Int) + 1) = ((first + (2 * root + 1) + 1 : Nat) : Int) := by rw [wi (by omega) (by omega)]; omega
     have ih2 := fun (d : Array Int) (hf : first + hi ≤ d.size) (hs : d.size ≤ 1073741824) => siftD hi first n (2 * root + 2) d (by omega) hf hs (by omega)
     rw [if_pos (by omega)]
     simp only [e3, e4, bnd]
     refine (g4 (by omega) (by rw [leA]; omega) (by omega) (by rw [leA]; omega)).trans ?_
     rw [less, bnd, M.a17, giA, giA]
     have hd : decide (2 * root + 1 + 1 < hi) = true := by simpa using h2
     rw [hd, Bool.true_and]
     cases ltInt d[first + (2 * root + 1)]! d[first + (2 * root + 1) + 1]!
     ·rw [if_neg (by simp), if_neg (by simp), sift2 hi first root _ d (by omega) (by omega) hf hs]
      split
      ·rfl
      ·exact ih1 _ (by rw [sz]; exact hf) (by rw [sz]; exact hs)
     ·rw [if_pos rfl, if_pos rfl, e2, sift2 hi first root _ d (by omega) (by omega) hf hs]
      split
      ·rfl
      ·exact ih2 _ (by rw [sz]; exact hf) (by rw [sz]; exact hs)
    ·have hd : decide (2 * root + 1 + 1 < hi) = false := by simpa using h2
     rw [if_neg (by omega), hd, Bool.false_and, M.a17, if_neg (by simp), if_neg (by simp), sift2 hi first root _ d (by omega) (by omega) hf hs]
     split
     ·rfl
     ·exact ih1 _ (by rw [sz]; exact hf) (by rw [sz]; exact hs)
theorem siftF (hi first root : Nat) (d : Array Int) (hf : first + hi ≤ d.size) (hs : d.size ≤ 1073741824) (hr : root ≤ 1073741824) : M.a2h d.toList (root : Int) (hi : Int) (first : Int) = some (Go.Sort.siftDown ltInt hi first root d).toList :=
 siftD hi first _ root d (Nat.le_refl _) hf hs hr
theorem sift_sz (hi first root : Nat) (d : Array Int) : (Go.Sort.siftDown ltInt hi first root d).size = d.size := sift_size hi first _ root d (Nat.le_refl _)
theorem popL (first : Nat) : ∀ (k : Nat) (d : Array Int), first + k ≤ d.size → d.size ≤ 1073741824 → M.as ((first : Int), 0, (k : Int) - 1, d.toList) = some (Go.Sort.heapPop ltInt first k d).toList
 | 0, d, hf, hs => by rw [M.as, if_neg (by omega)]; rfl
 | k + 1, d, hf, hs => by
  have e1 : wr .i64 ((first : Int) + (k : Int)) = ((first + k : Nat) : Int) := by rw [wi (by omega) (by omega)]; omega
  rw [M.as, pd, if_pos (by omega)]
  simp only [e1, bnd, swA]
  refine (g4 (by omega) (by rw [leA]; omega) (by omega) (by rw [leA]; omega)).trans ?_
  have := siftF k first 0 (swp d first (first + k)) (by rw [sz]; omega) (by rw [sz]; exact hs) (by omega)
  rw [show ((0 : Nat) : Int) = 0 from rfl] at this
  rw [this, bnd, wi (by omega) (by omega), Go.Sort.heapPop]
  exact popL first k _ (by rw [sift_sz, sz]; omega) (by rw [sift_sz, sz]; exact hs)
theorem buildL (first hi : Nat) : ∀ (k : Nat) (d : Array Int), k ≤ 1073741824 → first + hi ≤ d.size → d.size ≤ 1073741824 → M.at ((first : Int), 0, (hi : Int), (k : Int) - 1, d.toList) = some (Go.Sort.heapPop ltInt first hi (Go.Sort.heapBuild ltInt hi first k d)).toList
 | 0, d, hk, hf, hs => by
  rw [M.at, if_neg (by omega), wi (by omega) (by omega)]
  exact popL first hi d hf hs
 | k + 1, d, hk, hf, hs => by
  rw [M.at, pd, if_pos (by omega), siftF hi first k d hf hs (by omega), bnd, wi (by omega) (by omega), Go.Sort.heapBuild]
  exact buildL first hi k _ (by omega) (by rw [sift_sz]; exact hf) (by rw [sift_sz]; exact hs)
theorem heapS (a b : Nat) (d : Array Int) (hb : b ≤ d.size) (ha : a ≤ b) (hs : d.size ≤ 1073741824) : M.a2i d.toList (a : Int) (b : Int) = some (Go.Sort.heapSort ltInt d a b).toList := by
 have e1 : wr .i64 ((b : Int) - (a : Int)) = ((b - a : Nat) : Int) := by rw [wi (by omega) (by omega)]; omega
 have e2 : iquo .i64 (wr .i64 (((b - a : Nat) : Int) - 1)) 2 = (((b - a - 1) / 2 + 1 : Nat) : Int) - 1 := by
  rw [wi (by omega) (by omega)]
  rcases Nat.eq_zero_or_pos (b - a) with h | h
  ·rw [h]; decide
  ·rw [show ((b - a : Nat) : Int) - 1 = ((b - a - 1 : Nat) : Int) by omega, show (2 : Int) = ((2 : Nat) : Int) from rfl, iq (by omega)]; omega
 rw [M.a2i, e1, e2]
 exact buildL a (b - a) _ d (by omega) (by omega) hs
end Go.Proofs.YtbclkjbkebebeaaGreat
