/-
 Numbers sorted by the program's own sort (third part: the partings, the patterns, the whole).
-/
import Derived.Test.YtbclkjbkebebeaaGreatQIvT
set_option linter.unusedVariables false
set_option linter.unusedSimpArgs false
namespace Go.Proofs.YtbclkjbkebebeaaGreat
open Go.Gx
open Go.Sort (ltInt swp)
/-! ### parted from what is equal -/
theorem peU (a j : Nat) (d : Array Int) (ha : a < d.size) (hj : j < d.size) (hs : d.size ≤ 1073741824) : ∀ (n i : Nat), j + 1 - i ≤ n →
  M.a1c ((a : Int), (i : Int), (j : Int), d.toList) = M.ak ((a : Int), ((Go.Sort.scanUp (fun x => !ltInt d[a]! x) d j i : Nat) : Int), (j : Int), d.toList)
 | n, i, hn => by
  rw [M.a1c, Go.Sort.scanUp]
  by_cases h : i ≤ j
  ·have hd : decide (i ≤ j) = true := by simpa using h
   rw [if_pos (by omega), hd, Bool.true_and]
   refine (g4 (by omega) (by rw [leA]; omega) (by omega) (by rw [leA]; omega)).trans ?_
   rw [less, bnd, giA, giA, M.a1d]
   cases ltInt d[a]! d[i]!
   ·rw [if_pos (by simp), wi (by omega) (by omega), su]
    match n, hn with
    | 0, hn => omega
    | n + 1, hn => exact peU a j d ha hj hs n (i + 1) (by omega)
   ·rfl
  ·have hd : decide (i ≤ j) = false := by simpa using h
   rw [if_neg (by omega), hd, Bool.false_and, M.a1d, if_neg (by simp), if_neg (by simp)]
theorem peD (a i : Nat) (d : Array Int) (ha : a < d.size) (h1 : 1 ≤ i) (hs : d.size ≤ 1073741824) : ∀ (j : Nat), j < d.size →
  M.ak ((a : Int), (i : Int), (j : Int), d.toList) = M.ax ((a : Int), (i : Int), ((Go.Sort.scanDown (fun x => ltInt d[a]! x) d i j : Nat) : Int), false, d.toList)
 | 0, hj => by rw [M.ak, if_neg (by omega)]; rfl
 | j + 1, hj => by
  rw [M.ak, Go.Sort.scanDown]
  by_cases h : i ≤ j + 1
  ·have hd : decide (i ≤ j + 1) = true := by simpa using h
   rw [if_pos (by omega), hd, Bool.true_and]
   refine (g4 (by omega) (by rw [leA]; omega) (by omega) (by rw [leA]; omega)).trans ?_
   rw [less, bnd, giA, giA]
   cases ltInt d[a]! d[j + 1]!
   ·rfl
   ·rw [M.ax, if_pos rfl, if_pos rfl, wi (by omega) (by omega), pd]
    exact peD a i d ha h1 hs j (by omega)
  ·have hd : decide (i ≤ j + 1) = false := by simpa using h
   rw [if_neg (by omega), hd, Bool.false_and, if_neg (by simp)]
theorem peL (a : Nat) : ∀ (n i j : Nat) (d : Array Int), j + 1 - i ≤ n → 1 ≤ i → a < d.size → j < d.size → d.size ≤ 1073741824 →
  M.aw ((a : Int), (i : Int), (j : Int), d.toList) = some (((Go.Sort.partEqLoop ltInt a i j d).1 : Int), (Go.Sort.partEqLoop ltInt a i j d).2.toList)
 | n, i, j, d, hn, h1, ha, hj, hs => by
  have s1 := Go.Sort.scanUp_spec (fun x => !ltInt d[a]! x) d j _ i rfl
  rw [M.aw, peU a j d ha hj hs _ i (Nat.le_refl _), Go.Sort.partEqLoop_eq]
  generalize Go.Sort.scanUp (fun x => !ltInt d[a]! x) d j i = i2 at *
  have s2 := Go.Sort.scanDown_spec (fun x => ltInt d[a]! x) d i2 j
  rw [peD a i2 d ha (by omega) hs j hj]
  generalize Go.Sort.scanDown (fun x => ltInt d[a]! x) d i2 j = j2 at *
  have u1 := s1.1
  have u3 := s2.1
  clear s1 s2
  rw [M.ax, if_neg (by simp)]
  by_cases h : i2 > j2
  ·rw [if_pos (by omega), if_pos h]
  ·rw [if_neg (by omega), if_neg h]
   refine (g4 (by omega) (by rw [leA]; omega) (by omega) (by rw [leA]; omega)).trans ?_
   rw [swA, wi (by omega) (by omega), wi (by omega) (by omega), su, show (j2 : Int) - 1 = ((j2 - 1 : Nat) : Int) by omega]
   match n, hn with
   | 0, hn => omega
   | n + 1, hn => exact peL a n (i2 + 1) (j2 - 1) _ (by omega) (by omega) (by rw [sz]; exact ha) (by rw [sz]; omega) (by rw [sz]; exact hs)
theorem pe_rng (a : Nat) : ∀ (n i j : Nat) (d : Array Int), j + 1 - i ≤ n → i ≤ (Go.Sort.partEqLoop ltInt a i j d).1 ∧ (Go.Sort.partEqLoop ltInt a i j d).1 ≤ max i (j + 1) ∧ (Go.Sort.partEqLoop ltInt a i j d).2.size = d.size
 | n, i, j, d, hn => by
  have s1 := Go.Sort.scanUp_spec (fun x => !ltInt d[a]! x) d j _ i rfl
  rw [Go.Sort.partEqLoop_eq]
  generalize hi2 : Go.Sort.scanUp (fun x => !ltInt d[a]! x) d j i = i2 at *
  have s2 := Go.Sort.scanDown_spec (fun x => ltInt d[a]! x) d i2 j
  generalize Go.Sort.scanDown (fun x => ltInt d[a]! x) d i2 j = j2 at *
  have u1 := s1.1
  have u2 : i2 ≤ max i (j + 1) := by
   rcases Nat.lt_or_ge (j + 1) i with h | h
   ·have : i2 = i := by
     rw [← hi2, Go.Sort.scanUp, if_neg (by simp; omega)]
    omega
   ·have := s1.2.1 h; omega
  have u3 := s2.1
  clear s1 s2
  split
  ·exact ⟨u1, u2, rfl⟩
  ·match n, hn with
   | 0, hn => omega
   | n + 1, hn =>
    obtain ⟨h1, h2, h3⟩ := pe_rng a n (i2 + 1) (j2 - 1) (swp d i2 j2) (by omega)
    exact ⟨by omega, by omega, by rw [h3, sz]⟩
theorem pEq (d : Array Int) (a b p : Nat) (ha : a < b) (hb : b ≤ d.size) (hp : p < d.size) (hs : d.size ≤ 1073741824) :
  M.a2l d.toList (a : Int) (b : Int) (p : Int) = some (((Go.Sort.partitionEqual ltInt d a b p).1 : Int), (Go.Sort.partitionEqual ltInt d a b p).2.toList) ∧
  a < (Go.Sort.partitionEqual ltInt d a b p).1 ∧ (Go.Sort.partitionEqual ltInt d a b p).1 ≤ b ∧ (Go.Sort.partitionEqual ltInt d a b p).2.size = d.size := by
 constructor
 ·rw [M.a2l]
  refine (g4 (by omega) (by rw [leA]; omega) (by omega) (by rw [leA]; omega)).trans ?_
  rw [swA, wi (by omega) (by omega), wi (by omega) (by omega), su, show (b : Int) - 1 = ((b - 1 : Nat) : Int) by omega]
  exact peL a _ (a + 1) (b - 1) _ (Nat.le_refl _) (by omega) (by rw [sz]; omega) (by rw [sz]; omega) (by rw [sz]; exact hs)
 ·obtain ⟨h1, h2, h3⟩ := pe_rng a _ (a + 1) (b - 1) (swp d a p) (Nat.le_refl _)
  refine ⟨?_, ?_, ?_⟩
  ·show a < (Go.Sort.partEqLoop ltInt a (a + 1) (b - 1) (swp d a p)).1; omega
  ·show (Go.Sort.partEqLoop ltInt a (a + 1) (b - 1) (swp d a p)).1 ≤ b; omega
  ·show (Go.Sort.partEqLoop ltInt a (a + 1) (b - 1) (swp d a p)).2.size = d.size; rw [h3, sz]
/-! ### parted -/
theorem ptU (a j : Nat) (d : Array Int) (ha : a < d.size) (hj : j < d.size) (hs : d.size ≤ 1073741824) : ∀ (n i : Nat), j + 1 - i ≤ n →
  M.a1e ((a : Int), (i : Int), (j : Int), d.toList) = M.al ((a : Int), ((Go.Sort.scanUp (fun x => ltInt x d[a]!) d j i : Nat) : Int), (j : Int), d.toList)
 | n, i, hn => by
  rw [M.a1e, Go.Sort.scanUp]
  by_cases h : i ≤ j
  ·have hd : decide (i ≤ j) = true := by simpa using h
   rw [if_pos (by omega), hd, Bool.true_and]
   refine (g4 (by omega) (by rw [leA]; omega) (by omega) (by rw [leA]; omega)).trans ?_
   rw [less, bnd, giA, giA, M.a1f]
   cases ltInt d[i]! d[a]!
   ·rfl
   ·rw [if_pos (by simp), wi (by omega) (by omega), su]
    match n, hn with
    | 0, hn => omega
    | n + 1, hn => exact ptU a j d ha hj hs n (i + 1) (by omega)
  ·have hd : decide (i ≤ j) = false := by simpa using h
   rw [if_neg (by omega), hd, Bool.false_and, M.a1f, if_neg (by simp), if_neg (by simp)]
theorem ptD (a i : Nat) (d : Array Int) (ha : a < d.size) (h1 : 1 ≤ i) (hs : d.size ≤ 1073741824) : ∀ (j : Nat), j < d.size →
  M.al ((a : Int), (i : Int), (j : Int), d.toList) = M.az ((a : Int), (i : Int), ((Go.Sort.scanDown (fun x => !ltInt x d[a]!) d i j : Nat) : Int), false, d.toList)
 | 0, hj => by rw [M.al, if_neg (by omega)]; rfl
 | j + 1, hj => by
  rw [M.al, Go.Sort.scanDown]
  by_cases h : i ≤ j + 1
  ·have hd : decide (i ≤ j + 1) = true := by simpa using h
   rw [if_pos (by omega), hd, Bool.true_and]
   refine (g4 (by omega) (by rw [leA]; omega) (by omega) (by rw [leA]; omega)).trans ?_
   rw [less, bnd, giA, giA]
   cases ltInt d[j + 1]! d[a]!
   ·rw [M.az, if_pos (by simp), if_pos (by simp), wi (by omega) (by omega), pd]
    exact ptD a i d ha h1 hs j (by omega)
   ·rfl
  ·have hd : decide (i ≤ j + 1) = false := by simpa using h
   rw [if_neg (by omega), hd, Bool.false_and, if_neg (by simp)]
theorem pfU (a j : Nat) (d : Array Int) (ha : a < d.size) (hj : j < d.size) (hs : d.size ≤ 1073741824) : ∀ (n i : Nat), j + 1 - i ≤ n →
  M.a11 ((a : Int), (i : Int), (j : Int), d.toList) = M.ab ((a : Int), ((Go.Sort.scanUp (fun x => ltInt x d[a]!) d j i : Nat) : Int), (j : Int), d.toList)
 | n, i, hn => by
  rw [M.a11, Go.Sort.scanUp]
  by_cases h : i ≤ j
  ·have hd : decide (i ≤ j) = true := by simpa using h
   rw [if_pos (by omega), hd, Bool.true_and]
   refine (g4 (by omega) (by rw [leA]; omega) (by omega) (by rw [leA]; omega)).trans ?_
   rw [less, bnd, giA, giA, M.a1g]
   cases ltInt d[i]! d[a]!
   ·rfl
   ·rw [if_pos (by simp), wi (by omega) (by omega), su]
    match n, hn with
    | 0, hn => omega
    | n + 1, hn => exact pfU a j d ha hj hs n (i + 1) (by omega)
  ·have hd : decide (i ≤ j) = false := by simpa using h
   rw [if_neg (by omega), hd, Bool.false_and, M.a1g, if_neg (by simp), if_neg (by simp)]
theorem pfD (a i : Nat) (d : Array Int) (ha : a < d.size) (h1 : 1 ≤ i) (hs : d.size ≤ 1073741824) : ∀ (j : Nat), j < d.size →
  M.ab ((a : Int), (i : Int), (j : Int), d.toList) = M.a10 ((a : Int), (i : Int), ((Go.Sort.scanDown (fun x => !ltInt x d[a]!) d i j : Nat) : Int), false, d.toList)
 | 0, hj => by rw [M.ab, if_neg (by omega)]; rfl
 | j + 1, hj => by
  rw [M.ab, Go.Sort.scanDown]
  by_cases h : i ≤ j + 1
  ·have hd : decide (i ≤ j + 1) = true := by simpa using h
   rw [if_pos (by omega), hd, Bool.true_and]
   refine (g4 (by omega) (by rw [leA]; omega) (by omega) (by rw [leA]; omega)).trans ?_
   rw [less, bnd, giA, giA]
   cases ltInt d[j + 1]! d[a]!
   ·rw [M.a10, if_pos (by simp), if_pos (by simp), wi (by omega) (by omega), pd]
    exact pfD a i d ha h1 hs j (by omega)
   ·rfl
  ·have hd : decide (i ≤ j + 1) = false := by simpa using h
   rw [if_neg (by omega), hd, Bool.false_and, if_neg (by simp)]
theorem ptL (a : Nat) : ∀ (n i j : Nat) (d : Array Int), j + 1 - i ≤ n → 1 ≤ i → a < d.size → j < d.size → d.size ≤ 1073741824 →
  M.ay ((a : Int), (i : Int), (j : Int), d.toList) = some (((Go.Sort.partLoop ltInt a i j d).1 : Int), false, (swp (Go.Sort.partLoop ltInt a i j d).2 (Go.Sort.partLoop ltInt a i j d).1 a).toList)
 | n, i, j, d, hn, h1, ha, hj, hs => by
  have s1 := Go.Sort.scanUp_spec (fun x => ltInt x d[a]!) d j _ i rfl
  rw [M.ay, ptU a j d ha hj hs _ i (Nat.le_refl _), Go.Sort.partLoop_eq]
  generalize Go.Sort.scanUp (fun x => ltInt x d[a]!) d j i = i2 at *
  have s2 := Go.Sort.scanDown_spec (fun x => !ltInt x d[a]!) d i2 j
  rw [ptD a i2 d ha (by omega) hs j hj]
  generalize Go.Sort.scanDown (fun x => !ltInt x d[a]!) d i2 j = j2 at *
  have u1 := s1.1
  have u3 := s2.1
  clear s1 s2
  rw [M.az, if_neg (by simp)]
  by_cases h : i2 > j2
  ·rw [if_pos (by omega), if_pos h]
   refine (g4 (by omega) (by rw [leA]; omega) (by omega) (by rw [leA]; omega)).trans ?_
   rw [swA]
  ·rw [if_neg (by omega), if_neg h]
   refine (g4 (by omega) (by rw [leA]; omega) (by omega) (by rw [leA]; omega)).trans ?_
   rw [swA, wi (by omega) (by omega), wi (by omega) (by omega), su, show (j2 : Int) - 1 = ((j2 - 1 : Nat) : Int) by omega]
   match n, hn with
   | 0, hn => omega
   | n + 1, hn => exact ptL a n (i2 + 1) (j2 - 1) _ (by omega) (by omega) (by rw [sz]; exact ha) (by rw [sz]; omega) (by rw [sz]; exact hs)
theorem pTn (d : Array Int) (a b p : Nat) (ha : a < b) (hb : b ≤ d.size) (hp : p < d.size) (hs : d.size ≤ 1073741824) :
  M.a2m d.toList (a : Int) (b : Int) (p : Int) = some (((Go.Sort.partition ltInt d a b p).1 : Int), (Go.Sort.partition ltInt d a b p).2.1, (Go.Sort.partition ltInt d a b p).2.2.toList) := by
 rw [M.a2m]
 refine (g4 (by omega) (by rw [leA]; omega) (by omega) (by rw [leA]; omega)).trans ?_
 rw [swA, wi (by omega) (by omega), wi (by omega) (by omega), su, show (b : Int) - 1 = ((b - 1 : Nat) : Int) by omega, Go.Sort.partition]
 simp only []
 have hz := sz d a p
 generalize swp d a p = e at *
 have s1 := Go.Sort.scanUp_spec (fun x => ltInt x e[a]!) e (b - 1) _ (a + 1) rfl
 rw [pfU a (b - 1) e (by omega) (by omega) (by omega) _ (a + 1) (Nat.le_refl _)]
 generalize Go.Sort.scanUp (fun x => ltInt x e[a]!) e (b - 1) (a + 1) = i2 at *
 have s2 := Go.Sort.scanDown_spec (fun x => !ltInt x e[a]!) e i2 (b - 1)
 rw [pfD a i2 e (by omega) (by omega) (by omega) (b - 1) (by omega)]
 generalize Go.Sort.scanDown (fun x => !ltInt x e[a]!) e i2 (b - 1) = j2 at *
 have u1 := s1.1
 have u2 := s1.2.1 (by omega)
 have u3 := s2.1
 clear s1 s2
 rw [M.a10, if_neg (by simp)]
 by_cases h : i2 > j2
 ·rw [if_pos (by omega)]
  simp only [if_pos h]
  refine (g4 (by omega) (by rw [leA]; omega) (by omega) (by rw [leA]; omega)).trans ?_
  rw [swA]
 ·rw [if_neg (by omega)]
  simp only [if_neg h]
  refine (g4 (by omega) (by rw [leA]; omega) (by omega) (by rw [leA]; omega)).trans ?_
  rw [swA, wi (by omega) (by omega), wi (by omega) (by omega), su, show (j2 : Int) - 1 = ((j2 - 1 : Nat) : Int) by omega]
  exact ptL a _ (i2 + 1) (j2 - 1) _ (Nat.le_refl _) (by omega) (by rw [sz]; omega) (by rw [sz]; omega) (by rw [sz]; omega)
end Go.Proofs.YtbclkjbkebebeaaGreat
