/-
 Numbers sorted by the program's own sort (second part: where to part, the turn about, a few swaps).
-/
import Derived.Test.YtbclkjbkebebeaaGreatQIvS
import Derived.Sort.LotD4
set_option linter.unusedVariables false
set_option linter.unusedSimpArgs false
namespace Go.Proofs.YtbclkjbkebebeaaGreat
open Go.Gx
open Go.Sort (ltInt swp)
/-! ### the pivot -/
theorem ord2 (d : Array Int) (a b s : Nat) (ha : a < d.size) (hb : b < d.size) (hs : d.size ≤ 1073741824) (hn : s ≤ 1000) :
  M.a2v d.toList (a : Int) (b : Int) (s : Int) = some (((Go.Sort.order2 ltInt d a b s).1 : Int), ((Go.Sort.order2 ltInt d a b s).2.1 : Int), ((Go.Sort.order2 ltInt d a b s).2.2 : Int)) := by
 rw [M.a2v]
 refine (g4 (by omega) (by rw [leA]; omega) (by omega) (by rw [leA]; omega)).trans ?_
 rw [less, bnd, giA, giA, Go.Sort.order2, wi (by omega) (by omega)]
 cases ltInt d[b]! d[a]! <;> simp
theorem ord2_lt (d : Array Int) (a b s : Nat) (ha : a < d.size) (hb : b < d.size) : (Go.Sort.order2 ltInt d a b s).1 < d.size ∧ (Go.Sort.order2 ltInt d a b s).2.1 < d.size := by
 rcases Go.Sort.order2_mem ltInt d a b s with ⟨h1, h2⟩ | ⟨h1, h2⟩ <;> rw [h1, h2] <;> omega
theorem med (d : Array Int) (a b c s : Nat) (ha : a < d.size) (hb : b < d.size) (hc : c < d.size) (hs : d.size ≤ 1073741824) (hn : s ≤ 900) :
  M.a3q d.toList (a : Int) (b : Int) (c : Int) (s : Int) = some (((Go.Sort.median ltInt d a b c s).1 : Int), ((Go.Sort.median ltInt d a b c s).2 : Int)) := by
 have c1 := Go.Sort.order2_count ltInt d a b s
 have c2 := Go.Sort.order2_count ltInt d (Go.Sort.order2 ltInt d a b s).2.1 c (Go.Sort.order2 ltInt d a b s).2.2
 obtain ⟨l1, l2⟩ := ord2_lt d a b s ha hb
 obtain ⟨l3, l4⟩ := ord2_lt d (Go.Sort.order2 ltInt d a b s).2.1 c (Go.Sort.order2 ltInt d a b s).2.2 l2 hc
 rw [M.a3q, ord2 d a b s ha hb hs (by omega), bnd]
 simp only []
 rw [ord2 d _ c _ l2 hc hs (by omega), bnd]
 simp only []
 rw [ord2 d _ _ _ l1 l3 hs (by omega), bnd]
 rfl
theorem medA (d : Array Int) (a s : Nat) (h1 : 1 ≤ a) (ha : a + 1 < d.size) (hs : d.size ≤ 1073741824) (hn : s ≤ 900) :
  M.a2w d.toList (a : Int) (s : Int) = some (((Go.Sort.medianAdjacent ltInt d a s).1 : Int), ((Go.Sort.medianAdjacent ltInt d a s).2 : Int)) := by
 have e1 : wr .i64 ((a : Int) - 1) = ((a - 1 : Nat) : Int) := by rw [wi (by omega) (by omega)]; omega
 have e2 : wr .i64 ((a : Int) + 1) = ((a + 1 : Nat) : Int) := by rw [wi (by omega) (by omega)]; omega
 rw [M.a2w, e1, e2, med d _ _ _ s (by omega) (by omega) (by omega) hs hn, bnd]
 rfl
def hintI : Go.Sort.Hint → Int
 | .unknown => 0
 | .increasing => 1
 | .decreasing => 2
theorem piv1 (l : List Int) (s j : Nat) : M.a3r ((s : Int), (j : Int), l) = some ((j : Int), hintI (if s = 0 then .increasing else if s = 12 then .decreasing else .unknown)) := by
 rw [M.a3r]
 by_cases h : s = 0
 ·rw [if_pos (by omega), if_pos h]; rfl
 ·rw [if_neg (by omega), if_neg h]
  by_cases h2 : s = 12
  ·rw [if_pos (by omega), if_pos h2]; rfl
  ·rw [if_neg (by omega), if_neg h2]; rfl
theorem piv0 (d : Array Int) (s i j k : Nat) (hi : i < d.size) (hj : j < d.size) (hk : k < d.size) (hs : d.size ≤ 1073741824) (hn : s ≤ 900) : M.a3s ((s : Int), (i : Int), (j : Int), (k : Int), d.toList) =
  some (((Go.Sort.median ltInt d i j k s).1 : Int), hintI (if (Go.Sort.median ltInt d i j k s).2 = 0 then .increasing else if (Go.Sort.median ltInt d i j k s).2 = 12 then .decreasing else .unknown)) := by
 rw [M.a3s, med d i j k s hi hj hk hs hn, bnd]
 exact piv1 _ _ _
theorem quar (a l c : Nat) (h1 : a + l ≤ 1073741824) (hc : c ≤ 3) : wr .i64 ((a : Int) + (wr .i64 ((iquo .i64 (l : Int) 4) * (c : Int)))) = ((a + l / 4 * c : Nat) : Int) := by
 have h2 : l / 4 ≤ l := Nat.div_le_self _ _
 rw [show (4 : Int) = ((4 : Nat) : Int) from rfl, iq (by omega)]
 generalize l / 4 = q at *
 have h3 : q * c ≤ q * 3 := Nat.mul_le_mul_left _ hc
 rw [show ((q : Nat) : Int) * (c : Int) = ((q * c : Nat) : Int) by push_cast; rfl]
 generalize q * c = r at *
 rw [wi (x := ((r : Nat) : Int)) (by omega) (by omega), wi (by omega) (by omega)]
 omega
theorem pivS (d : Array Int) (a b : Nat) (ha : a < b) (hb : b ≤ d.size) (hs : d.size ≤ 1073741824) :
  M.a3d d.toList (a : Int) (b : Int) = some (((Go.Sort.choosePivot ltInt d a b).1 : Int), hintI (Go.Sort.choosePivot ltInt d a b).2) := by
 have e1 : wr .i64 ((b : Int) - (a : Int)) = ((b - a : Nat) : Int) := by rw [wi (by omega) (by omega)]; omega
 have q1 := quar a (b - a) 1 (by omega) (by omega)
 have q2 := quar a (b - a) 2 (by omega) (by omega)
 have q3 := quar a (b - a) 3 (by omega) (by omega)
 rw [show ((1 : Nat) : Int) = 1 from rfl] at q1
 rw [show ((2 : Nat) : Int) = 2 from rfl] at q2
 rw [show ((3 : Nat) : Int) = 3 from rfl] at q3
 rw [M.a3d]
 simp only [e1, q1, q2, q3]
 unfold Go.Sort.choosePivot
 simp only []
 generalize hl : b - a = l at *
 have hl4 : l / 4 * 4 ≤ l := Nat.div_mul_le_self _ _
 generalize hq : l / 4 = q at *
 by_cases h8 : l ≥ 8
 ·have hq2 : 2 ≤ q := by omega
  rw [if_pos (by omega)]
  simp only [if_pos h8]
  by_cases h50 : l ≥ 50
  ·rw [if_pos (by omega)]
   simp only [if_pos h50]
   have m1 := Go.Sort.medianAdjacent_count ltInt d (a + q * 1) 0
   have p1 := Go.Sort.medianAdjacent_mem ltInt d (a + q * 1) 0
   have a1 := medA d (a + q * 1) 0 (by omega) (by omega) hs (by omega)
   rw [show ((0 : Nat) : Int) = 0 from rfl] at a1
   rw [a1, bnd]
   simp only []
   clear a1
   generalize Go.Sort.medianAdjacent ltInt d (a + q * 1) 0 = r1 at *
   have l1 : r1.1 < d.size := by omega
   have n1 : r1.2 ≤ 3 := by omega
   clear m1 p1
   have m2 := Go.Sort.medianAdjacent_count ltInt d (a + q * 2) r1.2
   have p2 := Go.Sort.medianAdjacent_mem ltInt d (a + q * 2) r1.2
   rw [medA d (a + q * 2) _ (by omega) (by omega) hs (by omega), bnd]
   simp only []
   generalize Go.Sort.medianAdjacent ltInt d (a + q * 2) r1.2 = r2 at *
   have l2 : r2.1 < d.size := by omega
   have n2 : r2.2 ≤ 6 := by omega
   clear m2 p2
   have m3 := Go.Sort.medianAdjacent_count ltInt d (a + q * 3) r2.2
   have p3 := Go.Sort.medianAdjacent_mem ltInt d (a + q * 3) r2.2
   rw [medA d (a + q * 3) _ (by omega) (by omega) hs (by omega), bnd]
   simp only []
   generalize Go.Sort.medianAdjacent ltInt d (a + q * 3) r2.2 = r3 at *
   have l3 : r3.1 < d.size := by omega
   have n3 : r3.2 ≤ 9 := by omega
   clear m3 p3
   exact piv0 d _ _ _ _ l1 l2 l3 hs (by omega)
  ·rw [if_neg (by omega)]
   simp only [if_neg h50]
   have := piv0 d 0 (a + q * 1) (a + q * 2) (a + q * 3) (by omega) (by omega) (by omega) hs (by omega)
   rw [show ((0 : Nat) : Int) = 0 from rfl] at this
   exact this
 ·rw [if_neg (by omega)]
  simp only [if_neg h8]
  have := piv1 d.toList 0 (a + q * 2)
  rw [show ((0 : Nat) : Int) = 0 from rfl] at this
  exact this
/-! ### the turn about -/
theorem revL : ∀ (n i j : Nat) (d : Array Int), j - i ≤ n → (i < j → j < d.size) → d.size ≤ 1073741824 → i ≤ 1073741824 → j ≤ 1073741824 → M.a19 ((i : Int), (j : Int), d.toList) = some (Go.Sort.reverseLoop i j d).toList
 | n, i, j, d, hn, hj, hs, hi, hj2 => by
  rw [M.a19, Go.Sort.reverseLoop]
  by_cases h : i < j
  ·have := hj h
   rw [if_pos (by omega), if_pos h]
   refine (g4 (by omega) (by rw [leA]; omega) (by omega) (by rw [leA]; omega)).trans ?_
   rw [swA, wi (by omega) (by omega), wi (by omega) (by omega), su, show (j : Int) - 1 = ((j - 1 : Nat) : Int) by omega]
   match n, hn with
   | 0, hn => omega
   | n + 1, hn => exact revL n (i + 1) (j - 1) _ (by omega) (by rw [sz]; omega) (by rw [sz]; exact hs) (by omega) (by omega)
  ·rw [if_neg (by omega), if_neg h]
theorem revS (d : Array Int) (a b : Nat) (h : 1 ≤ b) (hb : b ≤ d.size) (ha : a ≤ b) (hs : d.size ≤ 1073741824) : M.a2j d.toList (a : Int) (b : Int) = some (Go.Sort.reverseRange d a b).toList := by
 rw [M.a2j, wi (by omega) (by omega), show (b : Int) - 1 = ((b - 1 : Nat) : Int) by omega]
 exact revL _ a (b - 1) d (Nat.le_refl _) (by omega) hs (by omega) (by omega)
/-! ### a few steps of insertion -/
theorem scanS (a b s : Nat) : ∀ (n i : Nat) (d : Array Int), b - i ≤ n → 1 ≤ i → i ≤ b → b ≤ d.size → d.size ≤ 1073741824 →
  M.a1a ((a : Int), (b : Int), (i : Int), (s : Int), d.toList) = M.au ((a : Int), (b : Int), ((Go.Sort.scanSorted ltInt d b i : Nat) : Int), (s : Int), false, d.toList)
 | n, i, d, hn, h1, hi, hb, hs => by
  have e1 : wr .i64 ((i : Int) - 1) = ((i - 1 : Nat) : Int) := by rw [wi (by omega) (by omega)]; omega
  rw [M.a1a, Go.Sort.scanSorted]
  by_cases h : i < b
  ·rw [if_pos (by omega)]
   simp only [e1]
   refine (g4 (by omega) (by rw [leA]; omega) (by omega) (by rw [leA]; omega)).trans ?_
   rw [less, bnd, giA, giA]
   have hd : decide (i < b) = true := by simpa using h
   rw [hd, Bool.true_and]
   cases ltInt d[i]! d[i - 1]!
   ·rw [if_pos (by simp), M.au, if_pos (by simp), wi (by omega) (by omega), su]
    match n, hn with
    | 0, hn => omega
    | n + 1, hn => exact scanS a b s n (i + 1) d (by omega) (by omega) (by omega) hb hs
   ·rw [if_neg (by simp)]; rfl
  ·have hd : decide (i < b) = false := by simpa using h
   rw [if_neg (by omega), hd, Bool.false_and, if_neg (by simp)]
theorem down_size : ∀ (j : Nat) (d : Array Int), (Go.Sort.shiftDown ltInt j d).size = d.size
 | 0, d => rfl
 | j + 1, d => by
  rw [Go.Sort.shiftDown]
  split
  ·rfl
  ·rw [down_size j, sz]
theorem up_size (b : Nat) : ∀ (n j : Nat) (d : Array Int), b - j ≤ n → (Go.Sort.shiftUp ltInt b j d).size = d.size
 | n, j, d, hn => by
  rw [Go.Sort.shiftUp]
  split
  ·split
   ·rfl
   ·match n, hn with
    | 0, hn => omega
    | n + 1, hn => rw [up_size b n (j + 1) _ (by omega), sz]
  ·rfl
theorem downL (a b i s : Nat) : ∀ (j : Nat) (d : Array Int), j < d.size → d.size ≤ 1073741824 →
  M.av ((a : Int), (b : Int), (i : Int), (s : Int), (j : Int), d.toList) = M.ai ((a : Int), (b : Int), (i : Int), (s : Int), (Go.Sort.shiftDown ltInt j d).toList)
 | 0, d, hj, hs => by rw [M.av, if_neg (by omega)]; rfl
 | j + 1, d, hj, hs => by
  have e1 : wr .i64 (((j + 1 : Nat) : Int) - 1) = (j : Int) := by rw [wi (by omega) (by omega)]; omega
  rw [M.av, if_pos (by omega), Go.Sort.shiftDown]
  simp only [e1, bnd, swA]
  refine (g4 (by omega) (by rw [leA]; omega) (by omega) (by rw [leA]; omega)).trans ?_
  rw [less, bnd, giA, giA]
  cases ltInt d[j + 1]! d[j]!
  ·rfl
  ·exact downL a b i s j _ (by rw [sz]; omega) (by rw [sz]; exact hs)
theorem upL (a b i s : Nat) : ∀ (n j : Nat) (d : Array Int), b - j ≤ n → 1 ≤ j → b ≤ d.size → j ≤ b → d.size ≤ 1073741824 →
  M.a1b ((a : Int), (b : Int), (i : Int), (s : Int), (j : Int), d.toList) = M.aj ((a : Int), (b : Int), (i : Int), (s : Int), (Go.Sort.shiftUp ltInt b j d).toList)
 | n, j, d, hn, h1, hb, hjb, hs => by
  have e1 : wr .i64 ((j : Int) - 1) = ((j - 1 : Nat) : Int) := by rw [wi (by omega) (by omega)]; omega
  rw [M.a1b, Go.Sort.shiftUp]
  by_cases h : j < b
  ·rw [if_pos (by omega), if_pos h]
   simp only [e1, bnd, swA]
   refine (g4 (by omega) (by rw [leA]; omega) (by omega) (by rw [leA]; omega)).trans ?_
   rw [less, bnd, giA, giA]
   cases ltInt d[j]! d[j - 1]!
   ·rfl
   ·rw [if_pos rfl, if_neg (by simp), wi (by omega) (by omega), su]
    match n, hn with
    | 0, hn => omega
    | n + 1, hn => exact upL a b i s n (j + 1) _ (by omega) (by omega) (by rw [sz]; exact hb) (by omega) (by rw [sz]; exact hs)
  ·rw [if_neg (by omega), if_neg h]
theorem scan_ge (b : Nat) : ∀ (n i : Nat) (d : Array Int), b - i ≤ n → i ≤ b → i ≤ Go.Sort.scanSorted ltInt d b i ∧ Go.Sort.scanSorted ltInt d b i ≤ b
 | n, i, d, hn, hi => by
  rw [Go.Sort.scanSorted]
  split
  ·rename_i h
   simp only [Bool.and_eq_true, decide_eq_true_eq] at h
   match n, hn with
   | 0, hn => omega
   | n + 1, hn => have := scan_ge b n (i + 1) d (by omega) (by omega); omega
  ·omega
theorem part5 (a b : Nat) (ha : a < b) : ∀ (s i : Nat) (d : Array Int), s ≤ 5 → a + 1 ≤ i → i ≤ b → b ≤ d.size → d.size ≤ 1073741824 →
  M.ah ((a : Int), (b : Int), (i : Int), ((5 - s : Nat) : Int), d.toList) = some ((Go.Sort.partialIns ltInt a b s i d).2, (Go.Sort.partialIns ltInt a b s i d).1.toList)
 | 0, i, d, h5, hi, hib, hb, hs => by rw [M.ah, if_neg (by omega)]; rfl
 | s + 1, i, d, h5, hi, hib, hb, hs => by
  have hsc := scan_ge b _ i d (Nat.le_refl _) hib
  rw [M.ah, if_pos (by omega), scanS a b _ _ i d (Nat.le_refl _) (by omega) hib hb hs, Go.Sort.partialIns_succ]
  generalize Go.Sort.scanSorted ltInt d b i = j at *
  have e1 : wr .i64 ((j : Int) - 1) = ((j - 1 : Nat) : Int) := by rw [wi (by omega) (by omega)]; omega
  have e2 : wr .i64 ((b : Int) - (a : Int)) = ((b - a : Nat) : Int) := by rw [wi (by omega) (by omega)]; omega
  have e3 : wr .i64 ((j : Int) - (a : Int)) = ((j - a : Nat) : Int) := by rw [wi (by omega) (by omega)]; omega
  have e4 : wr .i64 ((b : Int) - (j : Int)) = ((b - j : Nat) : Int) := by rw [wi (by omega) (by omega)]; omega
  have e5 : wr .i64 ((j : Int) + 1) = ((j + 1 : Nat) : Int) := by rw [wi (by omega) (by omega)]; omega
  have e6 : wr .i64 (((5 - (s + 1) : Nat) : Int) + 1) = ((5 - s : Nat) : Int) := by rw [wi (by omega) (by omega)]; omega
  rw [M.au, if_neg (by simp)]
  by_cases h : j = b
  ·rw [if_pos (by omega), if_pos h]
  ·rw [if_neg (by omega), if_neg h, e2]
   by_cases h50 : b - a < 50
   ·rw [if_pos (by omega), if_pos h50]
   ·rw [if_neg (by omega), if_neg h50]
    simp only [e1, e3, bnd, swA]
    refine (g4 (by omega) (by rw [leA]; omega) (by omega) (by rw [leA]; omega)).trans ?_
    have l4 : ∀ d : Array Int, b ≤ d.size → d.size ≤ 1073741824 → M.ai ((a : Int), (b : Int), (j : Int), ((5 - (s + 1) : Nat) : Int), d.toList) = some ((Go.Sort.partialIns ltInt a b s j (if b - j ≥ 2 then Go.Sort.shiftUp ltInt b (j + 1) d else d)).2, (Go.Sort.partialIns ltInt a b s j (if b - j ≥ 2 then Go.Sort.shiftUp ltInt b (j + 1) d else d)).1.toList) := fun d hb hs => by
     rw [M.ai, e4]
     by_cases h2 : b - j ≥ 2
     ·rw [if_pos (by omega), e5, upL a b j _ _ (j + 1) d (Nat.le_refl _) (by omega) hb (by omega) hs, M.aj, e6]
      simp only [if_pos h2]
      exact part5 a b ha s j _ (by omega) (by omega) (by omega) (by rw [up_size b _ _ _ (Nat.le_refl _)]; exact hb) (by rw [up_size b _ _ _ (Nat.le_refl _)]; exact hs)
     ·rw [if_neg (by omega), M.aj, e6]
      simp only [if_neg h2]
      exact part5 a b ha s j _ (by omega) (by omega) (by omega) hb hs
    by_cases h3 : j - a ≥ 2
    ·rw [if_pos (by omega), downL a b j _ (j - 1) _ (by rw [sz]; omega) (by rw [sz]; exact hs), l4 _ (by rw [down_size, sz]; exact hb) (by rw [down_size, sz]; exact hs)]
     simp only [Go.Sort.fixUp, Go.Sort.fixDown, if_pos h3]
    ·rw [if_neg (by omega), l4 _ (by rw [sz]; exact hb) (by rw [sz]; exact hs)]
     simp only [Go.Sort.fixUp, Go.Sort.fixDown, if_neg h3]
theorem partialS (a b : Nat) (d : Array Int) (ha : a < b) (hb : b ≤ d.size) (hs : d.size ≤ 1073741824) :
  M.a2k d.toList (a : Int) (b : Int) = some ((Go.Sort.partialInsertionSort ltInt d a b).2, (Go.Sort.partialInsertionSort ltInt d a b).1.toList) := by
 rw [M.a2k, wi (by omega) (by omega), su]
 exact part5 a b ha 5 (a + 1) d (by omega) (by omega) (by omega) hb hs
end Go.Proofs.YtbclkjbkebebeaaGreat
