import Derived.Test.YtdccklkdakfnaaaGreatMGs
import Derived.Test.YtdccklkdakfnaaaGreatGS
import Derived.Sort.Walk0
import Derived.Lib.Builder
/-
 Patterns, their programs and queries: what a text that a pattern means has.
-/
set_option linter.unusedVariables false
set_option linter.unusedSimpArgs false
set_option linter.unusedSectionVars false
namespace Go.Proofs.YtdccklkdakfnaaaGreat
open Go.Gx
open Classical
def Z4 : List Int := [0, 0, 0, 0]
theorem bnd {α β : Type} (a : α) (f : α → Option β) : (some a >>= f) = f a := rfl
theorem wr_i64 {x : Int} (h0 : -9223372036854775808 ≤ x) (h1 : x ≤ 9223372036854775807) : wr .i64 x = x := by
 simp only [wr, IntKind.wrap, IntKind.signed, IntKind.bits]
 simp
 split <;> omega
theorem eta27 (r : T26) : (⟨r.Kind, r.Set, r.L, r.Min, r.Max⟩ : T26) = r := by cases r; rfl
theorem gi_mid {α : Type} [Inhabited α] (pre : List α) (r : α) (t : List α) : gi (pre ++ r :: t) (pre.length : Int) = r := by
 simp [gi]
mutual
def nd : T26 → Nat
 | ⟨_, _, L, _, _⟩ => 1 + nds L
def nds : List T26 → Nat
 | [] => 0
 | x :: xs => nd x + nds xs
end
theorem nd_eq (r : T26) : nd r = 1 + nds r.L := by cases r; rw [nd]
theorem nd_pos (r : T26) : 1 ≤ nd r := by rw [nd_eq]; omega
theorem nds_len : ∀ L : List T26, L.length ≤ nds L
 | [] => by simp
 | x :: xs => by have := nds_len xs; have := nd_pos x; rw [nds]; simp; omega
def Dp : Nat → T26 → Prop
 | 0, _ => False
 | d + 1, r => ∀ x ∈ r.L, Dp d x
theorem Dp.mono : ∀ {d e : Nat} {r : T26}, Dp d r → d ≤ e → Dp e r
 | 0, _, _, h, _ => absurd h id
 | d + 1, 0, _, _, he => by omega
 | d + 1, e + 1, r, h, he => fun x hx => (h x hx).mono (by omega)
def SetOk (l : List Int) : Prop := l.length = 4 ∧ ∀ x ∈ l, 0 ≤ x ∧ x < 18446744073709551616
theorem SetOk.Z4 : SetOk Z4 := ⟨rfl, fun x hx => by simp [Go.Proofs.YtdccklkdakfnaaaGreat.Z4] at hx; omega⟩
def Fit : Nat → T26 → Prop
 | 0, _ => True
 | d + 1, r => SetOk r.Set ∧ r.L.length ≤ 9223372036854775807 ∧ ∀ x ∈ r.L, Fit d x
theorem Fit.mono : ∀ {d e : Nat} {r : T26}, Fit d r → e ≤ d → Fit e r
 | _, 0, _, _, _ => trivial
 | 0, e + 1, _, _, he => by omega
 | d + 1, e + 1, r, h, he => ⟨h.1, h.2.1, fun x hx => (h.2.2 x hx).mono (by omega)⟩
def Shp (r : T26) : Prop :=
 (r.Kind = 1 ∧ r.L = [] ∧ r.Min = 0 ∧ r.Max = 0) ∨ ((r.Kind = 2 ∨ r.Kind = 3) ∧ r.Set = Z4 ∧ r.Min = 0 ∧ r.Max = 0) ∨
  (r.Kind = 4 ∧ (∃ x, r.L = [x]) ∧ r.Set = Z4 ∧ 0 ≤ r.Min ∧ r.Min ≤ 64 ∧ (r.Max = -1 ∨ (r.Min ≤ r.Max ∧ r.Max ≤ 64)))
def Rt : Nat → T26 → Prop
 | 0, _ => False
 | d + 1, r => Shp r ∧ SetOk r.Set ∧ ∀ x ∈ r.L, Rt d x
theorem Rt.mono : ∀ {d e : Nat} {r : T26}, Rt d r → d ≤ e → Rt e r
 | 0, _, _, h, _ => absurd h id
 | d + 1, 0, _, _, he => by omega
 | d + 1, e + 1, r, h, he => ⟨h.1, h.2.1, fun x hx => (h.2.2 x hx).mono (by omega)⟩
theorem Rt.dp : ∀ {d : Nat} {r : T26}, Rt d r → Dp d r
 | 0, _, h => h
 | d + 1, r, h => fun x hx => (h.2.2 x hx).dp
theorem count_tot (left : Nat) : left ≤ 128 → ∀ (r : T26) (n : Nat), Fit left r → n ≤ 4096 → ∃ (b : Bool) (n' : Nat), M.a7 (r, (left : Int), (n : Int)) = some (b, (n' : Int)) ∧ (b = true → n' = n + nd r ∧ n' ≤ 4096 ∧ Dp left r) ∧ (n + nd r ≤ 4096 → Dp left r → b = true) := by
 induction left with
 | zero =>
  intro hl r n hf hn
  refine ⟨false, n + 1, ?_, by simp, fun _ h => absurd h id⟩
  rw [M.a7]; try dsimp only
  rw [if_pos (by omega), wr_i64 (by omega) (by omega), M.a1k]; try dsimp only
  rw [if_pos rfl]
  try rfl
 | succ left ih =>
  intro hl r n hf hn
  rw [M.a7]; try dsimp only
  rw [if_neg (by omega), wr_i64 (by omega) (by omega), M.a1k]; try dsimp only
  by_cases hm : n + 1 > 4096
  ·refine ⟨false, n + 1, ?_, by simp, fun h _ => by have := nd_pos r; omega⟩
   rw [decide_eq_true (by omega), if_pos rfl]
   try rfl
  rw [decide_eq_false (by omega), if_neg (by decide)]
  have loop : ∀ (L pre : List T26) (m : Nat), r.L = pre ++ L → m ≤ 4096 → ∃ (b : Bool) (n' : Nat), M.as (((left + 1 : Nat) : Int), r.L, (r.L.length : Int), (pre.length : Int), (m : Int)) = some (b, (n' : Int)) ∧
    (b = true → n' = m + nds L ∧ n' ≤ 4096 ∧ ∀ x ∈ L, Dp left x) ∧ (m + nds L ≤ 4096 → (∀ x ∈ L, Dp left x) → b = true) := by
   intro L
   induction L with
   | nil =>
    intro pre m e hm
    refine ⟨true, m, ?_, fun _ => ⟨by simp [nds], hm, by simp⟩, fun _ _ => rfl⟩
    rw [M.as]; try dsimp only
    rw [if_neg (by rw [e]; simp)]
   | cons x L ihL =>
    intro pre m e hm
    have hlen : r.L.length = pre.length + (L.length + 1) := by rw [e]; simp
    have hx : x ∈ r.L := by rw [e]; simp
    have hbig := hf.2.1
    obtain ⟨b, n', h1, h2, h3⟩ := ih (by omega) x m (hf.2.2 x hx) hm
    rw [M.as]; try dsimp only
    rw [if_pos (by omega), if_pos (by omega), if_pos (by omega), show gi r.L (pre.length : Int) = x by rw [e]; exact gi_mid pre x L, eta27, wr_i64 (x := ((left + 1 : Nat) : Int) - 1) (by omega) (by omega),
     show ((left + 1 : Nat) : Int) - 1 = (left : Int) by omega, h1, bnd]
    dsimp only
    cases b with
    | false =>
     refine ⟨false, n', by rw [if_neg (by decide)], by simp, fun h4 h5 => ?_⟩
     have := h3 (by rw [nds] at h4; omega) (h5 x (by simp))
     cases this
    | true =>
     obtain ⟨k1, k2, k3⟩ := h2 rfl
     rw [if_pos rfl, wr_i64 (by omega) (by omega)]
     obtain ⟨b', n'', g1, g2, g3⟩ := ihL (pre ++ [x]) n' (by rw [e]; simp) k2
     rw [show (((pre ++ [x]).length : Nat) : Int) = (pre.length : Int) + 1 by simp] at g1
     refine ⟨b', n'', g1, fun hb => ?_, fun h4 h5 => g3 (by rw [nds] at h4; omega) fun y hy => h5 y (by simp [hy])⟩
     obtain ⟨j1, j2, j3⟩ := g2 hb
     refine ⟨by rw [nds]; omega, j2, fun y hy => ?_⟩
     rcases List.mem_cons.1 hy with rfl | hy
     ·exact k3
     ·exact j3 y hy
  obtain ⟨b, n', h1, h2, h3⟩ := loop r.L [] (n + 1) rfl (by omega)
  refine ⟨b, n', h1, fun hb => ?_, fun h4 h5 => h3 (by rw [nd_eq] at h4; omega) h5⟩
  obtain ⟨k1, k2, k3⟩ := h2 hb
  exact ⟨by rw [nd_eq]; omega, k2, k3⟩
theorem shaped_iff (r : T26) : ∃ b, M.a3w r = some b ∧ (b = true ↔ Shp r) := by
 have l3 : ∀ c d : Bool, M.a3i (r, [0, 0, 0, 0], c, d) = some (decide (r.L.length = 1) && decide (r.Set = Z4) && c && d) := by
  intro c d
  rw [M.a3i]; try dsimp only
  by_cases h1 : r.L.length = 1
  ·rw [if_pos (by omega)]
   by_cases h2 : r.Set = [0, 0, 0, 0]
   ·rw [if_pos h2]
    cases c
    ·rw [if_neg (by decide)]; simp [h1]
    ·rw [if_pos rfl]; simp [h1, Z4, h2]
   ·rw [if_neg h2]; simp [Z4, h2]
  ·rw [if_neg (by omega)]; simp [h1]
 have l2 : ∀ c : Bool, M.a47 (r, [0, 0, 0, 0], c) = some (decide (r.L.length = 1) && decide (r.Set = Z4) && c && decide (r.Max = -1 ∨ (r.Min ≤ r.Max ∧ r.Max ≤ 64))) := by
  intro c
  rw [M.a47]; try dsimp only
  by_cases h1 : r.Max = -1
  ·rw [if_pos h1, l3]; simp [h1]
  ·rw [if_neg h1]
   by_cases h2 : r.Min ≤ r.Max
   ·rw [if_pos (by omega), l3]; simp [h1, h2]
   ·rw [if_neg (by omega), l3]; simp [h1, h2]
 have l1 : ∀ (c : Bool) (k : Int) (d : Bool), M.a48 (r, [0, 0, 0, 0], c, k, d) = some (if d = true then decide (r.Set = Z4) && c else decide (k = 4) && (decide (r.L.length = 1) && decide (r.Set = Z4) && decide (0 ≤ r.Min ∧ r.Min ≤ 64) && decide (r.Max = -1 ∨ (r.Min ≤ r.Max ∧ r.Max ≤ 64)))) := by
  intro c k d
  rw [M.a48]; try dsimp only
  cases d
  ·simp only [Bool.false_eq_true, if_false]
   by_cases h1 : k = 4
   ·rw [if_pos h1]
    by_cases h2 : 0 ≤ r.Min
    ·rw [if_pos (by omega), l2]; simp [h1, h2]
    ·rw [if_neg (by omega), l2]; simp [h2]
   ·rw [if_neg h1]; simp [h1]
  ·rw [if_pos rfl, if_pos rfl]
   by_cases h2 : r.Set = [0, 0, 0, 0]
   ·rw [if_pos h2]; simp [Z4, h2]
   ·rw [if_neg h2]; simp [Z4, h2]
 have l0 : ∀ c : Bool, M.a49 (r, [0, 0, 0, 0], c) = some (if r.Kind = 1 then decide (r.L.length = 0) && c else if r.Kind = 2 ∨ r.Kind = 3 then decide (r.Set = Z4) && c else
   decide (r.Kind = 4) && (decide (r.L.length = 1) && decide (r.Set = Z4) && decide (0 ≤ r.Min ∧ r.Min ≤ 64) && decide (r.Max = -1 ∨ (r.Min ≤ r.Max ∧ r.Max ≤ 64)))) := by
  intro c
  rw [M.a49]; try dsimp only
  by_cases h1 : r.Kind = 1
  ·rw [if_pos h1, if_pos h1]
   by_cases h2 : r.L.length = 0
   ·rw [if_pos (by omega)]; simp [h2]
   ·rw [if_neg (by omega)]; simp [h2]
  rw [if_neg h1, if_neg h1]
  by_cases h2 : r.Kind = 2
  ·rw [if_pos h2, l1, if_pos rfl, if_pos (.inl h2)]
  rw [if_neg h2, l1]
  by_cases h3 : r.Kind = 3
  ·rw [if_pos (by simpa using h3), if_pos (.inr h3)]
  ·rw [if_neg (by simpa using h3), if_neg (by omega)]
 have one : (∃ x, r.L = [x]) ↔ r.L.length = 1 := by
  constructor
  ·rintro ⟨x, h⟩; rw [h]; rfl
  ·intro h
   match hL : r.L, h with
   | [x], _ => exact ⟨x, rfl⟩
 have zero : r.L = [] ↔ r.L.length = 0 := by
  constructor
  ·intro h; rw [h]; rfl
  ·exact List.length_eq_zero_iff.1
 rw [M.a3w]; try dsimp only
 unfold Shp
 rw [one, zero]
 by_cases hm : r.Min = 0
 ·rw [if_pos hm, l0]
  refine ⟨_, rfl, ?_⟩
  split
  ·rename_i h1; simp [h1, hm]
  ·split
   ·rename_i h1 h2; rcases h2 with h2 | h2 <;> simp [h2, hm]
   ·rename_i h1 h2; simp only [not_or] at h2; simp [h1, h2.1, h2.2, hm, and_assoc]
 ·rw [if_neg hm, l0]
  refine ⟨_, rfl, ?_⟩
  split
  ·rename_i h1; simp [h1, hm]
  ·split
   ·rename_i h1 h2; rcases h2 with h2 | h2 <;> simp [h2, hm]
   ·rename_i h1 h2; simp only [not_or] at h2; simp [h1, h2.1, h2.2, hm, and_assoc]
theorem right_tot (d : Nat) : ∀ r : T26, Dp d r → Fit d r → nds r.L ≤ 4096 → ∃ b, M.ak r = some b ∧ (b = true ↔ Rt d r) := by
 induction d with
 | zero => intro r h; exact absurd h id
 | succ d ih =>
  intro r hd hf hn
  obtain ⟨bs, s1, s2⟩ := shaped_iff r
  have loop : ∀ (L pre : List T26), r.L = pre ++ L → ∃ b, M.at (r, r.L, (r.L.length : Int), (pre.length : Int)) = some b ∧ (b = true ↔ (Shp r ∧ ∀ x ∈ L, Rt d x)) := by
   intro L
   induction L with
   | nil =>
    intro pre e
    refine ⟨bs, ?_, by simpa using s2⟩
    rw [M.at]; try dsimp only
    rw [if_neg (by rw [e]; simp), s1, bnd]
   | cons x L ihL =>
    intro pre e
    have hlen : r.L.length = pre.length + (L.length + 1) := by rw [e]; simp
    have hx : x ∈ r.L := by rw [e]; simp
    have hl := nds_len r.L
    have hnx : nds x.L ≤ 4096 := by
     have : ∀ (l : List T26), x ∈ l → nd x ≤ nds l := by
      intro l
      induction l with
      | nil => simp
      | cons y l ih =>
       intro h
       rw [nds]
       rcases List.mem_cons.1 h with rfl | h
       ·omega
       ·have := ih h; omega
     have := this _ hx
     rw [nd_eq] at this
     omega
    obtain ⟨b, h1, h2⟩ := ih x (hd x hx) (hf.2.2 x hx) hnx
    rw [M.at]; try dsimp only
    rw [if_pos (by omega), if_pos (by omega), if_pos (by omega), show gi r.L (pre.length : Int) = x by rw [e]; exact gi_mid pre x L, eta27, h1, bnd]
    cases b with
    | false =>
     refine ⟨false, by rw [if_neg (by decide)], ?_⟩
     simp only [Bool.false_eq_true, false_iff] at h2 ⊢
     rintro ⟨_, h⟩
     exact h2 (h x (by simp))
    | true =>
     rw [if_pos rfl, wr_i64 (by omega) (by omega)]
     obtain ⟨b', g1, g2⟩ := ihL (pre ++ [x]) (by rw [e]; simp)
     rw [show (((pre ++ [x]).length : Nat) : Int) = (pre.length : Int) + 1 by simp] at g1
     refine ⟨b', g1, g2.trans ?_⟩
     have := h2.1 rfl
     simp [this]
  obtain ⟨b, h1, h2⟩ := loop r.L [] rfl
  refine ⟨b, ?_, h2.trans ⟨fun h => ⟨h.1, hf.1, h.2⟩, fun h => ⟨h.1, h.2.2⟩⟩⟩
  rw [M.ak]; try dsimp only
  exact h1
theorem check_tot (r : T26) (hf : Fit 128 r) : ∃ b, M.a27 r = some b ∧ (b = true ↔ (Rt 128 r ∧ nd r ≤ 4096)) := by
 obtain ⟨b, n, h1, h2, h3⟩ := count_tot 128 (Nat.le_refl _) r 0 hf (by omega)
 have hs : M.a31 r = if b = true then M.ak r >>= fun y8 => if y8 = true then some (n : Int) else some 0 else some 0 := by
  rw [M.a31]
  have h1' : M.a7 (r, 128, 0) = some (b, (n : Int)) := h1
  rw [h1', bnd]
 rw [M.a27, hs]
 cases b with
 | false =>
  rw [if_neg (by decide), bnd]
  refine ⟨_, rfl, ?_⟩
  simp only [gt_iff_lt, Int.lt_irrefl, decide_false, Bool.false_eq_true, false_iff]
  rintro ⟨k1, k2⟩
  have := h3 (by omega) k1.dp
  cases this
 | true =>
  obtain ⟨k1, k2, k3⟩ := h2 rfl
  obtain ⟨c, g1, g2⟩ := right_tot 128 r k3 hf (by rw [nd_eq] at k1; omega)
  rw [if_pos rfl, g1, bnd]
  cases c with
  | false =>
   rw [if_neg (by decide), bnd]
   refine ⟨_, rfl, ?_⟩
   simp only [gt_iff_lt, Int.lt_irrefl, decide_false, Bool.false_eq_true, false_iff] at g2 ⊢
   rintro ⟨k, _⟩
   exact g2 k
  | true =>
   have := nd_pos r
   rw [if_pos rfl, bnd]
   refine ⟨_, rfl, ?_⟩
   simp only [true_iff] at g2
   simp only [gt_iff_lt, decide_eq_true_eq]
   exact ⟨fun _ => ⟨g2, by omega⟩, fun _ => by omega⟩
theorem nd_mem {x : T26} : ∀ {l : List T26}, x ∈ l → nd x ≤ nds l
 | [], h => by simp at h
 | y :: l, h => by
  rw [nds]
  rcases List.mem_cons.1 h with rfl | h
  ·omega
  ·have := nd_mem h; omega
theorem gi_nat {α : Type} [Inhabited α] (l : List α) (i : Nat) (h : i < l.length) : gi l (i : Int) = l[i] := by
 simp [gi, h]
theorem gi_mem {α : Type} [Inhabited α] (l : List α) (x : Int) (h0 : 0 ≤ x) (h1 : x < l.length) : gi l x ∈ l := by
 have : x.toNat < l.length := by omega
 simp only [gi, List.getD_eq_getElem?_getD, List.getElem?_eq_getElem this, Option.getD_some]
 exact List.getElem_mem _
theorem iquo64 {b : Int} (h0 : 0 ≤ b) (h1 : b ≤ 255) : iquo .u8 b 64 = b / 64 := by
 simp only [iquo]
 rw [Int.tdiv_eq_ediv_of_nonneg h0]
 simp only [IntKind.wrap, IntKind.signed, IntKind.bits]
 simp
 omega
theorem irem64 {b : Int} (h0 : 0 ≤ b) : irem .u8 b 64 = b % 64 := by
 simp only [irem]
 rw [Int.tmod_eq_emod_of_nonneg h0]
theorem has_tot (z : List Int) {b : Int} (h0 : 0 ≤ b) (h1 : b ≤ 255) : ∃ v, M.a8 z b = some v := by
 rw [M.a8, iquo64 h0 h1, irem64 h0, if_pos (by omega), if_pos (by omega), if_pos (by omega)]
 exact ⟨_, rfl⟩
section
variable (s : ByteArray) (hs : s.size ≤ 100)
include hs
end
abbrev Tl (x : ByteArray) : List UInt8 := x.data.toList
theorem Tl_inj {x y : ByteArray} (h : Tl x = Tl y) : x = y := by
 cases x; cases y
 simpa using Array.toList_inj.1 h
abbrev RzS (l : List ByteArray) : Prop := l.Pairwise fun x y => Tl x < Tl y
def nrm (l : List ByteArray) : List ByteArray := cmpL (srtS l)
theorem srtS_perm' (l : List ByteArray) : (srtS l).Perm l := by
 have h := (List.mergeSort_perm (l.map (·.data.toList)) (fun x y => decide (x ≤ y))).map fun l : List UInt8 => (⟨l.toArray⟩ : ByteArray)
 rw [List.map_map] at h
 have e : ((fun l : List UInt8 => (⟨l.toArray⟩ : ByteArray)) ∘ fun x : ByteArray => x.data.toList) = id := by funext x; rfl
 rw [e, List.map_id] at h
 exact h
theorem srtS_rises (l : List ByteArray) : (srtS l).Pairwise fun x y => Tl x ≤ Tl y := by
 have h := List.pairwise_mergeSort (le := fun x y : List UInt8 => decide (x ≤ y)) (fun a b c h1 h2 => by simp only [decide_eq_true_eq] at *; exact List.le_trans h1 h2) (fun a b => by simp only [Bool.or_eq_true, decide_eq_true_eq]; exact List.le_total a b) (l.map (·.data.toList))
 unfold srtS
 rw [List.pairwise_map]
 exact h.imp fun h => by simpa using h
theorem cmpR_sub {α : Type} [DecidableEq α] : ∀ (p : α) (l : List α), (cmpR p l).Sublist l
 | p, [] => by simp [cmpR]
 | p, y :: ys => by
  simp only [cmpR]
  split
  ·exact (cmpR_sub p ys).cons _
  ·exact (cmpR_sub y ys).cons_cons _
theorem cmpR_rises : ∀ (p : ByteArray) (l : List ByteArray), (p :: l).Pairwise (fun x y => Tl x ≤ Tl y) → (p :: cmpR p l).Pairwise fun x y => Tl x < Tl y
 | p, [], _ => by simp [cmpR]
 | p, y :: ys, h => by
  rw [List.pairwise_cons] at h
  have h2 := List.pairwise_cons.1 h.2
  simp only [cmpR]
  split
  ·rename_i e
   subst e
   exact cmpR_rises y ys h.2
  ·rename_i e
   have ih := cmpR_rises y ys h.2
   refine List.pairwise_cons.2 ⟨fun z hz => ?_, ih⟩
   have hpy : Tl p < Tl y := by
    have := h.1 y (by simp)
    rcases List.le_iff_lt_or_eq.1 this with h | h
    ·exact h
    ·exact absurd (Tl_inj h).symm e
   rcases List.mem_cons.1 hz with rfl | hz
   ·exact hpy
   ·exact List.lt_trans hpy ((List.pairwise_cons.1 ih).1 z hz)
theorem mem_cmpR {α : Type} [DecidableEq α] (v : α) : ∀ (p : α) (l : List α), (v = p ∨ v ∈ cmpR p l) ↔ (v = p ∨ v ∈ l)
 | p, [] => by simp [cmpR]
 | p, y :: ys => by
  simp only [cmpR]
  split
  ·rename_i e
   subst e
   rw [mem_cmpR v y ys, List.mem_cons]
   simp
  ·rw [List.mem_cons, mem_cmpR v y ys, List.mem_cons]
theorem nrm_rises (l : List ByteArray) : RzS (nrm l) := by
 unfold nrm
 have h := srtS_rises l
 cases hs : srtS l with
 | nil => exact List.Pairwise.nil
 | cons x xs => rw [hs] at h; exact cmpR_rises x xs h
theorem mem_nrm {l : List ByteArray} {v : ByteArray} : v ∈ nrm l ↔ v ∈ l := by
 rw [← (srtS_perm' l).mem_iff]
 unfold nrm
 cases hs : srtS l with
 | nil => simp [cmpL]
 | cons x xs => rw [cmpL, List.mem_cons, mem_cmpR, List.mem_cons]
theorem rzS_ext : ∀ {a b : List ByteArray}, RzS a → RzS b → (∀ v, v ∈ a ↔ v ∈ b) → a = b
 | [], [], _, _, _ => rfl
 | [], y :: ys, _, _, h => absurd ((h y).2 (by simp)) (by simp)
 | x :: xs, [], _, _, h => absurd ((h x).1 (by simp)) (by simp)
 | x :: xs, y :: ys, ha, hb, h => by
  have ha' := List.pairwise_cons.1 ha
  have hb' := List.pairwise_cons.1 hb
  have hxy : x = y := by
   rcases List.mem_cons.1 ((h x).1 (by simp)) with e | e
   ·exact e
   ·rcases List.mem_cons.1 ((h y).2 (by simp)) with e' | e'
    ·exact e'.symm
    ·exact absurd (List.lt_trans (ha'.1 y e') (hb'.1 x e)) (List.lt_irrefl _)
  subst hxy
  congr 1
  refine rzS_ext ha'.2 hb'.2 fun v => ⟨fun hv => ?_, fun hv => ?_⟩
  ·rcases List.mem_cons.1 ((h v).1 (by simp [hv])) with rfl | e
   ·exact absurd (ha'.1 v hv) (List.lt_irrefl _)
   ·exact e
  ·rcases List.mem_cons.1 ((h v).2 (by simp [hv])) with rfl | e
   ·exact absurd (hb'.1 v hv) (List.lt_irrefl _)
   ·exact e
theorem nrm_eq {l m : List ByteArray} (hm : RzS m) (h : ∀ v, v ∈ m ↔ v ∈ l) : nrm l = m := rzS_ext (nrm_rises l) hm fun v => by rw [mem_nrm, h]
theorem nrm_len (l : List ByteArray) : (nrm l).length ≤ l.length := by
 have h1 := (srtS_perm' l).length_eq
 unfold nrm
 have : (cmpL (srtS l)).length ≤ (srtS l).length := by
  cases hs : srtS l with
  | nil => exact Nat.le_refl _
  | cons x xs => rw [cmpL, List.length_cons, List.length_cons]; have := (cmpR_sub x xs).length_le; omega
 omega
def wins (s : ByteArray) : List ByteArray := (List.range (s.size - 2)).map fun i : Nat => ss s (i : Int) ((i : Int) + 3)
theorem windows_ok (s : ByteArray) (hs : s.size ≤ 1000000) : M.a35 [] s = some (wins s) := by
 have e0 : wr .i64 (wr .i64 ((s.size : Int) - 3) + 1) = (s.size : Int) - 2 := by
  rw [wr_i64 (x := (s.size : Int) - 3) (by omega) (by omega), wr_i64 (by omega) (by omega)]; omega
 have loop : ∀ (k i : Nat), i + k = s.size - 2 → M.a10 ((s.size : Int) - 2, (i : Int), ((List.range i).map fun i : Nat => ss s (i : Int) ((i : Int) + 3)), s) = some (wins s) := by
  intro k
  induction k with
  | zero =>
   intro i hi
   rw [M.a10]; try dsimp only
   rw [if_neg (by omega), show i = s.size - 2 by omega]
   rfl
  | succ k ih =>
   intro i hi
   rw [M.a10]; try dsimp only
   rw [if_pos (by omega), if_pos (by omega), wr_i64 (x := (i : Int) + 3) (by omega) (by omega), if_pos (by omega), if_pos (by omega), M.a4r, if_pos (by simp; omega), bnd, wr_i64 (x := (i : Int) + 1) (by omega) (by omega), show (i : Int) + 1 = ((i + 1 : Nat) : Int) by push_cast; rfl]
   have := ih (i + 1) (by omega)
   rw [List.range_succ, List.map_append] at this
   exact this
 rw [M.a35, e0]
 exact loop (s.size - 2) 0 (by omega)
theorem wins_len (s : ByteArray) : (wins s).length = s.size - 2 := by simp [wins]
theorem srtS_length (l : List ByteArray) : (srtS l).length = l.length := (srtS_perm' l).length_eq
theorem grams_ok (s : ByteArray) (hs : s.size ≤ 1000000) : M.a2c s = some (nrm (wins s)) := by
 have hw := wins_len s
 rw [M.a2c, M.a4s, bnd, M.a43, M.a42, M.a41, windows_ok s hs, bnd, bnd, bnd, if_pos (by omega), bnd, if_pos (by rw [srtS_length]; omega)]
 rfl
def tO : Option (List ByteArray) → T218
 | none => ⟨[], false⟩
 | some l => ⟨l, true⟩
def ofS (l : List ByteArray) : Option (List ByteArray) := if (nrm l).length > 32 then none else some (nrm l)
theorem of_ok (l : List ByteArray) (h : l.length ≤ 1000000) : M.au l = some (tO (ofS l)) := by
 unfold ofS
 rw [M.au, if_pos (by omega)]
 by_cases hc : (nrm l).length > 32
 ·rw [if_pos (show ((cmpL (srtS l)).length : Int) > 32 from (by have : (cmpL (srtS l)).length > 32 := hc; omega)), if_pos hc]; rfl
 ·rw [if_neg (show ¬ ((cmpL (srtS l)).length : Int) > 32 from (by have : ¬ (cmpL (srtS l)).length > 32 := hc; omega)), if_neg hc]; rfl
theorem of3_ok : M.a32 = some (tO (some [])) := by
 have e : srtS ([] : List ByteArray) = [] := List.eq_nil_of_length_eq_zero (by rw [srtS_length]; rfl)
 rw [M.a32, if_pos (by omega), e, if_neg (by simp [cmpL])]
 rfl
def cross (a b : List ByteArray) : List ByteArray := a.flatMap fun x => b.map fun y => x ++ y
def behS : Option (List ByteArray) → Option (List ByteArray) → Option (List ByteArray)
 | some a, some b => if ∃ x ∈ a, ∃ y ∈ b, x.size + y.size > 32 then none else ofS (cross a b)
 | _, _ => none
theorem cross_cons (x : ByteArray) (a b : List ByteArray) : cross (x :: a) b = (b.map fun y => x ++ y) ++ cross a b := rfl
theorem behind_run (a b : List ByteArray) (x3 x4 : T218) (h3 : x3.l = b) (ha : a.length ≤ 1000) (hb : b.length ≤ 1000) (hsz : ∀ y ∈ b, y.size ≤ 1000000) : ∀ (R pre acc : List ByteArray), a = pre ++ R → (∀ x ∈ R, x.size ≤ 1000000) → acc.length ≤ pre.length * b.length →
  M.aa (x3, x4, acc, a, (a.length : Int), (pre.length : Int)) = some (tO (if ∃ x ∈ R, ∃ y ∈ b, x.size + y.size > 32 then none else ofS (acc ++ cross R b))) := by
 intro R
 induction R with
 | nil =>
  intro pre acc e hR hl
  have hpl : pre.length ≤ 1000 := by rw [e] at ha; simpa using ha
  have hm : pre.length * b.length ≤ 1000 * 1000 := Nat.mul_le_mul hpl hb
  rw [M.aa]; try dsimp only
  rw [if_neg (by rw [e]; simp), of_ok acc (by omega), bnd, if_neg (by simp)]
  simp [cross]
 | cons x R ih =>
  intro pre acc e hR hl
  have hlen : a.length = pre.length + (R.length + 1) := by rw [e]; simp
  have hm : (pre.length + 1) * b.length ≤ 1000 * 1000 := Nat.mul_le_mul (by omega) hb
  rw [Nat.add_mul, Nat.one_mul] at hm
  have hx := hR x (by simp)
  have inner : ∀ (Q qre : List ByteArray) (acc2 : List ByteArray), b = qre ++ Q → acc2.length ≤ pre.length * b.length + qre.length →
    M.av (x3, x4, acc2, x, a, (a.length : Int), (pre.length : Int), b, (b.length : Int), (qre.length : Int)) = if ∃ y ∈ Q, x.size + y.size > 32 then some (tO none) else M.aa (x3, x4, acc2 ++ Q.map (fun y => x ++ y), a, (a.length : Int), ((pre.length + 1 : Nat) : Int)) := by
   intro Q
   induction Q with
   | nil =>
    intro qre acc2 eb hq
    rw [M.av]; try dsimp only
    rw [if_neg (by rw [eb]; simp), if_neg (by simp), wr_i64 (x := (pre.length : Int) + 1) (by omega) (by omega), show (pre.length : Int) + 1 = ((pre.length + 1 : Nat) : Int) by push_cast; rfl]
    simp
   | cons y Q ihq =>
    intro qre acc2 eb hq
    have hbl : b.length = qre.length + (Q.length + 1) := by rw [eb]; simp
    have hy := hsz y (by rw [eb]; simp)
    rw [M.av]; try dsimp only
    rw [if_pos (by omega), if_pos (by omega), if_pos (by omega), show gi b (qre.length : Int) = y by rw [eb]; exact gi_mid qre y Q, wr_i64 (x := (x.size : Int) + (y.size : Int)) (by omega) (by omega)]
    by_cases hc : x.size + y.size > 32
    ·rw [if_pos (by omega), if_pos ⟨y, by simp, hc⟩]
     rfl
    ·rw [if_neg (by omega), if_pos (by omega), if_pos (by simp; omega), wr_i64 (x := (qre.length : Int) + 1) (by omega) (by omega)]
     have := ihq (qre ++ [y]) (acc2 ++ [x ++ y]) (by rw [eb]; simp) (by simp; omega)
     rw [show (((qre ++ [y]).length : Nat) : Int) = (qre.length : Int) + 1 by simp] at this
     rw [this]
     have hiff : (∃ z ∈ y :: Q, x.size + z.size > 32) ↔ ∃ z ∈ Q, x.size + z.size > 32 := by
      constructor
      ·rintro ⟨z, hz, h⟩
       rcases List.mem_cons.1 hz with rfl | hz
       ·exact absurd h hc
       ·exact ⟨z, hz, h⟩
      ·rintro ⟨z, hz, h⟩
       exact ⟨z, List.mem_cons_of_mem _ hz, h⟩
     simp only [hiff, List.map_cons, List.append_assoc, List.cons_append, List.nil_append]
  rw [M.aa]; try dsimp only
  rw [if_pos (by omega), if_pos (by omega), if_pos (by omega), show gi a (pre.length : Int) = x by rw [e]; exact gi_mid pre x R, h3]
  have hin := inner b [] acc rfl (by simp; omega)
  rw [show ((([] : List ByteArray).length : Nat) : Int) = 0 from rfl] at hin
  rw [hin]
  by_cases hc : ∃ y ∈ b, x.size + y.size > 32
  ·rw [if_pos hc, if_pos ⟨x, by simp, hc⟩]
  ·rw [if_neg hc]
   have := ih (pre ++ [x]) (acc ++ b.map (fun y => x ++ y)) (by rw [e]; simp) (fun z hz => hR z (List.mem_cons_of_mem _ hz)) (by simp [Nat.add_mul]; omega)
   rw [show (pre ++ [x]).length = pre.length + 1 by simp] at this
   rw [this]
   have hiff : (∃ z ∈ x :: R, ∃ y ∈ b, z.size + y.size > 32) ↔ ∃ z ∈ R, ∃ y ∈ b, z.size + y.size > 32 := by
    constructor
    ·rintro ⟨z, hz, h⟩
     rcases List.mem_cons.1 hz with rfl | hz
     ·exact absurd h hc
     ·exact ⟨z, hz, h⟩
    ·rintro ⟨z, hz, h⟩
     exact ⟨z, List.mem_cons_of_mem _ hz, h⟩
   simp only [hiff, cross_cons, List.append_assoc]
def TxOk : Option (List ByteArray) → Prop
 | none => True
 | some l => l.length ≤ 256 ∧ ∀ x ∈ l, x.size ≤ 1000
theorem behind_ok (a b : Option (List ByteArray)) (ha : TxOk a) (hb : TxOk b) : M.a29 (tO a) (tO b) = some (tO (behS a b)) := by
 rw [M.a29]
 cases a with
 | none =>
  rw [if_neg (by simp [tO]), M.a28]; try dsimp only
  rw [if_pos rfl]
  cases b <;> rfl
 | some a =>
  rw [if_pos (show (tO (some a)).known = true from rfl), M.a28]; try dsimp only
  cases b with
  | none => rw [if_pos (by rfl)]; rfl
  | some b =>
   rw [if_neg (by simp [tO])]
   have := behind_run a b (tO (some b)) ⟨[], false⟩ rfl (by have := ha.1; omega) (by have := hb.1; omega) (fun y hy => by have := hb.2 y hy; omega) a [] [] rfl (fun x hx => by have := ha.2 x hx; omega) (by simp)
   exact this
def hb (z : List Int) (b : Nat) : Bool := (M.a8 z (b : Int)).getD false
def memL (z : List Int) (n : Nat) : List ByteArray := ((List.range n).filter (hb z)).map fun b : Nat => b2s [(b : Int)]
def memS (z : List Int) : Option (List ByteArray) := if (memL z 256).length > 8 then none else some (memL z 256)
theorem memL_succ (z : List Int) (n : Nat) : memL z (n + 1) = if hb z n = true then memL z n ++ [b2s [(n : Int)]] else memL z n := by
 unfold memL
 rw [List.range_succ, List.filter_append]
 by_cases h : hb z n = true
 ·rw [if_pos h]; simp [h]
 ·rw [if_neg h]; simp [h]
theorem memL_len (z : List Int) (n : Nat) : (memL z n).length ≤ n := by
 unfold memL
 rw [List.length_map]
 exact Nat.le_trans (List.length_filter_le _ _) (by simp)
theorem wr_u8n : ∀ n : Nat, n < 256 → wr .u8 (n : Int) = (n : Int) := by decide +kernel
theorem members_ok (z : List Int) : M.a3x z = some (tO (memS z)) := by
 have loop : ∀ (k i : Nat), i + k = 256 → M.a9 (z, ⟨[], false⟩, memL z i, (i : Int)) = some (tO (memS z)) := by
  intro k
  induction k with
  | zero =>
   intro i hi
   have : i = 256 := by omega
   subst this
   rw [M.a9]; try dsimp only
   rw [if_neg (by decide)]
   unfold memS
   by_cases h : (memL z 256).length > 8
   ·rw [if_pos (by omega), if_pos h]; rfl
   ·rw [if_neg (by omega), if_neg h]; rfl
  | succ k ih =>
   intro i hi
   have hl := memL_len z i
   obtain ⟨v, hv⟩ := has_tot z (b := (i : Int)) (by omega) (by omega)
   have hbv : hb z i = v := by unfold hb; rw [hv]; rfl
   have l1 : ∀ w, M.a1l (z, ⟨[], false⟩, w, (i : Int)) = M.a9 (z, ⟨[], false⟩, w, ((i + 1 : Nat) : Int)) := by
    intro w
    rw [M.a1l]; try dsimp only
    rw [wr_i64 (by omega) (by omega), show (i : Int) + 1 = ((i + 1 : Nat) : Int) by push_cast; rfl]
   rw [M.a9]; try dsimp only
   rw [if_pos (by omega), wr_u8n i (by omega), hv, bnd]
   rw [← ih (i + 1) (by omega), memL_succ, hbv]
   cases v with
   | true => rw [if_pos rfl, if_pos (by simp; omega), l1, if_pos rfl]
   | false => rw [if_neg (by decide), l1, if_neg (by decide)]
 exact loop 256 0 rfl
theorem grow_ok (n : Nat) (h : n ≤ 1000000) : M.a3y (n : Int) = some [] := by
 rw [M.a3y, if_neg (by omega), M.a5t]; try dsimp only
 rw [wr_i64 (by omega) (by omega)]
 by_cases h0 : (n : Int) - 0 > 0
 ·rw [if_pos h0, if_pos (by omega), if_pos (by omega), bnd]; rfl
 ·rw [if_neg h0]
theorem concat_ok (a b : List ByteArray) (ha : a.length ≤ 100000) (hb : b.length ≤ 100000) : M.a2b [a, b] = some (a ++ b) := by
 have g0 : gi [a, b] 0 = a := rfl
 have g1 : gi [a, b] 1 = b := rfl
 have h2 : (([a, b] : List (List ByteArray)).length : Int) = 2 := rfl
 rw [M.a2b, h2, M.al]; try dsimp only
 rw [if_pos (by omega), if_pos (by omega), if_pos (by rw [h2]; omega), g0, wr_i64 (x := 0 + (a.length : Int)) (by omega) (by omega), if_neg (by omega), M.a2a]; try dsimp only
 rw [wr_i64 (x := (0 : Int) + 1) (by omega) (by omega), M.al]; try dsimp only
 rw [if_pos (by omega), if_pos (by omega), if_pos (by rw [h2]; omega), show gi [a, b] (0 + 1) = b from rfl, wr_i64 (x := 0 + (a.length : Int) + (b.length : Int)) (by omega) (by omega), if_neg (by omega), M.a2a]; try dsimp only
 rw [wr_i64 (x := (0 : Int) + 1 + 1) (by omega) (by omega), M.al]; try dsimp only
 rw [if_neg (by omega), show 0 + (a.length : Int) + (b.length : Int) = ((a.length + b.length : Nat) : Int) by push_cast; omega, grow_ok _ (by omega), bnd, h2, M.aw]; try dsimp only
 rw [if_pos (by omega), if_pos (by omega), if_pos (by rw [h2]; omega), g0, List.nil_append, if_pos (by omega), wr_i64 (x := (0 : Int) + 1) (by omega) (by omega), M.aw]; try dsimp only
 rw [if_pos (by omega), if_pos (by omega), if_pos (by rw [h2]; omega), show gi [a, b] (0 + 1) = b from rfl, if_pos (by simp; omega), wr_i64 (x := (0 : Int) + 1 + 1) (by omega) (by omega), M.aw]; try dsimp only
 rw [if_neg (by omega)]
theorem mul_ok : ∀ n : Nat, n < 65 → M.a5u 1 (n : Int) = some (0, (n : Int)) := by decide +kernel
theorem wr_u64n : ∀ n : Nat, n < 65 → wr .u64 (n : Int) = (n : Int) := by decide +kernel
theorem repeat_run (x z : T26) (n : Nat) (hn : n ≤ 64) : ∀ (fuel k : Nat), 1 ≤ k → k ≤ n → n ≤ k + fuel → M.am (List.replicate k x ++ List.replicate (n - k) z, (k : Int)) = some (List.replicate n x) := by
 intro fuel
 induction fuel with
 | zero =>
  intro k h1 h2 h3
  have : k = n := by omega
  subst this
  rw [M.am]; try dsimp only
  rw [if_neg (by simp)]
  simp
 | succ fuel ih =>
  intro k h1 h2 h3
  have hl : (List.replicate k x ++ List.replicate (n - k) z).length = n := by simp; omega
  rw [M.am]; try dsimp only
  rw [hl]
  by_cases hk : (k : Int) < (n : Int)
  ·rw [if_pos hk, if_pos (by omega), if_pos (by omega), bnd]
   have e1 : sl (List.replicate k x ++ List.replicate (n - k) z) 0 (k : Int) = List.replicate k x := by simp [sl]
   have e2 : cpy (List.replicate k x ++ List.replicate (n - k) z) k (n - k) (List.replicate k x) = List.replicate (k + min k (n - k)) x ++ List.replicate (n - (k + min k (n - k))) z := by
    unfold cpy
    rw [List.take_append_of_le_length (by simp), List.take_of_length_le (by simp), List.take_replicate, List.length_replicate]
    have e3 : (List.replicate k x ++ List.replicate (n - k) z).drop (k + min k (n - k)) = List.replicate (n - (k + min k (n - k))) z := by
     rw [List.drop_append, List.length_replicate, List.drop_eq_nil_of_le (by simp), List.nil_append, List.drop_replicate]
     congr 1; omega
    rw [e3, ← List.append_assoc, List.replicate_append_replicate, Nat.min_comm (n - k) k]
   simp only [Int.toNat_natCast, e1, e2]
   rw [show ((min (k - Int.toNat 0) (n - k) : Nat) : Int) = ((min k (n - k) : Nat) : Int) by simp, wr_i64 (by omega) (by omega), show (k : Int) + ((min k (n - k) : Nat) : Int) = ((k + min k (n - k) : Nat) : Int) by push_cast; rfl]
   exact ih (k + min k (n - k)) (by omega) (by omega) (by omega)
  ·have : k = n := by omega
   subst this
   rw [if_neg hk]
   simp
theorem repeat_ok (x : T26) (n : Nat) (hn : n ≤ 64) : M.a34 [x] (n : Int) = some (List.replicate n x) := by
 rw [M.a34, if_neg (by omega), M.a40]; try dsimp only
 rw [show wr .u64 (([x] : List T26).length : Int) = 1 from (by show wr .u64 1 = 1; decide +kernel), wr_u64n n (by omega), M.a4q, mul_ok n (by omega), bnd, bnd]; try dsimp only
 rw [if_neg (by decide), decide_eq_false (by omega), M.a33]; try dsimp only
 rw [if_neg (by decide), M.a3z]; try dsimp only
 rw [wr_i64 (by omega) (by omega), if_pos (by omega), if_pos (by omega), Int.toNat_natCast, bnd, List.length_replicate]
 by_cases h0 : n = 0
 ·subst h0
  rw [M.am]; try dsimp only
  rw [if_neg (by simp [cpy])]
  simp [cpy]
 ·have e1 : cpy (List.replicate n (⟨0, [0, 0, 0, 0], [], 0, 0⟩ : T26)) 0 n [x] = List.replicate 1 x ++ List.replicate (n - 1) ⟨0, [0, 0, 0, 0], [], 0, 0⟩ := by
   unfold cpy
   rw [List.take_zero, List.nil_append, List.take_of_length_le (by simp; omega), List.drop_replicate]
   congr 2
   simp; omega
  rw [e1, show min ([x] : List T26).length n = 1 by simp; omega]
  exact repeat_run x _ n hn n 1 (by omega) (by omega) (by omega)
def eS : ByteArray := ⟨#[]⟩
def rowS (l : List (Option (List ByteArray))) : Option (List ByteArray) := l.foldl behS (some [eS])
def alS : Option (List ByteArray) → Option (List ByteArray) → Option (List ByteArray)
 | some a, some b => ofS (a ++ b)
 | _, _ => none
def anyS (l : List (Option (List ByteArray))) : Option (List ByteArray) := l.foldl alS (some [])
def tellS : Nat → T26 → Option (List ByteArray)
 | 0, _ => none
 | d + 1, r => if r.Kind = 1 then memS r.Set else if r.Kind = 2 then rowS (r.L.map (tellS d)) else if r.Kind = 3 then anyS (r.L.map (tellS d)) else if r.Min = r.Max then rowS ((List.replicate r.Min.toNat r.L).flatten.map (tellS d)) else none
def TxS : Option (List ByteArray) → Prop
 | none => True
 | some l => l.length ≤ 32 ∧ ∀ x ∈ l, x.size ≤ 32
theorem TxS.ok {t : Option (List ByteArray)} (h : TxS t) : TxOk t := by
 cases t with
 | none => trivial
 | some l => exact ⟨by have := h.1; omega, fun x hx => by have := h.2 x hx; omega⟩
theorem ofS_txs {l : List ByteArray} (h : ∀ x ∈ l, x.size ≤ 32) : TxS (ofS l) := by
 unfold ofS
 by_cases hc : (nrm l).length > 32
 ·rw [if_pos hc]; trivial
 ·rw [if_neg hc]; exact ⟨by omega, fun x hx => h x (mem_nrm.1 hx)⟩
theorem mem_cross {a b : List ByteArray} {v : ByteArray} : v ∈ cross a b ↔ ∃ x ∈ a, ∃ y ∈ b, v = x ++ y := by
 unfold cross
 simp only [List.mem_flatMap, List.mem_map]
 constructor
 ·rintro ⟨x, hx, y, hy, rfl⟩; exact ⟨x, hx, y, hy, rfl⟩
 ·rintro ⟨x, hx, y, hy, rfl⟩; exact ⟨x, hx, y, hy, rfl⟩
theorem behS_txs (a b : Option (List ByteArray)) : TxS (behS a b) := by
 cases a with
 | none => cases b <;> trivial
 | some a =>
  cases b with
  | none => trivial
  | some b =>
   simp only [behS]
   split
   ·trivial
   ·rename_i h
    refine ofS_txs fun x hx => ?_
    obtain ⟨u, hu, v, hv, rfl⟩ := mem_cross.1 hx
    rcases Nat.lt_or_ge 32 (u.size + v.size) with h' | h'
    ·exact absurd ⟨u, hu, v, hv, h'⟩ h
    ·simpa using h'
theorem alS_txs {a b : Option (List ByteArray)} (ha : TxS a) (hb : TxS b) : TxS (alS a b) := by
 cases a with
 | none => cases b <;> trivial
 | some a =>
  cases b with
  | none => trivial
  | some b =>
   refine ofS_txs fun x hx => ?_
   rcases List.mem_append.1 hx with h | h
   ·exact ha.2 x h
   ·exact hb.2 x h
theorem memS_txs (z : List Int) : TxS (memS z) := by
 unfold memS
 split
 ·trivial
 ·refine ⟨by omega, fun x hx => ?_⟩
  unfold memL at hx
  obtain ⟨b, _, rfl⟩ := List.mem_map.1 hx
  show (b2s [(b : Int)]).size ≤ 32
  simp [b2s, ByteArray.size]
theorem fold_txs (f : Option (List ByteArray) → Option (List ByteArray) → Option (List ByteArray)) (hf : ∀ a b, TxS a → TxS b → TxS (f a b)) : ∀ (l : List (Option (List ByteArray))) (a : Option (List ByteArray)), TxS a → (∀ x ∈ l, TxS x) → TxS (l.foldl f a)
 | [], a, ha, _ => ha
 | x :: l, a, ha, hl => fold_txs f hf l (f a x) (hf a x ha (hl x (by simp))) fun y hy => hl y (by simp [hy])
theorem eS_txs : TxS (some [eS]) := ⟨by simp, fun x hx => by rw [List.mem_singleton.1 hx]; decide⟩
theorem tellS_txs : ∀ (d : Nat) (r : T26), TxS (tellS d r)
 | 0, _ => trivial
 | d + 1, r => by
  rw [tellS]
  split
  ·exact memS_txs _
  ·split
   ·exact fold_txs behS (fun a b _ _ => behS_txs a b) _ _ eS_txs fun x hx => by obtain ⟨y, _, rfl⟩ := List.mem_map.1 hx; exact tellS_txs d y
   ·split
    ·exact fold_txs alS (fun a b => alS_txs) _ _ ⟨by simp, by simp⟩ fun x hx => by obtain ⟨y, _, rfl⟩ := List.mem_map.1 hx; exact tellS_txs d y
    ·split
     ·exact fold_txs behS (fun a b _ _ => behS_txs a b) _ _ eS_txs fun x hx => by obtain ⟨y, _, rfl⟩ := List.mem_map.1 hx; exact tellS_txs d y
     ·trivial
theorem behS_none (l : List (Option (List ByteArray))) : l.foldl behS none = none := by
 induction l with
 | nil => rfl
 | cons x l ih => exact ih
theorem alS_none (l : List (Option (List ByteArray))) : l.foldl alS none = none := by
 induction l with
 | nil => rfl
 | cons x l ih => exact ih
theorem of_eS : M.au [(⟨#[]⟩ : ByteArray)] = some (tO (some [eS])) := by
 rw [of_ok _ (by simp)]
 have : nrm [(⟨#[]⟩ : ByteArray)] = [eS] := nrm_eq (List.pairwise_singleton _ _) fun v => by rfl
 unfold ofS
 rw [this, if_neg (by decide)]
theorem row_ok (f : T26 → Option (List ByteArray)) (hf : ∀ x, TxS (f x)) (L : List T26) (hL : L.length ≤ 4096) (h : ∀ x ∈ L, M.a3 x = some (tO (f x))) : M.a1m L = some (tO (rowS (L.map f))) := by
 have loop : ∀ (R pre : List T26) (t : List ByteArray), L = pre ++ R → TxS (some t) → M.ax (⟨[], false⟩, ⟨t, true⟩, L, (L.length : Int), (pre.length : Int)) = some (tO ((R.map f).foldl behS (some t))) := by
  intro R
  induction R with
  | nil =>
   intro pre t e ht
   rw [M.ax]; try dsimp only
   rw [if_neg (by rw [e]; simp)]
   rfl
  | cons x R ih =>
   intro pre t e ht
   have hlen : L.length = pre.length + (R.length + 1) := by rw [e]; simp
   rw [M.ax]; try dsimp only
   rw [if_pos (by omega), if_pos (by omega), if_pos (by omega), show gi L (pre.length : Int) = x by rw [e]; exact gi_mid pre x R, eta27, h x (by rw [e]; simp), bnd, show (⟨t, true⟩ : T218) = tO (some t) from rfl, behind_ok _ _ ht.ok (hf x).ok, bnd, List.map_cons, List.foldl_cons]
   have hb := behS_txs (some t) (f x)
   cases hbe : behS (some t) (f x) with
   | none =>
    rw [if_neg (by simp [tO]), behS_none]; rfl
   | some u =>
    rw [hbe] at hb
    rw [if_pos (show (tO (some u)).known = true from rfl), wr_i64 (by omega) (by omega)]
    have := ih (pre ++ [x]) u (by rw [e]; simp) hb
    rw [show (((pre ++ [x]).length : Nat) : Int) = (pre.length : Int) + 1 by simp] at this
    exact this
 rw [M.a1m, of_eS, bnd]
 exact loop L [] [eS] rfl eS_txs
theorem tell_ok (d : Nat) : ∀ r : T26, Rt d r → nd r ≤ 4096 → M.a3 r = some (tO (tellS d r)) := by
 induction d with
 | zero => intro r h; exact absurd h id
 | succ d ih =>
  intro r hr hn
  rw [nd_eq] at hn
  have hll := nds_len r.L
  have sub : ∀ x ∈ r.L, M.a3 x = some (tO (tellS d x)) := fun x hx => ih x (hr.2.2 x hx) (by have := nd_mem hx; omega)
  rw [M.a3]; try dsimp only
  rw [tellS]
  by_cases h1 : r.Kind = 1
  ·rw [if_pos h1, if_pos h1, members_ok, bnd]
  rw [if_neg h1, if_neg h1]
  by_cases h2 : r.Kind = 2
  ·rw [if_pos h2, if_pos h2, row_ok (tellS d) (tellS_txs d) r.L (by omega) sub, bnd]
  rw [if_neg h2, if_neg h2]
  by_cases h3 : r.Kind = 3
  ·rw [if_pos h3, if_pos h3, of3_ok, bnd]
   have loop : ∀ (R pre : List T26) (t : Option (List ByteArray)), r.L = pre ++ R → TxS t → M.ay (⟨[], false⟩, tO t, r.L, (r.L.length : Int), (pre.length : Int)) = some (tO ((R.map (tellS d)).foldl alS t)) := by
    intro R
    induction R with
    | nil =>
     intro pre t e ht
     rw [M.ay]; try dsimp only
     rw [if_neg (by rw [e]; simp)]
     rfl
    | cons x R ihR =>
     intro pre t e ht
     have hlen : r.L.length = pre.length + (R.length + 1) := by rw [e]; simp
     have hx : x ∈ r.L := by rw [e]; simp
     rw [M.ay]; try dsimp only
     rw [if_pos (by omega), if_pos (by omega), if_pos (by omega), show gi r.L (pre.length : Int) = x by rw [e]; exact gi_mid pre x R, eta27, sub x hx, bnd, List.map_cons, List.foldl_cons]
     have htx := tellS_txs d x
     have l1 : ∀ u b, b = true → M.az (⟨[], false⟩, tO t, u, r.L, (r.L.length : Int), (pre.length : Int), b) = some (tO none) := by
      intro u b hb
      rw [M.az]; try dsimp only
      rw [if_pos hb]; rfl
     cases hu : tellS d x with
     | none =>
      have ea : alS t none = none := by cases t <;> rfl
      rw [if_neg (by simp [tO]), l1 _ _ rfl, ea, alS_none]
     | some u =>
      rw [hu] at htx
      rw [if_pos (show (tO (some u)).known = true from rfl)]
      cases t with
      | none => rw [l1 _ _ (by rfl), show alS none (some u) = none from rfl, alS_none]
      | some t =>
       have hta := ht.1
       have hua := htx.1
       rw [M.az]; try dsimp only
       rw [if_neg (by simp [tO])]
       show (M.a2b [t, u] >>= _) = _
       rw [concat_ok t u (by omega) (by omega), bnd, of_ok _ (by simp; omega), bnd, wr_i64 (by omega) (by omega)]
       have := ihR (pre ++ [x]) (ofS (t ++ u)) (by rw [e]; simp) (alS_txs (a := some t) (b := some u) ht htx)
       rw [show (((pre ++ [x]).length : Nat) : Int) = (pre.length : Int) + 1 by simp] at this
       exact this
   exact loop r.L [] (some []) rfl ⟨by simp, by simp⟩
  rw [if_neg h3, if_neg h3]
  by_cases hm : r.Min = r.Max
  ·rw [if_pos hm, if_pos hm]
   rcases hr.1 with ⟨h, _⟩ | ⟨h | h, _⟩ | ⟨_, ⟨x, hL⟩, _, g0, g1, _⟩
   ·exact absurd h h1
   ·exact absurd h h2
   ·exact absurd h h3
   obtain ⟨m, hmm⟩ := Int.eq_ofNat_of_zero_le g0
   rw [hmm, hL, repeat_ok x m (by omega), bnd, Int.toNat_natCast]
   have e : (List.replicate m [x]).flatten = List.replicate m x := by
    induction m with
    | zero => rfl
    | succ m ih => rw [List.replicate_succ, List.flatten_cons, List.replicate_succ]; simp [List.flatten_replicate_singleton]
   rw [e, row_ok (tellS d) (tellS_txs d) (List.replicate m x) (by simp; omega) (fun y hy => by rw [List.eq_of_mem_replicate hy]; exact sub x (by rw [hL]; simp)), bnd]
  ·rw [if_neg hm, if_neg hm]; rfl
theorem tlS (s : ByteArray) : s.toList = Tl s := Lib.toList_data s
theorem eqS (a b : ByteArray) : (a.toList == b.toList) = decide (a = b) := by
 rw [tlS, tlS]
 by_cases h : a = b
 ·rw [h, decide_eq_true rfl]; simp
 ·rw [decide_eq_false h]
  rw [beq_eq_false_iff_ne]
  exact fun h' => h (Tl_inj h')
theorem lessS (a b : ByteArray) : Op.bytesLess a.toList b.toList = decide (Tl a < Tl b) := by rw [bytesLess_eq, tlS, tlS]
mutual
def qn : T29 → Nat
 | ⟨_, _, L⟩ => 1 + qns L
def qns : List T29 → Nat
 | [] => 0
 | x :: xs => qn x + qns xs
end
theorem qn_eq (q : T29) : qn q = 1 + qns q.L := by cases q; rw [qn]
theorem qn_pos (q : T29) : 1 ≤ qn q := by rw [qn_eq]; omega
theorem qns_len : ∀ L : List T29, L.length ≤ qns L
 | [] => by simp
 | x :: xs => by have := qns_len xs; have := qn_pos x; rw [qns]; simp; omega
theorem qn_mem {x : T29} : ∀ {l : List T29}, x ∈ l → qn x ≤ qns l
 | [], h => by simp at h
 | y :: l, h => by
  rw [qns]
  rcases List.mem_cons.1 h with rfl | h
  ·omega
  ·have := qn_mem h; omega
theorem qns_append : ∀ a b : List T29, qns (a ++ b) = qns a + qns b
 | [], b => by simp [qns]
 | x :: a, b => by rw [List.cons_append, qns, qns, qns_append a b]; omega
theorem t29_ext {a b : T29} : a = b ↔ a.Op = b.Op ∧ a.Text = b.Text ∧ a.L = b.L := by
 cases a; cases b; simp
theorem same_ok (n : Nat) : ∀ a b : T29, qn a ≤ n → qn a ≤ 100000000 → qn b ≤ 100000000 → M.a11 (a, b) = some (decide (a = b)) := by
 induction n with
 | zero => intro a b h; have := qn_pos a; omega
 | succ n ih =>
  intro a b hn ha hb
  rw [M.a11]; try dsimp only
  by_cases ho : a.Op = b.Op
  ·rw [if_pos ho, eqS]
   by_cases ht : a.Text = b.Text
   ·rw [decide_eq_true ht, if_pos rfl, M.a36]; try dsimp only
    have e0 : decide (a = b) = decide (a.L = b.L) := by
     rw [decide_eq_decide, t29_ext]; simp [ho, ht]
    rw [qn_eq] at hn ha hb
    have hla := qns_len a.L
    have hlb := qns_len b.L
    by_cases hl : (a.L.length : Int) = (b.L.length : Int)
    ·rw [if_pos hl]
     have loop : ∀ (R pre Q qre : List T29), a.L = pre ++ R → b.L = qre ++ Q → pre.length = qre.length → R.length = Q.length → M.a12 (b.L, a.L, (a.L.length : Int), (pre.length : Int)) = some (decide (R = Q)) := by
      intro R
      induction R with
      | nil =>
       intro pre Q qre ea eb hp hr
       have : Q = [] := List.eq_nil_of_length_eq_zero (by simpa using hr.symm)
       rw [M.a12]; try dsimp only
       rw [if_neg (by rw [ea]; simp), this]
       simp
      | cons x R ihR =>
       intro pre Q qre ea eb hp hr
       cases Q with
       | nil => simp at hr
       | cons y Q =>
        have hlen : a.L.length = pre.length + (R.length + 1) := by rw [ea]; simp
        have hx : x ∈ a.L := by rw [ea]; simp
        have hy : y ∈ b.L := by rw [eb]; simp
        have hqx := qn_mem hx
        have hqy := qn_mem hy
        rw [M.a12]; try dsimp only
        rw [if_pos (by omega), if_pos (by omega), if_pos (by omega), if_pos (by omega), show gi a.L (pre.length : Int) = x by rw [ea]; exact gi_mid pre x R, show gi b.L (pre.length : Int) = y by rw [eb, hp]; exact gi_mid qre y Q, ih x y (by omega) (by omega) (by omega), bnd]
        by_cases hxy : x = y
        ·subst hxy
         rw [decide_eq_true rfl, if_pos rfl, wr_i64 (by omega) (by omega)]
         have := ihR (pre ++ [x]) Q (qre ++ [x]) (by rw [ea]; simp) (by rw [eb]; simp) (by simp [hp]) (by simpa using hr)
         rw [show (((pre ++ [x]).length : Nat) : Int) = (pre.length : Int) + 1 by simp] at this
         rw [this]
         simp
        ·rw [decide_eq_false hxy, if_neg (by decide)]
         simp [hxy]
     have := loop a.L [] b.L [] rfl rfl rfl (by omega)
     rw [show ((([] : List T29).length : Nat) : Int) = 0 from rfl] at this
     rw [this, bnd, e0]
    ·rw [if_neg hl, bnd, e0, decide_eq_false (fun h => hl (by rw [h]))]
   ·rw [decide_eq_false ht, if_neg (by decide), decide_eq_false fun h => ht (by rw [h])]
  ·rw [if_neg ho, decide_eq_false fun h => ho (by rw [h])]
noncomputable def dist : List T29 → List T29 → List T29
 | acc, [] => acc
 | acc, x :: xs => if x ∈ acc then dist acc xs else dist (acc ++ [x]) xs
theorem has_ok (acc : List T29) (x : T29) (ha : qns acc ≤ 100000000) (hx : qn x ≤ 100000000) : M.a37 acc x = some (decide (x ∈ acc)) := by
 have hl := qns_len acc
 have loop : ∀ (R pre : List T29), acc = pre ++ R → x ∉ pre → ∃ j : Int, M.a13 (acc, (acc.length : Int), (pre.length : Int), x) = some j ∧ decide (j ≥ 0) = decide (x ∈ acc) := by
  intro R
  induction R with
  | nil =>
   intro pre e hp
   rw [M.a13]; try dsimp only
   rw [if_neg (by rw [e]; simp)]
   refine ⟨-1, rfl, ?_⟩
   rw [e, List.append_nil, decide_eq_false hp]
   rfl
  | cons y R ih =>
   intro pre e hp
   have hlen : acc.length = pre.length + (R.length + 1) := by rw [e]; simp
   have hy : y ∈ acc := by rw [e]; simp
   have hqy := qn_mem hy
   rw [M.a13]; try dsimp only
   rw [if_pos (by omega), if_pos (by omega), if_pos (by omega), show gi acc (pre.length : Int) = y by rw [e]; exact gi_mid pre y R, M.a44, same_ok (qn x) x y (Nat.le_refl _) hx (by omega), bnd, bnd]
   by_cases hxy : x = y
   ·subst hxy
    rw [decide_eq_true rfl, if_pos rfl]
    exact ⟨_, rfl, by rw [decide_eq_true hy, decide_eq_true (by omega)]⟩
   ·rw [decide_eq_false hxy, if_neg (by decide), wr_i64 (by omega) (by omega)]
    have := ih (pre ++ [y]) (by rw [e]; simp) (by simp [hp, hxy])
    rw [show (((pre ++ [y]).length : Nat) : Int) = (pre.length : Int) + 1 by simp] at this
    exact this
 obtain ⟨j, e1, e2⟩ := loop acc [] rfl (by simp)
 rw [show ((([] : List T29).length : Nat) : Int) = 0 from rfl] at e1
 rw [M.a37, M.a45, e1, bnd, e2]
theorem dist_ok (l : List T29) (hq : qns l ≤ 100000000) : M.a38 l = some (dist [] l) := by
 have hl := qns_len l
 have loop : ∀ (R pre acc : List T29), l = pre ++ R → qns acc ≤ qns pre → M.ab (acc, l, (l.length : Int), (pre.length : Int)) = some (dist acc R) := by
  intro R
  induction R with
  | nil =>
   intro pre acc e ha
   rw [M.ab]; try dsimp only
   rw [if_neg (by rw [e]; simp)]
   rfl
  | cons x R ih =>
   intro pre acc e ha
   have hlen : l.length = pre.length + (R.length + 1) := by rw [e]; simp
   have hsum : qns l = qns pre + (qn x + qns R) := by rw [e, qns_append, qns]
   have hacc := qns_len acc
   have hpos := qn_pos x
   have l1 : ∀ w, M.a1n (w, l, (l.length : Int), (pre.length : Int)) = M.ab (w, l, (l.length : Int), (((pre ++ [x]).length : Nat) : Int)) := by
    intro w
    rw [M.a1n]; try dsimp only
    rw [wr_i64 (by omega) (by omega), show (((pre ++ [x]).length : Nat) : Int) = (pre.length : Int) + 1 by simp]
   rw [M.ab]; try dsimp only
   rw [if_pos (by omega), if_pos (by omega), if_pos (by omega), show gi l (pre.length : Int) = x by rw [e]; exact gi_mid pre x R, has_ok acc x (by omega) (by omega), bnd, dist]
   by_cases hm : x ∈ acc
   ·rw [decide_eq_true hm, if_pos rfl, if_pos hm, l1]
    exact ih (pre ++ [x]) acc (by rw [e]; simp) (by rw [qns_append]; omega)
   ·rw [decide_eq_false hm, if_neg (by decide), if_neg hm, if_pos (by simp; omega), l1]
    exact ih (pre ++ [x]) (acc ++ [x]) (by rw [e]; simp) (by rw [qns_append, qns_append]; simp only [qns]; omega)
 rw [M.a38]
 exact loop l [] [] rfl (Nat.le_refl _)
def gs (op : Int) : Int := if op = 4 then 1 else 0
def tk (op : Int) : Int := if op = 4 then 0 else 1
def flat (op : Int) : List T29 → Option (List T29)
 | [] => some []
 | q :: l => if q.Op = op then (flat op l).map (q.L ++ ·) else if q.Op = tk op then none else if q.Op = gs op then flat op l else (flat op l).map (q :: ·)
def mkq (op : Int) (l : List T29) : T29 := match l with
 | [] => ⟨gs op, eS, []⟩
 | [x] => x
 | l => ⟨op, eS, l⟩
noncomputable def putS (op : Int) (l : List T29) : T29 := match flat op l with
 | none => ⟨tk op, eS, []⟩
 | some f => mkq op (dist [] f)
theorem ends_ok (op : Int) : M.a46 op = some (gs op, tk op) := by
 rw [M.a46]
 unfold gs tk
 split <;> rfl
theorem dist_len : ∀ (l acc : List T29), acc.length ≤ (dist acc l).length ∧ qns (dist acc l) ≤ qns acc + qns l
 | [], acc => by simp [dist]
 | x :: l, acc => by
  rw [dist]
  split
  ·have := dist_len l acc; rw [qns]; omega
  ·have := dist_len l (acc ++ [x]); rw [qns_append] at this; simp only [qns, List.length_append, List.length_singleton] at this ⊢; omega
theorem mem_dist {y : T29} : ∀ {l acc : List T29}, y ∈ dist acc l → y ∈ acc ∨ y ∈ l
 | [], acc, h => .inl h
 | x :: l, acc, h => by
  rw [dist] at h
  split at h
  ·rcases mem_dist h with h | h
   ·exact .inl h
   ·exact .inr (List.mem_cons_of_mem _ h)
  ·rcases mem_dist h with h | h
   ·rcases List.mem_append.1 h with h | h
    ·exact .inl h
    ·exact .inr (by rw [List.mem_singleton.1 h]; simp)
   ·exact .inr (List.mem_cons_of_mem _ h)
theorem flat_qns (op : Int) : ∀ (l f : List T29), flat op l = some f → qns f ≤ qns l
 | [], f, h => by cases h; exact Nat.le_refl _
 | q :: l, f, h => by
  have hq := qn_eq q
  rw [flat] at h
  rw [qns]
  split at h
  ·obtain ⟨f', h1, rfl⟩ := Option.map_eq_some_iff.1 h
   have := flat_qns op l f' h1
   rw [qns_append]; omega
  ·split at h
   ·cases h
   ·split at h
    ·have := flat_qns op l f h; omega
    ·obtain ⟨f', h1, rfl⟩ := Option.map_eq_some_iff.1 h
     have := flat_qns op l f' h1
     rw [qns]; omega
theorem mkq_end (op : Int) (ys : List T29) (hy : ys.length ≤ 1000000000) : (if (ys.length : Int) = 0 then some (⟨gs op, (⟨#[]⟩ : ByteArray), ([] : List T29)⟩ : T29) else if (ys.length : Int) = 1 then if 0 < (ys.length : Int) then some (gi ys 0) else none else some (⟨op, (⟨#[]⟩ : ByteArray), ys⟩ : T29)) = some (mkq op ys) := by
 match ys with
 | [] => rfl
 | [x] => rfl
 | x :: y :: l =>
  have h2 : ((x :: y :: l).length : Int) = (l.length : Int) + 2 := by simp; omega
  rw [if_neg (by omega), if_neg (by omega)]
  rfl
theorem put_ok (op : Int) (l : List T29) (hq : qns l ≤ 100000000) : M.ad op l = some (putS op l) := by
 have hll := qns_len l
 rw [M.ad, ends_ok, bnd]; try dsimp only
 have loop : ∀ (R pre acc : List T29), l = pre ++ R → qns acc ≤ qns pre → M.ac (op, (⟨0, (⟨#[]⟩ : ByteArray), ([] : List T29)⟩ : T29), gs op, tk op, acc, l, (l.length : Int), (pre.length : Int)) = some (match flat op R with
   | none => ⟨tk op, eS, []⟩
   | some f => mkq op (dist [] (acc ++ f))) := by
  intro R
  induction R with
  | nil =>
   intro pre acc e ha
   have hp : pre = l := by rw [e]; simp
   have hqa : qns acc ≤ 100000000 := by rw [hp] at ha; omega
   have hdl := dist_len acc []
   have hdq := qns_len (dist [] acc)
   rw [M.ac]; try dsimp only
   rw [if_neg (by rw [e]; simp), dist_ok acc hqa, bnd, mkq_end op (dist [] acc) (by simp only [qns] at hdl; omega)]
   simp [flat]
  | cons x R ih =>
   intro pre acc e ha
   have hlen : l.length = pre.length + (R.length + 1) := by rw [e]; simp
   have hsum : qns l = qns pre + (qn x + qns R) := by rw [e, qns_append, qns]
   have hal := qns_len acc
   have hxe := qn_eq x
   have hxl := qns_len x.L
   have l1 : ∀ w, M.a14 (op, (⟨0, (⟨#[]⟩ : ByteArray), ([] : List T29)⟩ : T29), gs op, tk op, w, l, (l.length : Int), (pre.length : Int)) = M.ac (op, (⟨0, (⟨#[]⟩ : ByteArray), ([] : List T29)⟩ : T29), gs op, tk op, w, l, (l.length : Int), (((pre ++ [x]).length : Nat) : Int)) := by
    intro w
    rw [M.a14]; try dsimp only
    rw [wr_i64 (by omega) (by omega), show (((pre ++ [x]).length : Nat) : Int) = (pre.length : Int) + 1 by simp]
   have ep : l = (pre ++ [x]) ++ R := by rw [e]; simp
   rw [M.ac]; try dsimp only
   rw [if_pos (by omega), if_pos (by omega), if_pos (by omega), show gi l (pre.length : Int) = x by rw [e]; exact gi_mid pre x R, flat]
   by_cases h1 : x.Op = op
   ·rw [if_pos h1, if_pos h1, if_pos (by simp; omega), l1, ih (pre ++ [x]) (acc ++ x.L) ep (by rw [qns_append, qns_append]; simp only [qns]; omega)]
    cases flat op R with
    | none => rfl
    | some f => simp
   ·rw [if_neg h1, if_neg h1]
    by_cases h2 : x.Op = tk op
    ·rw [if_pos h2, if_pos h2]; rfl
    ·rw [if_neg h2, if_neg h2]
     by_cases h3 : x.Op = gs op
     ·rw [if_pos h3, if_pos h3, l1, ih (pre ++ [x]) acc ep (by rw [qns_append]; omega)]
     ·rw [if_neg h3, if_neg h3, if_pos (by simp; omega), l1, ih (pre ++ [x]) (acc ++ [x]) ep (by rw [qns_append, qns_append]; simp only [qns]; omega)]
      cases flat op R with
      | none => rfl
      | some f => simp
 have := loop l [] [] rfl (Nat.le_refl _)
 rw [show ((([] : List T29).length : Nat) : Int) = 0 from rfl] at this
 rw [this]
 unfold putS
 cases flat op l with
 | none => rfl
 | some f => rfl
mutual
def Wq : T29 → Prop
 | ⟨_, _, L⟩ => Wqs L
def Wqs : List T29 → Prop
 | [] => True
 | x :: xs => ((x.Op ≠ 0 ∧ x.Op ≠ 1) ∧ Wq x) ∧ Wqs xs
end
theorem Wq_eq (q : T29) : Wq q ↔ Wqs q.L := by cases q; rw [Wq]
theorem Wqs_iff : ∀ {L : List T29}, Wqs L ↔ ∀ x ∈ L, (x.Op ≠ 0 ∧ x.Op ≠ 1) ∧ Wq x
 | [] => by simp [Wqs]
 | x :: xs => by rw [Wqs, Wqs_iff (L := xs)]; simp
theorem gstk (op : Int) (x : Int) : (x ≠ 0 ∧ x ≠ 1) ↔ (x ≠ gs op ∧ x ≠ tk op) := by unfold gs tk; split <;> constructor <;> rintro ⟨a, b⟩ <;> exact ⟨by omega, by omega⟩
theorem mem_flat (op : Int) : ∀ {l f : List T29} {y : T29}, flat op l = some f → y ∈ f → (∃ q ∈ l, q.Op = op ∧ y ∈ q.L) ∨ (y ∈ l ∧ y.Op ≠ gs op ∧ y.Op ≠ tk op)
 | [], f, y, h, hy => by cases h; simp at hy
 | q :: l, f, y, h, hy => by
  have up : ∀ {f'}, flat op l = some f' → y ∈ f' → (∃ q' ∈ q :: l, q'.Op = op ∧ y ∈ q'.L) ∨ (y ∈ q :: l ∧ y.Op ≠ gs op ∧ y.Op ≠ tk op) := fun h1 h2 => by
   rcases mem_flat op h1 h2 with ⟨z, hz, h3⟩ | ⟨h3, h4⟩
   ·exact .inl ⟨z, List.mem_cons_of_mem _ hz, h3⟩
   ·exact .inr ⟨List.mem_cons_of_mem _ h3, h4⟩
  rw [flat] at h
  split at h
  ·rename_i ho
   obtain ⟨f', h1, rfl⟩ := Option.map_eq_some_iff.1 h
   rcases List.mem_append.1 hy with hy | hy
   ·exact .inl ⟨q, by simp, ho, hy⟩
   ·exact up h1 hy
  ·split at h
   ·cases h
   ·rename_i hnt
    split at h
    ·exact up h hy
    ·rename_i hng
     obtain ⟨f', h1, rfl⟩ := Option.map_eq_some_iff.1 h
     rcases List.mem_cons.1 hy with rfl | hy
     ·exact .inr ⟨by simp, hng, hnt⟩
     ·exact up h1 hy
theorem mkq_mem {op : Int} {ys : List T29} : (mkq op ys).L = [] ∧ (mkq op ys).Text = eS ∧ ys = [] ∨ (∃ x, ys = [x] ∧ mkq op ys = x) ∨ (mkq op ys = ⟨op, eS, ys⟩) := by
 match ys with
 | [] => exact .inl ⟨rfl, rfl, rfl⟩
 | [x] => exact .inr (.inl ⟨x, rfl, rfl⟩)
 | x :: y :: l => exact .inr (.inr rfl)
theorem put_W (op : Int) (l : List T29) (hl : ∀ q ∈ l, Wq q) : Wq (putS op l) ∧ qn (putS op l) ≤ 1 + qns l := by
 unfold putS
 cases hf : flat op l with
 | none => exact ⟨by simp [Wq, Wqs], by simp [qn, qns]⟩
 | some f =>
  have hq := flat_qns op l f hf
  have hd := dist_len f []
  have el : ∀ y ∈ dist [] f, (y.Op ≠ 0 ∧ y.Op ≠ 1) ∧ Wq y := fun y hy => by
   rcases mem_dist hy with h | h
   ·simp at h
   ·rcases mem_flat op hf h with ⟨q, hq, _, hyq⟩ | ⟨hy, h⟩
    ·have := (Wq_eq q).1 (hl q hq)
     exact Wqs_iff.1 this y hyq
    ·exact ⟨(gstk op _).2 h, hl y hy⟩
  have hqd : qns (dist [] f) ≤ qns l := by have := hd.2; simp only [qns] at this; omega
  show Wq (mkq op (dist [] f)) ∧ qn (mkq op (dist [] f)) ≤ 1 + qns l
  rcases mkq_mem (op := op) (ys := dist [] f) with ⟨h1, h2, h3⟩ | ⟨x, h1, h2⟩ | h1
  ·exact ⟨by rw [Wq_eq, h1]; trivial, by rw [qn_eq, h1]; simp [qns]⟩
  ·rw [h2]
   have hx : x ∈ dist [] f := by rw [h1]; simp
   exact ⟨(el x hx).2, by have := qn_mem hx; omega⟩
  ·rw [h1]
   exact ⟨by rw [Wq_eq]; exact Wqs_iff.2 el, by rw [qn_eq]; show 1 + qns (dist [] f) ≤ _; omega⟩
def qg (g : ByteArray) : T29 := ⟨2, g, []⟩
noncomputable def grS (s : ByteArray) : T29 := putS 3 ((nrm (wins s)).map qg)
noncomputable def quS (l : List ByteArray) : T29 := putS 4 (l.map grS)
theorem qg_W (g : ByteArray) : Wq (qg g) := by simp [qg, Wq, Wqs]
theorem qg_qns : ∀ l : List ByteArray, qns (l.map qg) = l.length
 | [] => rfl
 | g :: l => by rw [List.map_cons, qns, qg_qns l]; simp [qg, qn, qns]; omega
theorem grS_W (s : ByteArray) (hs : s.size ≤ 1000) : Wq (grS s) ∧ qn (grS s) ≤ 1000 := by
 have h := put_W 3 ((nrm (wins s)).map qg) fun q hq => by obtain ⟨g, _, rfl⟩ := List.mem_map.1 hq; exact qg_W g
 refine ⟨h.1, ?_⟩
 have h2 := h.2
 rw [qg_qns] at h2
 have := nrm_len (wins s)
 have hw := wins_len s
 unfold grS
 omega
theorem grS_qns : ∀ l : List ByteArray, (∀ s ∈ l, s.size ≤ 1000) → qns (l.map grS) ≤ 1000 * l.length
 | [], _ => by simp [qns]
 | s :: l, h => by
  have := grS_qns l fun x hx => h x (List.mem_cons_of_mem _ hx)
  have := (grS_W s (h s (by simp))).2
  rw [List.map_cons, qns, List.length_cons]; omega
theorem quS_W (l : List ByteArray) (h : TxS (some l)) : Wq (quS l) ∧ qn (quS l) ≤ 40000 := by
 have hs : ∀ s ∈ l, s.size ≤ 1000 := fun s hs => by have := h.2 s hs; omega
 have hp := put_W 4 (l.map grS) fun q hq => by obtain ⟨s, hs', rfl⟩ := List.mem_map.1 hq; exact (grS_W s (hs s hs')).1
 have := grS_qns l hs
 have := h.1
 exact ⟨hp.1, by have := hp.2; unfold quS; omega⟩
theorem query_ok (l : List ByteArray) (h : TxS (some l)) (b : Bool) : M.a16 ⟨l, b⟩ = some (quS l) := by
 have hll := h.1
 have hs : ∀ s ∈ l, s.size ≤ 1000 := fun s hs => by have := h.2 s hs; omega
 have loop : ∀ (R pre : List ByteArray), l = pre ++ R → M.a6 ((⟨0, (⟨#[]⟩ : ByteArray), ([] : List T29)⟩ : T29), pre.map grS, l, (l.length : Int), (pre.length : Int)) = some (quS l) := by
  intro R
  induction R with
  | nil =>
   intro pre e
   have hp : pre = l := by rw [e]; simp
   have hq := grS_qns l hs
   rw [M.a6]; try dsimp only
   rw [if_neg (by rw [hp]; omega), hp, put_ok 4 (l.map grS) (by omega), bnd]
   rfl
  | cons s R ih =>
   intro pre e
   have hlen : l.length = pre.length + (R.length + 1) := by rw [e]; simp
   have hsz := hs s (by rw [e]; simp)
   have hG := nrm_len (wins s)
   have hw := wins_len s
   have fin : ∀ v : List T29, v = (nrm (wins s)).map qg → (M.ad 3 v >>= fun y84 => if (((pre.map grS) ++ [y84]).length : Int) ≤ 1099511627776 then M.a6 ((⟨0, (⟨#[]⟩ : ByteArray), ([] : List T29)⟩ : T29), ((pre.map grS) ++ [y84]), l, (l.length : Int), wr .i64 ((pre.length : Int) + 1)) else none) = some (quS l) := by
    intro v hv
    rw [hv, put_ok 3 _ (by rw [qg_qns]; omega), bnd, if_pos (by simp; omega), wr_i64 (by omega) (by omega)]
    have := ih (pre ++ [s]) (by rw [e]; simp)
    rw [show (((pre ++ [s]).length : Nat) : Int) = (pre.length : Int) + 1 by simp, List.map_append] at this
    exact this
   have l2 : ∀ (Q qre : List ByteArray), nrm (wins s) = qre ++ Q → M.a15 ((⟨0, (⟨#[]⟩ : ByteArray), ([] : List T29)⟩ : T29), pre.map grS, qre.map qg, l, (l.length : Int), (pre.length : Int), nrm (wins s), ((nrm (wins s)).length : Int), (qre.length : Int)) = some (quS l) := by
    intro Q
    induction Q with
    | nil =>
     intro qre eq
     rw [M.a15]; try dsimp only
     rw [if_neg (by rw [eq]; simp)]
     exact fin _ (by rw [eq, List.append_nil])
    | cons g Q ihq =>
     intro qre eq
     have hl : (nrm (wins s)).length = qre.length + (Q.length + 1) := by rw [eq]; simp
     rw [M.a15]; try dsimp only
     rw [if_pos (by omega), if_pos (by omega), if_pos (by omega), show gi (nrm (wins s)) (qre.length : Int) = g by rw [eq]; exact gi_mid qre g Q, bnd, if_pos (by simp; omega), wr_i64 (x := (qre.length : Int) + 1) (by omega) (by omega)]
     have := ihq (qre ++ [g]) (by rw [eq]; simp)
     rw [show (((qre ++ [g]).length : Nat) : Int) = (qre.length : Int) + 1 by simp, List.map_append] at this
     exact this
   rw [M.a6]; try dsimp only
   rw [if_pos (by omega), if_pos (by omega), if_pos (by omega), show gi l (pre.length : Int) = s by rw [e]; exact gi_mid pre s R, grams_ok s (by omega), bnd, M.a39]; try dsimp only
   cases hn : nrm (wins s) with
   | nil =>
    rw [if_neg (by simp)]
    exact fin [] (by rw [hn]; rfl)
   | cons g G =>
    rw [if_pos (by simp), if_pos (by omega), if_pos (by simp), if_pos (by simp), wr_i64 (x := (0 : Int) + 1) (by omega) (by omega)]
    have := l2 G [g] (by rw [hn]; rfl)
    rw [hn] at this
    exact this
 rw [M.a16]; try dsimp only
 exact loop l [] rfl
def runL (f : T26 → Option (List ByteArray)) (t : List ByteArray) : List T26 → List ByteArray × List T26
 | [] => (t, [])
 | x :: L => match behS (some t) (f x) with
  | none => (t, x :: L)
  | some u => runL f u L
theorem runL_len (f : T26 → Option (List ByteArray)) : ∀ (L : List T26) (t : List ByteArray), ∃ pre, L = pre ++ (runL f t L).2
 | [], t => ⟨[], rfl⟩
 | x :: L, t => by
  rw [runL]
  split
  ·exact ⟨[], rfl⟩
  ·obtain ⟨pre, h⟩ := runL_len f L _
   refine ⟨x :: pre, ?_⟩
   conv => lhs; rw [h]
   rfl
theorem runL_txs (f : T26 → Option (List ByteArray)) : ∀ (L : List T26) (t : List ByteArray), TxS (some t) → TxS (some (runL f t L).1)
 | [], t, h => h
 | x :: L, t, h => by
  rw [runL]
  split
  ·exact h
  ·rename_i u hu
   have := behS_txs (some t) (f x)
   rw [hu] at this
   exact runL_txs f L u this
noncomputable def eachL (f : T26 → Option (List ByteArray)) (g : T26 → T29) : Nat → List T26 → List T29
 | 0, _ => []
 | _ + 1, [] => []
 | n + 1, x :: L => match f x with
  | none => g x :: eachL f g n L
  | some t => quS (runL f t L).1 :: eachL f g n (runL f t L).2
def Q0 : T29 := ⟨0, eS, []⟩
noncomputable def fromS : Nat → T26 → T29
 | 0, _ => Q0
 | d + 1, r => match tellS (d + 1) r with
  | some l => quS l
  | none => if r.Kind = 2 then putS 3 (eachL (tellS d) (fromS d) r.L.length r.L) else if r.Kind = 3 then putS 4 (r.L.map (fromS d)) else if r.Kind = 4 then (if r.Min > 0 then fromS d (gi r.L 0) else Q0) else Q0
theorem Q0_W : Wq Q0 ∧ qn Q0 = 1 := ⟨by simp [Q0, Wq, Wqs], by simp [Q0, qn, qns]⟩
theorem nds_app : ∀ a b : List T26, nds (a ++ b) = nds a + nds b
 | [], b => by simp [nds]
 | x :: a, b => by rw [List.cons_append, nds, nds, nds_app a b]; omega
theorem each_W (f : T26 → Option (List ByteArray)) (hf : ∀ x, TxS (f x)) (g : T26 → T29) : ∀ (n : Nat) (L : List T26), (∀ x ∈ L, Wq (g x) ∧ qn (g x) ≤ 50000 * nd x) → (∀ q ∈ eachL f g n L, Wq q) ∧ qns (eachL f g n L) ≤ 50000 * nds L
 | 0, L, _ => by simp [eachL, qns]
 | n + 1, [], _ => by simp [eachL, qns]
 | n + 1, x :: L, h => by
  have hx := hf x
  have hp := nd_pos x
  rw [eachL]
  cases hfx : f x with
  | none =>
   have ih := each_W f hf g n L fun y hy => h y (List.mem_cons_of_mem _ hy)
   have h1 := h x (by simp)
   refine ⟨fun q hq => ?_, ?_⟩
   ·rcases List.mem_cons.1 hq with rfl | hq
    ·exact h1.1
    ·exact ih.1 q hq
   ·show qns (g x :: eachL f g n L) ≤ _
    rw [qns, nds]; omega
  | some t =>
   rw [hfx] at hx
   obtain ⟨pre, hpre⟩ := runL_len f L t
   have ih := each_W f hf g n (runL f t L).2 fun y hy => h y (by rw [hpre]; simp [hy])
   have h1 := quS_W _ (runL_txs f L t hx)
   have hn : nds L = nds pre + nds (runL f t L).2 := by conv => lhs; rw [hpre, nds_app]
   refine ⟨fun q hq => ?_, ?_⟩
   ·rcases List.mem_cons.1 hq with rfl | hq
    ·exact h1.1
    ·exact ih.1 q hq
   ·show qns (quS (runL f t L).1 :: eachL f g n (runL f t L).2) ≤ _
    rw [qns, nds]; omega
theorem map_W (g : T26 → T29) : ∀ L : List T26, (∀ x ∈ L, Wq (g x) ∧ qn (g x) ≤ 50000 * nd x) → (∀ q ∈ L.map g, Wq q) ∧ qns (L.map g) ≤ 50000 * nds L
 | [], _ => by simp [qns]
 | x :: L, h => by
  have ih := map_W g L fun y hy => h y (List.mem_cons_of_mem _ hy)
  have h1 := h x (by simp)
  refine ⟨fun q hq => ?_, ?_⟩
  ·rw [List.map_cons] at hq
   rcases List.mem_cons.1 hq with rfl | hq
   ·exact h1.1
   ·exact ih.1 q hq
  ·rw [List.map_cons, qns, nds]; omega
theorem from_W : ∀ (d : Nat) (r : T26), r.L.length ≤ 0 ∨ True → Wq (fromS d r) ∧ qn (fromS d r) ≤ 50000 * nd r
 | 0, r, _ => by have := nd_pos r; exact ⟨Q0_W.1, by rw [fromS, Q0_W.2]; omega⟩
 | d + 1, r, _ => by
  have hp := nd_pos r
  have hq0 : Wq Q0 ∧ qn Q0 ≤ 50000 * nd r := ⟨Q0_W.1, by rw [Q0_W.2]; omega⟩
  have sub : ∀ x ∈ r.L, Wq (fromS d x) ∧ qn (fromS d x) ≤ 50000 * nd x := fun x _ => from_W d x (.inr trivial)
  rw [fromS]
  cases ht : tellS (d + 1) r with
  | some l =>
   have hx := tellS_txs (d + 1) r
   rw [ht] at hx
   have := quS_W l hx
   exact ⟨this.1, by show qn (quS l) ≤ _; omega⟩
  | none =>
   show Wq (if r.Kind = 2 then _ else _) ∧ qn (if r.Kind = 2 then _ else _) ≤ _
   have hnd := nd_eq r
   by_cases h2 : r.Kind = 2
   ·rw [if_pos h2]
    have he := each_W (tellS d) (tellS_txs d) (fromS d) r.L.length r.L sub
    have := put_W 3 _ he.1
    exact ⟨this.1, by omega⟩
   ·rw [if_neg h2]
    by_cases h3 : r.Kind = 3
    ·rw [if_pos h3]
     have he := map_W (fromS d) r.L sub
     have := put_W 4 _ he.1
     exact ⟨this.1, by omega⟩
    ·rw [if_neg h3]
     by_cases h4 : r.Kind = 4 ∧ r.Min > 0
     ·rw [if_pos h4.1, if_pos h4.2]
      cases hL : r.L with
      | nil =>
       have := from_W d (gi ([] : List T26) 0) (.inr trivial)
       have e : nd (gi ([] : List T26) 0) = 1 := by decide
       rw [e] at this
       exact ⟨this.1, by omega⟩
      | cons x L =>
       have := from_W d x (.inr trivial)
       rw [hnd, hL, nds]
       exact ⟨this.1, by show qn (fromS d x) ≤ _; omega⟩
     ·by_cases h5 : r.Kind = 4
      ·rw [if_pos h5, if_neg fun h => h4 ⟨h5, h⟩]; exact hq0
      ·rw [if_neg h5]; exact hq0
theorem run_ok (f : T26 → Option (List ByteArray)) (hf : ∀ x, TxS (f x)) (L : List T26) (hL : L.length ≤ 4096) (h : ∀ x ∈ L, M.a3 x = some (tO (f x))) (x : T26) (L' : List T26) (e : L = x :: L') :
  M.a1o L = some (match f x with | none => (tO none, 1) | some t => (tO (some (runL f t L').1), ((L.length - (runL f t L').2.length : Nat) : Int))) := by
 have loop : ∀ (R pre : List T26) (t : List ByteArray), L = pre ++ R → TxS (some t) → M.ae (L, (⟨[], false⟩ : T218), ⟨t, true⟩, (pre.length : Int)) = some (tO (some (runL f t R).1), ((L.length - (runL f t R).2.length : Nat) : Int)) := by
  intro R
  induction R with
  | nil =>
   intro pre t el ht
   rw [M.ae]; try dsimp only
   rw [if_pos rfl, decide_eq_false (by rw [el]; simp), M.a17]; try dsimp only
   rw [if_neg (by decide)]
   simp [runL, tO, el]
  | cons y R ih =>
   intro pre t el ht
   have hlen : L.length = pre.length + (R.length + 1) := by rw [el]; simp
   have hb := behS_txs (some t) (f y)
   rw [M.ae]; try dsimp only
   rw [if_pos rfl, decide_eq_true (by omega), M.a17]; try dsimp only
   rw [if_pos rfl, if_pos (by omega), if_pos (by omega), show gi L (pre.length : Int) = y by rw [el]; exact gi_mid pre y R, eta27, h y (by rw [el]; simp), bnd, show (⟨t, true⟩ : T218) = tO (some t) from rfl, behind_ok _ _ ht.ok (hf y).ok, bnd, M.a3a]; try dsimp only
   rw [runL]
   cases hbe : behS (some t) (f y) with
   | none =>
    rw [if_neg (by simp [tO])]
    show some (tO (some t), (pre.length : Int)) = some (tO (some t), ((L.length - (y :: R).length : Nat) : Int))
    rw [show L.length - (y :: R).length = pre.length by simp; omega]
   | some u =>
    rw [hbe] at hb
    rw [if_pos (show (tO (some u)).known = true from rfl), wr_i64 (by omega) (by omega)]
    have := ih (pre ++ [y]) u (by rw [el]; simp) hb
    rw [show (((pre ++ [y]).length : Nat) : Int) = (pre.length : Int) + 1 by simp] at this
    exact this
 have hx : x ∈ L := by rw [e]; simp
 have hg : gi L 0 = x := by rw [e]; rfl
 have htx := hf x
 rw [M.a1o, if_pos (by rw [e]; simp), hg, eta27, h x hx, bnd]
 cases hfx : f x with
 | none =>
  rw [M.ae]; try dsimp only
  rw [if_neg (by simp [tO]), M.a17]; try dsimp only
  rw [if_neg (by decide)]
  rfl
 | some t =>
  rw [hfx] at htx
  exact loop L' [x] t (by rw [e]; rfl) htx
theorem each_ok (f : T26 → Option (List ByteArray)) (hf : ∀ x, TxS (f x)) (g : T26 → T29) (N : Nat) (hN : N ≤ 1900) : ∀ (n : Nat) (L : List T26) (acc : List T29), L.length ≤ n → (∀ x ∈ L, M.a3 x = some (tO (f x))) → (∀ x ∈ L, M.a5 x = some (g x)) → (∀ x ∈ L, Wq (g x) ∧ qn (g x) ≤ 50000 * nd x) → qns acc + 50000 * nds L ≤ 50000 * N →
  M.an (L, (⟨0, (⟨#[]⟩ : ByteArray), ([] : List T29)⟩ : T29), acc) = some (putS 3 (acc ++ eachL f g n L)) := by
 intro n
 induction n with
 | zero =>
  intro L acc hn h1 h2 h3 hq
  have : L = [] := List.eq_nil_of_length_eq_zero (by omega)
  subst this
  rw [M.an]; try dsimp only
  rw [if_neg (by simp), put_ok 3 acc (by omega), bnd]
  simp [eachL]
 | succ n ih =>
  intro L acc hn h1 h2 h3 hq
  cases L with
  | nil =>
   rw [M.an]; try dsimp only
   rw [if_neg (by simp), put_ok 3 acc (by omega), bnd]
   simp [eachL]
  | cons x L =>
   have hx : x ∈ x :: L := by simp
   have hp := nd_pos x
   have hnl := nds_len L
   have hnds : nds (x :: L) = nd x + nds L := by rw [nds]
   have hal := qns_len acc
   have hL1 : (x :: L).length ≤ 1900 := by simp; omega
   have hlen : ((x :: L).length : Int) = (L.length : Int) + 1 := by simp
   rw [M.an]; try dsimp only
   have hrun := run_ok f hf (x :: L) (by omega) h1 x L rfl
   rw [if_pos (by omega), eachL]
   have htx := hf x
   cases hfx : f x with
   | none =>
    rw [hfx] at hrun
    replace hrun : M.a1o (x :: L) = some (tO none, 1) := hrun
    rw [hrun, bnd]
    show (if (tO none).known = true then _ else _) = _
    rw [if_neg (by simp [tO]), if_pos (by omega), show gi (x :: L) 0 = x from rfl, eta27, h2 x hx, bnd, if_pos (by simp; omega), M.a1p]; try dsimp only
    rw [if_pos (by omega), if_pos (by omega)]
    have es : sl (x :: L) 1 ((x :: L).length : Int) = L := by simp [sl]
    rw [es, ih L (acc ++ [g x]) (by simp at hn; omega) (fun y hy => h1 y (List.mem_cons_of_mem _ hy)) (fun y hy => h2 y (List.mem_cons_of_mem _ hy)) (fun y hy => h3 y (List.mem_cons_of_mem _ hy)) (by rw [qns_append]; simp only [qns]; have := (h3 x hx).2; omega)]
    simp
   | some t =>
    rw [hfx] at htx
    obtain ⟨pre, hpre⟩ := runL_len f L t
    have htr := runL_txs f L t htx
    have hrl : L.length = pre.length + (runL f t L).2.length := by
     conv => lhs; rw [hpre]
     simp
    have hrn : nds L = nds pre + nds (runL f t L).2 := by conv => lhs; rw [hpre, nds_app]
    have hsub : ∀ y ∈ (runL f t L).2, y ∈ x :: L := fun y hy => List.mem_cons_of_mem _ (by rw [hpre]; simp [hy])
    have hsz : (x :: L).length - (runL f t L).2.length = pre.length + 1 := by simp; omega
    rw [hfx] at hrun
    replace hrun : M.a1o (x :: L) = some (tO (some (runL f t L).1), (((x :: L).length - (runL f t L).2.length : Nat) : Int)) := hrun
    rw [hsz] at hrun
    rw [hrun, bnd]
    show (if (tO (some (runL f t L).1)).known = true then _ else _) = _
    rw [if_pos (show (tO (some (runL f t L).1)).known = true from rfl)]
    show (M.a16 ⟨(runL f t L).1, true⟩ >>= _) = _
    rw [query_ok _ htr, bnd, if_pos (by simp; omega), M.a1p]; try dsimp only
    rw [if_pos (by omega), if_pos (by simp; omega)]
    have es : sl (x :: L) ((pre.length + 1 : Nat) : Int) ((x :: L).length : Int) = (runL f t L).2 := by
     simp only [sl, Int.toNat_natCast, List.take_length, List.drop_succ_cons]
     conv => lhs; rw [hpre]
     simp
    have hqw := quS_W _ htr
    rw [es, ih (runL f t L).2 (acc ++ [quS (runL f t L).1]) (by simp at hn; omega) (fun y hy => h1 y (hsub y hy)) (fun y hy => h2 y (hsub y hy)) (fun y hy => h3 y (hsub y hy)) (by rw [qns_append]; simp only [qns]; omega)]
    simp
theorem from_ok (d : Nat) : ∀ r : T26, Rt d r → nd r ≤ 1900 → M.a5 r = some (fromS d r) := by
 induction d with
 | zero => intro r h; exact absurd h id
 | succ d ih =>
  intro r hr hn
  have ht := tell_ok (d + 1) r hr (by omega)
  have hnd := nd_eq r
  have hll := nds_len r.L
  have s1 : ∀ x ∈ r.L, M.a3 x = some (tO (tellS d x)) := fun x hx => tell_ok d x (hr.2.2 x hx) (by have := nd_mem hx; omega)
  have s2 : ∀ x ∈ r.L, M.a5 x = some (fromS d x) := fun x hx => ih x (hr.2.2 x hx) (by have := nd_mem hx; omega)
  have s3 : ∀ x ∈ r.L, Wq (fromS d x) ∧ qn (fromS d x) ≤ 50000 * nd x := fun x _ => from_W d x (.inr trivial)
  have htx := tellS_txs (d + 1) r
  rw [M.a5]; try dsimp only
  rw [ht, bnd, fromS]
  cases htl : tellS (d + 1) r with
  | some l =>
   rw [htl] at htx
   rw [if_pos (show (tO (some l)).known = true from rfl)]
   show (M.a16 ⟨l, true⟩ >>= _) = _
   rw [query_ok l htx, bnd]
  | none =>
   rw [if_neg (by simp [tO])]
   show _ = some (if r.Kind = 2 then _ else _)
   by_cases h2 : r.Kind = 2
   ·rw [if_pos h2, if_pos h2, M.a3b]; try dsimp only
    rw [each_ok (tellS d) (tellS_txs d) (fromS d) 1900 (by omega) r.L.length r.L [] (Nat.le_refl _) s1 s2 s3 (by simp only [qns]; omega), bnd, List.nil_append]
   rw [if_neg h2, if_neg h2]
   by_cases h3 : r.Kind = 3
   ·rw [if_pos h3, if_pos h3]
    have loop : ∀ (R pre : List T26), r.L = pre ++ R → M.a18 ((⟨0, (⟨#[]⟩ : ByteArray), ([] : List T29)⟩ : T29), pre.map (fromS d), r.L, (r.L.length : Int), (pre.length : Int)) = some (putS 4 (r.L.map (fromS d))) := by
     intro R
     induction R with
     | nil =>
      intro pre e
      have hm := map_W (fromS d) r.L s3
      rw [M.a18]; try dsimp only
      rw [if_neg (by rw [e]; simp), show pre = r.L by rw [e]; simp, put_ok 4 _ (by omega), bnd]
     | cons x R ihR =>
      intro pre e
      have hlen : r.L.length = pre.length + (R.length + 1) := by rw [e]; simp
      rw [M.a18]; try dsimp only
      rw [if_pos (by omega), if_pos (by omega), if_pos (by omega), show gi r.L (pre.length : Int) = x by rw [e]; exact gi_mid pre x R, eta27, s2 x (by rw [e]; simp), bnd, if_pos (by simp; omega), wr_i64 (by omega) (by omega)]
      have := ihR (pre ++ [x]) (by rw [e]; simp)
      rw [show (((pre ++ [x]).length : Nat) : Int) = (pre.length : Int) + 1 by simp, List.map_append] at this
      exact this
    exact loop r.L [] rfl
   rw [if_neg h3, if_neg h3]
   by_cases h4 : r.Kind = 4
   ·rw [if_pos h4, if_pos h4]
    by_cases h5 : r.Min > 0
    ·rcases hr.1 with ⟨h, _⟩ | ⟨h | h, _⟩ | ⟨_, ⟨x, hL⟩, _⟩
     ·omega
     ·omega
     ·omega
     rw [if_pos h5, if_pos h5, if_pos (by rw [hL]; simp), show gi r.L 0 = x by rw [hL]; rfl, eta27, s2 x (by rw [hL]; simp), bnd]
    ·rw [if_neg h5, if_neg h5]; rfl
   ·rw [if_neg h4, if_neg h4]; rfl
def QD : Nat → T29 → Prop
 | 0, _ => False
 | d + 1, q => ∀ x ∈ q.L, QD d x
theorem QD.mono : ∀ {d e : Nat} {q : T29}, QD d q → d ≤ e → QD e q
 | 0, _, _, h, _ => absurd h id
 | d + 1, 0, _, _, he => by omega
 | d + 1, e + 1, q, h, he => fun x hx => (h x hx).mono (by omega)
mutual
def Rq : T29 → Prop
 | ⟨o, t, L⟩ => ((o = 0 ∨ o = 1) ∧ t = eS ∧ L = []) ∨ (o = 2 ∧ t.size = 3 ∧ L = []) ∨ ((o = 3 ∨ o = 4) ∧ t = eS ∧ Rqs L)
def Rqs : List T29 → Prop
 | [] => True
 | x :: xs => Rq x ∧ Rqs xs
end
theorem Rqs_iff : ∀ {L : List T29}, Rqs L ↔ ∀ x ∈ L, Rq x
 | [] => by simp [Rqs]
 | x :: xs => by rw [Rqs, Rqs_iff (L := xs)]; simp
theorem Rq_eq (q : T29) : Rq q ↔ ((q.Op = 0 ∨ q.Op = 1) ∧ q.Text = eS ∧ q.L = []) ∨ (q.Op = 2 ∧ q.Text.size = 3 ∧ q.L = []) ∨ ((q.Op = 3 ∨ q.Op = 4) ∧ q.Text = eS ∧ ∀ x ∈ q.L, Rq x) := by
 cases q
 rw [Rq, Rqs_iff]
theorem eq_eS (t : ByteArray) : ((t.toList == (⟨#[]⟩ : ByteArray).toList) = true) ↔ t = eS := by rw [eqS, decide_eq_true_eq]; rfl
theorem qright_ok (n : Nat) : ∀ q : T29, qn q ≤ n → qn q ≤ 100000 → M.a1b q = some (decide (Rq q)) := by
 induction n with
 | zero => intro q h; have := qn_pos q; omega
 | succ n ih =>
  intro q hn hq
  have hqe := qn_eq q
  have hll := qns_len q.L
  have hL0 : ((q.L.length : Int) = 0) ↔ q.L = [] := by
   constructor
   ·intro h; exact List.eq_nil_of_length_eq_zero (by omega)
   ·intro h; rw [h]; rfl
  have e01 : (if q.Op = 0 then M.ao (q, q.Op, true) else M.ao (q, q.Op, decide (q.Op = 1))) = M.ao (q, q.Op, decide (q.Op = 0 ∨ q.Op = 1)) := by
   by_cases h : q.Op = 0
   ·rw [if_pos h]; simp [h]
   ·rw [if_neg h]; simp [h]
  rw [M.a1b]; try dsimp only
  rw [e01, M.ao]; try dsimp only
  have hR := Rq_eq q
  by_cases h01 : q.Op = 0 ∨ q.Op = 1
  ·rw [decide_eq_true h01, if_pos rfl]
   by_cases ht : q.Text = eS
   ·rw [if_pos ((eq_eS _).2 ht)]
    congr 1
    rw [decide_eq_decide, hL0, hR]
    constructor
    ·intro h; exact .inl ⟨h01, ht, h⟩
    ·rintro (h | h | h)
     ·exact h.2.2
     ·omega
     ·omega
   ·rw [if_neg (fun h => ht ((eq_eS _).1 h)), decide_eq_false]
    rw [hR]
    rintro (h | h | h)
    ·exact ht h.2.1
    ·omega
    ·omega
  ·rw [decide_eq_false h01, if_neg (by decide)]
   by_cases h2 : q.Op = 2
   ·rw [if_pos h2]
    by_cases ht : (q.Text.size : Int) = 3
    ·rw [if_pos ht]
     congr 1
     rw [decide_eq_decide, hL0, hR]
     constructor
     ·intro h; exact .inr (.inl ⟨h2, by omega, h⟩)
     ·rintro (h | h | h)
      ·omega
      ·exact h.2.2
      ·omega
    ·rw [if_neg ht, decide_eq_false]
     rw [hR]
     rintro (h | h | h)
     ·omega
     ·exact ht (by rw [h.2.1]; rfl)
     ·omega
   ·rw [if_neg h2]
    have e34 : (if q.Op = 3 then M.ap (q, true) else M.ap (q, decide (q.Op = 4))) = M.ap (q, decide (q.Op = 3 ∨ q.Op = 4)) := by
     by_cases h : q.Op = 3
     ·rw [if_pos h]; simp [h]
     ·rw [if_neg h]; simp [h]
    rw [e34, M.ap]; try dsimp only
    by_cases h34 : q.Op = 3 ∨ q.Op = 4
    ·rw [decide_eq_true h34, if_pos rfl]
     by_cases ht : q.Text = eS
     ·rw [if_pos ((eq_eS _).2 ht)]
      have loop : ∀ (R pre : List T29), q.L = pre ++ R → ∃ j : Int, M.a1c (q.L, (q.L.length : Int), (pre.length : Int)) = some j ∧ (0 ≤ j ↔ ¬ ∀ x ∈ R, Rq x) := by
       intro R
       induction R with
       | nil =>
        intro pre e
        rw [M.a1c]; try dsimp only
        rw [if_neg (by rw [e]; simp)]
        exact ⟨-1, rfl, by simp⟩
       | cons x R ihR =>
        intro pre e
        have hlen : q.L.length = pre.length + (R.length + 1) := by rw [e]; simp
        have hx : x ∈ q.L := by rw [e]; simp
        have hqx := qn_mem hx
        rw [M.a1c]; try dsimp only
        rw [if_pos (by omega), if_pos (by omega), if_pos (by omega), show gi q.L (pre.length : Int) = x by rw [e]; exact gi_mid pre x R, M.a3e, ih x (by omega) (by omega), bnd, bnd]
        by_cases hr : Rq x
        ·rw [decide_eq_true hr, if_neg (by decide), wr_i64 (by omega) (by omega)]
         obtain ⟨j, g1, g2⟩ := ihR (pre ++ [x]) (by rw [e]; simp)
         rw [show (((pre ++ [x]).length : Nat) : Int) = (pre.length : Int) + 1 by simp] at g1
         exact ⟨j, g1, by rw [g2]; simp [hr]⟩
        ·rw [decide_eq_false hr, if_pos (by decide)]
         exact ⟨_, rfl, by simp only [List.forall_mem_cons, hr, false_and, not_false_eq_true, iff_true]; omega⟩
      obtain ⟨j, g1, g2⟩ := loop q.L [] rfl
      rw [show ((([] : List T29).length : Nat) : Int) = 0 from rfl] at g1
      rw [M.a3c, M.a3d, g1, bnd, bnd]
      congr 1
      by_cases hall : ∀ x ∈ q.L, Rq x
      ·have hj : ¬ j ≥ 0 := fun h => (g2.1 h) hall
       rw [decide_eq_false hj, decide_eq_true (hR.2 (.inr (.inr ⟨h34, ht, hall⟩)))]
       rfl
      ·have hj : j ≥ 0 := g2.2 hall
       rw [decide_eq_true hj, decide_eq_false]
       ·rfl
       ·rw [hR]
        rintro (h | h | h)
        ·omega
        ·omega
        ·exact hall h.2.2
     ·rw [if_neg (fun h => ht ((eq_eS _).1 h)), decide_eq_false]
      rw [hR]
      rintro (h | h | h)
      ·omega
      ·omega
      ·exact ht h.2.1
    ·rw [decide_eq_false h34, if_neg (by decide), decide_eq_false]
     rw [hR]
     rintro (h | h | h)
     ·exact h01 h.1
     ·exact h2 h.1
     ·exact h34 h.1
theorem cut_ok (left : Nat) : left ≤ 130 → ∀ (r : T26) (b : Int), (∀ e, Fit e r) → 1 ≤ b → b ≤ 100 → ∃ (o : T26) (b' : Int), M.a1s (r, (left : Int), b) = some (o, b') ∧ 0 ≤ b' ∧ b' ≤ b - nd o ∧ Dp (left + 1) o ∧ ∀ e, Fit e o := by
 induction left with
 | zero =>
  intro hl r b hf h1 h2
  refine ⟨⟨r.Kind, r.Set, [], r.Min, r.Max⟩, b - 1, ?_, by omega, by rw [nd_eq, nds]; omega, by simp [Dp], fun e => ?_⟩
  ·rw [M.a1s]; try dsimp only
   rw [wr_i64 (by omega) (by omega), M.a1t]; try dsimp only
   have l1 : M.a1d (0, r, ⟨0, [0, 0, 0, 0], [], 0, 0⟩, ⟨r.Kind, r.Set, [], r.Min, r.Max⟩, 0, false, b - 1) = some (⟨r.Kind, r.Set, [], r.Min, r.Max⟩, b - 1) := by
    rw [M.a1d]; try dsimp only
    rw [if_neg (by decide)]
   by_cases hL : (0 : Int) < (r.L.length : Int)
   ·rw [if_pos hL, if_neg (by omega)]; exact l1
   ·rw [if_neg hL]; exact l1
  ·cases e with
   | zero => trivial
   | succ e => exact ⟨(hf 1).1, by simp, by simp⟩
 | succ left ih =>
  intro hl r b hf h1 h2
  have hS := (hf 1).1
  have hlen := (hf 1).2.1
  have loop : ∀ (R pre : List T26) (acc : T26) (c : Int), r.L = pre ++ R → 0 ≤ c → c + (acc.L.length : Int) ≤ 100 →
    ∃ (ys : List T26) (c' : Int), M.a1t (((left + 1 : Nat) : Int), r, ⟨0, [0, 0, 0, 0], [], 0, 0⟩, acc, (pre.length : Int), c) = some (⟨acc.Kind, acc.Set, acc.L ++ ys, acc.Min, acc.Max⟩, c') ∧ 0 ≤ c' ∧ c' ≤ c - nds ys ∧ (∀ y ∈ ys, Dp (left + 1) y) ∧ (acc.L ++ ys).length ≤ 100 ∧ ∀ e, ∀ y ∈ ys, Fit e y := by
   intro R
   induction R with
   | nil =>
    intro pre acc c e hc ha
    refine ⟨[], c, ?_, hc, by rw [nds]; omega, by simp, by simp; omega, by simp⟩
    rw [M.a1t]; try dsimp only
    rw [if_neg (by rw [e]; simp), M.a1d]; try dsimp only
    rw [if_neg (by decide), List.append_nil, eta27]
   | cons x R ihR =>
    intro pre acc c e hc ha
    have hl2 : r.L.length = pre.length + (R.length + 1) := by rw [e]; simp
    have hx : x ∈ r.L := by rw [e]; simp
    rw [M.a1t]; try dsimp only
    rw [if_pos (by omega), if_pos (by omega)]
    by_cases hc0 : c > 0
    ·rw [decide_eq_true hc0, M.a1d]; try dsimp only
     obtain ⟨o, c1, k1, k2, k3, k4, k5⟩ := ih (by omega) x c (fun e' => (hf (e' + 1)).2.2 x hx) (by omega) (by omega)
     have hno := nd_pos o
     rw [if_pos rfl, if_pos (by omega), if_pos (by omega), show gi r.L (pre.length : Int) = x by rw [e]; exact gi_mid pre x R, eta27, wr_i64 (x := ((left + 1 : Nat) : Int) - 1) (by omega) (by omega), show ((left + 1 : Nat) : Int) - 1 = (left : Int) by omega, k1, bnd]; try dsimp only
     rw [if_pos (by simp; omega), wr_i64 (by omega) (by omega)]
     obtain ⟨ys, c2, g1, g2, g3, g4, g5, g6⟩ := ihR (pre ++ [x]) ⟨acc.Kind, acc.Set, acc.L ++ [o], acc.Min, acc.Max⟩ c1 (by rw [e]; simp) k2 (by simp; omega)
     rw [show (((pre ++ [x]).length : Nat) : Int) = (pre.length : Int) + 1 by simp] at g1
     refine ⟨o :: ys, c2, ?_, g2, by rw [nds]; omega, fun y hy => ?_, by simpa using g5, fun e' y hy => ?_⟩
     ·rw [g1]; simp
     ·rcases List.mem_cons.1 hy with rfl | hy
      ·exact k4
      ·exact g4 y hy
     ·rcases List.mem_cons.1 hy with rfl | hy
      ·exact k5 e'
      ·exact g6 e' y hy
    ·rw [decide_eq_false hc0, M.a1d]; try dsimp only
     refine ⟨[], c, ?_, hc, by rw [nds]; omega, by simp, by simp; omega, by simp⟩
     rw [if_neg (by decide), List.append_nil, eta27]
  obtain ⟨ys, c', g1, g2, g3, g4, g5, g6⟩ := loop r.L [] ⟨r.Kind, r.Set, [], r.Min, r.Max⟩ (b - 1) rfl (by omega) (by simp; omega)
  refine ⟨⟨r.Kind, r.Set, ys, r.Min, r.Max⟩, c', ?_, g2, by rw [nd_eq]; push_cast; omega, g4, fun e => ?_⟩
  ·rw [M.a1s]; try dsimp only
   rw [wr_i64 (by omega) (by omega)]
   have g1' : M.a1t (((left + 1 : Nat) : Int), r, ⟨0, [0, 0, 0, 0], [], 0, 0⟩, ⟨r.Kind, r.Set, [], r.Min, r.Max⟩, 0, b - 1) = _ := g1
   rw [g1']
   rfl
  ·cases e with
   | zero => trivial
   | succ e => exact ⟨hS, by simp at g5; show ys.length ≤ _; omega, fun y hy => g6 e y hy⟩
theorem some_ok (r : T26) (hf : ∀ e, Fit e r) : ∃ o : T26, M.a4t r = some o ∧ (∀ e, Fit e o) ∧ Dp 11 o ∧ nd o ≤ 40 := by
 obtain ⟨o, b', k1, k2, k3, k4, k5⟩ := cut_ok 10 (by omega) r 40 hf (by omega) (by omega)
 have k1' : M.a1s (r, 10, 40) = some (o, b') := k1
 exact ⟨o, by rw [M.a4t, k1', bnd], k5, k4, by omega⟩
theorem sless_eq (x y : ByteArray) : M.a5d x y = some (decide (Tl x < Tl y)) := by
 rw [M.a5d, M.a5c, bnd, if_neg (by simp), lessS]
theorem halfS (lo hi : Nat) (h : lo < hi) (hb : hi ≤ 1073741824) : wr .i64 (ishr .u64 (wr .u64 (wr .i64 ((lo : Int) + (hi : Int)))) 1) = (((lo + hi) / 2 : Nat) : Int) := by
 have e1 : wr .i64 ((lo : Int) + (hi : Int)) = (lo : Int) + hi := wr_i64 (by omega) (by omega)
 have e2 : wr .u64 ((lo : Int) + (hi : Int)) = (lo : Int) + hi := by
  simp only [wr, IntKind.wrap, IntKind.signed, IntKind.bits]
  simp
  omega
 rw [e1, e2]
 have : ishr .u64 ((lo : Int) + (hi : Int)) 1 = (((lo + hi) / 2 : Nat) : Int) := by
  show Int.fdiv _ _ = _
  have e : (2 : Int) ^ (min (Int.toNat 1) IntKind.u64.bits) = 2 := by decide
  rw [e, Int.fdiv_eq_ediv_of_nonneg _ (by omega)]
  omega
 rw [this, wr_i64 (by omega) (by omega)]
theorem sltT {a b c : ByteArray} (h : Tl a < Tl b) (k : Tl b < Tl c) : Tl a < Tl c := List.lt_trans h k
theorem sltI (a : ByteArray) : ¬ Tl a < Tl a := List.lt_irrefl _
theorem ssearch_l0 (xs : List ByteArray) (x : ByteArray) (hr : RzS xs) (hl : xs.length ≤ 1073741824) (k : Nat) : ∀ lo hi : Nat, lo ≤ hi → hi ≤ xs.length → hi - lo ≤ k → (∀ i (h : i < xs.length), i < lo → Tl xs[i] < Tl x) → (∀ i (h : i < xs.length), hi ≤ i → ¬ Tl xs[i] < Tl x) →
  ∃ p, M.a2o (xs, x, (xs.length : Int), (lo : Int), (hi : Int)) = some (p, decide (x ∈ xs)) := by
 induction k with
 | zero =>
  intro lo hi h1 h2 h3 h4 h5
  have : hi = lo := by omega
  subst this
  rw [M.a2o]; try dsimp only
  rw [if_neg (by omega)]
  by_cases hlt : hi < xs.length
  ·rw [if_pos (by omega), if_pos (by omega), if_pos (by omega), gi_nat xs hi hlt]
   by_cases h : xs[hi] = x
   ·rw [if_pos (by rw [eqS, decide_eq_true h])]
    exact ⟨_, by rw [decide_eq_true (h ▸ List.getElem_mem hlt)]⟩
   ·rw [if_neg (by rw [eqS, decide_eq_false h]; decide)]
    refine ⟨(hi : Int), ?_⟩
    have hn : x ∉ xs := by
     intro hm
     obtain ⟨i, hi', e⟩ := List.getElem_of_mem hm
     subst e
     by_cases hc : i < hi
     ·exact sltI _ (h4 i hi' hc)
     ·have hne : hi ≠ i := by rintro rfl; exact h rfl
      exact h5 hi hlt (by omega) (List.pairwise_iff_getElem.1 hr hi i hlt hi' (by omega))
    rw [M.a5e, bnd, if_neg (by simp), decide_eq_false hn]
  ·rw [if_neg (by omega)]
   refine ⟨(hi : Int), ?_⟩
   have hn : x ∉ xs := by
    intro hm
    obtain ⟨i, hi', e⟩ := List.getElem_of_mem hm
    subst e
    exact sltI _ (h4 i hi' (by omega))
   rw [decide_eq_false hn]
 | succ k ih =>
  intro lo hi h1 h2 h3 h4 h5
  by_cases hlt : lo < hi
  ·have hm := halfS lo hi hlt (by omega)
   have hmid : (lo + hi) / 2 < xs.length := by omega
   rw [M.a2o]; try dsimp only
   rw [if_pos (by omega), hm, if_pos (by omega), if_pos (by omega), bnd, gi_nat xs _ hmid, sless_eq, bnd]
   by_cases h : Tl xs[(lo + hi) / 2] < Tl x
   ·rw [if_pos (decide_eq_true h), M.a4i]; try dsimp only
    rw [wr_i64 (by omega) (by omega), show (((lo + hi) / 2 : Nat) : Int) + 1 = (((lo + hi) / 2 + 1 : Nat) : Int) by omega]
    refine ih _ _ (by omega) h2 (by omega) (fun i hi' hc => ?_) h5
    by_cases e : i = (lo + hi) / 2
    ·subst e; exact h
    ·exact sltT (List.pairwise_iff_getElem.1 hr i ((lo + hi) / 2) hi' hmid (by omega)) h
   ·rw [if_neg (by rw [decide_eq_false h]; decide), M.a4i]; try dsimp only
    refine ih _ _ (by omega) (by omega) (by omega) h4 (fun i hi' hc => ?_)
    by_cases e : i = (lo + hi) / 2
    ·subst e; exact h
    ·exact fun h6 => h (sltT (List.pairwise_iff_getElem.1 hr ((lo + hi) / 2) i hmid hi' (by omega)) h6)
  ·exact ih lo hi h1 h2 (by omega) h4 h5
theorem ssearch (xs : List ByteArray) (x : ByteArray) (hr : RzS xs) (hl : xs.length ≤ 1073741824) : ∃ p, M.a5f xs x = some (p, decide (x ∈ xs)) := by
 rw [M.a5f]
 exact ssearch_l0 xs x hr hl xs.length 0 xs.length (by omega) (by omega) (by omega) (by intro i _ h; omega) (by intro i h h'; omega)
mutual
def FT (g : List ByteArray) : T29 → Prop
 | ⟨o, t, L⟩ => (o = 2 ∧ t ∈ g) ∨ (o = 3 ∧ FTall g L) ∨ (o = 4 ∧ FTany g L) ∨ o = 0
def FTall (g : List ByteArray) : List T29 → Prop
 | [] => True
 | x :: xs => FT g x ∧ FTall g xs
def FTany (g : List ByteArray) : List T29 → Prop
 | [] => False
 | x :: xs => FT g x ∨ FTany g xs
end
theorem FTall_iff {g : List ByteArray} : ∀ {L : List T29}, FTall g L ↔ ∀ x ∈ L, FT g x
 | [] => by simp [FTall]
 | x :: xs => by rw [FTall, FTall_iff (L := xs)]; simp
theorem FTany_iff {g : List ByteArray} : ∀ {L : List T29}, FTany g L ↔ ∃ x ∈ L, FT g x
 | [] => by simp [FTany]
 | x :: xs => by rw [FTany, FTany_iff (L := xs)]; simp
theorem FT_eq (g : List ByteArray) (q : T29) : FT g q ↔ (q.Op = 2 ∧ q.Text ∈ g) ∨ (q.Op = 3 ∧ ∀ x ∈ q.L, FT g x) ∨ (q.Op = 4 ∧ ∃ x ∈ q.L, FT g x) ∨ q.Op = 0 := by
 cases q
 rw [FT, FTall_iff, FTany_iff]
theorem fits_ok (g : List ByteArray) (hg : RzS g) (hl : g.length ≤ 1073741824) (n : Nat) : ∀ q : T29, qn q ≤ n → qn q ≤ 1000000 → M.a2p (q, g) = some (decide (FT g q)) := by
 induction n with
 | zero => intro q h; have := qn_pos q; omega
 | succ n ih =>
  intro q hn hb
  have hq := qn_eq q
  have hll := qns_len q.L
  have ch : ∀ x ∈ q.L, M.a2p (x, g) = some (decide (FT g x)) := fun x hx => by
   have := qn_mem hx
   exact ih x (by omega) (by omega)
  have all : ∀ (R pre : List T29), q.L = pre ++ R → (∀ x ∈ pre, FT g x) → ∃ j : Int, M.a2q (q.L, (q.L.length : Int), (pre.length : Int), g) = some j ∧ decide (j ≥ 0) = !decide (∀ x ∈ q.L, FT g x) := by
   intro R
   induction R with
   | nil =>
    intro pre e hp
    rw [List.append_nil] at e
    refine ⟨-1, ?_, ?_⟩
    ·rw [M.a2q]; try dsimp only
     rw [if_neg (by rw [e]; omega)]
    ·rw [decide_eq_true (e ▸ hp : ∀ x ∈ q.L, FT g x)]; rfl
   | cons x R ihR =>
    intro pre e hp
    have hlen : q.L.length = pre.length + (R.length + 1) := by rw [e]; simp
    have hx : x ∈ q.L := by rw [e]; simp
    rw [M.a2q]; try dsimp only
    rw [if_pos (by omega), if_pos (by omega), if_pos (by omega), show gi q.L (pre.length : Int) = x by rw [e]; exact gi_mid pre x R, M.a68]; try dsimp only
    rw [M.a4j]; try dsimp only
    rw [ch x hx, bnd, bnd, bnd]
    by_cases hf : FT g x
    ·rw [decide_eq_true hf, if_neg (by decide), wr_i64 (by omega) (by omega), show (pre.length : Int) + 1 = (((pre ++ [x]).length : Nat) : Int) by simp]
     exact ihR (pre ++ [x]) (by rw [e]; simp) fun y hy => by
      rcases List.mem_append.1 hy with hy | hy
      ·exact hp y hy
      ·rw [List.mem_singleton.1 hy]; exact hf
    ·rw [decide_eq_false hf, if_pos (by decide)]
     refine ⟨_, rfl, ?_⟩
     rw [decide_eq_true (by omega), decide_eq_false (fun h => hf (h x hx))]; rfl
  have any : ∀ (R pre : List T29), q.L = pre ++ R → (∀ x ∈ pre, ¬ FT g x) → ∃ j : Int, M.a2r (q.L, (q.L.length : Int), (pre.length : Int), g) = some j ∧ decide (j ≥ 0) = decide (∃ x ∈ q.L, FT g x) := by
   intro R
   induction R with
   | nil =>
    intro pre e hp
    rw [List.append_nil] at e
    refine ⟨-1, ?_, ?_⟩
    ·rw [M.a2r]; try dsimp only
     rw [if_neg (by rw [e]; omega)]
    ·rw [decide_eq_false (show ¬ ∃ x ∈ q.L, FT g x from fun ⟨x, hx, h⟩ => hp x (e ▸ hx) h)]; rfl
   | cons x R ihR =>
    intro pre e hp
    have hlen : q.L.length = pre.length + (R.length + 1) := by rw [e]; simp
    have hx : x ∈ q.L := by rw [e]; simp
    rw [M.a2r]; try dsimp only
    rw [if_pos (by omega), if_pos (by omega), if_pos (by omega), show gi q.L (pre.length : Int) = x by rw [e]; exact gi_mid pre x R, M.a4j]; try dsimp only
    rw [ch x hx, bnd, bnd]
    by_cases hf : FT g x
    ·rw [decide_eq_true hf, if_pos rfl]
     refine ⟨_, rfl, ?_⟩
     rw [decide_eq_true (by omega), decide_eq_true ⟨x, hx, hf⟩]
    ·rw [decide_eq_false hf, if_neg (by decide), wr_i64 (by omega) (by omega), show (pre.length : Int) + 1 = (((pre ++ [x]).length : Nat) : Int) by simp]
     exact ihR (pre ++ [x]) (by rw [e]; simp) fun y hy => by
      rcases List.mem_append.1 hy with hy | hy
      ·exact hp y hy
      ·rw [List.mem_singleton.1 hy]; exact hf
  have fe := FT_eq g q
  rw [M.a2p]; try dsimp only
  by_cases o2 : q.Op = 2
  ·obtain ⟨p, hp⟩ := ssearch g q.Text hg hl
   rw [if_pos o2, hp, bnd]
   have : FT g q ↔ q.Text ∈ g := by rw [fe]; simp [o2]
   simp only [this]
  rw [if_neg o2]
  by_cases o3 : q.Op = 3
  ·obtain ⟨j, hj, he⟩ := all q.L [] rfl (by simp)
   rw [if_pos o3, M.a65]; try dsimp only
   rw [M.a67]; try dsimp only
   have hj' : M.a2q (q.L, (q.L.length : Int), 0, g) = some j := hj
   rw [hj', bnd, bnd, he]
   have : FT g q ↔ ∀ x ∈ q.L, FT g x := by rw [fe]; simp [o3]
   simp only [this, Bool.not_not]
  rw [if_neg o3]
  by_cases o4 : q.Op = 4
  ·obtain ⟨j, hj, he⟩ := any q.L [] rfl (by simp)
   rw [if_pos o4, M.a66]; try dsimp only
   rw [M.a69]; try dsimp only
   have hj' : M.a2r (q.L, (q.L.length : Int), 0, g) = some j := hj
   rw [hj', bnd, bnd, he]
   have : FT g q ↔ ∃ x ∈ q.L, FT g x := by rw [fe]; simp [o4]
   simp only [this]
  rw [if_neg o4]
  have : FT g q ↔ q.Op = 0 := by rw [fe]; simp [o2, o3, o4]
  simp only [this]
theorem wins_small (s : ByteArray) (hs : s.size ≤ 1000000) : (nrm (wins s)).length ≤ 1073741824 := by
 have := nrm_len (wins s)
 rw [wins_len] at this
 omega
def Hs (l : List Int) (b : Int) : Prop := M.a8 l b = some true
def Rep (P : List Int → Prop) : Nat → List Int → Prop
 | 0, w => w = []
 | n + 1, w => ∃ u v, w = u ++ v ∧ P u ∧ Rep P n v
mutual
def Lg : T26 → List Int → Prop
 | ⟨k, set, L, mn, mx⟩, w =>
  (k = 1 ∧ ∃ b, w = [b] ∧ Hs set b) ∨ (k = 2 ∧ LgAll L w) ∨ (k = 3 ∧ LgAny L w) ∨
  (k = 4 ∧ ∃ n : Nat, mn ≤ n ∧ (mx < 0 ∨ (n : Int) ≤ mx) ∧ Rep (fun w => LgHd L w) n w)
def LgAll : List T26 → List Int → Prop
 | [], w => w = []
 | x :: xs, w => ∃ u v, w = u ++ v ∧ Lg x u ∧ LgAll xs v
def LgAny : List T26 → List Int → Prop
 | [], _ => False
 | x :: xs, w => Lg x w ∨ LgAny xs w
def LgHd : List T26 → List Int → Prop
 | [], _ => False
 | x :: _, w => Lg x w
end
theorem Rep.add {P : List Int → Prop} : ∀ {m n : Nat} {w : List Int}, Rep P (m + n) w ↔ ∃ u v, w = u ++ v ∧ Rep P m u ∧ Rep P n v
 | 0, n, w => by
  rw [Nat.zero_add]
  constructor
  ·intro h
   exact ⟨[], w, rfl, rfl, h⟩
  ·rintro ⟨u, v, rfl, hu, h⟩
   cases (show u = [] from hu)
   exact h
 | m + 1, n, w => by
  rw [show m + 1 + n = (m + n) + 1 by omega]
  constructor
  ·rintro ⟨u, v, rfl, hu, h⟩
   obtain ⟨u', v', rfl, h1, h2⟩ := Rep.add.1 h
   exact ⟨u ++ u', v', by rw [List.append_assoc], ⟨u, u', rfl, hu, h1⟩, h2⟩
  ·rintro ⟨u, v, rfl, ⟨u1, u2, rfl, h1, h2⟩, h⟩
   exact ⟨u1, u2 ++ v, by rw [List.append_assoc], h1, Rep.add.2 ⟨u2, v, rfl, h2, h⟩⟩
inductive Ac (l : List T174) : Nat → List Int → Nat → Prop
 | fin {k : Nat} {z : List Int} {x y : Int} : l[k]? = some ⟨3, z, x, y⟩ → Ac l 0 [] k
 | byte {k m : Nat} {w z : List Int} {b x y : Int} : l[k]? = some ⟨1, z, x, y⟩ → Hs z b → Ac l m w x.toNat → Ac l (m + 1) (b :: w) k
 | jump {k m : Nat} {w z : List Int} {x y : Int} : l[k]? = some ⟨4, z, x, y⟩ → Ac l m w x.toNat → Ac l (m + 1) w k
 | left {k m : Nat} {w z : List Int} {x y : Int} : l[k]? = some ⟨2, z, x, y⟩ → Ac l m w x.toNat → Ac l (m + 1) w k
 | right {k m : Nat} {w z : List Int} {x y : Int} : l[k]? = some ⟨2, z, x, y⟩ → Ac l m w y.toNat → Ac l (m + 1) w k
inductive Pa
 | of (r : T26)
 | lp (r : T26)
 | ph (r : T26)
mutual
inductive Cd : T26 → Nat → Nat → List T174 → Prop
 | set {s : List Int} {L : List T26} {mn mx : Int} {a n : Nat} : Cd ⟨1, s, L, mn, mx⟩ a n [⟨1, s, (n : Int), 0⟩]
 | all {s : List Int} {x : T26} {L : List T26} {mn mx : Int} {a n : Nat} {c : List T174} : Row ((x :: L).map Pa.of) n a n c → Cd ⟨2, s, x :: L, mn, mx⟩ a n c
 | void {s : List Int} {mn mx : Int} {a n : Nat} : Cd ⟨2, s, [], mn, mx⟩ a n [⟨4, Z4, (n : Int), 0⟩]
 | any {s : List Int} {x : T26} {L : List T26} {mn mx : Int} {a n : Nat} {c : List T174} : An (x :: L) a n c → Cd ⟨3, s, x :: L, mn, mx⟩ a n c
 | none {s : List Int} {mn mx : Int} {a n : Nat} : Cd ⟨3, s, [], mn, mx⟩ a n [⟨1, Z4, (n : Int), 0⟩]
 | star {s : List Int} {x : T26} {mn : Nat} {mx : Int} {a n : Nat} {c : List T174} : mx < 0 → Row (List.replicate mn (Pa.of x) ++ [Pa.lp x]) n a n c → Cd ⟨4, s, [x], (mn : Int), mx⟩ a n c
 | times {s : List Int} {x : T26} {mn k : Nat} {a n : Nat} {c : List T174} : 0 < mn + k → Row (List.replicate mn (Pa.of x) ++ List.replicate k (Pa.ph x)) n a n c → Cd ⟨4, s, [x], (mn : Int), ((mn + k : Nat) : Int)⟩ a n c
 | never {s : List Int} {x : T26} {a n : Nat} : Cd ⟨4, s, [x], 0, 0⟩ a n [⟨4, Z4, (n : Int), 0⟩]
inductive An : List T26 → Nat → Nat → List T174 → Prop
 | one {x : T26} {a n : Nat} {c : List T174} : Cd x a n c → An [x] a n c
 | more {x y : T26} {ys : List T26} {a n : Nat} {c d : List T174} : Cd x (a + 1) n c → An (y :: ys) (a + 1 + c.length) n d → An (x :: y :: ys) a n (⟨2, Z4, ((a + 1 : Nat) : Int), ((a + 1 + c.length : Nat) : Int)⟩ :: (c ++ d))
inductive Row : List Pa → Nat → Nat → Nat → List T174 → Prop
 | last {p : Pa} {al a n : Nat} {c : List T174} : Pc p al a n c → Row [p] al a n c
 | cons {p q : Pa} {ps : List Pa} {al a n : Nat} {c d : List T174} : Pc p al a (a + c.length) c → Row (q :: ps) al (a + c.length) n d → Row (p :: q :: ps) al a n (c ++ d)
inductive Pc : Pa → Nat → Nat → Nat → List T174 → Prop
 | of {r : T26} {al a n : Nat} {c : List T174} : Cd r a n c → Pc (Pa.of r) al a n c
 | lp {r : T26} {al a n : Nat} {c : List T174} : Cd r (a + 1) a c → Pc (Pa.lp r) al a n (⟨2, Z4, ((a + 1 : Nat) : Int), (n : Int)⟩ :: c)
 | ph {r : T26} {al a n : Nat} {c : List T174} : Cd r (a + 1) n c → Pc (Pa.ph r) al a n (⟨2, Z4, ((a + 1 : Nat) : Int), (al : Int)⟩ :: c)
end
def Lies (l : List T174) (a : Nat) (c : List T174) : Prop := ∀ i, i < c.length → l[a + i]? = c[i]?
theorem Lies.left {l : List T174} {a : Nat} {c d : List T174} (h : Lies l a (c ++ d)) : Lies l a c := by
 intro i hi
 rw [h i (by rw [List.length_append]; omega), List.getElem?_append_left hi]
theorem Lies.right {l : List T174} {a : Nat} {c d : List T174} (h : Lies l a (c ++ d)) : Lies l (a + c.length) d := by
 intro i hi
 rw [show a + c.length + i = a + (c.length + i) by omega, h _ (by rw [List.length_append]; omega), List.getElem?_append_right (by omega), show c.length + i - c.length = i by omega]
theorem Lies.head {l : List T174} {a : Nat} {x : T174} {c : List T174} (h : Lies l a (x :: c)) : l[a]? = some x := by
 have := h 0 (by simp)
 simpa using this
theorem Lies.tail {l : List T174} {a : Nat} {x : T174} {c : List T174} (h : Lies l a (x :: c)) : Lies l (a + 1) c := by
 intro i hi
 have := h (i + 1) (by simp; omega)
 rw [show a + 1 + i = a + (i + 1) by omega, this]
 simp
def RLg : List Pa → List Int → Prop
 | [], w => w = []
 | Pa.of r :: ps, w => ∃ u v, w = u ++ v ∧ Lg r u ∧ RLg ps v
 | Pa.lp r :: ps, w => ∃ u v, w = u ++ v ∧ (∃ n, Rep (Lg r) n u) ∧ RLg ps v
 | Pa.ph r :: ps, w => w = [] ∨ ∃ u v, w = u ++ v ∧ Lg r u ∧ RLg ps v
theorem Ac.byte_inv {l : List T174} {k m : Nat} {w z : List Int} {x y : Int} (h : Ac l m w k) (hk : l[k]? = some ⟨1, z, x, y⟩) : ∃ b v m', w = b :: v ∧ Hs z b ∧ Ac l m' v x.toNat ∧ m' < m := by
 cases h with
 | fin e => rw [hk] at e; simp at e
 | byte e hb h => rw [hk] at e; simp only [Option.some.injEq, T174.mk.injEq] at e; obtain ⟨_, rfl, rfl, rfl⟩ := e; exact ⟨_, _, _, rfl, hb, h, by omega⟩
 | jump e => rw [hk] at e; simp at e
 | left e => rw [hk] at e; simp at e
 | right e => rw [hk] at e; simp at e
theorem Ac.jump_inv {l : List T174} {k m : Nat} {w z : List Int} {x y : Int} (h : Ac l m w k) (hk : l[k]? = some ⟨4, z, x, y⟩) : ∃ m', Ac l m' w x.toNat ∧ m' < m := by
 cases h with
 | fin e => rw [hk] at e; simp at e
 | byte e hb h => rw [hk] at e; simp at e
 | jump e h => rw [hk] at e; simp only [Option.some.injEq, T174.mk.injEq] at e; obtain ⟨_, rfl, rfl, rfl⟩ := e; exact ⟨_, h, by omega⟩
 | left e => rw [hk] at e; simp at e
 | right e => rw [hk] at e; simp at e
theorem Ac.split_inv {l : List T174} {k m : Nat} {w z : List Int} {x y : Int} (h : Ac l m w k) (hk : l[k]? = some ⟨2, z, x, y⟩) : ∃ m', (Ac l m' w x.toNat ∨ Ac l m' w y.toNat) ∧ m' < m := by
 cases h with
 | fin e => rw [hk] at e; simp at e
 | byte e hb h => rw [hk] at e; simp at e
 | jump e => rw [hk] at e; simp at e
 | left e h => rw [hk] at e; simp only [Option.some.injEq, T174.mk.injEq] at e; obtain ⟨_, rfl, rfl, rfl⟩ := e; exact ⟨_, .inl h, by omega⟩
 | right e h => rw [hk] at e; simp only [Option.some.injEq, T174.mk.injEq] at e; obtain ⟨_, rfl, rfl, rfl⟩ := e; exact ⟨_, .inr h, by omega⟩
theorem Hs_Z4 (b : Int) : ¬ Hs Z4 b := by
 intro h
 unfold Hs Z4 M.a8 at h
 have z : ∀ j : Int, gi [0, 0, 0, 0] j = (0 : Int) := by
  intro j
  unfold gi
  rw [List.getD_eq_getElem?_getD]
  cases hj : ([0, 0, 0, 0] : List Int)[j.toNat]? with
  | none => rfl
  | some x =>
   have := List.mem_of_getElem? hj
   simp at this
   simp [this]
 rw [z] at h
 have e : ∀ y : Int, ishr .u64 0 y = 0 := fun y => by unfold ishr; simp
 rw [e, show iand .u64 0 1 = 0 from rfl] at h
 split at h
 ·split at h
  ·split at h
   ·simp at h
   ·cases h
  ·cases h
 ·cases h
theorem RLg_of (x : T26) (ps : List Pa) : ∀ (n : Nat) (w : List Int), RLg (List.replicate n (Pa.of x) ++ ps) w ↔ ∃ u v, w = u ++ v ∧ Rep (Lg x) n u ∧ RLg ps v
 | 0, w => by
  constructor
  ·intro h
   exact ⟨[], w, rfl, rfl, h⟩
  ·rintro ⟨u, v, rfl, hu, h⟩
   cases (show u = [] from hu)
   exact h
 | n + 1, w => by
  rw [List.replicate_succ, List.cons_append]
  constructor
  ·rintro ⟨u, v, rfl, hu, h⟩
   obtain ⟨u', v', rfl, h1, h2⟩ := (RLg_of x ps n v).1 h
   exact ⟨u ++ u', v', by rw [List.append_assoc], ⟨u, u', rfl, hu, h1⟩, h2⟩
  ·rintro ⟨u, v, rfl, ⟨u1, u2, rfl, h1, h2⟩, h⟩
   exact ⟨u1, u2 ++ v, by rw [List.append_assoc], h1, (RLg_of x ps n _).2 ⟨u2, v, rfl, h2, h⟩⟩
theorem RLg_lp (x : T26) (w : List Int) : RLg [Pa.lp x] w ↔ ∃ n, Rep (Lg x) n w := by
 constructor
 ·rintro ⟨u, v, rfl, h, hv⟩
  cases (show v = [] from hv)
  simpa using h
 ·intro h
  exact ⟨w, [], by simp, h, rfl⟩
theorem RLg_ph (x : T26) : ∀ (k : Nat) (w : List Int), RLg (List.replicate k (Pa.ph x)) w ↔ ∃ n, n ≤ k ∧ Rep (Lg x) n w
 | 0, w => by
  constructor
  ·intro h
   exact ⟨0, Nat.le_refl _, h⟩
  ·rintro ⟨n, hn, h⟩
   cases (show n = 0 by omega)
   exact h
 | k + 1, w => by
  rw [List.replicate_succ]
  constructor
  ·rintro (rfl | ⟨u, v, rfl, hu, h⟩)
   ·exact ⟨0, by omega, rfl⟩
   ·obtain ⟨n, hn, h⟩ := (RLg_ph x k v).1 h
    exact ⟨n + 1, by omega, u, v, rfl, hu, h⟩
  ·rintro ⟨n, hn, h⟩
   cases n with
   | zero => exact .inl h
   | succ n =>
    obtain ⟨u, v, rfl, hu, h⟩ := h
    exact .inr ⟨u, v, rfl, hu, (RLg_ph x k v).2 ⟨n, by omega, h⟩⟩
theorem RLg_all : ∀ (L : List T26) (w : List Int), RLg (L.map Pa.of) w ↔ LgAll L w
 | [], w => by simp [RLg, LgAll]
 | x :: L, w => by
  simp only [List.map_cons, RLg, LgAll, RLg_all L]
theorem Lg_star (s : List Int) (x : T26) (mn : Nat) (mx : Int) (hx : mx < 0) (w : List Int) : Lg ⟨4, s, [x], (mn : Int), mx⟩ w ↔ RLg (List.replicate mn (Pa.of x) ++ [Pa.lp x]) w := by
 rw [RLg_of]
 simp only [RLg_lp, Lg, LgHd]
 constructor
 ·rintro (⟨h, _⟩ | ⟨h, _⟩ | ⟨h, _⟩ | ⟨_, n, h1, _, h⟩)
  ·omega
  ·omega
  ·omega
  rw [show n = mn + (n - mn) by omega, Rep.add] at h
  obtain ⟨u, v, rfl, h1, h2⟩ := h
  exact ⟨u, v, rfl, h1, _, h2⟩
 ·rintro ⟨u, v, rfl, h1, n, h2⟩
  exact .inr (.inr (.inr ⟨trivial, mn + n, by omega, .inl hx, Rep.add.2 ⟨u, v, rfl, h1, h2⟩⟩))
theorem Lg_times (s : List Int) (x : T26) (mn k : Nat) (w : List Int) : Lg ⟨4, s, [x], (mn : Int), ((mn + k : Nat) : Int)⟩ w ↔ RLg (List.replicate mn (Pa.of x) ++ List.replicate k (Pa.ph x)) w := by
 rw [RLg_of]
 simp only [RLg_ph, Lg, LgHd]
 constructor
 ·rintro (⟨h, _⟩ | ⟨h, _⟩ | ⟨h, _⟩ | ⟨_, n, h1, h2, h⟩)
  ·omega
  ·omega
  ·omega
  rw [show n = mn + (n - mn) by omega, Rep.add] at h
  obtain ⟨u, v, rfl, h1, h2⟩ := h
  exact ⟨u, v, rfl, h1, _, by omega, h2⟩
 ·rintro ⟨u, v, rfl, h1, n, hn, h2⟩
  exact .inr (.inr (.inr ⟨trivial, mn + n, by omega, .inr (by omega), Rep.add.2 ⟨u, v, rfl, h1, h2⟩⟩))
mutual
theorem Cd.snd {l : List T174} {r : T26} {a n : Nat} {c : List T174} : Cd r a n c → Lies l a c → ∀ (m : Nat) (w : List Int), Ac l m w a → ∃ u v m', w = u ++ v ∧ Lg r u ∧ Ac l m' v n ∧ m' < m
 | .set, hl, m, w, h => by
  obtain ⟨b, v, m', rfl, hb, h', hm⟩ := h.byte_inv hl.head
  refine ⟨[b], v, m', rfl, ?_, by simpa using h', hm⟩
  simp only [Lg]
  exact .inl ⟨trivial, b, rfl, hb⟩
 | .all hr, hl, m, w, h => by
  obtain ⟨u, v, m', rfl, h1, h2, h3⟩ := hr.snd rfl hl m w h
  refine ⟨u, v, m', rfl, ?_, h2, h3⟩
  simp only [Lg]
  exact .inr (.inl ⟨trivial, (RLg_all _ _).1 h1⟩)
 | .void, hl, m, w, h => by
  obtain ⟨m', h', hm⟩ := h.jump_inv hl.head
  refine ⟨[], w, m', rfl, ?_, by simpa using h', hm⟩
  simp only [Lg, LgAll]
  exact .inr (.inl ⟨trivial, trivial⟩)
 | .any hr, hl, m, w, h => by
  obtain ⟨u, v, m', rfl, h1, h2, h3⟩ := hr.snd hl m w h
  refine ⟨u, v, m', rfl, ?_, h2, h3⟩
  simp only [Lg]
  exact .inr (.inr (.inl ⟨trivial, h1⟩))
 | .none, hl, m, w, h => by
  obtain ⟨b, v, m', rfl, hb, h', hm⟩ := h.byte_inv hl.head
  exact absurd hb (Hs_Z4 b)
 | .star hx hr, hl, m, w, h => by
  obtain ⟨u, v, m', rfl, h1, h2, h3⟩ := hr.snd rfl hl m w h
  exact ⟨u, v, m', rfl, (Lg_star _ _ _ _ hx _).2 h1, h2, h3⟩
 | .times hx hr, hl, m, w, h => by
  obtain ⟨u, v, m', rfl, h1, h2, h3⟩ := hr.snd rfl hl m w h
  exact ⟨u, v, m', rfl, (Lg_times _ _ _ _ _).2 h1, h2, h3⟩
 | .never, hl, m, w, h => by
  obtain ⟨m', h', hm⟩ := h.jump_inv hl.head
  refine ⟨[], w, m', rfl, ?_, by simpa using h', hm⟩
  simp only [Lg]
  exact .inr (.inr (.inr ⟨trivial, 0, by omega, .inr (by omega), rfl⟩))
theorem An.snd {l : List T174} {L : List T26} {a n : Nat} {c : List T174} : An L a n c → Lies l a c → ∀ (m : Nat) (w : List Int), Ac l m w a → ∃ u v m', w = u ++ v ∧ LgAny L u ∧ Ac l m' v n ∧ m' < m
 | .one hc, hl, m, w, h => by
  obtain ⟨u, v, m', rfl, h1, h2, h3⟩ := hc.snd hl m w h
  refine ⟨u, v, m', rfl, ?_, h2, h3⟩
  simp only [LgAny]
  exact .inl h1
 | .more hc hr, hl, m, w, h => by
  obtain ⟨m1, h1, hm⟩ := h.split_inv hl.head
  rcases h1 with h1 | h1
  ·obtain ⟨u, v, m', rfl, h1, h2, h3⟩ := hc.snd hl.tail.left m1 w (by simpa using h1)
   refine ⟨u, v, m', rfl, ?_, h2, by omega⟩
   simp only [LgAny]
   exact .inl h1
  ·obtain ⟨u, v, m', rfl, h1, h2, h3⟩ := hr.snd hl.tail.right m1 w (by simpa only [Int.toNat_natCast] using h1)
   refine ⟨u, v, m', rfl, ?_, h2, by omega⟩
   rw [LgAny]
   exact .inr h1
theorem Row.snd {l : List T174} {ps : List Pa} {al a n : Nat} {c : List T174} : Row ps al a n c → al = n → Lies l a c → ∀ (m : Nat) (w : List Int), Ac l m w a → ∃ u v m', w = u ++ v ∧ RLg ps u ∧ Ac l m' v n ∧ m' < m
 | .last hp, e, hl, m, w, h => by
  rcases hp.snd (ps := []) hl m w h with ⟨u, v, m', rfl, h1, h2, h3⟩ | ⟨m', h1, h2, h3⟩
  ·exact ⟨u, v, m', rfl, h1 u [] (by simp) rfl, h2, h3⟩
  ·exact ⟨[], w, m', rfl, h1, by rw [← e]; exact h2, h3⟩
 | .cons hp hr, e, hl, m, w, h => by
  rcases hp.snd hl.left m w h with ⟨u, v, m', rfl, h1, h2, h3⟩ | ⟨m', h1, h2, h3⟩
  ·obtain ⟨u', v', m'', rfl, h4, h5, h6⟩ := hr.snd e hl.right m' v h2
   exact ⟨u ++ u', v', m'', by rw [List.append_assoc], h1 _ _ rfl h4, h5, by omega⟩
  ·exact ⟨[], w, m', rfl, h1, by rw [← e]; exact h2, h3⟩
theorem Pc.snd {l : List T174} {p : Pa} {ps : List Pa} {al a n : Nat} {c : List T174} : Pc p al a n c → Lies l a c → ∀ (m : Nat) (w : List Int), Ac l m w a →
  (∃ u v m', w = u ++ v ∧ (∀ u' v', u' = u ++ v' → RLg ps v' → RLg (p :: ps) u') ∧ Ac l m' v n ∧ m' < m) ∨ (∃ m', RLg (p :: ps) [] ∧ Ac l m' w al ∧ m' < m)
 | .of hc, hl, m, w, h => by
  obtain ⟨u, v, m', rfl, h1, h2, h3⟩ := hc.snd hl m w h
  exact .inl ⟨u, v, m', rfl, fun u' v' e hv => ⟨u, v', e, h1, hv⟩, h2, h3⟩
 | .lp (r := r) hc, hl, m, w, h => by
  have key : ∀ (k m : Nat) (w : List Int), m < k → Ac l m w a → ∃ u v m', w = u ++ v ∧ (∃ n, Rep (Lg r) n u) ∧ Ac l m' v n ∧ m' < m := by
   intro k
   induction k with
   | zero => intro m w hm; omega
   | succ k ih =>
    intro m w hm h
    obtain ⟨m1, h1, hm1⟩ := h.split_inv hl.head
    rcases h1 with h1 | h1
    ·obtain ⟨u, v, m', rfl, h7, h2, h3⟩ := hc.snd hl.tail m1 w (by simpa using h1)
     obtain ⟨u', v', m'', rfl, ⟨q, h4⟩, h5, h6⟩ := ih m' v (by omega) h2
     exact ⟨u ++ u', v', m'', by rw [List.append_assoc], ⟨q + 1, u, u', rfl, h7, h4⟩, h5, by omega⟩
    ·exact ⟨[], w, m1, rfl, ⟨0, rfl⟩, by simpa using h1, hm1⟩
  obtain ⟨u, v, m', rfl, h1, h2, h3⟩ := key (m + 1) m w (by omega) h
  exact .inl ⟨u, v, m', rfl, fun u' v' e hv => ⟨u, v', e, h1, hv⟩, h2, h3⟩
 | .ph hc, hl, m, w, h => by
  obtain ⟨m1, h1, hm1⟩ := h.split_inv hl.head
  rcases h1 with h1 | h1
  ·obtain ⟨u, v, m', rfl, h1, h2, h3⟩ := hc.snd hl.tail m1 w (by simpa using h1)
   exact .inl ⟨u, v, m', rfl, fun u' v' e hv => .inr ⟨u, v', e, h1, hv⟩, h2, by omega⟩
  ·exact .inr ⟨m1, .inl rfl, by simpa using h1, hm1⟩
end
mutual
theorem Cd.cmp {l : List T174} {r : T26} {a n : Nat} {c : List T174} : Cd r a n c → Lies l a c → ∀ (u v : List Int), Lg r u → (∃ m, Ac l m v n) → ∃ m, Ac l m (u ++ v) a
 | .set, hl, u, v, h, ⟨m, hm⟩ => by
  simp only [Lg] at h
  rcases h with ⟨_, b, rfl, hb⟩ | ⟨h, _⟩ | ⟨h, _⟩ | ⟨h, _⟩
  ·exact ⟨m + 1, .byte hl.head hb (by simpa using hm)⟩
  ·omega
  ·omega
  ·omega
 | .all hr, hl, u, v, h, hm => by
  simp only [Lg] at h
  rcases h with ⟨h, _⟩ | ⟨_, h⟩ | ⟨h, _⟩ | ⟨h, _⟩
  ·omega
  ·exact hr.cmp rfl hl u v ((RLg_all _ _).2 h) hm
  ·omega
  ·omega
 | .void, hl, u, v, h, ⟨m, hm⟩ => by
  simp only [Lg, LgAll] at h
  rcases h with ⟨h, _⟩ | ⟨_, rfl⟩ | ⟨h, _⟩ | ⟨h, _⟩
  ·omega
  ·exact ⟨m + 1, .jump hl.head (by simpa using hm)⟩
  ·omega
  ·omega
 | .any hr, hl, u, v, h, hm => by
  simp only [Lg] at h
  rcases h with ⟨h, _⟩ | ⟨h, _⟩ | ⟨_, h⟩ | ⟨h, _⟩
  ·omega
  ·omega
  ·exact hr.cmp hl u v h hm
  ·omega
 | .none, hl, u, v, h, hm => by
  simp only [Lg, LgAny] at h
  rcases h with ⟨h, _⟩ | ⟨h, _⟩ | ⟨_, h⟩ | ⟨h, _⟩
  ·omega
  ·omega
  ·exact absurd h id
  ·omega
 | .star hx hr, hl, u, v, h, hm => hr.cmp rfl hl u v ((Lg_star _ _ _ _ hx _).1 h) hm
 | .times hx hr, hl, u, v, h, hm => hr.cmp rfl hl u v ((Lg_times _ _ _ _ _).1 h) hm
 | .never, hl, u, v, h, ⟨m, hm⟩ => by
  simp only [Lg] at h
  rcases h with ⟨h, _⟩ | ⟨h, _⟩ | ⟨h, _⟩ | ⟨_, q, _, h2, h⟩
  ·omega
  ·omega
  ·omega
  ·cases (show q = 0 by omega)
   cases (show u = [] from h)
   exact ⟨m + 1, .jump hl.head (by simpa using hm)⟩
theorem An.cmp {l : List T174} {L : List T26} {a n : Nat} {c : List T174} : An L a n c → Lies l a c → ∀ (u v : List Int), LgAny L u → (∃ m, Ac l m v n) → ∃ m, Ac l m (u ++ v) a
 | .one hc, hl, u, v, h, hm => by
  simp only [LgAny] at h
  rcases h with h | h
  ·exact hc.cmp hl u v h hm
  ·exact absurd h id
 | .more hc hr, hl, u, v, h, hm => by
  rw [LgAny] at h
  rcases h with h | h
  ·obtain ⟨m, h⟩ := hc.cmp hl.tail.left u v h hm
   exact ⟨m + 1, .left hl.head (by simpa using h)⟩
  ·obtain ⟨m, h⟩ := hr.cmp hl.tail.right u v h hm
   exact ⟨m + 1, .right hl.head (by simpa only [Int.toNat_natCast] using h)⟩
theorem Row.cmp {l : List T174} {ps : List Pa} {al a n : Nat} {c : List T174} : Row ps al a n c → al = n → Lies l a c → ∀ (u v : List Int), RLg ps u → (∃ m, Ac l m v n) → ∃ m, Ac l m (u ++ v) a
 | .last hp, e, hl, u, v, h, hm => by
  refine hp.cmp hl u v h (e ▸ hm) ?_
  rintro u' v' rfl h
  cases (show u' = [] from h)
  simpa using hm
 | .cons hp hr, e, hl, u, v, h, hm => by
  refine hp.cmp hl.left u v h (e ▸ hm) ?_
  rintro u' v' rfl h
  exact hr.cmp e hl.right _ _ h hm
theorem Pc.cmp {l : List T174} {p : Pa} {ps : List Pa} {al a n : Nat} {c : List T174} : Pc p al a n c → Lies l a c → ∀ (u v : List Int), RLg (p :: ps) u → (∃ m, Ac l m v al) →
  (∀ u' v', v' = v → RLg ps u' → ∃ m, Ac l m (u' ++ v') n) → ∃ m, Ac l m (u ++ v) a
 | .of hc, hl, u, v, h, hm, hk => by
  obtain ⟨u1, u2, rfl, h1, h2⟩ := h
  rw [List.append_assoc]
  exact hc.cmp hl u1 _ h1 (hk _ _ rfl h2)
 | .lp (r := r) hc, hl, u, v, h, hm, hk => by
  obtain ⟨u1, u2, rfl, ⟨q, h1⟩, h2⟩ := h
  rw [List.append_assoc]
  obtain ⟨m, hm⟩ := hk _ _ rfl h2
  have key : ∀ (q : Nat) (u1 : List Int), Rep (Lg r) q u1 → ∃ m, Ac l m (u1 ++ (u2 ++ v)) a := by
   intro q
   induction q with
   | zero =>
    intro u1 h
    cases (show u1 = [] from h)
    exact ⟨m + 1, .right hl.head (by simpa using hm)⟩
   | succ q ih =>
    rintro _ ⟨x, y, rfl, h1, h2⟩
    rw [List.append_assoc]
    obtain ⟨m', h'⟩ := hc.cmp hl.tail x _ h1 (ih y h2)
    exact ⟨m' + 1, .left hl.head (by simpa using h')⟩
  exact key q u1 h1
 | .ph hc, hl, u, v, h, ⟨m, hm⟩, hk => by
  rcases h with rfl | ⟨u1, u2, rfl, h1, h2⟩
  ·exact ⟨m + 1, .right hl.head (by simpa using hm)⟩
  ·rw [List.append_assoc]
   obtain ⟨m, h⟩ := hc.cmp hl.tail u1 _ h1 (hk _ _ rfl h2)
   exact ⟨m + 1, .left hl.head (by simpa using h)⟩
end
theorem eta26 (r : T26) : (⟨r.Kind, r.Set, r.L, r.Min, r.Max⟩ : T26) = r := by cases r; rfl
mutual
def sz : T26 → Nat
 | ⟨k, _, L, mn, mx⟩ => if k = 3 then max 1 ((L.length - 1) + szs L) else if k = 2 then max 1 (szs L) else if k = 4 then
   max 1 (if mx < 0 then mn.toNat * szh L + (szh L + 1) else mn.toNat * szh L + (mx - mn).toNat * (szh L + 1)) else 1
def szs : List T26 → Nat
 | [] => 0
 | x :: xs => sz x + szs xs
def szh : List T26 → Nat
 | [] => 0
 | x :: _ => sz x
end
theorem sz_eq (r : T26) : sz r = if r.Kind = 3 then max 1 ((r.L.length - 1) + szs r.L) else if r.Kind = 2 then max 1 (szs r.L) else if r.Kind = 4 then
   max 1 (if r.Max < 0 then r.Min.toNat * szh r.L + (szh r.L + 1) else r.Min.toNat * szh r.L + (r.Max - r.Min).toNat * (szh r.L + 1)) else 1 := by cases r; rw [sz]
theorem sz_pos (r : T26) : 1 ≤ sz r := by rw [sz_eq]; (repeat' split) <;> omega
theorem szs_len : ∀ L : List T26, L.length ≤ szs L
 | [] => by simp
 | x :: xs => by have := szs_len xs; have := sz_pos x; rw [szs]; simp; omega
theorem size_ok (d : Nat) : ∀ r : T26, Rt d r → nd r ≤ 4096 → M.ag r = some ((min 1048576 (sz r) : Nat) : Int) := by
 induction d with
 | zero => intro r h; exact absurd h id
 | succ d ih =>
  intro r hr hn
  rw [nd_eq] at hn
  have loop : ∀ (L pre : List T26) (a : Nat), r.L = pre ++ L → M.a2e (((min 1048576 a : Nat) : Int), r.L, (r.L.length : Int), (pre.length : Int)) = some ((min 1048576 (max 1 (a + szs L)) : Nat) : Int) := by
   intro L
   induction L with
   | nil =>
    intro pre a e
    rw [M.a2e]; try dsimp only
    rw [if_neg (by rw [e]; simp), szs]
    refine congrArg some ?_
    simp only [imn, imx]
    (repeat' split) <;> omega
   | cons x L ihL =>
    intro pre a e
    have hlen : r.L.length = pre.length + (L.length + 1) := by rw [e]; simp
    have hx : x ∈ r.L := by rw [e]; simp
    have hl := nds_len r.L
    have hnx := nd_mem hx
    rw [M.a2e]; try dsimp only
    rw [if_pos (by omega), if_pos (by omega), if_pos (by omega), show gi r.L (pre.length : Int) = x by rw [e]; exact gi_mid pre x L, eta26, ih x (hr.2.2 x hx) (by omega), bnd, wr_i64 (x := (pre.length : Int) + 1) (by omega) (by omega),
     wr_i64 (x := ((min 1048576 a : Nat) : Int) + _) (by omega) (by omega)]
    have := ihL (pre ++ [x]) (a + sz x) (by rw [e]; simp)
    rw [show (((pre ++ [x]).length : Nat) : Int) = (pre.length : Int) + 1 by simp] at this
    rw [szs, show a + (sz x + szs L) = a + sz x + szs L by omega, ← this]
    have e2 : imn 1048576 (((min 1048576 a : Nat) : Int) + ((min 1048576 (sz x) : Nat) : Int)) = ((min 1048576 (a + sz x) : Nat) : Int) := by
     simp only [imn]
     split <;> omega
    rw [e2]
  have hll := nds_len r.L
  rw [M.ag]; try dsimp only
  rw [sz_eq]
  by_cases h3 : r.Kind = 3
  ·rw [if_pos h3, if_pos h3]
   have := loop r.L [] (r.L.length - 1) rfl
   rw [← this]
   rw [wr_i64 (by omega) (by omega)]
   congr 2
   simp only [imx]
   split <;> omega
  rw [if_neg h3, if_neg h3]
  by_cases h2 : r.Kind = 2
  ·rw [if_pos h2, if_pos h2]
   have := loop r.L [] 0 rfl
   rw [Nat.zero_add] at this
   exact this
  rw [if_neg h2, if_neg h2]
  by_cases h4 : r.Kind = 4
  ·rw [if_pos h4, if_pos h4]
   rcases hr.1 with ⟨h, _⟩ | ⟨h | h, _⟩ | ⟨_, ⟨x, hL⟩, _, g0, g1, g2⟩
   ·omega
   ·omega
   ·omega
   have hx : x ∈ r.L := by rw [hL]; simp
   have hnx := nd_mem hx
   rw [if_pos (by rw [hL]; simp), show gi r.L 0 = x by rw [hL]; rfl, eta26, ih x (hr.2.2 x hx) (by omega), bnd, hL, szh]
   obtain ⟨m, hm⟩ := Int.eq_ofNat_of_zero_le g0
   rw [hm] at g1 g2 ⊢
   rw [Int.toNat_natCast]
   have hm64 : m ≤ 64 := by omega
   generalize hs : sz x = s
   have hs1 : 1 ≤ s := by rw [← hs]; exact sz_pos x
   have ho : ∃ o : Nat, min 1048576 s = o ∧ o ≤ 1048576 := ⟨_, rfl, by omega⟩
   obtain ⟨o, ho, ho2⟩ := ho
   rw [ho]
   have b1 : m * o ≤ 64 * 1048576 := Nat.mul_le_mul hm64 ho2
   have c1 : (m : Int) * (o : Int) = ((m * o : Nat) : Int) := by push_cast; rfl
   rw [c1]
   have key : ∀ (p q : Nat), (s ≤ 1048576 → p = q) → (1048576 < s → 1048576 ≤ p ∧ 1048576 ≤ q) → imn 1048576 (imx 1 ((p : Nat) : Int)) = ((min 1048576 (max 1 q) : Nat) : Int) := by
    intro p q h1 h2
    simp only [imn, imx]
    by_cases h : s ≤ 1048576
    ·have := h1 h; (repeat' split) <;> omega
    ·have := h2 (by omega); (repeat' split) <;> omega
   by_cases hx : r.Max < 0
   ·rw [if_pos hx, if_pos hx, wr_i64 (x := ((m * o : Nat) : Int)) (by omega) (by omega), wr_i64 (x := (o : Int) + 1) (by omega) (by omega), wr_i64 (by omega) (by omega)]
    refine congrArg some ?_
    rw [show ((m * o : Nat) : Int) + ((o : Int) + 1) = ((m * o + (o + 1) : Nat) : Int) by push_cast; rfl]
    refine key _ _ (fun h => ?_) (fun h => ?_)
    ·have : o = s := by omega
     rw [this]
    ·constructor <;> omega
   ·rw [if_neg hx, if_neg hx]
    have g3 : (m : Int) ≤ r.Max ∧ r.Max ≤ 64 := by rcases g2 with h | h <;> omega
    obtain ⟨k, hk⟩ := Int.eq_ofNat_of_zero_le (show 0 ≤ r.Max - (m : Int) by omega)
    rw [hk, Int.toNat_natCast]
    have hk64 : k ≤ 64 := by omega
    have b2 : k * (o + 1) ≤ 64 * 1048577 := Nat.mul_le_mul hk64 (by omega)
    have c2 : (k : Int) * ((o : Int) + 1) = ((k * (o + 1) : Nat) : Int) := by push_cast; rfl
    rw [wr_i64 (x := ((m * o : Nat) : Int)) (by omega) (by omega), wr_i64 (x := (o : Int) + 1) (by omega) (by omega), wr_i64 (x := (k : Int)) (by omega) (by omega), c2, wr_i64 (x := ((k * (o + 1) : Nat) : Int)) (by omega) (by omega), wr_i64 (by omega) (by omega)]
    refine congrArg some ?_
    rw [show ((m * o : Nat) : Int) + ((k * (o + 1) : Nat) : Int) = ((m * o + k * (o + 1) : Nat) : Int) by push_cast; rfl]
    by_cases hz : m = 0 ∧ k = 0
    ·obtain ⟨rfl, rfl⟩ := hz
     simp only [Nat.zero_mul, Nat.add_zero]
     rfl
    refine key _ _ (fun h => ?_) (fun h => ?_)
    ·have : o = s := by omega
     rw [this]
    ·have ho3 : o = 1048576 := by omega
     subst ho3
     have e1 : 1 ≤ m → 1048576 ≤ m * 1048576 := fun h => by omega
     have e2 : 1 ≤ k → 1048576 ≤ k * (1048576 + 1) := fun h => by omega
     have e3 : 1 ≤ m → s ≤ m * s := fun h => Nat.le_mul_of_pos_left s h
     have e4 : 1 ≤ k → s + 1 ≤ k * (s + 1) := fun h => Nat.le_mul_of_pos_left (s + 1) h
     by_cases hm1 : 1 ≤ m
     ·have := e1 hm1; have := e3 hm1; omega
     ·have hk1 : 1 ≤ k := by omega
      have := e2 hk1; have := e4 hk1; omega
  ·rw [if_neg h4, if_neg h4]
   rfl
def tp (all : Nat) : Pa → T248
 | .of x => ⟨((min 1048576 (sz x) : Nat) : Int), Sum.inl x⟩
 | .lp x => ⟨((min 1048576 (sz x) + 1 : Nat) : Int), Sum.inr (Sum.inl x)⟩
 | .ph x => ⟨((min 1048576 (sz x) + 1 : Nat) : Int), Sum.inr (Sum.inr ((all : Int), x))⟩
def psz : Pa → Nat
 | .of x => sz x
 | .lp x => sz x + 1
 | .ph x => sz x + 1
def pre' : Pa → T26
 | .of x => x
 | .lp x => x
 | .ph x => x
def pss : List Pa → Nat
 | [] => 0
 | p :: ps => psz p + pss ps
theorem pss_append : ∀ a b : List Pa, pss (a ++ b) = pss a + pss b
 | [], b => by simp [pss]
 | p :: a, b => by rw [List.cons_append, pss, pss, pss_append a b]; omega
theorem pss_rep (p : Pa) : ∀ n : Nat, pss (List.replicate n p) = n * psz p
 | 0 => by simp [pss]
 | n + 1 => by rw [List.replicate_succ, pss, pss_rep p n, Nat.succ_mul]; omega
theorem pss_map : ∀ L : List T26, pss (L.map Pa.of) = szs L
 | [] => rfl
 | x :: L => by rw [List.map_cons, pss, pss_map L, szs]; rfl
theorem psz_pos (p : Pa) : 1 ≤ psz p := by cases p <;> simp [psz] <;> exact sz_pos _
theorem pss_len : ∀ l : List Pa, l.length ≤ pss l
 | [] => by simp
 | p :: l => by have := pss_len l; have := psz_pos p; rw [pss]; simp; omega
theorem putw_ok (w : List T174) (x : T174) (h : w.length ≤ 10000) : M.ah w x = some ((w.length : Int), w ++ [x]) := by
 have e : ((w ++ [x]).length : Int) = (w.length : Int) + 1 := by simp
 rw [M.ah, e, if_pos (by omega), wr_i64 (by omega) (by omega), show (w.length : Int) + 1 - 1 = w.length by omega]
theorem code_ok (d : Nat) : ∀ (r : T26) (w : List T174) (next : Nat), Rt d r → nd r ≤ 4096 → w.length + sz r ≤ 4200 → next ≤ 9000 → ∃ c, Cd r w.length next c ∧ c.length = sz r ∧ M.a1e (w, r, (next : Int)) = some (w ++ c) := by
 induction d with
 | zero => intro r w next h; exact absurd h id
 | succ d ih =>
  intro r w next hr hn hw hnext
  have hn' := hn
  rw [nd_eq] at hn'
  have hll := nds_len r.L
  -- a row of parts
  have part : ∀ (p : Pa) (w : List T174) (to : Nat) (P : List T248) (P2 : List T248) (len i : Int), Rt d (pre' p) → nd (pre' p) ≤ 4096 → w.length + psz p ≤ 4200 → to ≤ 9000 →
    ∃ c, Pc p next w.length to c ∧ c.length = psz p ∧ M.a2i (P, (next : Int), tp next p, (to : Int), P2, len, i, w) = M.a1f (P, (next : Int), P2, len, wr .i64 (i + 1), w ++ c) := by
   intro p w to P P2 len i h1 h2 h3 h4
   cases p with
   | of x =>
    obtain ⟨c, k1, k2, k3⟩ := ih x w to h1 h2 h3 h4
    refine ⟨c, .of k1, k2, ?_⟩
    rw [M.a2i]
    show (M.a4y ((to : Int), w, x) >>= fun y60 => M.aq (P, (next : Int), P2, len, i, y60)) = _
    rw [M.a4y]; try dsimp only
    rw [k3]
    rw [bnd, bnd, M.aq]
   | lp x =>
    simp only [psz] at h3
    obtain ⟨c, k1, k2, k3⟩ := ih x (w ++ [⟨2, Z4, ((w.length + 1 : Nat) : Int), (to : Int)⟩]) w.length h1 h2 (by simp; omega) (by omega)
    rw [List.length_append] at k1
    refine ⟨_, .lp k1, by simp [psz, k2], ?_⟩
    rw [M.a2i]
    show (M.a4z ((to : Int), w, x) >>= fun y60 => M.aq (P, (next : Int), P2, len, i, y60)) = _
    rw [M.a4z]; try dsimp only
    rw [wr_i64 (by omega) (by omega), putw_ok w _ (by omega), bnd]; try dsimp only
    rw [show (w.length : Int) + 1 = ((w.length + 1 : Nat) : Int) by push_cast; rfl, show ([0, 0, 0, 0] : List Int) = Z4 from rfl, k3]
    rw [bnd, bnd, M.aq]
    rw [List.append_assoc]
    rfl
   | ph x =>
    simp only [psz] at h3
    obtain ⟨c, k1, k2, k3⟩ := ih x (w ++ [⟨2, Z4, ((w.length + 1 : Nat) : Int), (next : Int)⟩]) to h1 h2 (by simp; omega) h4
    rw [List.length_append] at k1
    refine ⟨_, .ph k1, by simp [psz, k2], ?_⟩
    rw [M.a2i]
    show (M.a50 ((to : Int), w, (next : Int), x) >>= fun y60 => M.aq (P, (next : Int), P2, len, i, y60)) = _
    rw [M.a50]; try dsimp only
    rw [wr_i64 (by omega) (by omega), putw_ok w _ (by omega), bnd]; try dsimp only
    rw [show (w.length : Int) + 1 = ((w.length + 1 : Nat) : Int) by push_cast; rfl, show ([0, 0, 0, 0] : List Int) = Z4 from rfl, k3]
    rw [bnd, bnd, M.aq]
    rw [List.append_assoc]
    rfl
  have row : ∀ (ps pre : List Pa) (w : List T174), ps ≠ [] → (∀ p ∈ ps, Rt d (pre' p) ∧ nd (pre' p) ≤ 4096) → (pre ++ ps).length ≤ 5000 → w.length + pss ps ≤ 4200 →
    ∃ c, Row ps next w.length next c ∧ c.length = pss ps ∧ M.a1f ((pre ++ ps).map (tp next), (next : Int), (pre ++ ps).map (tp next), (((pre ++ ps).map (tp next)).length : Int), (pre.length : Int), w) = some (w ++ c) := by
   intro ps
   induction ps with
   | nil => intro pre w h; exact absurd rfl h
   | cons p ps ihp =>
    intro pre w _ hp hlen hw
    have hl : ((pre ++ p :: ps).map (tp next)).length = pre.length + (ps.length + 1) := by simp
    have hlen' : pre.length + (ps.length + 1) ≤ 5000 := by simpa using hlen
    have hg : gi ((pre ++ p :: ps).map (tp next)) (pre.length : Int) = tp next p := by
     rw [List.map_append, List.map_cons, show (pre.length : Int) = ((pre.map (tp next)).length : Int) by simp]
     exact gi_mid _ _ _
    rw [M.a1f]; try dsimp only
    rw [hl, if_pos (by omega), if_pos (by omega), if_pos (by omega), wr_i64 (x := ((pre.length + (ps.length + 1) : Nat) : Int) - 1) (by omega) (by omega), hg]
    obtain ⟨p1, p2⟩ := hp p (by simp)
    cases ps with
    | nil =>
     rw [if_neg (by simp)]
     obtain ⟨c, k1, k2, k3⟩ := part p w next _ ((pre ++ [p]).map (tp next)) ((pre.length + (([] : List Pa).length + 1) : Nat) : Int) (pre.length : Int) p1 p2 (by simpa [pss] using hw) hnext
     refine ⟨c, .last k1, by simpa [pss] using k2, ?_⟩
     rw [k3, M.a1f]; try dsimp only
     rw [wr_i64 (by omega) (by omega), if_neg (by simp)]
    | cons q ps =>
     rw [if_pos (by simp only [List.length_cons]; omega)]
     have hsz : psz p + pss (q :: ps) = pss (p :: q :: ps) := rfl
     have hn1 : (tp next p).n = (psz p : Int) := by
      have : psz p ≤ 4200 := by omega
      cases p <;> simp only [tp, psz] at this ⊢ <;> omega
     rw [hn1, wr_i64 (x := (w.length : Int) + (psz p : Int)) (by omega) (by omega), show (w.length : Int) + (psz p : Int) = ((w.length + psz p : Nat) : Int) by push_cast; rfl]
     obtain ⟨c, k1, k2, k3⟩ := part p w (w.length + psz p) ((pre ++ p :: q :: ps).map (tp next)) ((pre ++ p :: q :: ps).map (tp next)) ((pre.length + ((q :: ps).length + 1) : Nat) : Int) (pre.length : Int) p1 p2 (by omega) (by omega)
     rw [k3]
     obtain ⟨e, g1, g2, g3⟩ := ihp (pre ++ [p]) (w ++ c) (by simp) (fun z hz => hp z (by simp [hz])) (by simpa using hlen) (by rw [List.length_append, k2]; omega)
     rw [List.length_append, k2] at g1
     refine ⟨c ++ e, .cons (by rw [k2]; exact k1) (by rw [k2]; exact g1), by rw [List.length_append, k2, g2, hsz], ?_⟩
     rw [wr_i64 (by omega) (by omega)]
     rw [show (pre ++ [p]) ++ q :: ps = pre ++ p :: q :: ps by simp, hl, show (((pre ++ [p]).length : Nat) : Int) = (pre.length : Int) + 1 by simp] at g3
     rw [g3, List.append_assoc]
  have rowp : ∀ (ps : List Pa), ps ≠ [] → (∀ p ∈ ps, Rt d (pre' p) ∧ nd (pre' p) ≤ 4096) → pss ps ≤ sz r →
    ∃ c, Row ps next w.length next c ∧ c.length = pss ps ∧ M.a1w ((next : Int), ps.map (tp next), w) = some (w ++ c) := by
   intro ps h0 hp hs
   have hl := pss_len ps
   obtain ⟨c, k1, k2, k3⟩ := row ps [] w h0 hp (by simp; omega) (by omega)
   refine ⟨c, k1, k2, ?_⟩
   have hne : ps.length ≠ 0 := fun h => h0 (List.length_eq_zero_iff.1 h)
   rw [M.a1w]; try dsimp only
   rw [if_neg (by rw [List.length_map]; omega), M.a2h]; try dsimp only
   rw [List.nil_append] at k3
   have k3' : M.a1f (ps.map (tp next), (next : Int), ps.map (tp next), ((ps.map (tp next)).length : Int), 0, w) = some (w ++ c) := k3
   rw [k3', bnd]
  have row0 : ∀ w : List T174, M.a2h (w, [], (next : Int)) = some w := by
   intro w
   rw [M.a2h]; try dsimp only
   rw [M.a1f]; try dsimp only
   rw [if_neg (by simp)]
  have hof : ∀ (w : List T174) (x : T26), Rt d x → nd x ≤ 4096 → M.a2f w x = some (tp next (.of x)) := by
   intro w x h1 h2
   rw [M.a2f, size_ok d x h1 h2, bnd]
   rfl
  rw [M.a1e]; try dsimp only
  rcases hr.1 with ⟨h1, hL, hmn, hmx⟩ | ⟨hk, hS, hmn, hmx⟩ | ⟨h4, ⟨x, hL⟩, hS, g0, g1, g2⟩
  ·-- a set
   rw [if_pos h1, putw_ok w _ (by omega), bnd]
   refine ⟨_, ?_, ?_, rfl⟩
   ·have := @Cd.set r.Set r.L r.Min r.Max w.length next
    rw [← h1, eta26] at this
    rw [← h1]
    exact this
   ·rw [sz_eq, if_neg (by omega), if_neg (by omega), if_neg (by omega)]; rfl
  ·rcases hk with h2 | h3
   ·-- all
    rw [if_neg (by omega), if_neg (by omega), if_pos h2, M.a5x]; try dsimp only
    have hsz : sz r = max 1 (szs r.L) := by rw [sz_eq, if_neg (by omega), if_pos h2]
    cases hL : r.L with
    | nil =>
     rw [if_neg (by simp), M.a4x]; try dsimp only
     rw [putw_ok w _ (by omega), bnd]; try dsimp only
     rw [row0, bnd]
     refine ⟨_, ?_, ?_, rfl⟩
     ·have := @Cd.void r.Set r.Min r.Max w.length next
      rw [← hL, ← h2, eta26] at this
      exact this
     ·rw [hsz, hL]; simp [szs]
    | cons x L =>
     have hx : x ∈ r.L := by rw [hL]; simp
     have hlen : r.L.length = L.length + 1 := by rw [hL]; simp
     rw [← hL, if_pos (by omega), if_pos (by omega), if_pos (by omega), show gi r.L 0 = x by rw [hL]; rfl, eta26, hof w x (hr.2.2 x hx) (by have := nd_mem hx; omega), bnd, if_pos (by simp), wr_i64 (by omega) (by omega)]
     have loop : ∀ (R pre : List T26), r.L = pre ++ R → M.a2g ((next : Int), pre.map (fun x => tp next (.of x)), r.L, (r.L.length : Int), (pre.length : Int), w) = M.a1w ((next : Int), (r.L.map Pa.of).map (tp next), w) := by
      intro R
      induction R with
      | nil =>
       intro pre e
       rw [M.a2g]; try dsimp only
       rw [if_neg (by rw [e]; simp)]
       rw [e, List.append_nil, List.map_map]
       rfl
      | cons y R ihR =>
       intro pre e
       have hy : y ∈ r.L := by rw [e]; simp
       have hlen2 : r.L.length = pre.length + (R.length + 1) := by rw [e]; simp
       rw [M.a2g]; try dsimp only
       rw [if_pos (by omega), if_pos (by omega), if_pos (by omega), show gi r.L (pre.length : Int) = y by rw [e]; exact gi_mid pre y R, eta26, hof w y (hr.2.2 y hy) (by have := nd_mem hy; omega), bnd, if_pos (by simp; omega), wr_i64 (by omega) (by omega)]
       have := ihR (pre ++ [y]) (by rw [e]; simp)
       rw [List.map_append, show (((pre ++ [y]).length : Nat) : Int) = (pre.length : Int) + 1 by simp] at this
       exact this
     have hl := loop L [x] (by rw [hL]; rfl)
     have hl' : M.a2g ((next : Int), [tp next (.of x)], r.L, (r.L.length : Int), 0 + 1, w) = M.a1w ((next : Int), (r.L.map Pa.of).map (tp next), w) := hl
     rw [hl']
     obtain ⟨c, k1, k2, k3⟩ := rowp (r.L.map Pa.of) (by rw [hL]; simp) (by
      intro p hp
      obtain ⟨y, hy, rfl⟩ := List.mem_map.1 hp
      exact ⟨hr.2.2 y hy, by have := nd_mem hy; simp only [pre']; omega⟩) (by rw [pss_map, hsz]; omega)
     refine ⟨c, ?_, by rw [k2, pss_map, hsz]; have := szs_len r.L; omega, k3⟩
     rw [hL] at k1
     have := @Cd.all r.Set x L r.Min r.Max w.length next c k1
     rw [← hL, ← h2, eta26] at this
     exact this
   ·-- one of some
    rw [if_neg (by omega), if_pos h3, M.a5w]; try dsimp only
    have hsz : sz r = max 1 ((r.L.length - 1) + szs r.L) := by rw [sz_eq, if_pos h3]
    by_cases hne : r.L = []
    ·rw [hne, M.a1x]; try dsimp only
     rw [if_neg (by simp), if_pos (by simp), putw_ok w _ (by omega), bnd, bnd]
     refine ⟨_, ?_, ?_, rfl⟩
     ·have := @Cd.none r.Set r.Min r.Max w.length next
      rw [← hne, ← h3, eta26] at this
      exact this
     ·rw [hsz, hne]; simp [szs]
    ·have loop : ∀ (L pre : List T26) (w : List T174), r.L = pre ++ L → L ≠ [] → w.length + ((L.length - 1) + szs L) ≤ 4200 → ∃ c, An L w.length next c ∧ c.length = (L.length - 1) + szs L ∧
       M.a1x (r.L, (next : Int), r.L, (r.L.length : Int), (pre.length : Int), w) = some (w ++ c) := by
      intro L
      induction L with
      | nil => intro pre w e h; exact absurd rfl h
      | cons y L ihL =>
       intro pre w e _ hw
       have hy : y ∈ r.L := by rw [e]; simp
       have hlen2 : r.L.length = pre.length + (L.length + 1) := by rw [e]; simp
       have hny := nd_mem hy
       rw [szs, List.length_cons] at hw
       rw [M.a1x]; try dsimp only
       rw [if_pos (by omega), if_pos (by omega), if_pos (by omega), wr_i64 (x := (r.L.length : Int) - 1) (by omega) (by omega), show gi r.L (pre.length : Int) = y by rw [e]; exact gi_mid pre y L, eta26]
       cases L with
       | nil =>
        rw [if_neg (by simp at hlen2; omega), M.a4c]; try dsimp only
        obtain ⟨c, k1, k2, k3⟩ := ih y w next (hr.2.2 y hy) (by omega) (by omega) hnext
        rw [k3, bnd, wr_i64 (by omega) (by omega), M.a1x]; try dsimp only
        rw [if_neg (by simp at hlen2; omega), if_neg (by omega)]
        exact ⟨c, .one k1, by simp [szs, k2], rfl⟩
       | cons q L =>
        rw [List.length_cons] at hlen2 hw
        have hq := szs_len (q :: L)
        rw [if_pos (by omega), size_ok d y (hr.2.2 y hy) (by omega), bnd, show min 1048576 (sz y) = sz y by omega, wr_i64 (x := (w.length : Int) + 1) (by omega) (by omega), wr_i64 (x := (w.length : Int) + 1 + _) (by omega) (by omega), putw_ok w _ (by omega), bnd]; try dsimp only
        rw [M.a4c]; try dsimp only
        rw [show (w.length : Int) + 1 + (sz y : Int) = ((w.length + 1 + sz y : Nat) : Int) by push_cast; rfl, show (w.length : Int) + 1 = ((w.length + 1 : Nat) : Int) by push_cast; rfl, show ([0, 0, 0, 0] : List Int) = Z4 from rfl]
        obtain ⟨c, k1, k2, k3⟩ := ih y (w ++ [⟨2, Z4, ((w.length + 1 : Nat) : Int), ((w.length + 1 + sz y : Nat) : Int)⟩]) next (hr.2.2 y hy) (by omega) (by simp; omega) hnext
        rw [List.length_append] at k1
        rw [k3, bnd, wr_i64 (by omega) (by omega)]
        obtain ⟨f, g1, g2, g3⟩ := ihL (pre ++ [y]) ((w ++ [⟨2, Z4, ((w.length + 1 : Nat) : Int), ((w.length + 1 + sz y : Nat) : Int)⟩]) ++ c) (by rw [e]; simp) (by simp) (by simp only [List.length_append, List.length_cons, List.length_nil, k2]; omega)
        rw [show (((pre ++ [y]).length : Nat) : Int) = (pre.length : Int) + 1 by simp] at g3
        rw [g3]
        simp only [List.length_append, List.length_cons, List.length_nil, k2] at g1
        refine ⟨_, .more k1 (by rw [k2]; simpa using g1), ?_, ?_⟩
        ·simp only [List.length_append, List.length_cons, k2, g2, szs]; omega
        ·rw [k2]; simp
     obtain ⟨c, k1, k2, k3⟩ := loop r.L [] w rfl hne (by rw [hsz] at hw; omega)
     have k3' : M.a1x (r.L, (next : Int), r.L, (r.L.length : Int), 0, w) = some (w ++ c) := k3
     rw [k3', bnd]
     refine ⟨c, ?_, by rw [k2, hsz]; have := szs_len r.L; have : r.L.length ≠ 0 := fun h => hne (List.length_eq_zero_iff.1 h); omega, rfl⟩
     cases hL : r.L with
     | nil => exact absurd hL hne
     | cons x L =>
      rw [hL] at k1
      have := @Cd.any r.Set x L r.Min r.Max w.length next c k1
      rw [← hL, ← h3, eta26] at this
      exact this
  ·-- times
   have hx : x ∈ r.L := by rw [hL]; simp
   have hrx := hr.2.2 x hx
   have hnx : nd x ≤ 4096 := by have := nd_mem hx; omega
   obtain ⟨m, hm⟩ := Int.eq_ofNat_of_zero_le g0
   have hph : ∀ w, M.a4b w x (next : Int) = some (tp next (.ph x)) := by
    intro w
    rw [M.a4b, size_ok d x hrx hnx, bnd, wr_i64 (by omega) (by omega)]
    rfl
   have hlp : ∀ w, M.a4a w x = some (tp next (.lp x)) := by
    intro w
    rw [M.a4a, size_ok d x hrx hnx, bnd, wr_i64 (by omega) (by omega)]
    rfl
   have l3 : ∀ (n j : Nat) (acc : List T248), j + n ≤ 100 → acc.length ≤ 5000 + j → M.a1u ((next : Int), acc, x, ((j + n : Nat) : Int), (j : Int), w) = some (acc ++ List.replicate n (tp next (.ph x))) := by
    intro n
    induction n with
    | zero =>
     intro j acc h1 h2
     rw [M.a1u]; try dsimp only
     rw [if_neg (by omega)]; simp
    | succ n ihn =>
     intro j acc h1 h2
     rw [M.a1u]; try dsimp only
     rw [if_pos (by omega), hph, bnd, if_pos (by simp; omega), wr_i64 (by omega) (by omega), show (j : Int) + 1 = ((j + 1 : Nat) : Int) by push_cast; rfl, show j + (n + 1) = j + 1 + n by omega, ihn (j + 1) _ (by omega) (by simp; omega), List.replicate_succ, List.append_assoc]
     rfl
   have l2 : ∀ n : Nat, n ≤ 100 → M.a4v ((next : Int), x, (n : Int), 0, w) = some (List.replicate n (tp next (.ph x))) := by
    intro n h1
    rw [M.a4v]; try dsimp only
    cases n with
    | zero => rw [if_neg (by omega)]; rfl
    | succ n =>
     rw [if_pos (by omega), hph, bnd, if_pos (by simp), wr_i64 (by omega) (by omega), show (0 : Int) + 1 = ((1 : Nat) : Int) from rfl, show n + 1 = 1 + n by omega, l3 n 1 _ (by omega) (by simp)]
     rw [show 1 + n = n + 1 by omega, List.replicate_succ]
     rfl
   -- what is behind those that must be
   obtain ⟨tail, htail, l1, l0⟩ : ∃ tail : List Pa, (tail = if r.Max < 0 then [Pa.lp x] else List.replicate (r.Max - (m : Int)).toNat (Pa.ph x)) ∧
     (∀ (n j : Nat) (acc : List T248), j + n = m → acc.length ≤ 1000 + j → M.a1v ((next : Int), r, acc, x, (m : Int), (j : Int), w) = some (acc ++ (List.replicate n (Pa.of x) ++ tail).map (tp next))) ∧
     M.a4w ((next : Int), r, x, (m : Int), 0, w) = some ((List.replicate m (Pa.of x) ++ tail).map (tp next)) := by
    refine ⟨_, rfl, ?_⟩
    have l1 : ∀ (n j : Nat) (acc : List T248), j + n = m → acc.length ≤ 1000 + j → M.a1v ((next : Int), r, acc, x, (m : Int), (j : Int), w) = some (acc ++ (List.replicate n (Pa.of x) ++ (if r.Max < 0 then [Pa.lp x] else List.replicate (r.Max - (m : Int)).toNat (Pa.ph x))).map (tp next)) := by
     intro n
     induction n with
     | zero =>
      intro j acc h1 h2
      rw [M.a1v]; try dsimp only
      rw [if_neg (by omega)]
      by_cases hmx : r.Max < 0
      ·rw [if_pos hmx, if_pos hmx, hlp, bnd, if_pos (by simp; omega)]; rfl
      ·rw [if_neg hmx, if_neg hmx]
       obtain ⟨k, hk⟩ := Int.eq_ofNat_of_zero_le (show 0 ≤ r.Max - (m : Int) by rcases g2 with h | h <;> omega)
       have hk2 : k ≤ 64 := by rcases g2 with h | h <;> omega
       rw [hm, hk, wr_i64 (by omega) (by omega), Int.toNat_natCast]
       have := l3 k 0 acc (by omega) (by omega)
       rw [Nat.zero_add] at this
       have this' : M.a1u ((next : Int), acc, x, (k : Int), 0, w) = some (acc ++ List.replicate k (tp next (.ph x))) := this
       rw [this']
       simp
     | succ n ihn =>
      intro j acc h1 h2
      rw [M.a1v]; try dsimp only
      rw [if_pos (by omega), hof w x hrx hnx, bnd, if_pos (by simp; omega), wr_i64 (by omega) (by omega), show (j : Int) + 1 = ((j + 1 : Nat) : Int) by push_cast; rfl, ihn (j + 1) _ (by omega) (by simp; omega)]
      rw [List.replicate_succ, List.append_assoc]
      rfl
    refine ⟨l1, ?_⟩
    rw [M.a4w]; try dsimp only
    cases hm0 : m with
    | zero =>
     rw [if_neg (by omega)]
     by_cases hmx : r.Max < 0
     ·rw [if_pos hmx, if_pos hmx, hlp, bnd, if_pos (by simp)]; rfl
     ·rw [if_neg hmx, if_neg hmx]
      obtain ⟨k, hk⟩ := Int.eq_ofNat_of_zero_le (show 0 ≤ r.Max - (m : Int) by rcases g2 with h | h <;> omega)
      have hk2 : k ≤ 64 := by rcases g2 with h | h <;> omega
      rw [hm, ← hm0, hk, wr_i64 (by omega) (by omega), Int.toNat_natCast, l2 k (by omega), hm0]
      simp
    | succ n =>
     rw [if_pos (by omega), hof w x hrx hnx, bnd, if_pos (by simp), wr_i64 (by omega) (by omega)]
     have := l1 n 1 [tp next (.of x)] (by omega) (by simp)
     rw [hm0] at this
     have this' : M.a1v ((next : Int), r, [tp next (.of x)], x, ((n + 1 : Nat) : Int), 0 + 1, w) = _ := this
     rw [this', List.replicate_succ]
     rfl
   rw [if_neg (by omega), if_neg (by omega), if_neg (by omega), if_pos h4, M.a5v, if_pos (by rw [hL]; simp), show gi r.L 0 = x by rw [hL]; rfl, eta26, hm, l0, bnd]
   have hsz : sz r = max 1 (if r.Max < 0 then m * sz x + (sz x + 1) else m * sz x + (r.Max - (m : Int)).toNat * (sz x + 1)) := by
    rw [sz_eq, if_neg (by omega), if_neg (by omega), if_pos h4, hm, hL, szh, Int.toNat_natCast]
   have hps : pss (List.replicate m (Pa.of x) ++ tail) = if r.Max < 0 then m * sz x + (sz x + 1) else m * sz x + (r.Max - (m : Int)).toNat * (sz x + 1) := by
    rw [pss_append, pss_rep, htail]
    by_cases hmx : r.Max < 0
    ·rw [if_pos hmx, if_pos hmx]; rfl
    ·rw [if_neg hmx, if_neg hmx, pss_rep]; rfl
   have hmem : ∀ p ∈ List.replicate m (Pa.of x) ++ tail, Rt d (pre' p) ∧ nd (pre' p) ≤ 4096 := by
    intro p hp
    have : pre' p = x := by
     rcases List.mem_append.1 hp with hp | hp
     ·rw [List.eq_of_mem_replicate hp]; rfl
     ·rw [htail] at hp
      split at hp
      ·rw [List.mem_singleton.1 hp]; rfl
      ·rw [List.eq_of_mem_replicate hp]; rfl
    rw [this]
    exact ⟨hrx, hnx⟩
   by_cases he : List.replicate m (Pa.of x) ++ tail = []
   ·-- never
    have hl0 : (List.replicate m (Pa.of x) ++ tail).length = 0 := by rw [he]; rfl
    rw [List.length_append, List.length_replicate] at hl0
    have hm0 : m = 0 := by omega
    have hmx : ¬ r.Max < 0 := by
     intro h
     rw [htail, if_pos h] at hl0
     simp at hl0
    rw [htail, if_neg hmx, List.length_replicate] at hl0
    have hmax : r.Max = 0 := by rcases g2 with h | h <;> omega
    rw [he, List.map_nil, M.a1w]; try dsimp only
    rw [if_pos (by simp), putw_ok w _ (by omega), bnd]; try dsimp only
    rw [row0, bnd]
    refine ⟨_, ?_, ?_, rfl⟩
    ·have := @Cd.never r.Set x w.length next
     have hmin : r.Min = 0 := by omega
     rw [← hL] at this
     have e : (⟨4, r.Set, r.L, 0, 0⟩ : T26) = r := by
      cases r
      simp only at h4 hmin hmax
      subst h4; subst hmin; subst hmax; rfl
     rw [e] at this
     exact this
    ·rw [hsz, if_neg hmx, hm0, hmax]; simp
   ·obtain ⟨c, k1, k2, k3⟩ := rowp _ he hmem (by rw [hps, hsz]; omega)
    rw [k3]
    have hpp := pss_len (List.replicate m (Pa.of x) ++ tail)
    have hnl : (List.replicate m (Pa.of x) ++ tail).length ≠ 0 := fun h => he (List.length_eq_zero_iff.1 h)
    refine ⟨c, ?_, by rw [k2, hps, hsz]; rw [hps] at hpp; omega, rfl⟩
    have e : (⟨4, r.Set, [x], (m : Int), r.Max⟩ : T26) = r := by
     rw [← hL, ← hm, ← h4, eta26]
    by_cases hmx : r.Max < 0
    ·rw [htail, if_pos hmx] at k1
     have := @Cd.star r.Set x m r.Max w.length next c hmx k1
     rw [e] at this
     exact this
    ·rw [htail, if_neg hmx] at k1 hnl
     rw [List.length_append, List.length_replicate, List.length_replicate] at hnl
     have := @Cd.times r.Set x m (r.Max - (m : Int)).toNat w.length next c (by omega) k1
     have e2 : ((m + (r.Max - (m : Int)).toNat : Nat) : Int) = r.Max := by rcases g2 with h | h <;> omega
     rw [e2, e] at this
     exact this
def fin' : T174 := ⟨3, Z4, 0, 0⟩
def Good (r : T26) : Prop := Rt 128 r ∧ nd r ≤ 4096 ∧ sz r + 1 ≤ 2048
theorem make_tot (r : T26) (hf : Fit 128 r) : (∃ e, e ≠ 0 ∧ M.a2j r = some ([], e) ∧ ¬ Good r) ∨ (Good r ∧ ∃ c, Cd r 0 (sz r) c ∧ c.length = sz r ∧ M.a2j r = some (c ++ [fin'], 0)) := by
 obtain ⟨b, h1, h2⟩ := check_tot r hf
 rw [M.a2j, M.a4u, h1, bnd]
 cases b with
 | false =>
  left
  refine ⟨2, by decide, by rw [if_neg (by decide), bnd]; rfl, fun h => ?_⟩
  have := h2.2 ⟨h.1, h.2.1⟩
  cases this
 | true =>
  obtain ⟨k1, k2⟩ := h2.1 rfl
  rw [if_pos rfl, size_ok 128 r k1 k2, bnd, bnd]; try dsimp only
  rw [if_pos rfl, wr_i64 (x := ((min 1048576 (sz r) : Nat) : Int) + 1) (by omega) (by omega)]
  by_cases hs : sz r + 1 ≤ 2048
  ·right
   have e1 : imn 1048576 (((min 1048576 (sz r) : Nat) : Int) + 1) = ((sz r + 1 : Nat) : Int) := by
    simp only [imn]
    split <;> omega
   rw [e1, if_neg (by omega), wr_i64 (by omega) (by omega), show ((sz r + 1 : Nat) : Int) - 1 = (sz r : Int) by omega]
   obtain ⟨c, g1, g2, g3⟩ := code_ok 128 r [] (sz r) k1 k2 (by simp; omega) (by omega)
   refine ⟨⟨k1, k2, hs⟩, c, g1, g2, ?_⟩
   rw [g3, bnd, List.nil_append, putw_ok c _ (by omega), bnd]
   rfl
  ·left
   refine ⟨110, by decide, ?_, fun h => hs h.2.2⟩
   rw [if_pos (by simp only [imn]; split <;> omega)]
def RI (N : Nat) (x : T174) : Prop := SetOk x.Set ∧ ((x.Op = 1 ∧ 0 ≤ x.X ∧ x.X < N ∧ x.Y = 0) ∨ (x.Op = 2 ∧ x.Set = Z4 ∧ 0 ≤ x.X ∧ x.X < N ∧ 0 ≤ x.Y ∧ x.Y < N) ∨ (x.Op = 4 ∧ x.Set = Z4 ∧ 0 ≤ x.X ∧ x.X < N ∧ x.Y = 0) ∨ (x.Op = 3 ∧ x.Set = Z4 ∧ x.X = 0 ∧ x.Y = 0))
theorem RI.split {N a b : Nat} (ha : a < N) (hb : b < N) : RI N ⟨2, Z4, (a : Int), (b : Int)⟩ := ⟨SetOk.Z4, .inr (.inl ⟨rfl, rfl, by simp, by simpa using ha, by simp, by simpa using hb⟩)⟩
theorem RI.jump {N a : Nat} (ha : a < N) : RI N ⟨4, Z4, (a : Int), 0⟩ := ⟨SetOk.Z4, .inr (.inr (.inl ⟨rfl, rfl, by simp, by simpa using ha, rfl⟩))⟩
theorem RI.byte {N a : Nat} {l : List Int} (hl : SetOk l) (ha : a < N) : RI N ⟨1, l, (a : Int), 0⟩ := ⟨hl, .inl ⟨rfl, by simp, by simpa using ha, rfl⟩⟩
def HR (r : T26) : Prop := ∃ d, Rt d r
theorem HR.set {r : T26} (h : HR r) : SetOk r.Set := by
 obtain ⟨d, h⟩ := h
 cases d with
 | zero => exact absurd h id
 | succ d => exact h.2.1
theorem HR.sub {r x : T26} (h : HR r) (hx : x ∈ r.L) : HR x := by
 obtain ⟨d, h⟩ := h
 cases d with
 | zero => exact absurd h id
 | succ d => exact ⟨d, h.2.2 x hx⟩
mutual
theorem Cd.ri {N : Nat} {r : T26} {a n : Nat} {c : List T174} : Cd r a n c → HR r → a + c.length < N → n < N → ∀ x ∈ c, RI N x
 | .set, hr, ha, hn, x, hx => by rw [List.mem_singleton.1 hx]; exact RI.byte hr.set hn
 | .all h, hr, ha, hn, x, hx => h.ri (fun p hp => by obtain ⟨y, hy, rfl⟩ := List.mem_map.1 hp; exact hr.sub hy) ha hn hn x hx
 | .void, hr, ha, hn, x, hx => by rw [List.mem_singleton.1 hx]; exact RI.jump hn
 | .any h, hr, ha, hn, x, hx => h.ri (fun y hy => hr.sub hy) ha hn x hx
 | .none, hr, ha, hn, x, hx => by rw [List.mem_singleton.1 hx]; exact RI.byte SetOk.Z4 hn
 | .star (x := y) _ h, hr, ha, hn, x, hx => h.ri (fun p hp => by
   have : pre' p = y := by
    rcases List.mem_append.1 hp with hp | hp
    ·rw [List.eq_of_mem_replicate hp]; rfl
    ·rw [List.mem_singleton.1 hp]; rfl
   rw [this]; exact hr.sub (by simp)) ha hn hn x hx
 | .times (x := y) _ h, hr, ha, hn, x, hx => h.ri (fun p hp => by
   have : pre' p = y := by
    rcases List.mem_append.1 hp with hp | hp
    ·rw [List.eq_of_mem_replicate hp]; rfl
    ·rw [List.eq_of_mem_replicate hp]; rfl
   rw [this]; exact hr.sub (by simp)) ha hn hn x hx
 | .never, hr, ha, hn, x, hx => by rw [List.mem_singleton.1 hx]; exact RI.jump hn
theorem An.ri {N : Nat} {L : List T26} {a n : Nat} {c : List T174} : An L a n c → (∀ y ∈ L, HR y) → a + c.length < N → n < N → ∀ x ∈ c, RI N x
 | .one h, hr, ha, hn, x, hx => h.ri (hr _ (by simp)) ha hn x hx
 | .more h hs, hr, ha, hn, x, hx => by
  simp only [List.length_cons, List.length_append] at ha
  rcases List.mem_cons.1 hx with rfl | hx
  ·exact RI.split (by omega) (by omega)
  ·rcases List.mem_append.1 hx with hx | hx
   ·exact h.ri (hr _ (by simp)) (by omega) hn x hx
   ·exact hs.ri (fun y hy => hr y (List.mem_cons_of_mem _ hy)) (by omega) hn x hx
theorem Row.ri {N : Nat} {ps : List Pa} {al a n : Nat} {c : List T174} : Row ps al a n c → (∀ p ∈ ps, HR (pre' p)) → a + c.length < N → n < N → al < N → ∀ x ∈ c, RI N x
 | .last h, hr, ha, hn, hal, x, hx => h.ri (hr _ (by simp)) ha hn hal x hx
 | .cons h hs, hr, ha, hn, hal, x, hx => by
  simp only [List.length_append] at ha
  rcases List.mem_append.1 hx with hx | hx
  ·exact h.ri (hr _ (by simp)) (by omega) (by omega) hal x hx
  ·exact hs.ri (fun y hy => hr y (List.mem_cons_of_mem _ hy)) (by omega) hn hal x hx
theorem Pc.ri {N : Nat} {p : Pa} {al a n : Nat} {c : List T174} : Pc p al a n c → HR (pre' p) → a + c.length < N → n < N → al < N → ∀ x ∈ c, RI N x
 | .of h, hr, ha, hn, hal, x, hx => h.ri hr ha hn x hx
 | .lp h, hr, ha, hn, hal, x, hx => by
  simp only [List.length_cons] at ha
  rcases List.mem_cons.1 hx with rfl | hx
  ·exact RI.split (by omega) hn
  ·exact h.ri hr (by omega) (by omega) x hx
 | .ph h, hr, ha, hn, hal, x, hx => by
  simp only [List.length_cons] at ha
  rcases List.mem_cons.1 hx with rfl | hx
  ·exact RI.split (by omega) hal
  ·exact h.ri hr (by omega) hn x hx
end
theorem eta174 (x : T174) : (⟨x.Op, x.Set, x.X, x.Y⟩ : T174) = x := by cases x; rfl
theorem right1_ok {n : Nat} {k : Int} (h0 : 0 ≤ k) (h1 : k < n) : M.a2k k (n : Int) = some true := by
 rw [M.a2k, if_pos (by omega), decide_eq_true (by omega)]
theorem pright_ok {N : Nat} {x : T174} (h : RI N x) : M.a51 x (N : Int) = some true := by
 rw [M.a51]
 rcases h.2 with ⟨h1, h2, h3, h4⟩ | ⟨h1, hs, h2, h3, h4, h5⟩ | ⟨h1, hs, h2, h3, h4⟩ | ⟨h1, hs, h2, h3⟩
 ·rw [if_pos h1, right1_ok h2 h3, bnd, if_pos rfl, decide_eq_true h4]
 ·rw [if_neg (by omega), if_pos h1, if_pos (show x.Set = [0, 0, 0, 0] from hs), right1_ok h2 h3, bnd, if_pos rfl, right1_ok h4 h5, bnd]
 ·rw [if_neg (by omega), if_neg (by omega), if_pos h1, if_pos (show x.Set = [0, 0, 0, 0] from hs), right1_ok h2 h3, bnd, if_pos rfl, decide_eq_true h4]
 ·rw [if_neg (by omega), if_neg (by omega), if_neg (by omega), if_pos h1, if_pos (show x.Set = [0, 0, 0, 0] from hs), if_pos h2, decide_eq_true h3]
theorem pcheck_ok {l : List T174} (h0 : l ≠ []) (h1 : l.length ≤ 2048) (h : ∀ x ∈ l, RI l.length x) : M.a53 l = some 0 := by
 have hne : l.length ≠ 0 := fun h => h0 (List.length_eq_zero_iff.1 h)
 have loop : ∀ (R pre : List T174), l = pre ++ R → M.a3j (l, l, (l.length : Int), (pre.length : Int)) = some 0 := by
  intro R
  induction R with
  | nil =>
   intro pre e
   rw [M.a3j]; try dsimp only
   rw [if_neg (by rw [e]; simp)]
  | cons x R ih =>
   intro pre e
   have hlen : l.length = pre.length + (R.length + 1) := by rw [e]; simp
   rw [M.a3j]; try dsimp only
   rw [if_pos (by omega), if_pos (by omega), if_pos (by omega), show gi l (pre.length : Int) = x by rw [e]; exact gi_mid pre x R, eta174, pright_ok (h x (by rw [e]; simp)), bnd, if_pos rfl, wr_i64 (by omega) (by omega)]
   have := ih (pre ++ [x]) (by rw [e]; simp)
   rw [show (((pre ++ [x]).length : Nat) : Int) = (pre.length : Int) + 1 by simp] at this
   exact this
 rw [M.a53]; try dsimp only
 rw [if_neg (by omega), M.a52]; try dsimp only
 rw [decide_eq_false (by omega), if_neg (by decide)]
 exact loop l [] rfl
structure IS (n : Nat) (s : T265) : Prop where
 len : s.place.length = n
 pos : ∀ x ∈ s.place, 0 ≤ x
 rng : ∀ x ∈ s.list, 0 ≤ x ∧ x < n
 at_ : ∀ i (h : i < s.list.length), gi s.place (s.list[i]) = (i : Int)
theorem pig : ∀ (n : Nat) (L : List Int), L.Nodup → (∀ x ∈ L, 0 ≤ x ∧ x < n) → L.length ≤ n
 | 0, L, _, h => by
  cases L with
  | nil => simp
  | cons x L => have := h x (by simp); omega
 | n + 1, L, hn, h => by
  by_cases hm : (n : Int) ∈ L
  ·have := pig n (L.erase (n : Int)) (hn.erase _) (fun x hx => by
    have h1 := h x (List.mem_of_mem_erase hx)
    have h2 := (hn.mem_erase_iff.1 hx).1
    omega)
   rw [List.length_erase_of_mem hm] at this
   omega
  ·have := pig n L hn (fun x hx => by
    have h1 := h x hx
    have h2 : x ≠ (n : Int) := fun e => hm (e ▸ hx)
    omega)
   omega
theorem IS.le {n : Nat} {s : T265} (h : IS n s) : s.list.length ≤ n := by
 -- places of what is in it are unlike
 have hn : s.list.Nodup := by
  rw [List.nodup_iff_pairwise_ne, List.pairwise_iff_getElem]
  intro i j hi hj hij he
  have h1 := h.at_ i hi
  have h2 := h.at_ j hj
  rw [he, h2] at h1
  omega
 exact pig n s.list hn h.rng
theorem hasw_ok {n : Nat} {s : T265} (h : IS n s) (x : Int) (h0 : 0 ≤ x) (h1 : x < n) : M.a55 s x = some (decide (x ∈ s.list)) := by
 have hx : gi s.place x ∈ s.place := gi_mem _ _ h0 (by rw [h.len]; exact h1)
 have hp := h.pos _ hx
 rw [M.a55, if_pos h0, if_pos (by rw [h.len]; exact h1)]
 by_cases hk : gi s.place x < (s.list.length : Int)
 ·rw [if_pos hk, if_pos hp]
  obtain ⟨k, hk'⟩ := Int.eq_ofNat_of_zero_le hp
  rw [hk'] at hk ⊢
  have hkl : k < s.list.length := by omega
  rw [gi_nat _ _ hkl]
  refine congrArg some ?_
  by_cases he : s.list[k] = x
  ·rw [decide_eq_true he, decide_eq_true (he ▸ List.getElem_mem hkl)]
  ·rw [decide_eq_false he, decide_eq_false]
   intro hm
   obtain ⟨i, hi, rfl⟩ := List.getElem_of_mem hm
   have := h.at_ i hi
   rw [hk'] at this
   have : k = i := by omega
   subst this
   exact he rfl
 ·rw [if_neg hk]
  refine congrArg some (Eq.symm (decide_eq_false ?_))
  intro hm
  obtain ⟨i, hi, rfl⟩ := List.getElem_of_mem hm
  have := h.at_ i hi
  omega
theorem add_ok {n : Nat} {s : T265} (h : IS n s) (hn : n ≤ 10000) (x : Int) (h0 : 0 ≤ x) (h1 : x < n) : (x ∈ s.list ∧ M.a2l s x = some (false, s)) ∨ (x ∉ s.list ∧ ∃ s', M.a2l s x = some (true, s') ∧ IS n s' ∧ s'.list = s.list ++ [x]) := by
 rw [M.a2l, hasw_ok h x h0 h1, bnd]
 have hle := h.le
 by_cases hm : x ∈ s.list
 ·left
  rw [decide_eq_true hm, if_pos rfl]
  exact ⟨hm, rfl⟩
 ·right
  rw [decide_eq_false hm, if_neg (by decide), if_pos h0, if_pos (by rw [h.len]; exact h1), if_pos (by simp; omega)]
  refine ⟨hm, _, rfl, ⟨by simp [si, h.len], ?_, ?_, ?_⟩, rfl⟩
  ·intro y hy
   rcases List.mem_or_eq_of_mem_set hy with hy | rfl
   ·exact h.pos y hy
   ·omega
  ·intro y hy
   rcases List.mem_append.1 hy with hy | hy
   ·exact h.rng y hy
   ·rw [List.mem_singleton.1 hy]; exact ⟨h0, h1⟩
  ·intro i hi
   simp only [List.length_append, List.length_singleton] at hi
   have hxl : x.toNat < s.place.length := by rw [h.len]; omega
   by_cases hil : i < s.list.length
   ·simp only [List.getElem_append_left hil]
    have hy := h.rng _ (List.getElem_mem hil)
    have hne : s.list[i] ≠ x := fun e => hm (e ▸ List.getElem_mem hil)
    have := h.at_ i hil
    simp only [gi, si, List.getD_eq_getElem?_getD] at this ⊢
    rw [List.getElem?_set_ne (by omega)]
    exact this
   ·have : i = s.list.length := by omega
    subst this
    simp only [List.getElem_append_right (Nat.le_refl _), Nat.sub_self, List.getElem_cons_zero]
    simp only [gi, si, List.getD_eq_getElem?_getD, List.getElem?_set_self hxl]
    rfl
theorem clear_ok {n : Nat} {s : T265} (h : IS n s) : ∃ s', M.a54 s = some s' ∧ IS n s' ∧ s'.list = [] :=
 ⟨_, rfl, ⟨h.len, h.pos, by simp [sl], by simp [sl]⟩, by simp [sl]⟩
inductive Er (l : List T174) : Int → Int → Prop
 | refl (k : Int) : Er l k k
 | step {k m j : Int} {x : T174} : gi l k = x → ((x.Op = 2 ∧ (m = x.X ∨ m = x.Y)) ∨ (x.Op = 4 ∧ m = x.X)) → Er l m j → Er l k j
def Cl (l : List T174) (A : List Int) : Prop := ∀ k ∈ A, ((gi l k).Op = 2 → (gi l k).X ∈ A ∧ (gi l k).Y ∈ A) ∧ ((gi l k).Op = 4 → (gi l k).X ∈ A)
def ClB (l : List T174) (B A : List Int) : Prop := ∀ k ∈ A, k ∉ B → ((gi l k).Op = 2 → (gi l k).X ∈ A ∧ (gi l k).Y ∈ A) ∧ ((gi l k).Op = 4 → (gi l k).X ∈ A)
section
variable {l : List T174} (hl : l.length ≤ 3000) (hri : ∀ x ∈ l, RI l.length x)
include hl hri
theorem stand_gen (F : (List Int) × T265 × T255 → Option T265)
  (hF : ∀ x6 e1v x0v, F (x6, e1v, x0v) = if (x6.length : Int) > 0 then
   if 0 ≤ wr .i64 ((x6.length : Int) - 1) then if wr .i64 ((x6.length : Int) - 1) < (x6.length : Int) then if wr .i64 ((x6.length : Int) - 1) ≤ (x6.length : Int) then
   M.a2l e1v (gi x6 (wr .i64 ((x6.length : Int) - 1))) >>= fun y25 =>
   if y25.1 = true then
   if 0 ≤ gi x6 (wr .i64 ((x6.length : Int) - 1)) then if gi x6 (wr .i64 ((x6.length : Int) - 1)) < (x0v.l.length : Int) then
   some (gi x0v.l (gi x6 (wr .i64 ((x6.length : Int) - 1)))) >>= fun v35 =>
   if v35.Op = 2 then some ((sl x6 0 (wr .i64 ((x6.length : Int) - 1))) ++ [v35.Y]) >>= fun v49 => if (v49.length : Int) ≤ 1099511627776 then if ((v49 ++ [v35.X]).length : Int) ≤ 1099511627776 then F ((v49 ++ [v35.X]), y25.2, x0v) else none else none
   else if v35.Op = 4 then some ((sl x6 0 (wr .i64 ((x6.length : Int) - 1))) ++ [v35.X]) >>= fun v74 => if (v74.length : Int) ≤ 1099511627776 then F (v74, y25.2, x0v) else none
   else F ((sl x6 0 (wr .i64 ((x6.length : Int) - 1))), y25.2, x0v)
   else none else none
   else F ((sl x6 0 (wr .i64 ((x6.length : Int) - 1))), y25.2, x0v)
   else none else none else none else some e1v) (q : T255) (hq : q.l = l) :
  ∀ (fuel : Nat) (st : List Int) (s : T265), IS l.length s → (∀ k ∈ st, 0 ≤ k ∧ k < l.length) → 3 * (l.length - s.list.length) + st.length ≤ fuel → fuel ≤ 100000 →
   ∃ s', F (st, s, q) = some s' ∧ IS l.length s' ∧ (∀ k ∈ s.list, k ∈ s'.list) ∧ (∀ k ∈ st, k ∈ s'.list) ∧ (∀ k ∈ s'.list, k ∈ s.list ∨ ∃ j ∈ st, Er l j k) ∧ ClB l s.list s'.list := by
 intro fuel
 induction fuel with
 | zero =>
  intro st s hs hst hm hb
  have : st = [] := List.length_eq_zero_iff.1 (by omega)
  subst this
  refine ⟨s, ?_, hs, fun _ h => h, by simp, fun k hk => .inl hk, fun k hk hn => absurd hk hn⟩
  rw [hF]; simp
 | succ fuel ih =>
  intro st s hs hst hm hb
  rcases List.eq_nil_or_concat st with rfl | ⟨R, k, e0⟩
  ·refine ⟨s, ?_, hs, fun _ h => h, by simp, fun k hk => .inl hk, fun k hk hn => absurd hk hn⟩
   rw [hF]; simp
  rw [List.concat_eq_append] at e0
  subst e0
  have e1 : (((R ++ [k]).length : Nat) : Int) = (R.length : Int) + 1 := by simp
  have hk := hst k (by simp)
  have hm2 : 3 * (l.length - s.list.length) + (R.length + 1) ≤ fuel + 1 := by simpa using hm
  have hg : gi (R ++ [k]) (R.length : Int) = k := gi_mid R k []
  have hsl : sl (R ++ [k]) 0 (R.length : Int) = R := by simp [sl]
  have hR : ∀ j ∈ R, 0 ≤ j ∧ j < l.length := fun j hj => hst j (by simp [hj])
  rw [hF, e1, if_pos (by omega), wr_i64 (by omega) (by omega), show (R.length : Int) + 1 - 1 = (R.length : Int) by omega, if_pos (by omega), if_pos (by omega), if_pos (by omega), hg, hsl]
  rcases add_ok hs (by omega) k hk.1 hk.2 with ⟨hin, e2⟩ | ⟨hnin, s1, e2, hs1, hl1⟩
  ·rw [e2, bnd, if_neg (by simp)]
   obtain ⟨s', g1, g2, g3, g4, g5, g6⟩ := ih R s hs hR (by omega) (by omega)
   refine ⟨s', g1, g2, g3, fun j hj => ?_, fun j hj => ?_, g6⟩
   ·rcases List.mem_append.1 hj with hj | hj
    ·exact g4 j hj
    ·rw [List.mem_singleton.1 hj]; exact g3 k hin
   ·rcases g5 j hj with h | ⟨i, hi, h⟩
    ·exact .inl h
    ·exact .inr ⟨i, by simp [hi], h⟩
  ·rw [e2, bnd, if_pos rfl, if_pos hk.1, hq, if_pos hk.2, bnd]
   have hle := hs1.le
   have hll : s1.list.length = s.list.length + 1 := by rw [hl1]; simp
   have hx := hri _ (gi_mem l k hk.1 hk.2)
   generalize hxx : gi l k = x at hx ⊢
   -- whatever lies on the pile then
   have fin : ∀ (T : List Int), (∀ j ∈ T, 0 ≤ j ∧ j < l.length) → T.length ≤ 2 → (∀ j ∈ T, (x.Op = 2 ∧ (j = x.X ∨ j = x.Y)) ∨ (x.Op = 4 ∧ j = x.X)) → ((x.Op = 2 → x.X ∈ T ∧ x.Y ∈ T) ∧ (x.Op = 4 → x.X ∈ T)) →
     ∃ s', F (R ++ T, s1, q) = some s' ∧ IS l.length s' ∧ (∀ k ∈ s.list, k ∈ s'.list) ∧ (∀ j ∈ R ++ [k], j ∈ s'.list) ∧ (∀ j ∈ s'.list, j ∈ s.list ∨ ∃ i ∈ R ++ [k], Er l i j) ∧ ClB l s.list s'.list := by
    intro T hT1 hT2 hT3 hT4
    obtain ⟨s', g1, g2, g3, g4, g5, g6⟩ := ih (R ++ T) s1 hs1 (fun j hj => by
     rcases List.mem_append.1 hj with hj | hj
     ·exact hR j hj
     ·exact hT1 j hj) (by rw [List.length_append]; omega) (by omega)
    have hks' : k ∈ s'.list := g3 k (by rw [hl1]; simp)
    refine ⟨s', g1, g2, fun j hj => g3 j (by rw [hl1]; simp [hj]), fun j hj => ?_, fun j hj => ?_, fun j hj hn => ?_⟩
    ·rcases List.mem_append.1 hj with hj | hj
     ·exact g4 j (by simp [hj])
     ·rw [List.mem_singleton.1 hj]; exact hks'
    ·rcases g5 j hj with h | ⟨i, hi, h⟩
     ·rw [hl1] at h
      rcases List.mem_append.1 h with h | h
      ·exact .inl h
      ·rw [List.mem_singleton.1 h]; exact .inr ⟨k, by simp, .refl k⟩
     ·rcases List.mem_append.1 hi with hi | hi
      ·exact .inr ⟨i, by simp [hi], h⟩
      ·exact .inr ⟨k, by simp, .step hxx (hT3 i hi) h⟩
    ·by_cases hjk : j = k
     ·subst hjk
      rw [hxx]
      exact ⟨fun h => ⟨g4 _ (by simp [(hT4.1 h).1]), g4 _ (by simp [(hT4.1 h).2])⟩, fun h => g4 _ (by simp [hT4.2 h])⟩
     ·exact g6 j hj (by rw [hl1]; simp [hn, hjk])
   by_cases h2 : x.Op = 2
   ·rcases hx.2 with h | ⟨_, _, b1, b2, b3, b4⟩ | h | h
    ·omega
    ·rw [if_pos h2, bnd, if_pos (by simp; omega), if_pos (by simp; omega), List.append_assoc]
     exact fin [x.Y, x.X] (fun j hj => by simp at hj; rcases hj with rfl | rfl <;> omega) (by simp) (fun j hj => .inl ⟨h2, by simp at hj; rcases hj with h | h <;> simp [h]⟩) ⟨fun _ => by simp, fun h => by omega⟩
    ·omega
    ·omega
   ·rw [if_neg h2]
    by_cases h4 : x.Op = 4
    ·rcases hx.2 with h | h | ⟨_, _, b1, b2, b3⟩ | h
     ·omega
     ·omega
     ·rw [if_pos h4, bnd, if_pos (by simp; omega)]
      exact fin [x.X] (fun j hj => by rw [List.mem_singleton.1 hj]; omega) (by simp) (fun j hj => .inr ⟨h4, List.mem_singleton.1 hj⟩) ⟨fun h => by omega, fun _ => by simp⟩
     ·omega
    ·rw [if_neg h4]
     have := fin [] (by simp) (by simp) (by simp) ⟨fun h => absurd h h2, fun h => absurd h h4⟩
     rw [List.append_nil] at this
     exact this
theorem stand1_ok (q : T255) (hq : q.l = l) (k : Int) (hk : 0 ≤ k ∧ k < l.length) (hs : IS l.length q.now) :
  ∃ s', M.a56 q k = some s' ∧ IS l.length s' ∧ (∀ k ∈ q.now.list, k ∈ s'.list) ∧ k ∈ s'.list ∧ (∀ j ∈ s'.list, j ∈ q.now.list ∨ Er l k j) ∧ ClB l q.now.list s'.list := by
 obtain ⟨s', g1, g2, g3, g4, g5, g6⟩ := stand_gen hl hri M.a1y (fun _ _ _ => by rw [M.a1y]) q hq 20000 [k] q.now hs (by simpa using hk) (by simp; omega) (by omega)
 refine ⟨s', ?_, g2, g3, g4 k (by simp), fun j hj => by simpa using g5 j hj, g6⟩
 rw [M.a56]; exact g1
theorem stand2_ok (q : T255) (hq : q.l = l) (k : Int) (hk : 0 ≤ k ∧ k < l.length) (hs : IS l.length q.next) :
  ∃ s', M.a59 q k = some s' ∧ IS l.length s' ∧ (∀ k ∈ q.next.list, k ∈ s'.list) ∧ k ∈ s'.list ∧ (∀ j ∈ s'.list, j ∈ q.next.list ∨ Er l k j) ∧ ClB l q.next.list s'.list := by
 obtain ⟨s', g1, g2, g3, g4, g5, g6⟩ := stand_gen hl hri M.a1z (fun _ _ _ => by rw [M.a1z]) q hq 20000 [k] q.next hs (by simpa using hk) (by simp; omega) (by omega)
 refine ⟨s', ?_, g2, g3, g4 k (by simp), fun j hj => by simpa using g5 j hj, g6⟩
 rw [M.a59]; exact g1
end
theorem bt_range (s : ByteArray) (i : Int) : 0 ≤ bt s i ∧ bt s i ≤ 255 := by
 unfold bt
 split
 ·rename_i h
  have := (s[i.toNat]'h).toNat_lt
  omega
 ·omega
def AcS (l : List T174) (w : List Int) (k : Int) : Prop := ∃ m, Ac l m w k.toNat
theorem at_gi {l : List T174} {k : Int} {x : T174} (h : gi l k = x) (h0 : x.Op ≠ 0) : l[k.toNat]? = some x := by
 unfold gi at h
 rw [List.getD_eq_getElem?_getD] at h
 cases hx : l[k.toNat]? with
 | none =>
  rw [hx] at h
  exact absurd (by rw [← h]; rfl) h0
 | some y =>
  rw [hx] at h
  rw [← h]
  rfl
theorem gi_at {l : List T174} {k : Int} {x : T174} (h : l[k.toNat]? = some x) : gi l k = x := by
 unfold gi
 rw [List.getD_eq_getElem?_getD, h]
 rfl
theorem Er.ac {l : List T174} {w : List Int} {k j : Int} (h : Er l k j) (hj : AcS l w j) : AcS l w k := by
 induction h with
 | refl k => exact hj
 | step hx hs _ ih =>
  obtain ⟨m, hm⟩ := ih hj
  rename_i x _
  cases x with
  | mk op z x y =>
  rcases hs with ⟨h2, h | h⟩ | ⟨h4, h⟩
  ·simp only at h2 h
   subst h2; subst h
   exact ⟨m + 1, .left (at_gi hx (by simp)) hm⟩
  ·simp only at h2 h
   subst h2; subst h
   exact ⟨m + 1, .right (at_gi hx (by simp)) hm⟩
  ·simp only at h4 h
   subst h4; subst h
   exact ⟨m + 1, .jump (at_gi hx (by simp)) hm⟩
theorem Cl.fin {l : List T174} {A : List Int} (hc : Cl l A) {m k' : Nat} {w : List Int} (h : Ac l m w k') : w = [] → ∀ k ∈ A, k.toNat = k' → ∃ j ∈ A, (gi l j).Op = 3 := by
 induction h with
 | fin e => intro _ k hk ek; subst ek; exact ⟨k, hk, by rw [gi_at e]⟩
 | byte => intro h; cases h
 | jump e _ ih => intro hw k hk ek; subst ek; exact ih hw _ (by have := (hc k hk).2; rw [gi_at e] at this; exact this rfl) rfl
 | left e _ ih => intro hw k hk ek; subst ek; exact ih hw _ (by have := (hc k hk).1; rw [gi_at e] at this; exact (this rfl).1) rfl
 | right e _ ih => intro hw k hk ek; subst ek; exact ih hw _ (by have := (hc k hk).1; rw [gi_at e] at this; exact (this rfl).2) rfl
theorem Cl.byte {l : List T174} {A A' : List Int} {b : Int} (hc : Cl l A) (h1 : ∀ k ∈ A, (gi l k).Op = 1 → Hs (gi l k).Set b → (gi l k).X ∈ A') {m k' : Nat} {w' : List Int} (h : Ac l m w' k') :
  ∀ w, w' = b :: w → ∀ k ∈ A, k.toNat = k' → ∃ j ∈ A', AcS l w j := by
 induction h with
 | fin e => intro w h; cases h
 | byte e hb ha _ =>
  intro w hw k hk ek
  subst ek
  simp only [List.cons.injEq] at hw
  obtain ⟨rfl, rfl⟩ := hw
  have := h1 k hk
  rw [gi_at e] at this
  exact ⟨_, this rfl hb, _, ha⟩
 | jump e _ ih => intro w hw k hk ek; subst ek; exact ih w hw _ (by have := (hc k hk).2; rw [gi_at e] at this; exact this rfl) rfl
 | left e _ ih => intro w hw k hk ek; subst ek; exact ih w hw _ (by have := (hc k hk).1; rw [gi_at e] at this; exact (this rfl).1) rfl
 | right e _ ih => intro w hw k hk ek; subst ek; exact ih w hw _ (by have := (hc k hk).1; rw [gi_at e] at this; exact (this rfl).2) rfl
def Q (l : List T174) (A u : List Int) : Prop := Cl l A ∧ ∀ w, (∃ k ∈ A, AcS l w k) ↔ AcS l (u ++ w) 0
structure RnOk (l : List T174) (q : T255) (u : List Int) : Prop where
 l_ : q.l = l
 now : IS l.length q.now
 next : IS l.length q.next
 q_ : Q l q.now.list u
theorem Q.step {l : List T174} {A A' u : List Int} {b : Int} (h : Q l A u) (hc : Cl l A') (h1 : ∀ k ∈ A, (gi l k).Op = 1 → Hs (gi l k).Set b → (gi l k).X ∈ A')
  (h2 : ∀ j ∈ A', ∃ k ∈ A, (gi l k).Op = 1 ∧ Hs (gi l k).Set b ∧ Er l (gi l k).X j) : Q l A' (u ++ [b]) := by
 refine ⟨hc, fun w => ?_⟩
 rw [List.append_assoc, List.singleton_append, ← h.2]
 constructor
 ·rintro ⟨j, hj, ha⟩
  obtain ⟨k, hk, h3, h4, h5⟩ := h2 j hj
  refine ⟨k, hk, ?_⟩
  obtain ⟨m, hm⟩ := h5.ac ha
  generalize hx : gi l k = x at h3 h4 hm
  cases x with
  | mk op z x y =>
  simp only at h3 h4 hm
  subst h3
  exact ⟨m + 1, .byte (at_gi hx (by simp)) h4 hm⟩
 ·rintro ⟨k, hk, m, ha⟩
  exact h.1.byte h1 ha w rfl k hk rfl
theorem Q.acc {l : List T174} {A u : List Int} (h : Q l A u) : (∃ k ∈ A, (gi l k).Op = 3) ↔ AcS l u 0 := by
 have := h.2 []
 rw [List.append_nil] at this
 rw [← this]
 constructor
 ·rintro ⟨k, hk, h3⟩
  refine ⟨k, hk, 0, ?_⟩
  generalize hx : gi l k = x at h3
  cases x with
  | mk op z x y =>
  simp only at h3
  subst h3
  exact .fin (at_gi hx (by simp))
 ·rintro ⟨k, hk, m, ha⟩
  exact h.1.fin ha rfl k hk rfl
section
variable {l : List T174} (hl : l.length ≤ 3000) (hri : ∀ x ∈ l, RI l.length x)
include hl hri
theorem led_ok (q : T255) (hq : q.l = l) (hnow : IS l.length q.now) (b : Int) (h0 : 0 ≤ b) (h1 : b ≤ 255) : ∀ (R pre : List Int) (s : T265), q.now.list = pre ++ R → IS l.length s → Cl l s.list →
  (∀ k ∈ pre, (gi l k).Op = 1 → Hs (gi l k).Set b → (gi l k).X ∈ s.list) → (∀ j ∈ s.list, ∃ k ∈ q.now.list, (gi l k).Op = 1 ∧ Hs (gi l k).Set b ∧ Er l (gi l k).X j) →
  ∃ s', M.a2m ((q.now.list.length : Int), (pre.length : Int), s, q, b) = some s' ∧ IS l.length s' ∧ Cl l s'.list ∧
   (∀ k ∈ q.now.list, (gi l k).Op = 1 → Hs (gi l k).Set b → (gi l k).X ∈ s'.list) ∧ (∀ j ∈ s'.list, ∃ k ∈ q.now.list, (gi l k).Op = 1 ∧ Hs (gi l k).Set b ∧ Er l (gi l k).X j) := by
 intro R
 have hle := hnow.le
 induction R with
 | nil =>
  intro pre s e hs hc p1 p2
  refine ⟨s, ?_, hs, hc, ?_, p2⟩
  ·rw [M.a2m]; try dsimp only
   rw [if_neg (by rw [e]; simp)]
  ·rw [e, List.append_nil]; exact p1
 | cons k R ih =>
  intro pre s e hs hc p1 p2
  have hlen : q.now.list.length = pre.length + (R.length + 1) := by rw [e]; simp
  have hk : k ∈ q.now.list := by rw [e]; simp
  obtain ⟨k0, k1⟩ := hnow.rng k hk
  obtain ⟨v, hv⟩ := has_tot (gi l k).Set h0 h1
  have go : ∀ s1 : T265, IS l.length s1 → Cl l s1.list → (∀ j ∈ s.list, j ∈ s1.list) → ((gi l k).Op = 1 → Hs (gi l k).Set b → (gi l k).X ∈ s1.list) →
    (∀ j ∈ s1.list, j ∈ s.list ∨ ((gi l k).Op = 1 ∧ Hs (gi l k).Set b ∧ Er l (gi l k).X j)) →
    ∃ s', M.a3k ((q.now.list.length : Int), (pre.length : Int), false, s1, q, b) = some s' ∧ IS l.length s' ∧ Cl l s'.list ∧
     (∀ k ∈ q.now.list, (gi l k).Op = 1 → Hs (gi l k).Set b → (gi l k).X ∈ s'.list) ∧ (∀ j ∈ s'.list, ∃ k ∈ q.now.list, (gi l k).Op = 1 ∧ Hs (gi l k).Set b ∧ Er l (gi l k).X j) := by
   intro s1 g1 g2 g3 g4 g5
   obtain ⟨s', r1, r2⟩ := ih (pre ++ [k]) s1 (by rw [e]; simp) g1 g2 (fun j hj ho hh => by
    rcases List.mem_append.1 hj with hj | hj
    ·exact g3 _ (p1 j hj ho hh)
    ·rw [List.mem_singleton.1 hj] at ho hh ⊢; exact g4 ho hh) (fun j hj => by
    rcases g5 j hj with h | h
    ·exact p2 j h
    ·exact ⟨k, hk, h⟩)
   refine ⟨s', ?_, r2⟩
   rw [show (((pre ++ [k]).length : Nat) : Int) = (pre.length : Int) + 1 by simp] at r1
   rw [M.a3k]; try dsimp only
   rw [if_neg (by decide), wr_i64 (by omega) (by omega)]
   exact r1
  rw [M.a2m]; try dsimp only
  rw [if_pos (by omega), if_pos (by omega), if_pos (by omega), show gi q.now.list (pre.length : Int) = k by rw [e]; exact gi_mid pre k R, if_pos k0, hq, if_pos k1]
  by_cases ho : (gi l k).Op = 1
  ·rw [if_pos ho, hv, bnd]
   cases v with
   | true =>
    have hx := hri _ (gi_mem l k k0 k1)
    rw [if_pos rfl, M.a60]
    rcases hx.2 with ⟨_, b1, b2, _⟩ | h | h | h
    ·obtain ⟨s1, g1, g2, g3, g4, g5, g6⟩ := stand2_ok hl hri ⟨l, q.now, s⟩ rfl (gi l k).X ⟨b1, b2⟩ hs
     rw [g1, bnd, bnd]
     refine go s1 g2 (fun j hj => ?_) g3 (fun _ _ => g4) (fun j hj => ?_)
     ·by_cases hjs : j ∈ s.list
      ·have := hc j hjs
       exact ⟨fun h => ⟨g3 _ (this.1 h).1, g3 _ (this.1 h).2⟩, fun h => g3 _ (this.2 h)⟩
      ·exact g6 j hj hjs
     ·rcases g5 j hj with h | h
      ·exact .inl h
      ·exact .inr ⟨ho, hv, h⟩
    ·omega
    ·omega
    ·omega
   | false =>
    rw [if_neg (by decide)]
    refine go s hs hc (fun _ h => h) (fun _ h => ?_) (fun j hj => .inl hj)
    rw [Hs, hv] at h
    cases h
  ·rw [if_neg ho]
   exact go s hs hc (fun _ h => h) (fun h => absurd h ho) (fun j hj => .inl hj)
theorem feed_ok (q : T255) (u : List Int) (h : RnOk l q u) (b : Int) (h0 : 0 ≤ b) (h1 : b ≤ 255) : ∃ s', M.a5b q b = some (!(decide (s'.list = [])), q.l, s') ∧ RnOk l ⟨q.l, s', q.now⟩ (u ++ [b]) ∧ Cl l s'.list ∧
  (∀ k ∈ q.now.list, (gi l k).Op = 1 → Hs (gi l k).Set b → (gi l k).X ∈ s'.list) ∧ (∀ j ∈ s'.list, ∃ k ∈ q.now.list, (gi l k).Op = 1 ∧ Hs (gi l k).Set b ∧ Er l (gi l k).X j) := by
 obtain ⟨s0, c1, c2, c3⟩ := clear_ok h.next
 rw [M.a5b]
 show ∃ q', (some () >>= _) = _ ∧ _
 rw [bnd, c1, bnd]
 show ∃ q', (some b >>= _) = _ ∧ _
 rw [bnd]
 obtain ⟨s', g1, g2, g3, g4, g5⟩ := led_ok hl hri ⟨q.l, q.now, s0⟩ h.l_ h.now b h0 h1 q.now.list [] s0 rfl c2 (by intro k hk; rw [c3] at hk; simp at hk) (by simp) (by intro j hj; rw [c3] at hj; simp at hj)
 have e : M.a5a ⟨q.l, q.now, s0⟩ b = some s' := by rw [M.a5a]; exact g1
 rw [e, bnd]
 refine ⟨s', ?_, ⟨h.l_, g2, h.now, h.q_.step g3 g4 g5⟩, g3, g4, g5⟩
 show (some (decide ((s'.list.length : Int) = 0)) >>= _) = _
 rw [bnd]
 have : decide ((s'.list.length : Int) = 0) = decide (s'.list = []) := by
  by_cases hh : s'.list = []
  ·rw [decide_eq_true hh, decide_eq_true (by rw [hh]; rfl)]
  ·rw [decide_eq_false hh, decide_eq_false]
   intro h'
   exact hh (List.length_eq_zero_iff.1 (by omega))
 rw [this]
theorem accepts_at (q : T255) (u : List Int) (h : RnOk l q u) : ∃ b, M.a4g q = some b ∧ (b = true ↔ ∃ k ∈ q.now.list, (gi l k).Op = 3) := by
 have hle := h.now.le
 have loop : ∀ (R pre : List Int), q.now.list = pre ++ R → (∀ k ∈ pre, (gi l k).Op ≠ 3) → ∃ j, M.a2n ((q.now.list.length : Int), (pre.length : Int), q.now.list, q.l, q.now.place, q.next) = some j ∧ (0 ≤ j ↔ ∃ k ∈ q.now.list, (gi l k).Op = 3) := by
  intro R
  induction R with
  | nil =>
   intro pre e hp
   refine ⟨-1, ?_, ⟨fun h => by omega, fun ⟨k, hk, h3⟩ => absurd h3 (hp k (by rw [e, List.append_nil] at hk; exact hk))⟩⟩
   rw [M.a2n]; try dsimp only
   rw [if_neg (by rw [e]; simp)]
  | cons k R ih =>
   intro pre e hp
   have hlen : q.now.list.length = pre.length + (R.length + 1) := by rw [e]; simp
   have hk : k ∈ q.now.list := by rw [e]; simp
   obtain ⟨k0, k1⟩ := h.now.rng k hk
   rw [M.a2n]; try dsimp only
   rw [if_pos (by omega), if_pos (by omega), if_pos (by omega), show gi q.now.list (pre.length : Int) = k by rw [e]; exact gi_mid pre k R, M.a61, if_pos k0]
   rw [h.l_, if_pos k1, bnd]
   by_cases h3 : (gi l k).Op = 3
   ·rw [decide_eq_true h3, if_pos rfl]
    exact ⟨_, rfl, ⟨fun _ => ⟨k, hk, h3⟩, fun _ => by omega⟩⟩
   ·rw [decide_eq_false h3, if_neg (by decide), wr_i64 (by omega) (by omega)]
    have := ih (pre ++ [k]) (by rw [e]; simp) (fun j hj => by
     rcases List.mem_append.1 hj with hj | hj
     ·exact hp j hj
     ·rw [List.mem_singleton.1 hj]; exact h3)
    rw [show (((pre ++ [k]).length : Nat) : Int) = (pre.length : Int) + 1 by simp, h.l_] at this
    exact this
 obtain ⟨j, g1, g2⟩ := loop q.now.list [] rfl (by simp)
 refine ⟨decide (j ≥ 0), ?_, by simpa using g2⟩
 rw [M.a4g]
 show (some () >>= _) = _
 rw [bnd, M.a63, M.a62]
 have g1' : M.a2n ((q.now.list.length : Int), 0, q.now.list, q.l, q.now.place, q.next) = some j := g1
 rw [g1', bnd, bnd]
theorem accepts_ok (q : T255) (u : List Int) (h : RnOk l q u) : ∃ b, M.a4g q = some b ∧ (b = true ↔ AcS l u 0) := by
 rw [← h.q_.acc]
 exact accepts_at hl hri q u h
theorem reset_ok (q : T255) (hq : q.l = l) (hn : IS l.length q.now) (h2 : 0 < l.length) : ∃ s', M.a57 q = some s' ∧ IS l.length s' ∧ Cl l s'.list ∧ 0 ∈ s'.list ∧ ∀ k ∈ s'.list, Er l 0 k := by
 obtain ⟨s1, c1, c2, c3⟩ := clear_ok hn
 obtain ⟨s', g1, g2, g3, g4, g5, g6⟩ := stand1_ok hl hri ⟨q.l, s1, q.next⟩ hq 0 ⟨by omega, by omega⟩ c2
 refine ⟨s', ?_, g2, ?_, g4, fun k hk => ?_⟩
 ·rw [M.a57]
  show (some () >>= _) = _
  rw [bnd, c1, bnd, g1, bnd]
 ·intro k hk
  exact g6 k hk (by rw [c3]; simp)
 ·rcases g5 k hk with h | h
  ·rw [c3] at h; simp at h
  ·exact h
theorem q_begin {s' : T265} (g3 : Cl l s'.list) (g4 : 0 ∈ s'.list) (g5 : ∀ k ∈ s'.list, Er l 0 k) : Q l s'.list [] := by
 refine ⟨g3, fun w => ?_⟩
 rw [List.nil_append]
 constructor
 ·rintro ⟨k, hk, ha⟩
  exact (g5 k hk).ac ha
 ·intro ha
  exact ⟨0, g4, ha⟩
theorem new_at (h0 : l ≠ []) (h2 : l.length ≤ 2048) : ∃ q, M.a4f l = some (.inl (q, 0)) ∧ RnOk l q [] ∧ Cl l q.now.list ∧ 0 ∈ q.now.list ∧ ∀ k ∈ q.now.list, Er l 0 k := by
 have hne : l.length ≠ 0 := fun h => h0 (List.length_eq_zero_iff.1 h)
 have hs0 : IS l.length ⟨List.replicate l.length 0, []⟩ := ⟨by simp, fun x hx => by rw [List.eq_of_mem_replicate hx]; omega, by simp, by simp⟩
 have e1 : M.a4d (l.length : Int) = some (List.replicate l.length 0) := by
  rw [M.a4d, if_pos (by omega), if_pos (by omega), Int.toNat_natCast]
 obtain ⟨s', e2, g2, g3, g4, g5⟩ := reset_ok hl hri ⟨l, ⟨List.replicate l.length 0, []⟩, ⟨List.replicate l.length 0, []⟩⟩ rfl hs0 (by omega)
 rw [M.a4f, pcheck_ok h0 h2 hri, bnd, if_pos rfl, M.a5z, if_pos (by omega), bnd, e1, bnd, bnd, e2, bnd]
 exact ⟨_, rfl, ⟨rfl, g2, hs0, q_begin hl hri g3 g4 g5⟩, g3, g4, g5⟩
theorem new_ok (h0 : l ≠ []) (h2 : l.length ≤ 2048) : ∃ q, M.a4f l = some (.inl (q, 0)) ∧ RnOk l q [] := by
 obtain ⟨q, a, b, _⟩ := new_at hl hri h0 h2
 exact ⟨q, a, b⟩
theorem begin_ok (h0 : l ≠ []) (h2 : l.length ≤ 2048) (s : ByteArray) (hs : s.size ≤ 65536) : ∃ q, M.a58 l s = some (.inl (q, 0)) ∧ RnOk l q [] := by
 obtain ⟨q, g1, g2⟩ := new_ok hl hri h0 h2
 refine ⟨q, ?_, g2⟩
 rw [M.a58, g1, bnd]; try dsimp only
 rw [if_pos rfl, if_neg (by omega)]
def U (s : ByteArray) (i : Nat) : List Int := (List.range i).map fun j : Nat => bt s (j : Int)
omit hl hri in
theorem U_succ (s : ByteArray) (i : Nat) : U s (i + 1) = U s i ++ [bt s (i : Int)] := by
 unfold U
 rw [List.range_succ, List.map_append]
 rfl
theorem match_l0_ok (s : ByteArray) (hs : s.size ≤ 65536) : ∀ (n i : Nat) (q : T255), i + n = s.size → RnOk l q (U s i) → ∃ b, M.a3l (s, q, 0, (s.size : Int), (i : Int)) = some (b, 0) ∧ (b = true ↔ AcS l (U s s.size) 0) := by
 intro n
 induction n with
 | zero =>
  intro i q hi hq
  obtain ⟨b, g1, g2⟩ := accepts_ok hl hri q _ hq
  rw [M.a3l]; try dsimp only
  rw [if_neg (by omega), g1, bnd]
  refine ⟨b, rfl, ?_⟩
  rw [show s.size = i by omega]
  exact g2
 | succ n ih =>
  intro i q hi hq
  obtain ⟨s', g1, g2, _⟩ := feed_ok hl hri q _ hq (bt s (i : Int)) (bt_range s i).1 (bt_range s i).2
  rw [← U_succ] at g2
  rw [M.a3l]; try dsimp only
  rw [if_pos (by omega), if_pos (by omega), if_pos (by omega), g1, bnd]; try dsimp only
  by_cases hd : s'.list = []
  ·rw [decide_eq_true hd, if_neg (by decide)]
   refine ⟨false, rfl, by simp, fun ha => ?_⟩
   -- nowhere: nothing more is accepted
   have e : ∃ w, U s s.size = U s (i + 1) ++ w := by
    refine ⟨(List.range' (i + 1) n).map fun j : Nat => bt s (j : Int), ?_⟩
    unfold U
    rw [show s.size = (i + 1) + n by omega, ← List.map_append, List.range_eq_range', List.range_eq_range', show i + 1 + n = (i + 1) + n from rfl]
    congr 1
    have := @List.range'_append_1 0 (i + 1) n
    rw [Nat.zero_add] at this
    exact this.symm
   obtain ⟨w, hw⟩ := e
   rw [hw, ← g2.q_.2, hd] at ha
   obtain ⟨k, hk, _⟩ := ha
   simp at hk
  ·rw [decide_eq_false hd, if_pos (by decide), wr_i64 (by omega) (by omega)]
   exact ih (i + 1) ⟨q.l, s', q.now⟩ (by omega) g2
theorem match_ok (h0 : l ≠ []) (h2 : l.length ≤ 2048) (s : ByteArray) (hs : s.size ≤ 65536) : ∃ b, M.a4h l s = some (b, 0) ∧ (b = true ↔ AcS l (U s s.size) 0) := by
 obtain ⟨q, g1, g2⟩ := begin_ok hl hri h0 h2 s hs
 rw [M.a4h, g1, bnd]; try dsimp only
 rw [if_pos rfl]
 exact match_l0_ok hl hri s hs s.size 0 q (by omega) g2
end
theorem prog_ri {r : T26} {c : List T174} (hg : Good r) (hc : Cd r 0 (sz r) c) (hn : c.length = sz r) : (c ++ [fin']).length ≤ 2048 ∧ ∀ x ∈ c ++ [fin'], RI (c ++ [fin']).length x := by
 have h := hg.2.2
 have hlen : (c ++ [fin']).length = c.length + 1 := by simp
 refine ⟨by omega, fun x hx => ?_⟩
 rcases List.mem_append.1 hx with hx | hx
 ·exact hc.ri ⟨128, hg.1⟩ (by omega) (by omega) x hx
 ·rw [List.mem_singleton.1 hx]
  exact ⟨SetOk.Z4, .inr (.inr (.inr ⟨rfl, rfl, rfl, rfl⟩))⟩
theorem prog_lang {r : T26} {c : List T174} (hc : Cd r 0 (sz r) c) (hn : c.length = sz r) (w : List Int) : AcS (c ++ [fin']) w 0 ↔ Lg r w := by
 have hl : Lies (c ++ [fin']) 0 c := by
  intro i hi
  rw [Nat.zero_add, List.getElem?_append_left hi]
 have hf : (c ++ [fin'])[sz r]? = some fin' := by
  rw [← hn, List.getElem?_append_right (Nat.le_refl _), Nat.sub_self]
  rfl
 constructor
 ·rintro ⟨m, hm⟩
  obtain ⟨u, v, m', rfl, h1, h2, _⟩ := hc.snd hl m w hm
  have : v = [] := by
   cases h2 with
   | fin => rfl
   | byte e => rw [hf] at e; simp [fin'] at e
   | jump e => rw [hf] at e; simp [fin'] at e
   | left e => rw [hf] at e; simp [fin'] at e
   | right e => rw [hf] at e; simp [fin'] at e
  rw [this, List.append_nil]
  exact h1
 ·intro h
  obtain ⟨m, hm⟩ := hc.cmp hl w [] h ⟨0, .fin hf⟩
  rw [List.append_nil] at hm
  exact ⟨m, hm⟩
theorem means_ok {r : T26} {c : List T174} (hg : Good r) (hc : Cd r 0 (sz r) c) (hn : c.length = sz r) (s : ByteArray) (hs : s.size ≤ 65536) : ∃ b, M.a4h (c ++ [fin']) s = some (b, 0) ∧ (b = true ↔ Lg r (U s s.size)) := by
 obtain ⟨h1, h2⟩ := prog_ri hg hc hn
 obtain ⟨b, g1, g2⟩ := match_ok (by omega) h2 (by simp) h1 s hs
 exact ⟨b, g1, g2.trans (prog_lang hc hn _)⟩
section
variable (s : ByteArray) (hs : s.size ≤ 100)
include hs
end
structure Sm (r : T26) : Prop where
 good : Good r
 deep : Rt 9 r
 nd_ : nd r ≤ 40
 sz_ : sz r ≤ 149
theorem ss_size (s : ByteArray) (i j : Nat) (h1 : i ≤ j) (h2 : j ≤ s.size) : (ss s (i : Int) (j : Int)).size = j - i := by
 simp only [ss, ByteArray.size_extract, Int.toNat_natCast]
 omega
end Go.Proofs.YtdccklkdakfnaaaGreat
/-
 A text that a pattern means fits the pattern's query. Pure.
-/
set_option linter.unusedVariables false
set_option linter.unusedSimpArgs false
namespace Go.Proofs.YtdccklkdakfnaaaGreat
open Go.Gx
open Classical
/-! ### What fits, put together -/
theorem dist_has {y : T29} : ∀ (l acc : List T29), y ∈ acc ∨ y ∈ l → y ∈ dist acc l
 | [], acc, h => by
  rw [dist]
  exact h.elim id fun h => by cases h
 | x :: xs, acc, h => by
  rw [dist]
  split
  ·rename_i hx
   refine dist_has xs acc ?_
   rcases h with h | h
   ·exact .inl h
   ·rcases List.mem_cons.1 h with rfl | h
    ·exact .inl hx
    ·exact .inr h
  ·refine dist_has xs _ ?_
   rcases h with h | h
   ·exact .inl (by simp [h])
   ·rcases List.mem_cons.1 h with rfl | h
    ·exact .inl (by simp)
    ·exact .inr h
theorem FT_one {g : List ByteArray} {q : T29} (h : q.Op = 1) : ¬ FT g q := by rw [FT_eq]; omega
theorem FT_all0 {g : List ByteArray} {q : T29} (h : q.Op = 0) : FT g q := (FT_eq g q).2 (.inr (.inr (.inr h)))
theorem flat_all {g : List ByteArray} : ∀ l : List T29, (∀ q ∈ l, FT g q) → ∃ f, flat 3 l = some f ∧ ∀ x ∈ f, FT g x
 | [], _ => ⟨[], rfl, by simp⟩
 | q :: l, h => by
  obtain ⟨f, e, hf⟩ := flat_all l fun x hx => h x (by simp [hx])
  have hq := h q (by simp)
  rw [flat, e]
  by_cases h3 : q.Op = 3
  ·rw [if_pos h3]
   refine ⟨q.L ++ f, rfl, fun x hx => ?_⟩
   rcases List.mem_append.1 hx with hx | hx
   ·rcases (FT_eq g q).1 hq with ⟨h', _⟩ | ⟨_, h'⟩ | ⟨h', _⟩ | h'
    ·omega
    ·exact h' x hx
    ·omega
    ·omega
   ·exact hf x hx
  rw [if_neg h3]
  by_cases h1 : q.Op = 1
  ·exact absurd hq (FT_one h1)
  rw [if_neg (show ¬ q.Op = tk 3 from h1)]
  by_cases h0 : q.Op = 0
  ·rw [if_pos (show q.Op = gs 3 from h0)]
   exact ⟨f, rfl, hf⟩
  ·rw [if_neg (show ¬ q.Op = gs 3 from h0)]
   refine ⟨q :: f, rfl, fun x hx => ?_⟩
   rcases List.mem_cons.1 hx with rfl | hx
   ·exact hq
   ·exact hf x hx
theorem flat_any {g : List ByteArray} : ∀ (l f : List T29), flat 4 l = some f → (∃ q ∈ l, FT g q) → ∃ x ∈ f, FT g x
 | [], f, _, h => by obtain ⟨q, hq, _⟩ := h; cases hq
 | q :: l, f, e, h => by
  rw [flat] at e
  by_cases h4 : q.Op = 4
  ·rw [if_pos h4] at e
   obtain ⟨f', e', rfl⟩ := Option.map_eq_some_iff.1 e
   obtain ⟨z, hz, hf⟩ := h
   rcases List.mem_cons.1 hz with rfl | hz
   ·rcases (FT_eq g z).1 hf with ⟨h', _⟩ | ⟨h', _⟩ | ⟨_, x, hx, hfx⟩ | h'
    ·omega
    ·omega
    ·exact ⟨x, List.mem_append_left _ hx, hfx⟩
    ·omega
   ·obtain ⟨x, hx, hfx⟩ := flat_any l f' e' ⟨z, hz, hf⟩
    exact ⟨x, List.mem_append_right _ hx, hfx⟩
  rw [if_neg h4] at e
  by_cases h0 : q.Op = 0
  ·rw [if_pos (show q.Op = tk 4 from h0)] at e
   cases e
  rw [if_neg (show ¬ q.Op = tk 4 from h0)] at e
  by_cases h1 : q.Op = 1
  ·rw [if_pos (show q.Op = gs 4 from h1)] at e
   obtain ⟨z, hz, hf⟩ := h
   rcases List.mem_cons.1 hz with rfl | hz
   ·exact absurd hf (FT_one h1)
   ·exact flat_any l f e ⟨z, hz, hf⟩
  ·rw [if_neg (show ¬ q.Op = gs 4 from h1)] at e
   obtain ⟨f', e', rfl⟩ := Option.map_eq_some_iff.1 e
   obtain ⟨z, hz, hf⟩ := h
   rcases List.mem_cons.1 hz with rfl | hz
   ·exact ⟨z, by simp, hf⟩
   ·obtain ⟨x, hx, hfx⟩ := flat_any l f' e' ⟨z, hz, hf⟩
    exact ⟨x, by simp [hx], hfx⟩
theorem put_all {g : List ByteArray} (l : List T29) (h : ∀ q ∈ l, FT g q) : FT g (putS 3 l) := by
 obtain ⟨f, e, hf⟩ := flat_all l h
 unfold putS
 rw [e]
 have hd : ∀ x ∈ dist [] f, FT g x := fun x hx => (mem_dist hx).elim (fun h => by cases h) (hf x)
 show FT g (mkq 3 (dist [] f))
 generalize dist [] f = ys at hd
 match ys, hd with
 | [], _ => exact FT_all0 rfl
 | [x], hd => exact hd x (by simp)
 | x :: y :: zs, hd => exact (FT_eq g _).2 (.inr (.inl ⟨rfl, hd⟩))
theorem put_any {g : List ByteArray} (l : List T29) (h : ∃ q ∈ l, FT g q) : FT g (putS 4 l) := by
 unfold putS
 cases e : flat 4 l with
 | none => exact FT_all0 rfl
 | some f =>
  obtain ⟨x, hx, hf⟩ := flat_any l f e h
  have hd : x ∈ dist [] f := dist_has f [] (.inr hx)
  show FT g (mkq 4 (dist [] f))
  generalize dist [] f = ys at hd
  match ys, hd with
  | [y], hd => rw [List.mem_singleton.1 hd] at hf; exact hf
  | y :: z :: zs, hd => exact (FT_eq g _).2 (.inr (.inr (.inl ⟨rfl, x, hd, hf⟩)))
/-! ### Grams of a part -/
theorem mem_wins {s x : ByteArray} : x ∈ wins s ↔ ∃ a b : ByteArray, s = a ++ (x ++ b) ∧ x.size = 3 := by
 unfold wins
 rw [List.mem_map]
 constructor
 ·rintro ⟨i, hi, rfl⟩
  have hi' := List.mem_range.1 hi
  have hz := ss_size s i (i + 3) (by omega) (by omega)
  rw [show ((i + 3 : Nat) : Int) = (i : Int) + 3 by omega] at hz
  refine ⟨s.extract 0 i, s.extract (i + 3) s.size, ?_, by omega⟩
  unfold ss
  have e1 : ((i : Nat) : Int).toNat = i := by omega
  have e2 : ((i : Int) + 3).toNat = i + 3 := by omega
  rw [e1, e2]
  apply ByteArray.ext
  rw [ByteArray.data_append, ByteArray.data_append]
  simp only [ByteArray.data_extract]
  have hsz : s.size = s.data.size := rfl
  have m1 : min i (i + 3) = i := by omega
  have m2 : max (i + 3) s.size = s.size := by omega
  have m3 : min 0 i = 0 := by omega
  have m4 : max i s.size = s.size := by omega
  rw [Array.extract_append_extract, m1, m2, Array.extract_append_extract, m3, m4, hsz, Array.extract_size]
 ·rintro ⟨a, b, rfl, h3⟩
  refine ⟨a.size, List.mem_range.2 (by rw [ByteArray.size_append, ByteArray.size_append]; omega), ?_⟩
  unfold ss
  have e1 : ((a.size : Nat) : Int).toNat = a.size := by omega
  have e2 : ((a.size : Int) + 3).toNat = a.size + 3 := by omega
  rw [e1, e2]
  apply ByteArray.ext
  simp only [ByteArray.data_extract, ByteArray.data_append]
  have hx : x.data.size = 3 := h3
  have ha : a.size = a.data.size := rfl
  rw [ha]
  apply Array.ext'
  simp [hx, ← Array.length_toList]
  exact List.take_of_length_le (by rw [Array.length_toList]; omega)
theorem wins_l {a b x : ByteArray} (h : x ∈ wins a) : x ∈ wins (a ++ b) := by
 obtain ⟨u, v, rfl, h3⟩ := mem_wins.1 h
 exact mem_wins.2 ⟨u, v ++ b, by rw [ByteArray.append_assoc, ByteArray.append_assoc], h3⟩
theorem wins_r {a b x : ByteArray} (h : x ∈ wins b) : x ∈ wins (a ++ b) := by
 obtain ⟨u, v, rfl, h3⟩ := mem_wins.1 h
 exact mem_wins.2 ⟨a ++ u, v, by rw [ByteArray.append_assoc], h3⟩
theorem b2s_app (l m : List Int) : b2s (l ++ m) = b2s l ++ b2s m := by
 apply ByteArray.ext
 simp [b2s, ByteArray.data_append]
theorem b2s_nil : b2s [] = eS := rfl
def In (g : List ByteArray) (w : List Int) : Prop := ∀ x ∈ wins (b2s w), x ∈ g
theorem In.left {g : List ByteArray} {u v : List Int} (h : In g (u ++ v)) : In g u := fun x hx => h x (by rw [b2s_app]; exact wins_l hx)
theorem In.right {g : List ByteArray} {u v : List Int} (h : In g (u ++ v)) : In g v := fun x hx => h x (by rw [b2s_app]; exact wins_r hx)
theorem FT_gr {g : List ByteArray} {u : ByteArray} (h : ∀ x ∈ wins u, x ∈ g) : FT g (grS u) := by
 unfold grS
 refine put_all _ fun q hq => ?_
 obtain ⟨x, hx, rfl⟩ := List.mem_map.1 hq
 exact (FT_eq g _).2 (.inl ⟨rfl, h x (mem_nrm.1 hx)⟩)
theorem FT_qu {g : List ByteArray} {l : List ByteArray} {w : List Int} (hw : b2s w ∈ l) (h : In g w) : FT g (quS l) := by
 unfold quS
 exact put_any _ ⟨grS (b2s w), List.mem_map.2 ⟨_, hw, rfl⟩, FT_gr h⟩
/-! ### The texts that are told -/
def By (w : List Int) : Prop := ∀ b ∈ w, 0 ≤ b ∧ b ≤ 255
theorem By.left {u v : List Int} (h : By (u ++ v)) : By u := fun b hb => h b (by simp [hb])
theorem By.right {u v : List Int} (h : By (u ++ v)) : By v := fun b hb => h b (by simp [hb])
theorem beh_mem {a b c : List ByteArray} {x y : ByteArray} (e : behS (some a) (some b) = some c) (hx : x ∈ a) (hy : y ∈ b) : x ++ y ∈ c := by
 rw [show behS (some a) (some b) = if ∃ x ∈ a, ∃ y ∈ b, x.size + y.size > 32 then none else ofS (cross a b) from rfl] at e
 split at e
 ·cases e
 ·unfold ofS at e
  split at e
  ·cases e
  ·cases e
   rw [mem_nrm]
   exact mem_cross.2 ⟨x, hx, y, hy, rfl⟩
theorem al_mem {a b c : List ByteArray} {x : ByteArray} (e : alS (some a) (some b) = some c) (hx : x ∈ a ∨ x ∈ b) : x ∈ c := by
 rw [show alS (some a) (some b) = ofS (a ++ b) from rfl] at e
 unfold ofS at e
 split at e
 ·cases e
 ·cases e
  rw [mem_nrm, List.mem_append]
  exact hx
theorem fold_beh (f : T26 → Option (List ByteArray)) (d : Nat) : ∀ (L : List T26) (a l : List ByteArray) (u w : List Int), (∀ x ∈ L, ∀ v l', By v → Lg x v → f x = some l' → b2s v ∈ l') → By w → LgAll L w → b2s u ∈ a → (L.map f).foldl behS (some a) = some l → b2s (u ++ w) ∈ l
 | [], a, l, u, w, _, _, hw, hu, e => by
  cases (show w = [] by simpa [LgAll] using hw)
  cases e
  rw [List.append_nil]; exact hu
 | x :: L, a, l, u, w, hf, hb, hw, hu, e => by
  rw [LgAll] at hw
  obtain ⟨w1, w2, rfl, h1, h2⟩ := hw
  rw [List.map_cons, List.foldl_cons] at e
  cases hx : f x with
  | none =>
   rw [hx, show behS (some a) none = none from rfl, behS_none] at e
   cases e
  | some l' =>
   rw [hx] at e
   cases hc : behS (some a) (some l') with
   | none => rw [hc, behS_none] at e; cases e
   | some c =>
    rw [hc] at e
    have := hf x (by simp) w1 l' hb.left h1 hx
    have h3 := beh_mem hc hu this
    rw [← b2s_app] at h3
    rw [← List.append_assoc]
    exact fold_beh f d L c l (u ++ w1) w2 (fun y hy => hf y (by simp [hy])) hb.right h2 h3 e
theorem fold_al (f : T26 → Option (List ByteArray)) : ∀ (L : List T26) (a l : List ByteArray) (w : List Int), (∀ x ∈ L, ∀ l', Lg x w → f x = some l' → b2s w ∈ l') → (LgAny L w ∨ b2s w ∈ a) → (L.map f).foldl alS (some a) = some l → b2s w ∈ l
 | [], a, l, w, _, hw, e => by
  cases e
  rcases hw with hw | hw
  ·rw [LgAny] at hw; exact hw.elim
  ·exact hw
 | x :: L, a, l, w, hf, hw, e => by
  rw [List.map_cons, List.foldl_cons] at e
  cases hx : f x with
  | none =>
   rw [hx, show alS (some a) none = none from rfl, alS_none] at e
   cases e
  | some l' =>
   rw [hx] at e
   cases hc : alS (some a) (some l') with
   | none => rw [hc, alS_none] at e; cases e
   | some c =>
    rw [hc] at e
    refine fold_al f L c l w (fun y hy => hf y (by simp [hy])) ?_ e
    rcases hw with hw | hw
    ·rw [LgAny] at hw
     rcases hw with hw | hw
     ·exact .inr (al_mem hc (.inr (hf x (by simp) l' hw hx)))
     ·exact .inl hw
    ·exact .inr (al_mem hc (.inl hw))
theorem rep_all (x : T26) : ∀ (n : Nat) (w : List Int), Rep (Lg x) n w → LgAll (List.replicate n x) w
 | 0, w, h => by rw [List.replicate_zero, LgAll]; exact h
 | n + 1, w, h => by
  obtain ⟨u, v, rfl, h1, h2⟩ := h
  rw [List.replicate_succ, LgAll]
  exact ⟨u, v, rfl, h1, rep_all x n v h2⟩
theorem lg_eq (r : T26) (w : List Int) : Lg r w ↔ (r.Kind = 1 ∧ ∃ b, w = [b] ∧ Hs r.Set b) ∨ (r.Kind = 2 ∧ LgAll r.L w) ∨ (r.Kind = 3 ∧ LgAny r.L w) ∨
  (r.Kind = 4 ∧ ∃ n : Nat, r.Min ≤ n ∧ (r.Max < 0 ∨ (n : Int) ≤ r.Max) ∧ Rep (fun w => LgHd r.L w) n w) := by
 cases r
 rw [Lg]
theorem flat_rep {α : Type} (x : α) : ∀ n : Nat, (List.replicate n [x]).flatten = List.replicate n x
 | 0 => rfl
 | n + 1 => by rw [List.replicate_succ, List.flatten_cons, flat_rep x n, List.replicate_succ]; rfl
theorem tell_lang (d : Nat) : ∀ (r : T26) (w : List Int) (l : List ByteArray), Rt d r → By w → Lg r w → tellS d r = some l → b2s w ∈ l := by
 induction d with
 | zero => intro r w l h; exact absurd h id
 | succ d ih =>
  intro r w l hr hb hw ht
  obtain ⟨hs, hso, hch⟩ := hr
  rw [tellS] at ht
  rcases hs with ⟨k1, _⟩ | ⟨k23, _⟩ | ⟨k4, ⟨x, hx⟩, _, hm0, hm1, hmx⟩
  ·rw [if_pos k1] at ht
   rcases (lg_eq r w).1 hw with ⟨_, b, rfl, hh⟩ | ⟨h, _⟩ | ⟨h, _⟩ | ⟨h, _⟩
   ·unfold memS at ht
    split at ht
    ·cases ht
    ·cases ht
     obtain ⟨h0, h1⟩ := hb b (by simp)
     obtain ⟨n, rfl⟩ := Int.eq_ofNat_of_zero_le h0
     unfold memL
     refine List.mem_map.2 ⟨n, List.mem_filter.2 ⟨List.mem_range.2 (by omega), ?_⟩, rfl⟩
     show (M.a8 r.Set (n : Int)).getD false = true
     rw [show M.a8 r.Set (n : Int) = some true from hh]; rfl
   ·omega
   ·omega
   ·omega
  ·rcases k23 with k2 | k3
   ·rw [if_neg (by omega), if_pos k2] at ht
    rcases (lg_eq r w).1 hw with ⟨h, _⟩ | ⟨_, h⟩ | ⟨h, _⟩ | ⟨h, _⟩
    ·omega
    ·have := fold_beh (tellS d) d r.L [eS] l [] w (fun x hx v l' hv hg hf => ih x v l' (hch x hx) hv hg hf) hb h (by simp [b2s_nil]) ht
     rwa [List.nil_append] at this
    ·omega
    ·omega
   ·rw [if_neg (by omega), if_neg (by omega), if_pos k3] at ht
    rcases (lg_eq r w).1 hw with ⟨h, _⟩ | ⟨h, _⟩ | ⟨_, h⟩ | ⟨h, _⟩
    ·omega
    ·omega
    ·exact fold_al (tellS d) r.L [] l w (fun x hx l' hg hf => ih x w l' (hch x hx) hb hg hf) (.inl h) ht
    ·omega
  ·rw [if_neg (by omega), if_neg (by omega), if_neg (by omega)] at ht
   split at ht
   ·rename_i he
    rcases (lg_eq r w).1 hw with ⟨h, _⟩ | ⟨h, _⟩ | ⟨h, _⟩ | ⟨_, n, h1, h2, h3⟩
    ·omega
    ·omega
    ·omega
    ·have hn : n = r.Min.toNat := by omega
     rw [hx] at h3 ht
     have h3' : Rep (Lg x) n w := h3
     have ha := rep_all x n w h3'
     rw [flat_rep, ← hn] at ht
     have := fold_beh (tellS d) d (List.replicate n x) [eS] l [] w (fun y hy v l' hv hg hf => by
      rw [List.eq_of_mem_replicate hy] at hg hf
      exact ih x v l' (hch x (by rw [hx]; simp)) hv hg hf) hb ha (by simp [b2s_nil]) ht
     rwa [List.nil_append] at this
   ·cases ht
/-! ### The query -/
theorem run_lang (f : T26 → Option (List ByteArray)) : ∀ (L : List T26) (t : List ByteArray) (u w : List Int), (∀ x ∈ L, ∀ v l', By v → Lg x v → f x = some l' → b2s v ∈ l') → By w → LgAll L w → b2s u ∈ t →
  ∃ w1 w2, w = w1 ++ w2 ∧ b2s (u ++ w1) ∈ (runL f t L).1 ∧ LgAll (runL f t L).2 w2
 | [], t, u, w, _, _, hw, hu => ⟨[], w, rfl, by rw [List.append_nil]; exact hu, hw⟩
 | x :: L, t, u, w, hf, hb, hw, hu => by
  have hw0 := hw
  rw [LgAll] at hw
  obtain ⟨w1, w2, rfl, h1, h2⟩ := hw
  rw [runL]
  cases hc : behS (some t) (f x) with
  | none => exact ⟨[], w1 ++ w2, rfl, by rw [List.append_nil]; exact hu, hw0⟩
  | some c =>
   cases hx : f x with
   | none => rw [hx] at hc; cases hc
   | some l' =>
    rw [hx] at hc
    have h3 := beh_mem hc hu (hf x (by simp) w1 l' hb.left h1 hx)
    rw [← b2s_app] at h3
    obtain ⟨v1, v2, rfl, k1, k2⟩ := run_lang f L c (u ++ w1) w2 (fun y hy => hf y (by simp [hy])) hb.right h2 h3
    exact ⟨w1 ++ v1, v2, by rw [List.append_assoc], by rw [← List.append_assoc]; exact k1, k2⟩
theorem each_lang {g : List ByteArray} (f : T26 → Option (List ByteArray)) (h : T26 → T29) : ∀ (n : Nat) (L : List T26) (w : List Int), (∀ x ∈ L, ∀ v l', By v → Lg x v → f x = some l' → b2s v ∈ l') → (∀ x ∈ L, ∀ v, By v → Lg x v → In g v → FT g (h x)) →
  By w → LgAll L w → In g w → ∀ q ∈ eachL f h n L, FT g q
 | 0, L, w, _, _, _, _, _ => by simp [eachL]
 | n + 1, [], w, _, _, _, _, _ => by simp [eachL]
 | n + 1, x :: L, w, hf, hh, hb, hw, hi => by
  rw [LgAll] at hw
  obtain ⟨w1, w2, rfl, h1, h2⟩ := hw
  rw [eachL]
  cases hx : f x with
  | none =>
   intro q hq
   rcases List.mem_cons.1 hq with rfl | hq
   ·exact hh x (by simp) w1 hb.left h1 hi.left
   ·exact each_lang f h n L w2 (fun y hy => hf y (by simp [hy])) (fun y hy => hh y (by simp [hy])) hb.right h2 hi.right q hq
  | some t =>
   have ht := hf x (by simp) w1 t hb.left h1 hx
   obtain ⟨v1, v2, rfl, k1, k2⟩ := run_lang f L t w1 w2 (fun y hy => hf y (by simp [hy])) hb.right h2 ht
   obtain ⟨pre, hpre⟩ := runL_len f L t
   have hi' : In g (w1 ++ v1) := by
    rw [← List.append_assoc] at hi
    exact hi.left
   intro q hq
   rcases List.mem_cons.1 hq with rfl | hq
   ·exact FT_qu k1 hi'
   ·have hsub : ∀ y ∈ (runL f t L).2, y ∈ x :: L := fun y hy => by rw [hpre]; simp [hy]
    exact each_lang f h n (runL f t L).2 v2 (fun y hy => hf y (hsub y hy)) (fun y hy => hh y (hsub y hy)) hb.right.right k2 hi.right.right q hq
theorem any_mem : ∀ {L : List T26} {w : List Int}, LgAny L w → ∃ x ∈ L, Lg x w
 | [], w, h => by rw [LgAny] at h; exact h.elim
 | x :: L, w, h => by
  rw [LgAny] at h
  rcases h with h | h
  ·exact ⟨x, by simp, h⟩
  ·obtain ⟨y, hy, hg⟩ := any_mem h
   exact ⟨y, by simp [hy], hg⟩
theorem from_lang {g : List ByteArray} (d : Nat) : ∀ (r : T26) (w : List Int), Rt d r → By w → Lg r w → In g w → FT g (fromS d r) := by
 induction d with
 | zero => intro r w h; exact absurd h id
 | succ d ih =>
  intro r w hr hb hw hi
  have hch := hr.2.2
  rw [fromS]
  cases ht : tellS (d + 1) r with
  | some l => exact FT_qu (tell_lang (d + 1) r w l hr hb hw ht) hi
  | none =>
   show FT g (if r.Kind = 2 then _ else _)
   by_cases k2 : r.Kind = 2
   ·rw [if_pos k2]
    rcases (lg_eq r w).1 hw with ⟨h, _⟩ | ⟨_, h⟩ | ⟨h, _⟩ | ⟨h, _⟩
    ·omega
    ·exact put_all _ (each_lang (tellS d) (fromS d) r.L.length r.L w (fun x hx v l' hv hg hf => tell_lang d x v l' (hch x hx) hv hg hf) (fun x hx v hv hg hin => ih x v (hch x hx) hv hg hin) hb h hi)
    ·omega
    ·omega
   rw [if_neg k2]
   by_cases k3 : r.Kind = 3
   ·rw [if_pos k3]
    rcases (lg_eq r w).1 hw with ⟨h, _⟩ | ⟨h, _⟩ | ⟨_, h⟩ | ⟨h, _⟩
    ·omega
    ·omega
    ·obtain ⟨x, hx, hg⟩ := any_mem h
     exact put_any _ ⟨fromS d x, List.mem_map.2 ⟨x, hx, rfl⟩, ih x w (hch x hx) hb hg hi⟩
    ·omega
   rw [if_neg k3]
   have q0 : FT g Q0 := FT_all0 rfl
   by_cases k4 : r.Kind = 4
   ·rw [if_pos k4]
    by_cases hm : r.Min > 0
    ·rw [if_pos hm]
     rcases (lg_eq r w).1 hw with ⟨h, _⟩ | ⟨h, _⟩ | ⟨h, _⟩ | ⟨_, n, h1, h2, h3⟩
     ·omega
     ·omega
     ·omega
     ·cases hL : r.L with
      | nil =>
       match n, h1, h3 with
       | 0, h1, _ => omega
       | n + 1, _, h3 =>
        obtain ⟨u, v, rfl, hu, _⟩ := h3
        rw [hL, LgHd] at hu
        exact hu.elim
      | cons x L =>
       match n, h1, h3 with
       | 0, h1, _ => omega
       | n + 1, _, h3 =>
        obtain ⟨u, v, rfl, hu, _⟩ := h3
        rw [hL, LgHd] at hu
        exact ih x u (hch x (by rw [hL]; simp)) hb.left hu hi.left
    ·rw [if_neg hm]; exact q0
   ·rw [if_neg k4]; exact q0
/-! ### Whether a query of any size may be -/
theorem qcount_tot (left : Nat) : left ≤ 100 → ∀ (q : T29) (n : Nat), qn q ≤ 3000000 → n ≤ 4096 → ∃ (b : Bool) (n' : Nat), M.af (q, (left : Int), (n : Int)) = some (b, (n' : Int)) ∧ (b = true → n' = n + qn q ∧ n' ≤ 4096 ∧ QD left q) := by
 induction left with
 | zero =>
  intro hl q n hq hn
  rw [M.af]; try dsimp only
  rw [if_pos (by rfl), M.a1q]; try dsimp only
  rw [if_pos rfl, wr_i64 (by omega) (by omega)]
  exact ⟨false, n + 1, rfl, by simp⟩
 | succ left ih =>
  intro hl q n hqb hn
  have hq := qn_eq q
  have hll := qns_len q.L
  have loop : ∀ (R pre : List T29) (m : Nat), q.L = pre ++ R → m ≤ 4096 → ∃ (b : Bool) (n' : Nat), M.a1a (((left + 1 : Nat) : Int), q.L, (q.L.length : Int), (pre.length : Int), (m : Int)) = some (b, (n' : Int)) ∧
    (b = true → n' = m + qns R ∧ n' ≤ 4096 ∧ ∀ x ∈ R, QD left x) := by
   intro R
   induction R with
   | nil =>
    intro pre m e hm
    rw [M.a1a]; try dsimp only
    rw [if_neg (by rw [e]; simp)]
    exact ⟨true, m, rfl, fun _ => ⟨by simp [qns], hm, by simp⟩⟩
   | cons x R ihR =>
    intro pre m e hm
    have hlen : q.L.length = pre.length + (R.length + 1) := by rw [e]; simp
    have hx : x ∈ q.L := by rw [e]; simp
    have hxq := qn_mem hx
    obtain ⟨b, n', h1, h2⟩ := ih (by omega) x m (by omega) hm
    rw [M.a1a]; try dsimp only
    rw [if_pos (by omega), if_pos (by omega), if_pos (by omega), show gi q.L (pre.length : Int) = x by rw [e]; exact gi_mid pre x R, wr_i64 (x := ((left + 1 : Nat) : Int) - 1) (by omega) (by omega), show ((left + 1 : Nat) : Int) - 1 = (left : Int) by omega, h1, bnd]; try dsimp only
    cases b with
    | false => exact ⟨false, n', by rw [if_neg (by decide)], by simp⟩
    | true =>
     obtain ⟨k1, k2, k3⟩ := h2 rfl
     rw [if_pos rfl, wr_i64 (by omega) (by omega)]
     obtain ⟨b', n'', g1, g2⟩ := ihR (pre ++ [x]) n' (by rw [e]; simp) k2
     rw [show (((pre ++ [x]).length : Nat) : Int) = (pre.length : Int) + 1 by simp] at g1
     refine ⟨b', n'', g1, fun hb => ?_⟩
     obtain ⟨j1, j2, j3⟩ := g2 hb
     refine ⟨by rw [qns]; omega, j2, fun y hy => ?_⟩
     rcases List.mem_cons.1 hy with rfl | hy
     ·exact k3
     ·exact j3 y hy
  rw [M.af]; try dsimp only
  rw [if_neg (by omega), wr_i64 (by omega) (by omega), M.a1q]; try dsimp only
  by_cases hm : n + 1 > 4096
  ·rw [decide_eq_true (by omega), if_pos rfl]
   exact ⟨false, n + 1, rfl, by simp⟩
  rw [decide_eq_false (by omega), if_neg (by decide)]
  obtain ⟨b, n', h1, h2⟩ := loop q.L [] (n + 1) rfl (by omega)
  rw [show ((([] : List T29).length : Nat) : Int) = 0 from rfl, show ((n + 1 : Nat) : Int) = (n : Int) + 1 by push_cast; rfl] at h1
  refine ⟨b, n', h1, fun hb => ?_⟩
  obtain ⟨k1, k2, k3⟩ := h2 hb
  exact ⟨by omega, k2, k3⟩
theorem qcheck_any (q : T29) (hq : qn q ≤ 3000000) : ∃ n : Int, M.a1r q = some n ∧ (n = 0 → QD 8 q ∧ Rq q ∧ qn q ≤ 4096) := by
 obtain ⟨b, n', h1, h2⟩ := qcount_tot 8 (by omega) q 0 hq (by omega)
 have h1' : M.af (q, 8, 0) = some (b, (n' : Int)) := h1
 rw [M.a1r, h1', bnd]; try dsimp only
 cases b with
 | false => exact ⟨2, by rw [if_neg (by decide)], fun h => absurd h (by decide)⟩
 | true =>
  obtain ⟨k1, k2, k3⟩ := h2 rfl
  rw [if_pos rfl, qright_ok (qn q) q (Nat.le_refl _) (by omega), bnd]
  by_cases hr : Rq q
  ·exact ⟨0, by rw [decide_eq_true hr, if_pos rfl], fun _ => ⟨k3, hr, by omega⟩⟩
  ·exact ⟨2, by rw [decide_eq_false hr, if_neg (by decide)], fun h => absurd h (by decide)⟩
/-! ### The law -/
theorem U_by (s : ByteArray) (n : Nat) : By (U s n) := fun b hb => by
 unfold U at hb
 obtain ⟨j, _, rfl⟩ := List.mem_map.1 hb
 exact bt_range s _
theorem b2s_U (s : ByteArray) : b2s (U s s.size) = s := by
 apply ByteArray.ext
 apply Array.ext'
 apply List.ext_getElem
 ·simp [b2s, U]
 ·intro i h1 h2
  have hi : i < s.size := by simpa [b2s, U] using h1
  have hd : i < s.data.size := hi
  simp only [b2s, U, List.map_map, List.getElem_map, List.getElem_range, Array.getElem_toList, Function.comp]
  unfold bt
  rw [dif_pos (by simpa using hi)]
  simp
  rfl
theorem gsound_law (hw : M.a3h = some true) (x0 : T26) (x1 : ByteArray) (hf : ∀ e, Fit e x0) : M.a5h x0 x1 = some true := by
 obtain ⟨k, hk, k1, k2⟩ : ∃ k : Nat, imn (x1.size : Int) 30 = (k : Int) ∧ k ≤ 30 ∧ k ≤ x1.size := by
  refine ⟨min x1.size 30, ?_, by omega, by omega⟩
  simp only [imn]
  split <;> omega
 obtain ⟨o, o1, o2, o3, o4⟩ := some_ok x0 hf
 rw [M.a5h, hw, bnd, if_pos rfl, hk, if_pos (by omega), if_pos (by omega), o1, bnd]
 have hz' : (ss x1 0 (k : Int)).size = k := ss_size x1 0 k (Nat.zero_le _) k2
 generalize ss x1 0 (k : Int) = s at hz'
 obtain ⟨b, c1, c2⟩ := check_tot o (o2 128)
 cases b with
 | false =>
  have hm : M.a2j o = some ([], 2) := by
   rw [M.a2j, M.a4u, c1, bnd, if_neg (by decide), bnd]; rfl
  have hfr : ∃ q, M.a19 o = some (q, 2) := ⟨_, by rw [M.a19, c1, bnd, if_neg (by decide)]⟩
  obtain ⟨q, hq⟩ := hfr
  rw [hm, bnd, hq, bnd, if_neg (by decide), M.a20]; rfl
 | true =>
  obtain ⟨r1, r2⟩ := c2.1 rfl
  have hfr : M.a19 o = some (fromS 128 o, 0) := by rw [M.a19, c1, bnd, if_pos rfl, from_ok 128 o r1 (by omega), bnd]
  have hW := (from_W 128 o (.inr trivial)).2
  have skip : ∀ l e q, M.a20 (s, l, e, q, 0, true) = some true := fun l e q => by
   rw [M.a20]; rfl
  rcases make_tot o (o2 128) with ⟨e, he, hm, _⟩ | ⟨hg, c, hc, hcn, hm⟩
  ·rw [hm, bnd, hfr, bnd, if_neg (by simpa using he)]
   exact skip _ _ _
  ·rw [hm, bnd, hfr, bnd, if_pos rfl]
   split
   ·exact skip _ _ _
   ·obtain ⟨n, g1, g2⟩ := qcheck_any (fromS 128 o) (by omega)
    rw [g1, bnd]
    by_cases hn : n = 0
    ·subst hn
     obtain ⟨hD, hR, hN⟩ := g2 rfl
     obtain ⟨m, m1, m2⟩ := means_ok hg hc hcn s (by omega)
     rw [decide_eq_true rfl, M.a20]; try dsimp only
     have hft : M.a5g (fromS 128 o) s = some (decide (FT (nrm (wins s)) (fromS 128 o)), 0) := by
      rw [M.a5g, g1, bnd, if_pos rfl, grams_ok s (by omega), bnd, fits_ok _ (nrm_rises _) (wins_small s (by omega)) (qn (fromS 128 o)) _ (Nat.le_refl _) (by omega), bnd]
     rw [if_neg (by decide), m1, bnd, hft, bnd]; try dsimp only
     rw [if_pos rfl, if_pos rfl, if_pos rfl]
     by_cases hF : FT (nrm (wins s)) (fromS 128 o)
     ·rw [decide_eq_true hF, if_pos rfl]
     ·rw [decide_eq_false hF, if_neg (by decide)]
      cases m with
      | false => rfl
      | true =>
       refine absurd (from_lang 128 o (U s s.size) r1 (U_by s _) (m2.1 rfl) fun x hx => ?_) hF
       rw [b2s_U] at hx
       exact mem_nrm.2 hx
    ·rw [decide_eq_false hn]
     exact skip _ _ _
end Go.Proofs.YtdccklkdakfnaaaGreat
