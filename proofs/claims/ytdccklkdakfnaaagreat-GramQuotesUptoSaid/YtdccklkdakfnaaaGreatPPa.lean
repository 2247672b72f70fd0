import Derived.Test.YtdccklkdakfnaaaGreatMGq
import Derived.Test.YtdccklkdakfnaaaGreatGS
import Derived.Sort.Walk0
import Derived.Lib.Builder
/-
 A text quoted and read; a pattern's query; whether a text fits.
-/
set_option linter.unusedVariables false
set_option linter.unusedSimpArgs false
namespace Go.Proofs.YtdccklkdakfnaaaGreat
open Go.Gx
open Classical
def Z4 : List Int := [0, 0, 0, 0]
theorem bnd {α β : Type} (a : α) (f : α → Option β) : (some a >>= f) = f a := rfl
theorem wr_i64 {x : Int} (h0 : -9223372036854775808 ≤ x) (h1 : x ≤ 9223372036854775807) : wr .i64 x = x := by
 simp only [wr, IntKind.wrap, IntKind.signed, IntKind.bits]
 simp
 split <;> omega
theorem eta27 (r : T26) : (⟨r.Kind, r.Set, r.L, r.Min, r.Max⟩ : T26) = r := by cases r; rfl
theorem gi_mid {α : Type} [Inhabited α] (pre : List α) (r : α) (t : List α) : gi (pre ++ r :: t) (pre.length : Int) = r := by
 simp [gi]
mutual
def nd : T26 → Nat
 | ⟨_, _, L, _, _⟩ => 1 + nds L
def nds : List T26 → Nat
 | [] => 0
 | x :: xs => nd x + nds xs
end
theorem nd_eq (r : T26) : nd r = 1 + nds r.L := by cases r; rw [nd]
theorem nd_pos (r : T26) : 1 ≤ nd r := by rw [nd_eq]; omega
theorem nds_len : ∀ L : List T26, L.length ≤ nds L
 | [] => by simp
 | x :: xs => by have := nds_len xs; have := nd_pos x; rw [nds]; simp; omega
def Dp : Nat → T26 → Prop
 | 0, _ => False
 | d + 1, r => ∀ x ∈ r.L, Dp d x
theorem Dp.mono : ∀ {d e : Nat} {r : T26}, Dp d r → d ≤ e → Dp e r
 | 0, _, _, h, _ => absurd h id
 | d + 1, 0, _, _, he => by omega
 | d + 1, e + 1, r, h, he => fun x hx => (h x hx).mono (by omega)
def SetOk (l : List Int) : Prop := l.length = 4 ∧ ∀ x ∈ l, 0 ≤ x ∧ x < 18446744073709551616
theorem SetOk.Z4 : SetOk Z4 := ⟨rfl, fun x hx => by simp [Go.Proofs.YtdccklkdakfnaaaGreat.Z4] at hx; omega⟩
def Fit : Nat → T26 → Prop
 | 0, _ => True
 | d + 1, r => SetOk r.Set ∧ r.L.length ≤ 9223372036854775807 ∧ ∀ x ∈ r.L, Fit d x
theorem Fit.mono : ∀ {d e : Nat} {r : T26}, Fit d r → e ≤ d → Fit e r
 | _, 0, _, _, _ => trivial
 | 0, e + 1, _, _, he => by omega
 | d + 1, e + 1, r, h, he => ⟨h.1, h.2.1, fun x hx => (h.2.2 x hx).mono (by omega)⟩
def Shp (r : T26) : Prop :=
 (r.Kind = 1 ∧ r.L = [] ∧ r.Min = 0 ∧ r.Max = 0) ∨ ((r.Kind = 2 ∨ r.Kind = 3) ∧ r.Set = Z4 ∧ r.Min = 0 ∧ r.Max = 0) ∨
  (r.Kind = 4 ∧ (∃ x, r.L = [x]) ∧ r.Set = Z4 ∧ 0 ≤ r.Min ∧ r.Min ≤ 64 ∧ (r.Max = -1 ∨ (r.Min ≤ r.Max ∧ r.Max ≤ 64)))
def Rt : Nat → T26 → Prop
 | 0, _ => False
 | d + 1, r => Shp r ∧ SetOk r.Set ∧ ∀ x ∈ r.L, Rt d x
theorem Rt.mono : ∀ {d e : Nat} {r : T26}, Rt d r → d ≤ e → Rt e r
 | 0, _, _, h, _ => absurd h id
 | d + 1, 0, _, _, he => by omega
 | d + 1, e + 1, r, h, he => ⟨h.1, h.2.1, fun x hx => (h.2.2 x hx).mono (by omega)⟩
theorem Rt.dp : ∀ {d : Nat} {r : T26}, Rt d r → Dp d r
 | 0, _, h => h
 | d + 1, r, h => fun x hx => (h.2.2 x hx).dp
theorem count_tot (left : Nat) : left ≤ 128 → ∀ (r : T26) (n : Nat), Fit left r → n ≤ 4096 → ∃ (b : Bool) (n' : Nat), M.ad (r, (left : Int), (n : Int)) = some (b, (n' : Int)) ∧ (b = true → n' = n + nd r ∧ n' ≤ 4096 ∧ Dp left r) ∧ (n + nd r ≤ 4096 → Dp left r → b = true) := by
 induction left with
 | zero =>
  intro hl r n hf hn
  refine ⟨false, n + 1, ?_, by simp, fun _ h => absurd h id⟩
  rw [M.ad]; try dsimp only
  rw [if_pos (by omega), wr_i64 (by omega) (by omega), M.a1m]; try dsimp only
  rw [if_pos rfl]
  try rfl
 | succ left ih =>
  intro hl r n hf hn
  rw [M.ad]; try dsimp only
  rw [if_neg (by omega), wr_i64 (by omega) (by omega), M.a1m]; try dsimp only
  by_cases hm : n + 1 > 4096
  ·refine ⟨false, n + 1, ?_, by simp, fun h _ => by have := nd_pos r; omega⟩
   rw [decide_eq_true (by omega), if_pos rfl]
   try rfl
  rw [decide_eq_false (by omega), if_neg (by decide)]
  have loop : ∀ (L pre : List T26) (m : Nat), r.L = pre ++ L → m ≤ 4096 → ∃ (b : Bool) (n' : Nat), M.ax (((left + 1 : Nat) : Int), r.L, (r.L.length : Int), (pre.length : Int), (m : Int)) = some (b, (n' : Int)) ∧
    (b = true → n' = m + nds L ∧ n' ≤ 4096 ∧ ∀ x ∈ L, Dp left x) ∧ (m + nds L ≤ 4096 → (∀ x ∈ L, Dp left x) → b = true) := by
   intro L
   induction L with
   | nil =>
    intro pre m e hm
    refine ⟨true, m, ?_, fun _ => ⟨by simp [nds], hm, by simp⟩, fun _ _ => rfl⟩
    rw [M.ax]; try dsimp only
    rw [if_neg (by rw [e]; simp)]
   | cons x L ihL =>
    intro pre m e hm
    have hlen : r.L.length = pre.length + (L.length + 1) := by rw [e]; simp
    have hx : x ∈ r.L := by rw [e]; simp
    have hbig := hf.2.1
    obtain ⟨b, n', h1, h2, h3⟩ := ih (by omega) x m (hf.2.2 x hx) hm
    rw [M.ax]; try dsimp only
    rw [if_pos (by omega), if_pos (by omega), if_pos (by omega), show gi r.L (pre.length : Int) = x by rw [e]; exact gi_mid pre x L, eta27, wr_i64 (x := ((left + 1 : Nat) : Int) - 1) (by omega) (by omega),
     show ((left + 1 : Nat) : Int) - 1 = (left : Int) by omega, h1, bnd]
    dsimp only
    cases b with
    | false =>
     refine ⟨false, n', by rw [if_neg (by decide)], by simp, fun h4 h5 => ?_⟩
     have := h3 (by rw [nds] at h4; omega) (h5 x (by simp))
     cases this
    | true =>
     obtain ⟨k1, k2, k3⟩ := h2 rfl
     rw [if_pos rfl, wr_i64 (by omega) (by omega)]
     obtain ⟨b', n'', g1, g2, g3⟩ := ihL (pre ++ [x]) n' (by rw [e]; simp) k2
     rw [show (((pre ++ [x]).length : Nat) : Int) = (pre.length : Int) + 1 by simp] at g1
     refine ⟨b', n'', g1, fun hb => ?_, fun h4 h5 => g3 (by rw [nds] at h4; omega) fun y hy => h5 y (by simp [hy])⟩
     obtain ⟨j1, j2, j3⟩ := g2 hb
     refine ⟨by rw [nds]; omega, j2, fun y hy => ?_⟩
     rcases List.mem_cons.1 hy with rfl | hy
     ·exact k3
     ·exact j3 y hy
  obtain ⟨b, n', h1, h2, h3⟩ := loop r.L [] (n + 1) rfl (by omega)
  refine ⟨b, n', h1, fun hb => ?_, fun h4 h5 => h3 (by rw [nd_eq] at h4; omega) h5⟩
  obtain ⟨k1, k2, k3⟩ := h2 hb
  exact ⟨by rw [nd_eq]; omega, k2, k3⟩
theorem shaped_iff (r : T26) : ∃ b, M.a39 r = some b ∧ (b = true ↔ Shp r) := by
 have l3 : ∀ c d : Bool, M.a33 (r, [0, 0, 0, 0], c, d) = some (decide (r.L.length = 1) && decide (r.Set = Z4) && c && d) := by
  intro c d
  rw [M.a33]; try dsimp only
  by_cases h1 : r.L.length = 1
  ·rw [if_pos (by omega)]
   by_cases h2 : r.Set = [0, 0, 0, 0]
   ·rw [if_pos h2]
    cases c
    ·rw [if_neg (by decide)]; simp [h1]
    ·rw [if_pos rfl]; simp [h1, Z4, h2]
   ·rw [if_neg h2]; simp [Z4, h2]
  ·rw [if_neg (by omega)]; simp [h1]
 have l2 : ∀ c : Bool, M.a3l (r, [0, 0, 0, 0], c) = some (decide (r.L.length = 1) && decide (r.Set = Z4) && c && decide (r.Max = -1 ∨ (r.Min ≤ r.Max ∧ r.Max ≤ 64))) := by
  intro c
  rw [M.a3l]; try dsimp only
  by_cases h1 : r.Max = -1
  ·rw [if_pos h1, l3]; simp [h1]
  ·rw [if_neg h1]
   by_cases h2 : r.Min ≤ r.Max
   ·rw [if_pos (by omega), l3]; simp [h1, h2]
   ·rw [if_neg (by omega), l3]; simp [h1, h2]
 have l1 : ∀ (c : Bool) (k : Int) (d : Bool), M.a3m (r, [0, 0, 0, 0], c, k, d) = some (if d = true then decide (r.Set = Z4) && c else decide (k = 4) && (decide (r.L.length = 1) && decide (r.Set = Z4) && decide (0 ≤ r.Min ∧ r.Min ≤ 64) && decide (r.Max = -1 ∨ (r.Min ≤ r.Max ∧ r.Max ≤ 64)))) := by
  intro c k d
  rw [M.a3m]; try dsimp only
  cases d
  ·simp only [Bool.false_eq_true, if_false]
   by_cases h1 : k = 4
   ·rw [if_pos h1]
    by_cases h2 : 0 ≤ r.Min
    ·rw [if_pos (by omega), l2]; simp [h1, h2]
    ·rw [if_neg (by omega), l2]; simp [h2]
   ·rw [if_neg h1]; simp [h1]
  ·rw [if_pos rfl, if_pos rfl]
   by_cases h2 : r.Set = [0, 0, 0, 0]
   ·rw [if_pos h2]; simp [Z4, h2]
   ·rw [if_neg h2]; simp [Z4, h2]
 have l0 : ∀ c : Bool, M.a3n (r, [0, 0, 0, 0], c) = some (if r.Kind = 1 then decide (r.L.length = 0) && c else if r.Kind = 2 ∨ r.Kind = 3 then decide (r.Set = Z4) && c else
   decide (r.Kind = 4) && (decide (r.L.length = 1) && decide (r.Set = Z4) && decide (0 ≤ r.Min ∧ r.Min ≤ 64) && decide (r.Max = -1 ∨ (r.Min ≤ r.Max ∧ r.Max ≤ 64)))) := by
  intro c
  rw [M.a3n]; try dsimp only
  by_cases h1 : r.Kind = 1
  ·rw [if_pos h1, if_pos h1]
   by_cases h2 : r.L.length = 0
   ·rw [if_pos (by omega)]; simp [h2]
   ·rw [if_neg (by omega)]; simp [h2]
  rw [if_neg h1, if_neg h1]
  by_cases h2 : r.Kind = 2
  ·rw [if_pos h2, l1, if_pos rfl, if_pos (.inl h2)]
  rw [if_neg h2, l1]
  by_cases h3 : r.Kind = 3
  ·rw [if_pos (by simpa using h3), if_pos (.inr h3)]
  ·rw [if_neg (by simpa using h3), if_neg (by omega)]
 have one : (∃ x, r.L = [x]) ↔ r.L.length = 1 := by
  constructor
  ·rintro ⟨x, h⟩; rw [h]; rfl
  ·intro h
   match hL : r.L, h with
   | [x], _ => exact ⟨x, rfl⟩
 have zero : r.L = [] ↔ r.L.length = 0 := by
  constructor
  ·intro h; rw [h]; rfl
  ·exact List.length_eq_zero_iff.1
 rw [M.a39]; try dsimp only
 unfold Shp
 rw [one, zero]
 by_cases hm : r.Min = 0
 ·rw [if_pos hm, l0]
  refine ⟨_, rfl, ?_⟩
  split
  ·rename_i h1; simp [h1, hm]
  ·split
   ·rename_i h1 h2; rcases h2 with h2 | h2 <;> simp [h2, hm]
   ·rename_i h1 h2; simp only [not_or] at h2; simp [h1, h2.1, h2.2, hm, and_assoc]
 ·rw [if_neg hm, l0]
  refine ⟨_, rfl, ?_⟩
  split
  ·rename_i h1; simp [h1, hm]
  ·split
   ·rename_i h1 h2; rcases h2 with h2 | h2 <;> simp [h2, hm]
   ·rename_i h1 h2; simp only [not_or] at h2; simp [h1, h2.1, h2.2, hm, and_assoc]
theorem right_tot (d : Nat) : ∀ r : T26, Dp d r → Fit d r → nds r.L ≤ 4096 → ∃ b, M.ao r = some b ∧ (b = true ↔ Rt d r) := by
 induction d with
 | zero => intro r h; exact absurd h id
 | succ d ih =>
  intro r hd hf hn
  obtain ⟨bs, s1, s2⟩ := shaped_iff r
  have loop : ∀ (L pre : List T26), r.L = pre ++ L → ∃ b, M.ay (r, r.L, (r.L.length : Int), (pre.length : Int)) = some b ∧ (b = true ↔ (Shp r ∧ ∀ x ∈ L, Rt d x)) := by
   intro L
   induction L with
   | nil =>
    intro pre e
    refine ⟨bs, ?_, by simpa using s2⟩
    rw [M.ay]; try dsimp only
    rw [if_neg (by rw [e]; simp), s1, bnd]
   | cons x L ihL =>
    intro pre e
    have hlen : r.L.length = pre.length + (L.length + 1) := by rw [e]; simp
    have hx : x ∈ r.L := by rw [e]; simp
    have hl := nds_len r.L
    have hnx : nds x.L ≤ 4096 := by
     have : ∀ (l : List T26), x ∈ l → nd x ≤ nds l := by
      intro l
      induction l with
      | nil => simp
      | cons y l ih =>
       intro h
       rw [nds]
       rcases List.mem_cons.1 h with rfl | h
       ·omega
       ·have := ih h; omega
     have := this _ hx
     rw [nd_eq] at this
     omega
    obtain ⟨b, h1, h2⟩ := ih x (hd x hx) (hf.2.2 x hx) hnx
    rw [M.ay]; try dsimp only
    rw [if_pos (by omega), if_pos (by omega), if_pos (by omega), show gi r.L (pre.length : Int) = x by rw [e]; exact gi_mid pre x L, eta27, h1, bnd]
    cases b with
    | false =>
     refine ⟨false, by rw [if_neg (by decide)], ?_⟩
     simp only [Bool.false_eq_true, false_iff] at h2 ⊢
     rintro ⟨_, h⟩
     exact h2 (h x (by simp))
    | true =>
     rw [if_pos rfl, wr_i64 (by omega) (by omega)]
     obtain ⟨b', g1, g2⟩ := ihL (pre ++ [x]) (by rw [e]; simp)
     rw [show (((pre ++ [x]).length : Nat) : Int) = (pre.length : Int) + 1 by simp] at g1
     refine ⟨b', g1, g2.trans ?_⟩
     have := h2.1 rfl
     simp [this]
  obtain ⟨b, h1, h2⟩ := loop r.L [] rfl
  refine ⟨b, ?_, h2.trans ⟨fun h => ⟨h.1, hf.1, h.2⟩, fun h => ⟨h.1, h.2.2⟩⟩⟩
  rw [M.ao]; try dsimp only
  exact h1
theorem check_tot (r : T26) (hf : Fit 128 r) : ∃ b, M.a2l r = some b ∧ (b = true ↔ (Rt 128 r ∧ nd r ≤ 4096)) := by
 obtain ⟨b, n, h1, h2, h3⟩ := count_tot 128 (Nat.le_refl _) r 0 hf (by omega)
 have hs : M.a2k r = if b = true then M.ao r >>= fun y8 => if y8 = true then some (n : Int) else some 0 else some 0 := by
  rw [M.a2k]
  have h1' : M.ad (r, 128, 0) = some (b, (n : Int)) := h1
  rw [h1', bnd]
 rw [M.a2l, hs]
 cases b with
 | false =>
  rw [if_neg (by decide), bnd]
  refine ⟨_, rfl, ?_⟩
  simp only [gt_iff_lt, Int.lt_irrefl, decide_false, Bool.false_eq_true, false_iff]
  rintro ⟨k1, k2⟩
  have := h3 (by omega) k1.dp
  cases this
 | true =>
  obtain ⟨k1, k2, k3⟩ := h2 rfl
  obtain ⟨c, g1, g2⟩ := right_tot 128 r k3 hf (by rw [nd_eq] at k1; omega)
  rw [if_pos rfl, g1, bnd]
  cases c with
  | false =>
   rw [if_neg (by decide), bnd]
   refine ⟨_, rfl, ?_⟩
   simp only [gt_iff_lt, Int.lt_irrefl, decide_false, Bool.false_eq_true, false_iff] at g2 ⊢
   rintro ⟨k, _⟩
   exact g2 k
  | true =>
   have := nd_pos r
   rw [if_pos rfl, bnd]
   refine ⟨_, rfl, ?_⟩
   simp only [true_iff] at g2
   simp only [gt_iff_lt, decide_eq_true_eq]
   exact ⟨fun _ => ⟨g2, by omega⟩, fun _ => by omega⟩
theorem nd_mem {x : T26} : ∀ {l : List T26}, x ∈ l → nd x ≤ nds l
 | [], h => by simp at h
 | y :: l, h => by
  rw [nds]
  rcases List.mem_cons.1 h with rfl | h
  ·omega
  ·have := nd_mem h; omega
theorem gi_nat {α : Type} [Inhabited α] (l : List α) (i : Nat) (h : i < l.length) : gi l (i : Int) = l[i] := by
 simp [gi, h]
theorem iquo64 {b : Int} (h0 : 0 ≤ b) (h1 : b ≤ 255) : iquo .u8 b 64 = b / 64 := by
 simp only [iquo]
 rw [Int.tdiv_eq_ediv_of_nonneg h0]
 simp only [IntKind.wrap, IntKind.signed, IntKind.bits]
 simp
 omega
theorem irem64 {b : Int} (h0 : 0 ≤ b) : irem .u8 b 64 = b % 64 := by
 simp only [irem]
 rw [Int.tmod_eq_emod_of_nonneg h0]
theorem has_tot (z : List Int) {b : Int} (h0 : 0 ≤ b) (h1 : b ≤ 255) : ∃ v, M.a2m z b = some v := by
 rw [M.a2m, iquo64 h0 h1, irem64 h0, if_pos (by omega), if_pos (by omega), if_pos (by omega)]
 exact ⟨_, rfl⟩
section
variable (s : ByteArray) (hs : s.size ≤ 100)
include hs
end
theorem Rt.fit : ∀ {d : Nat} {r : T26} (e : Nat), Rt d r → nd r ≤ 4096 → Fit e r
 | _, _, 0, _, _ => trivial
 | 0, _, _ + 1, h, _ => absurd h id
 | d + 1, r, e + 1, h, hn => ⟨h.2.1, by rw [nd_eq] at hn; have := nds_len r.L; omega, fun x hx => Rt.fit e (h.2.2 x hx) (by rw [nd_eq] at hn; have := nd_mem hx; omega)⟩
abbrev Tl (x : ByteArray) : List UInt8 := x.data.toList
theorem Tl_inj {x y : ByteArray} (h : Tl x = Tl y) : x = y := by
 cases x; cases y
 simpa using Array.toList_inj.1 h
abbrev RzS (l : List ByteArray) : Prop := l.Pairwise fun x y => Tl x < Tl y
def nrm (l : List ByteArray) : List ByteArray := cmpL (srtS l)
theorem srtS_perm' (l : List ByteArray) : (srtS l).Perm l := by
 have h := (List.mergeSort_perm (l.map (·.data.toList)) (fun x y => decide (x ≤ y))).map fun l : List UInt8 => (⟨l.toArray⟩ : ByteArray)
 rw [List.map_map] at h
 have e : ((fun l : List UInt8 => (⟨l.toArray⟩ : ByteArray)) ∘ fun x : ByteArray => x.data.toList) = id := by funext x; rfl
 rw [e, List.map_id] at h
 exact h
theorem srtS_rises (l : List ByteArray) : (srtS l).Pairwise fun x y => Tl x ≤ Tl y := by
 have h := List.pairwise_mergeSort (le := fun x y : List UInt8 => decide (x ≤ y)) (fun a b c h1 h2 => by simp only [decide_eq_true_eq] at *; exact List.le_trans h1 h2) (fun a b => by simp only [Bool.or_eq_true, decide_eq_true_eq]; exact List.le_total a b) (l.map (·.data.toList))
 unfold srtS
 rw [List.pairwise_map]
 exact h.imp fun h => by simpa using h
theorem cmpR_sub {α : Type} [DecidableEq α] : ∀ (p : α) (l : List α), (cmpR p l).Sublist l
 | p, [] => by simp [cmpR]
 | p, y :: ys => by
  simp only [cmpR]
  split
  ·exact (cmpR_sub p ys).cons _
  ·exact (cmpR_sub y ys).cons_cons _
theorem cmpR_rises : ∀ (p : ByteArray) (l : List ByteArray), (p :: l).Pairwise (fun x y => Tl x ≤ Tl y) → (p :: cmpR p l).Pairwise fun x y => Tl x < Tl y
 | p, [], _ => by simp [cmpR]
 | p, y :: ys, h => by
  rw [List.pairwise_cons] at h
  have h2 := List.pairwise_cons.1 h.2
  simp only [cmpR]
  split
  ·rename_i e
   subst e
   exact cmpR_rises y ys h.2
  ·rename_i e
   have ih := cmpR_rises y ys h.2
   refine List.pairwise_cons.2 ⟨fun z hz => ?_, ih⟩
   have hpy : Tl p < Tl y := by
    have := h.1 y (by simp)
    rcases List.le_iff_lt_or_eq.1 this with h | h
    ·exact h
    ·exact absurd (Tl_inj h).symm e
   rcases List.mem_cons.1 hz with rfl | hz
   ·exact hpy
   ·exact List.lt_trans hpy ((List.pairwise_cons.1 ih).1 z hz)
theorem mem_cmpR {α : Type} [DecidableEq α] (v : α) : ∀ (p : α) (l : List α), (v = p ∨ v ∈ cmpR p l) ↔ (v = p ∨ v ∈ l)
 | p, [] => by simp [cmpR]
 | p, y :: ys => by
  simp only [cmpR]
  split
  ·rename_i e
   subst e
   rw [mem_cmpR v y ys, List.mem_cons]
   simp
  ·rw [List.mem_cons, mem_cmpR v y ys, List.mem_cons]
theorem nrm_rises (l : List ByteArray) : RzS (nrm l) := by
 unfold nrm
 have h := srtS_rises l
 cases hs : srtS l with
 | nil => exact List.Pairwise.nil
 | cons x xs => rw [hs] at h; exact cmpR_rises x xs h
theorem mem_nrm {l : List ByteArray} {v : ByteArray} : v ∈ nrm l ↔ v ∈ l := by
 rw [← (srtS_perm' l).mem_iff]
 unfold nrm
 cases hs : srtS l with
 | nil => simp [cmpL]
 | cons x xs => rw [cmpL, List.mem_cons, mem_cmpR, List.mem_cons]
theorem rzS_ext : ∀ {a b : List ByteArray}, RzS a → RzS b → (∀ v, v ∈ a ↔ v ∈ b) → a = b
 | [], [], _, _, _ => rfl
 | [], y :: ys, _, _, h => absurd ((h y).2 (by simp)) (by simp)
 | x :: xs, [], _, _, h => absurd ((h x).1 (by simp)) (by simp)
 | x :: xs, y :: ys, ha, hb, h => by
  have ha' := List.pairwise_cons.1 ha
  have hb' := List.pairwise_cons.1 hb
  have hxy : x = y := by
   rcases List.mem_cons.1 ((h x).1 (by simp)) with e | e
   ·exact e
   ·rcases List.mem_cons.1 ((h y).2 (by simp)) with e' | e'
    ·exact e'.symm
    ·exact absurd (List.lt_trans (ha'.1 y e') (hb'.1 x e)) (List.lt_irrefl _)
  subst hxy
  congr 1
  refine rzS_ext ha'.2 hb'.2 fun v => ⟨fun hv => ?_, fun hv => ?_⟩
  ·rcases List.mem_cons.1 ((h v).1 (by simp [hv])) with rfl | e
   ·exact absurd (ha'.1 v hv) (List.lt_irrefl _)
   ·exact e
  ·rcases List.mem_cons.1 ((h v).2 (by simp [hv])) with rfl | e
   ·exact absurd (hb'.1 v hv) (List.lt_irrefl _)
   ·exact e
theorem nrm_eq {l m : List ByteArray} (hm : RzS m) (h : ∀ v, v ∈ m ↔ v ∈ l) : nrm l = m := rzS_ext (nrm_rises l) hm fun v => by rw [mem_nrm, h]
theorem nrm_len (l : List ByteArray) : (nrm l).length ≤ l.length := by
 have h1 := (srtS_perm' l).length_eq
 unfold nrm
 have : (cmpL (srtS l)).length ≤ (srtS l).length := by
  cases hs : srtS l with
  | nil => exact Nat.le_refl _
  | cons x xs => rw [cmpL, List.length_cons, List.length_cons]; have := (cmpR_sub x xs).length_le; omega
 omega
def wins (s : ByteArray) : List ByteArray := (List.range (s.size - 2)).map fun i : Nat => ss s (i : Int) ((i : Int) + 3)
theorem windows_ok (s : ByteArray) (hs : s.size ≤ 1000000) : M.a2q [] s = some (wins s) := by
 have e0 : wr .i64 (wr .i64 ((s.size : Int) - 3) + 1) = (s.size : Int) - 2 := by
  rw [wr_i64 (x := (s.size : Int) - 3) (by omega) (by omega), wr_i64 (by omega) (by omega)]; omega
 have loop : ∀ (k i : Nat), i + k = s.size - 2 → M.a15 ((s.size : Int) - 2, (i : Int), ((List.range i).map fun i : Nat => ss s (i : Int) ((i : Int) + 3)), s) = some (wins s) := by
  intro k
  induction k with
  | zero =>
   intro i hi
   rw [M.a15]; try dsimp only
   rw [if_neg (by omega), show i = s.size - 2 by omega]
   rfl
  | succ k ih =>
   intro i hi
   rw [M.a15]; try dsimp only
   rw [if_pos (by omega), if_pos (by omega), wr_i64 (x := (i : Int) + 3) (by omega) (by omega), if_pos (by omega), if_pos (by omega), M.a43, if_pos (by simp; omega), bnd, wr_i64 (x := (i : Int) + 1) (by omega) (by omega), show (i : Int) + 1 = ((i + 1 : Nat) : Int) by push_cast; rfl]
   have := ih (i + 1) (by omega)
   rw [List.range_succ, List.map_append] at this
   exact this
 rw [M.a2q, e0]
 exact loop (s.size - 2) 0 (by omega)
theorem wins_len (s : ByteArray) : (wins s).length = s.size - 2 := by simp [wins]
theorem srtS_length (l : List ByteArray) : (srtS l).length = l.length := (srtS_perm' l).length_eq
theorem grams_ok (s : ByteArray) (hs : s.size ≤ 1000000) : M.a1p s = some (nrm (wins s)) := by
 have hw := wins_len s
 rw [M.a1p, M.a44, bnd, M.a3g, M.a3f, M.a3e, windows_ok s hs, bnd, bnd, bnd, if_pos (by omega), bnd, if_pos (by rw [srtS_length]; omega)]
 rfl
def tO : Option (List ByteArray) → T218
 | none => ⟨[], false⟩
 | some l => ⟨l, true⟩
def ofS (l : List ByteArray) : Option (List ByteArray) := if (nrm l).length > 32 then none else some (nrm l)
theorem of_ok (l : List ByteArray) (h : l.length ≤ 1000000) : M.az l = some (tO (ofS l)) := by
 unfold ofS
 rw [M.az, if_pos (by omega)]
 by_cases hc : (nrm l).length > 32
 ·rw [if_pos (show ((cmpL (srtS l)).length : Int) > 32 from (by have : (cmpL (srtS l)).length > 32 := hc; omega)), if_pos hc]; rfl
 ·rw [if_neg (show ¬ ((cmpL (srtS l)).length : Int) > 32 from (by have : ¬ (cmpL (srtS l)).length > 32 := hc; omega)), if_neg hc]; rfl
theorem of3_ok : M.a2n = some (tO (some [])) := by
 have e : srtS ([] : List ByteArray) = [] := List.eq_nil_of_length_eq_zero (by rw [srtS_length]; rfl)
 rw [M.a2n, if_pos (by omega), e, if_neg (by simp [cmpL])]
 rfl
def cross (a b : List ByteArray) : List ByteArray := a.flatMap fun x => b.map fun y => x ++ y
def behS : Option (List ByteArray) → Option (List ByteArray) → Option (List ByteArray)
 | some a, some b => if ∃ x ∈ a, ∃ y ∈ b, x.size + y.size > 32 then none else ofS (cross a b)
 | _, _ => none
theorem cross_cons (x : ByteArray) (a b : List ByteArray) : cross (x :: a) b = (b.map fun y => x ++ y) ++ cross a b := rfl
theorem behind_run (a b : List ByteArray) (x3 x4 : T218) (h3 : x3.l = b) (ha : a.length ≤ 1000) (hb : b.length ≤ 1000) (hsz : ∀ y ∈ b, y.size ≤ 1000000) : ∀ (R pre acc : List ByteArray), a = pre ++ R → (∀ x ∈ R, x.size ≤ 1000000) → acc.length ≤ pre.length * b.length →
  M.af (x3, x4, acc, a, (a.length : Int), (pre.length : Int)) = some (tO (if ∃ x ∈ R, ∃ y ∈ b, x.size + y.size > 32 then none else ofS (acc ++ cross R b))) := by
 intro R
 induction R with
 | nil =>
  intro pre acc e hR hl
  have hpl : pre.length ≤ 1000 := by rw [e] at ha; simpa using ha
  have hm : pre.length * b.length ≤ 1000 * 1000 := Nat.mul_le_mul hpl hb
  rw [M.af]; try dsimp only
  rw [if_neg (by rw [e]; simp), of_ok acc (by omega), bnd, if_neg (by simp)]
  simp [cross]
 | cons x R ih =>
  intro pre acc e hR hl
  have hlen : a.length = pre.length + (R.length + 1) := by rw [e]; simp
  have hm : (pre.length + 1) * b.length ≤ 1000 * 1000 := Nat.mul_le_mul (by omega) hb
  rw [Nat.add_mul, Nat.one_mul] at hm
  have hx := hR x (by simp)
  have inner : ∀ (Q qre : List ByteArray) (acc2 : List ByteArray), b = qre ++ Q → acc2.length ≤ pre.length * b.length + qre.length →
    M.a10 (x3, x4, acc2, x, a, (a.length : Int), (pre.length : Int), b, (b.length : Int), (qre.length : Int)) = if ∃ y ∈ Q, x.size + y.size > 32 then some (tO none) else M.af (x3, x4, acc2 ++ Q.map (fun y => x ++ y), a, (a.length : Int), ((pre.length + 1 : Nat) : Int)) := by
   intro Q
   induction Q with
   | nil =>
    intro qre acc2 eb hq
    rw [M.a10]; try dsimp only
    rw [if_neg (by rw [eb]; simp), if_neg (by simp), wr_i64 (x := (pre.length : Int) + 1) (by omega) (by omega), show (pre.length : Int) + 1 = ((pre.length + 1 : Nat) : Int) by push_cast; rfl]
    simp
   | cons y Q ihq =>
    intro qre acc2 eb hq
    have hbl : b.length = qre.length + (Q.length + 1) := by rw [eb]; simp
    have hy := hsz y (by rw [eb]; simp)
    rw [M.a10]; try dsimp only
    rw [if_pos (by omega), if_pos (by omega), if_pos (by omega), show gi b (qre.length : Int) = y by rw [eb]; exact gi_mid qre y Q, wr_i64 (x := (x.size : Int) + (y.size : Int)) (by omega) (by omega)]
    by_cases hc : x.size + y.size > 32
    ·rw [if_pos (by omega), if_pos ⟨y, by simp, hc⟩]
     rfl
    ·rw [if_neg (by omega), if_pos (by omega), if_pos (by simp; omega), wr_i64 (x := (qre.length : Int) + 1) (by omega) (by omega)]
     have := ihq (qre ++ [y]) (acc2 ++ [x ++ y]) (by rw [eb]; simp) (by simp; omega)
     rw [show (((qre ++ [y]).length : Nat) : Int) = (qre.length : Int) + 1 by simp] at this
     rw [this]
     have hiff : (∃ z ∈ y :: Q, x.size + z.size > 32) ↔ ∃ z ∈ Q, x.size + z.size > 32 := by
      constructor
      ·rintro ⟨z, hz, h⟩
       rcases List.mem_cons.1 hz with rfl | hz
       ·exact absurd h hc
       ·exact ⟨z, hz, h⟩
      ·rintro ⟨z, hz, h⟩
       exact ⟨z, List.mem_cons_of_mem _ hz, h⟩
     simp only [hiff, List.map_cons, List.append_assoc, List.cons_append, List.nil_append]
  rw [M.af]; try dsimp only
  rw [if_pos (by omega), if_pos (by omega), if_pos (by omega), show gi a (pre.length : Int) = x by rw [e]; exact gi_mid pre x R, h3]
  have hin := inner b [] acc rfl (by simp; omega)
  rw [show ((([] : List ByteArray).length : Nat) : Int) = 0 from rfl] at hin
  rw [hin]
  by_cases hc : ∃ y ∈ b, x.size + y.size > 32
  ·rw [if_pos hc, if_pos ⟨x, by simp, hc⟩]
  ·rw [if_neg hc]
   have := ih (pre ++ [x]) (acc ++ b.map (fun y => x ++ y)) (by rw [e]; simp) (fun z hz => hR z (List.mem_cons_of_mem _ hz)) (by simp [Nat.add_mul]; omega)
   rw [show (pre ++ [x]).length = pre.length + 1 by simp] at this
   rw [this]
   have hiff : (∃ z ∈ x :: R, ∃ y ∈ b, z.size + y.size > 32) ↔ ∃ z ∈ R, ∃ y ∈ b, z.size + y.size > 32 := by
    constructor
    ·rintro ⟨z, hz, h⟩
     rcases List.mem_cons.1 hz with rfl | hz
     ·exact absurd h hc
     ·exact ⟨z, hz, h⟩
    ·rintro ⟨z, hz, h⟩
     exact ⟨z, List.mem_cons_of_mem _ hz, h⟩
   simp only [hiff, cross_cons, List.append_assoc]
def TxOk : Option (List ByteArray) → Prop
 | none => True
 | some l => l.length ≤ 256 ∧ ∀ x ∈ l, x.size ≤ 1000
theorem behind_ok (a b : Option (List ByteArray)) (ha : TxOk a) (hb : TxOk b) : M.a24 (tO a) (tO b) = some (tO (behS a b)) := by
 rw [M.a24]
 cases a with
 | none =>
  rw [if_neg (by simp [tO]), M.a23]; try dsimp only
  rw [if_pos rfl]
  cases b <;> rfl
 | some a =>
  rw [if_pos (show (tO (some a)).known = true from rfl), M.a23]; try dsimp only
  cases b with
  | none => rw [if_pos (by rfl)]; rfl
  | some b =>
   rw [if_neg (by simp [tO])]
   have := behind_run a b (tO (some b)) ⟨[], false⟩ rfl (by have := ha.1; omega) (by have := hb.1; omega) (fun y hy => by have := hb.2 y hy; omega) a [] [] rfl (fun x hx => by have := ha.2 x hx; omega) (by simp)
   exact this
def hb (z : List Int) (b : Nat) : Bool := (M.a2m z (b : Int)).getD false
def memL (z : List Int) (n : Nat) : List ByteArray := ((List.range n).filter (hb z)).map fun b : Nat => b2s [(b : Int)]
def memS (z : List Int) : Option (List ByteArray) := if (memL z 256).length > 8 then none else some (memL z 256)
theorem memL_succ (z : List Int) (n : Nat) : memL z (n + 1) = if hb z n = true then memL z n ++ [b2s [(n : Int)]] else memL z n := by
 unfold memL
 rw [List.range_succ, List.filter_append]
 by_cases h : hb z n = true
 ·rw [if_pos h]; simp [h]
 ·rw [if_neg h]; simp [h]
theorem memL_len (z : List Int) (n : Nat) : (memL z n).length ≤ n := by
 unfold memL
 rw [List.length_map]
 exact Nat.le_trans (List.length_filter_le _ _) (by simp)
theorem wr_u8n : ∀ n : Nat, n < 256 → wr .u8 (n : Int) = (n : Int) := by decide +kernel
theorem members_ok (z : List Int) : M.a3a z = some (tO (memS z)) := by
 have loop : ∀ (k i : Nat), i + k = 256 → M.ae (z, ⟨[], false⟩, memL z i, (i : Int)) = some (tO (memS z)) := by
  intro k
  induction k with
  | zero =>
   intro i hi
   have : i = 256 := by omega
   subst this
   rw [M.ae]; try dsimp only
   rw [if_neg (by decide)]
   unfold memS
   by_cases h : (memL z 256).length > 8
   ·rw [if_pos (by omega), if_pos h]; rfl
   ·rw [if_neg (by omega), if_neg h]; rfl
  | succ k ih =>
   intro i hi
   have hl := memL_len z i
   obtain ⟨v, hv⟩ := has_tot z (b := (i : Int)) (by omega) (by omega)
   have hbv : hb z i = v := by unfold hb; rw [hv]; rfl
   have l1 : ∀ w, M.a1n (z, ⟨[], false⟩, w, (i : Int)) = M.ae (z, ⟨[], false⟩, w, ((i + 1 : Nat) : Int)) := by
    intro w
    rw [M.a1n]; try dsimp only
    rw [wr_i64 (by omega) (by omega), show (i : Int) + 1 = ((i + 1 : Nat) : Int) by push_cast; rfl]
   rw [M.ae]; try dsimp only
   rw [if_pos (by omega), wr_u8n i (by omega), hv, bnd]
   rw [← ih (i + 1) (by omega), memL_succ, hbv]
   cases v with
   | true => rw [if_pos rfl, if_pos (by simp; omega), l1, if_pos rfl]
   | false => rw [if_neg (by decide), l1, if_neg (by decide)]
 exact loop 256 0 rfl
theorem grow_ok (n : Nat) (h : n ≤ 1000000) : M.a3b (n : Int) = some [] := by
 rw [M.a3b, if_neg (by omega), M.a4q]; try dsimp only
 rw [wr_i64 (by omega) (by omega)]
 by_cases h0 : (n : Int) - 0 > 0
 ·rw [if_pos h0, if_pos (by omega), if_pos (by omega), bnd]; rfl
 ·rw [if_neg h0]
theorem concat_ok (a b : List ByteArray) (ha : a.length ≤ 100000) (hb : b.length ≤ 100000) : M.a26 [a, b] = some (a ++ b) := by
 have g0 : gi [a, b] 0 = a := rfl
 have g1 : gi [a, b] 1 = b := rfl
 have h2 : (([a, b] : List (List ByteArray)).length : Int) = 2 := rfl
 rw [M.a26, h2, M.ap]; try dsimp only
 rw [if_pos (by omega), if_pos (by omega), if_pos (by rw [h2]; omega), g0, wr_i64 (x := 0 + (a.length : Int)) (by omega) (by omega), if_neg (by omega), M.a25]; try dsimp only
 rw [wr_i64 (x := (0 : Int) + 1) (by omega) (by omega), M.ap]; try dsimp only
 rw [if_pos (by omega), if_pos (by omega), if_pos (by rw [h2]; omega), show gi [a, b] (0 + 1) = b from rfl, wr_i64 (x := 0 + (a.length : Int) + (b.length : Int)) (by omega) (by omega), if_neg (by omega), M.a25]; try dsimp only
 rw [wr_i64 (x := (0 : Int) + 1 + 1) (by omega) (by omega), M.ap]; try dsimp only
 rw [if_neg (by omega), show 0 + (a.length : Int) + (b.length : Int) = ((a.length + b.length : Nat) : Int) by push_cast; omega, grow_ok _ (by omega), bnd, h2, M.a11]; try dsimp only
 rw [if_pos (by omega), if_pos (by omega), if_pos (by rw [h2]; omega), g0, List.nil_append, if_pos (by omega), wr_i64 (x := (0 : Int) + 1) (by omega) (by omega), M.a11]; try dsimp only
 rw [if_pos (by omega), if_pos (by omega), if_pos (by rw [h2]; omega), show gi [a, b] (0 + 1) = b from rfl, if_pos (by simp; omega), wr_i64 (x := (0 : Int) + 1 + 1) (by omega) (by omega), M.a11]; try dsimp only
 rw [if_neg (by omega)]
theorem mul_ok : ∀ n : Nat, n < 65 → M.a4r 1 (n : Int) = some (0, (n : Int)) := by decide +kernel
theorem wr_u64n : ∀ n : Nat, n < 65 → wr .u64 (n : Int) = (n : Int) := by decide +kernel
theorem repeat_run (x z : T26) (n : Nat) (hn : n ≤ 64) : ∀ (fuel k : Nat), 1 ≤ k → k ≤ n → n ≤ k + fuel → M.aq (List.replicate k x ++ List.replicate (n - k) z, (k : Int)) = some (List.replicate n x) := by
 intro fuel
 induction fuel with
 | zero =>
  intro k h1 h2 h3
  have : k = n := by omega
  subst this
  rw [M.aq]; try dsimp only
  rw [if_neg (by simp)]
  simp
 | succ fuel ih =>
  intro k h1 h2 h3
  have hl : (List.replicate k x ++ List.replicate (n - k) z).length = n := by simp; omega
  rw [M.aq]; try dsimp only
  rw [hl]
  by_cases hk : (k : Int) < (n : Int)
  ·rw [if_pos hk, if_pos (by omega), if_pos (by omega), bnd]
   have e1 : sl (List.replicate k x ++ List.replicate (n - k) z) 0 (k : Int) = List.replicate k x := by simp [sl]
   have e2 : cpy (List.replicate k x ++ List.replicate (n - k) z) k (n - k) (List.replicate k x) = List.replicate (k + min k (n - k)) x ++ List.replicate (n - (k + min k (n - k))) z := by
    unfold cpy
    rw [List.take_append_of_le_length (by simp), List.take_of_length_le (by simp), List.take_replicate, List.length_replicate]
    have e3 : (List.replicate k x ++ List.replicate (n - k) z).drop (k + min k (n - k)) = List.replicate (n - (k + min k (n - k))) z := by
     rw [List.drop_append, List.length_replicate, List.drop_eq_nil_of_le (by simp), List.nil_append, List.drop_replicate]
     congr 1; omega
    rw [e3, ← List.append_assoc, List.replicate_append_replicate, Nat.min_comm (n - k) k]
   simp only [Int.toNat_natCast, e1, e2]
   rw [show ((min (k - Int.toNat 0) (n - k) : Nat) : Int) = ((min k (n - k) : Nat) : Int) by simp, wr_i64 (by omega) (by omega), show (k : Int) + ((min k (n - k) : Nat) : Int) = ((k + min k (n - k) : Nat) : Int) by push_cast; rfl]
   exact ih (k + min k (n - k)) (by omega) (by omega) (by omega)
  ·have : k = n := by omega
   subst this
   rw [if_neg hk]
   simp
theorem repeat_ok (x : T26) (n : Nat) (hn : n ≤ 64) : M.a2p [x] (n : Int) = some (List.replicate n x) := by
 rw [M.a2p, if_neg (by omega), M.a3d]; try dsimp only
 rw [show wr .u64 (([x] : List T26).length : Int) = 1 from (by show wr .u64 1 = 1; decide +kernel), wr_u64n n (by omega), M.a42, mul_ok n (by omega), bnd, bnd]; try dsimp only
 rw [if_neg (by decide), decide_eq_false (by omega), M.a2o]; try dsimp only
 rw [if_neg (by decide), M.a3c]; try dsimp only
 rw [wr_i64 (by omega) (by omega), if_pos (by omega), if_pos (by omega), Int.toNat_natCast, bnd, List.length_replicate]
 by_cases h0 : n = 0
 ·subst h0
  rw [M.aq]; try dsimp only
  rw [if_neg (by simp [cpy])]
  simp [cpy]
 ·have e1 : cpy (List.replicate n (⟨0, [0, 0, 0, 0], [], 0, 0⟩ : T26)) 0 n [x] = List.replicate 1 x ++ List.replicate (n - 1) ⟨0, [0, 0, 0, 0], [], 0, 0⟩ := by
   unfold cpy
   rw [List.take_zero, List.nil_append, List.take_of_length_le (by simp; omega), List.drop_replicate]
   congr 2
   simp; omega
  rw [e1, show min ([x] : List T26).length n = 1 by simp; omega]
  exact repeat_run x _ n hn n 1 (by omega) (by omega) (by omega)
def eS : ByteArray := ⟨#[]⟩
def rowS (l : List (Option (List ByteArray))) : Option (List ByteArray) := l.foldl behS (some [eS])
def alS : Option (List ByteArray) → Option (List ByteArray) → Option (List ByteArray)
 | some a, some b => ofS (a ++ b)
 | _, _ => none
def anyS (l : List (Option (List ByteArray))) : Option (List ByteArray) := l.foldl alS (some [])
def tellS : Nat → T26 → Option (List ByteArray)
 | 0, _ => none
 | d + 1, r => if r.Kind = 1 then memS r.Set else if r.Kind = 2 then rowS (r.L.map (tellS d)) else if r.Kind = 3 then anyS (r.L.map (tellS d)) else if r.Min = r.Max then rowS ((List.replicate r.Min.toNat r.L).flatten.map (tellS d)) else none
def TxS : Option (List ByteArray) → Prop
 | none => True
 | some l => l.length ≤ 32 ∧ ∀ x ∈ l, x.size ≤ 32
theorem TxS.ok {t : Option (List ByteArray)} (h : TxS t) : TxOk t := by
 cases t with
 | none => trivial
 | some l => exact ⟨by have := h.1; omega, fun x hx => by have := h.2 x hx; omega⟩
theorem ofS_txs {l : List ByteArray} (h : ∀ x ∈ l, x.size ≤ 32) : TxS (ofS l) := by
 unfold ofS
 by_cases hc : (nrm l).length > 32
 ·rw [if_pos hc]; trivial
 ·rw [if_neg hc]; exact ⟨by omega, fun x hx => h x (mem_nrm.1 hx)⟩
theorem mem_cross {a b : List ByteArray} {v : ByteArray} : v ∈ cross a b ↔ ∃ x ∈ a, ∃ y ∈ b, v = x ++ y := by
 unfold cross
 simp only [List.mem_flatMap, List.mem_map]
 constructor
 ·rintro ⟨x, hx, y, hy, rfl⟩; exact ⟨x, hx, y, hy, rfl⟩
 ·rintro ⟨x, hx, y, hy, rfl⟩; exact ⟨x, hx, y, hy, rfl⟩
theorem behS_txs (a b : Option (List ByteArray)) : TxS (behS a b) := by
 cases a with
 | none => cases b <;> trivial
 | some a =>
  cases b with
  | none => trivial
  | some b =>
   simp only [behS]
   split
   ·trivial
   ·rename_i h
    refine ofS_txs fun x hx => ?_
    obtain ⟨u, hu, v, hv, rfl⟩ := mem_cross.1 hx
    rcases Nat.lt_or_ge 32 (u.size + v.size) with h' | h'
    ·exact absurd ⟨u, hu, v, hv, h'⟩ h
    ·simpa using h'
theorem alS_txs {a b : Option (List ByteArray)} (ha : TxS a) (hb : TxS b) : TxS (alS a b) := by
 cases a with
 | none => cases b <;> trivial
 | some a =>
  cases b with
  | none => trivial
  | some b =>
   refine ofS_txs fun x hx => ?_
   rcases List.mem_append.1 hx with h | h
   ·exact ha.2 x h
   ·exact hb.2 x h
theorem memS_txs (z : List Int) : TxS (memS z) := by
 unfold memS
 split
 ·trivial
 ·refine ⟨by omega, fun x hx => ?_⟩
  unfold memL at hx
  obtain ⟨b, _, rfl⟩ := List.mem_map.1 hx
  show (b2s [(b : Int)]).size ≤ 32
  simp [b2s, ByteArray.size]
theorem fold_txs (f : Option (List ByteArray) → Option (List ByteArray) → Option (List ByteArray)) (hf : ∀ a b, TxS a → TxS b → TxS (f a b)) : ∀ (l : List (Option (List ByteArray))) (a : Option (List ByteArray)), TxS a → (∀ x ∈ l, TxS x) → TxS (l.foldl f a)
 | [], a, ha, _ => ha
 | x :: l, a, ha, hl => fold_txs f hf l (f a x) (hf a x ha (hl x (by simp))) fun y hy => hl y (by simp [hy])
theorem eS_txs : TxS (some [eS]) := ⟨by simp, fun x hx => by rw [List.mem_singleton.1 hx]; decide⟩
theorem tellS_txs : ∀ (d : Nat) (r : T26), TxS (tellS d r)
 | 0, _ => trivial
 | d + 1, r => by
  rw [tellS]
  split
  ·exact memS_txs _
  ·split
   ·exact fold_txs behS (fun a b _ _ => behS_txs a b) _ _ eS_txs fun x hx => by obtain ⟨y, _, rfl⟩ := List.mem_map.1 hx; exact tellS_txs d y
   ·split
    ·exact fold_txs alS (fun a b => alS_txs) _ _ ⟨by simp, by simp⟩ fun x hx => by obtain ⟨y, _, rfl⟩ := List.mem_map.1 hx; exact tellS_txs d y
    ·split
     ·exact fold_txs behS (fun a b _ _ => behS_txs a b) _ _ eS_txs fun x hx => by obtain ⟨y, _, rfl⟩ := List.mem_map.1 hx; exact tellS_txs d y
     ·trivial
theorem behS_none (l : List (Option (List ByteArray))) : l.foldl behS none = none := by
 induction l with
 | nil => rfl
 | cons x l ih => exact ih
theorem alS_none (l : List (Option (List ByteArray))) : l.foldl alS none = none := by
 induction l with
 | nil => rfl
 | cons x l ih => exact ih
theorem of_eS : M.az [(⟨#[]⟩ : ByteArray)] = some (tO (some [eS])) := by
 rw [of_ok _ (by simp)]
 have : nrm [(⟨#[]⟩ : ByteArray)] = [eS] := nrm_eq (List.pairwise_singleton _ _) fun v => by rfl
 unfold ofS
 rw [this, if_neg (by decide)]
theorem row_ok (f : T26 → Option (List ByteArray)) (hf : ∀ x, TxS (f x)) (L : List T26) (hL : L.length ≤ 4096) (h : ∀ x ∈ L, M.a3 x = some (tO (f x))) : M.a1o L = some (tO (rowS (L.map f))) := by
 have loop : ∀ (R pre : List T26) (t : List ByteArray), L = pre ++ R → TxS (some t) → M.a12 (⟨[], false⟩, ⟨t, true⟩, L, (L.length : Int), (pre.length : Int)) = some (tO ((R.map f).foldl behS (some t))) := by
  intro R
  induction R with
  | nil =>
   intro pre t e ht
   rw [M.a12]; try dsimp only
   rw [if_neg (by rw [e]; simp)]
   rfl
  | cons x R ih =>
   intro pre t e ht
   have hlen : L.length = pre.length + (R.length + 1) := by rw [e]; simp
   rw [M.a12]; try dsimp only
   rw [if_pos (by omega), if_pos (by omega), if_pos (by omega), show gi L (pre.length : Int) = x by rw [e]; exact gi_mid pre x R, eta27, h x (by rw [e]; simp), bnd, show (⟨t, true⟩ : T218) = tO (some t) from rfl, behind_ok _ _ ht.ok (hf x).ok, bnd, List.map_cons, List.foldl_cons]
   have hb := behS_txs (some t) (f x)
   cases hbe : behS (some t) (f x) with
   | none =>
    rw [if_neg (by simp [tO]), behS_none]; rfl
   | some u =>
    rw [hbe] at hb
    rw [if_pos (show (tO (some u)).known = true from rfl), wr_i64 (by omega) (by omega)]
    have := ih (pre ++ [x]) u (by rw [e]; simp) hb
    rw [show (((pre ++ [x]).length : Nat) : Int) = (pre.length : Int) + 1 by simp] at this
    exact this
 rw [M.a1o, of_eS, bnd]
 exact loop L [] [eS] rfl eS_txs
theorem tell_ok (d : Nat) : ∀ r : T26, Rt d r → nd r ≤ 4096 → M.a3 r = some (tO (tellS d r)) := by
 induction d with
 | zero => intro r h; exact absurd h id
 | succ d ih =>
  intro r hr hn
  rw [nd_eq] at hn
  have hll := nds_len r.L
  have sub : ∀ x ∈ r.L, M.a3 x = some (tO (tellS d x)) := fun x hx => ih x (hr.2.2 x hx) (by have := nd_mem hx; omega)
  rw [M.a3]; try dsimp only
  rw [tellS]
  by_cases h1 : r.Kind = 1
  ·rw [if_pos h1, if_pos h1, members_ok, bnd]
  rw [if_neg h1, if_neg h1]
  by_cases h2 : r.Kind = 2
  ·rw [if_pos h2, if_pos h2, row_ok (tellS d) (tellS_txs d) r.L (by omega) sub, bnd]
  rw [if_neg h2, if_neg h2]
  by_cases h3 : r.Kind = 3
  ·rw [if_pos h3, if_pos h3, of3_ok, bnd]
   have loop : ∀ (R pre : List T26) (t : Option (List ByteArray)), r.L = pre ++ R → TxS t → M.a13 (⟨[], false⟩, tO t, r.L, (r.L.length : Int), (pre.length : Int)) = some (tO ((R.map (tellS d)).foldl alS t)) := by
    intro R
    induction R with
    | nil =>
     intro pre t e ht
     rw [M.a13]; try dsimp only
     rw [if_neg (by rw [e]; simp)]
     rfl
    | cons x R ihR =>
     intro pre t e ht
     have hlen : r.L.length = pre.length + (R.length + 1) := by rw [e]; simp
     have hx : x ∈ r.L := by rw [e]; simp
     rw [M.a13]; try dsimp only
     rw [if_pos (by omega), if_pos (by omega), if_pos (by omega), show gi r.L (pre.length : Int) = x by rw [e]; exact gi_mid pre x R, eta27, sub x hx, bnd, List.map_cons, List.foldl_cons]
     have htx := tellS_txs d x
     have l1 : ∀ u b, b = true → M.a14 (⟨[], false⟩, tO t, u, r.L, (r.L.length : Int), (pre.length : Int), b) = some (tO none) := by
      intro u b hb
      rw [M.a14]; try dsimp only
      rw [if_pos hb]; rfl
     cases hu : tellS d x with
     | none =>
      have ea : alS t none = none := by cases t <;> rfl
      rw [if_neg (by simp [tO]), l1 _ _ rfl, ea, alS_none]
     | some u =>
      rw [hu] at htx
      rw [if_pos (show (tO (some u)).known = true from rfl)]
      cases t with
      | none => rw [l1 _ _ (by rfl), show alS none (some u) = none from rfl, alS_none]
      | some t =>
       have hta := ht.1
       have hua := htx.1
       rw [M.a14]; try dsimp only
       rw [if_neg (by simp [tO])]
       show (M.a26 [t, u] >>= _) = _
       rw [concat_ok t u (by omega) (by omega), bnd, of_ok _ (by simp; omega), bnd, wr_i64 (by omega) (by omega)]
       have := ihR (pre ++ [x]) (ofS (t ++ u)) (by rw [e]; simp) (alS_txs (a := some t) (b := some u) ht htx)
       rw [show (((pre ++ [x]).length : Nat) : Int) = (pre.length : Int) + 1 by simp] at this
       exact this
   exact loop r.L [] (some []) rfl ⟨by simp, by simp⟩
  rw [if_neg h3, if_neg h3]
  by_cases hm : r.Min = r.Max
  ·rw [if_pos hm, if_pos hm]
   rcases hr.1 with ⟨h, _⟩ | ⟨h | h, _⟩ | ⟨_, ⟨x, hL⟩, _, g0, g1, _⟩
   ·exact absurd h h1
   ·exact absurd h h2
   ·exact absurd h h3
   obtain ⟨m, hmm⟩ := Int.eq_ofNat_of_zero_le g0
   rw [hmm, hL, repeat_ok x m (by omega), bnd, Int.toNat_natCast]
   have e : (List.replicate m [x]).flatten = List.replicate m x := by
    induction m with
    | zero => rfl
    | succ m ih => rw [List.replicate_succ, List.flatten_cons, List.replicate_succ]; simp [List.flatten_replicate_singleton]
   rw [e, row_ok (tellS d) (tellS_txs d) (List.replicate m x) (by simp; omega) (fun y hy => by rw [List.eq_of_mem_replicate hy]; exact sub x (by rw [hL]; simp)), bnd]
  ·rw [if_neg hm, if_neg hm]; rfl
theorem tlS (s : ByteArray) : s.toList = Tl s := Lib.toList_data s
theorem eqS (a b : ByteArray) : (a.toList == b.toList) = decide (a = b) := by
 rw [tlS, tlS]
 by_cases h : a = b
 ·rw [h, decide_eq_true rfl]; simp
 ·rw [decide_eq_false h]
  rw [beq_eq_false_iff_ne]
  exact fun h' => h (Tl_inj h')
theorem lessS (a b : ByteArray) : Op.bytesLess a.toList b.toList = decide (Tl a < Tl b) := by rw [bytesLess_eq, tlS, tlS]
mutual
def qn : T29 → Nat
 | ⟨_, _, L⟩ => 1 + qns L
def qns : List T29 → Nat
 | [] => 0
 | x :: xs => qn x + qns xs
end
theorem qn_eq (q : T29) : qn q = 1 + qns q.L := by cases q; rw [qn]
theorem qn_pos (q : T29) : 1 ≤ qn q := by rw [qn_eq]; omega
theorem qns_len : ∀ L : List T29, L.length ≤ qns L
 | [] => by simp
 | x :: xs => by have := qns_len xs; have := qn_pos x; rw [qns]; simp; omega
theorem qn_mem {x : T29} : ∀ {l : List T29}, x ∈ l → qn x ≤ qns l
 | [], h => by simp at h
 | y :: l, h => by
  rw [qns]
  rcases List.mem_cons.1 h with rfl | h
  ·omega
  ·have := qn_mem h; omega
theorem qns_append : ∀ a b : List T29, qns (a ++ b) = qns a + qns b
 | [], b => by simp [qns]
 | x :: a, b => by rw [List.cons_append, qns, qns, qns_append a b]; omega
theorem t29_ext {a b : T29} : a = b ↔ a.Op = b.Op ∧ a.Text = b.Text ∧ a.L = b.L := by
 cases a; cases b; simp
theorem same_ok (n : Nat) : ∀ a b : T29, qn a ≤ n → qn a ≤ 100000000 → qn b ≤ 100000000 → M.a16 (a, b) = some (decide (a = b)) := by
 induction n with
 | zero => intro a b h; have := qn_pos a; omega
 | succ n ih =>
  intro a b hn ha hb
  rw [M.a16]; try dsimp only
  by_cases ho : a.Op = b.Op
  ·rw [if_pos ho, eqS]
   by_cases ht : a.Text = b.Text
   ·rw [decide_eq_true ht, if_pos rfl, M.a2r]; try dsimp only
    have e0 : decide (a = b) = decide (a.L = b.L) := by
     rw [decide_eq_decide, t29_ext]; simp [ho, ht]
    rw [qn_eq] at hn ha hb
    have hla := qns_len a.L
    have hlb := qns_len b.L
    by_cases hl : (a.L.length : Int) = (b.L.length : Int)
    ·rw [if_pos hl]
     have loop : ∀ (R pre Q qre : List T29), a.L = pre ++ R → b.L = qre ++ Q → pre.length = qre.length → R.length = Q.length → M.a17 (b.L, a.L, (a.L.length : Int), (pre.length : Int)) = some (decide (R = Q)) := by
      intro R
      induction R with
      | nil =>
       intro pre Q qre ea eb hp hr
       have : Q = [] := List.eq_nil_of_length_eq_zero (by simpa using hr.symm)
       rw [M.a17]; try dsimp only
       rw [if_neg (by rw [ea]; simp), this]
       simp
      | cons x R ihR =>
       intro pre Q qre ea eb hp hr
       cases Q with
       | nil => simp at hr
       | cons y Q =>
        have hlen : a.L.length = pre.length + (R.length + 1) := by rw [ea]; simp
        have hx : x ∈ a.L := by rw [ea]; simp
        have hy : y ∈ b.L := by rw [eb]; simp
        have hqx := qn_mem hx
        have hqy := qn_mem hy
        rw [M.a17]; try dsimp only
        rw [if_pos (by omega), if_pos (by omega), if_pos (by omega), if_pos (by omega), show gi a.L (pre.length : Int) = x by rw [ea]; exact gi_mid pre x R, show gi b.L (pre.length : Int) = y by rw [eb, hp]; exact gi_mid qre y Q, ih x y (by omega) (by omega) (by omega), bnd]
        by_cases hxy : x = y
        ·subst hxy
         rw [decide_eq_true rfl, if_pos rfl, wr_i64 (by omega) (by omega)]
         have := ihR (pre ++ [x]) Q (qre ++ [x]) (by rw [ea]; simp) (by rw [eb]; simp) (by simp [hp]) (by simpa using hr)
         rw [show (((pre ++ [x]).length : Nat) : Int) = (pre.length : Int) + 1 by simp] at this
         rw [this]
         simp
        ·rw [decide_eq_false hxy, if_neg (by decide)]
         simp [hxy]
     have := loop a.L [] b.L [] rfl rfl rfl (by omega)
     rw [show ((([] : List T29).length : Nat) : Int) = 0 from rfl] at this
     rw [this, bnd, e0]
    ·rw [if_neg hl, bnd, e0, decide_eq_false (fun h => hl (by rw [h]))]
   ·rw [decide_eq_false ht, if_neg (by decide), decide_eq_false fun h => ht (by rw [h])]
  ·rw [if_neg ho, decide_eq_false fun h => ho (by rw [h])]
noncomputable def dist : List T29 → List T29 → List T29
 | acc, [] => acc
 | acc, x :: xs => if x ∈ acc then dist acc xs else dist (acc ++ [x]) xs
theorem has_ok (acc : List T29) (x : T29) (ha : qns acc ≤ 100000000) (hx : qn x ≤ 100000000) : M.a2s acc x = some (decide (x ∈ acc)) := by
 have hl := qns_len acc
 have loop : ∀ (R pre : List T29), acc = pre ++ R → x ∉ pre → ∃ j : Int, M.a18 (acc, (acc.length : Int), (pre.length : Int), x) = some j ∧ decide (j ≥ 0) = decide (x ∈ acc) := by
  intro R
  induction R with
  | nil =>
   intro pre e hp
   rw [M.a18]; try dsimp only
   rw [if_neg (by rw [e]; simp)]
   refine ⟨-1, rfl, ?_⟩
   rw [e, List.append_nil, decide_eq_false hp]
   rfl
  | cons y R ih =>
   intro pre e hp
   have hlen : acc.length = pre.length + (R.length + 1) := by rw [e]; simp
   have hy : y ∈ acc := by rw [e]; simp
   have hqy := qn_mem hy
   rw [M.a18]; try dsimp only
   rw [if_pos (by omega), if_pos (by omega), if_pos (by omega), show gi acc (pre.length : Int) = y by rw [e]; exact gi_mid pre y R, M.a3h, same_ok (qn x) x y (Nat.le_refl _) hx (by omega), bnd, bnd]
   by_cases hxy : x = y
   ·subst hxy
    rw [decide_eq_true rfl, if_pos rfl]
    exact ⟨_, rfl, by rw [decide_eq_true hy, decide_eq_true (by omega)]⟩
   ·rw [decide_eq_false hxy, if_neg (by decide), wr_i64 (by omega) (by omega)]
    have := ih (pre ++ [y]) (by rw [e]; simp) (by simp [hp, hxy])
    rw [show (((pre ++ [y]).length : Nat) : Int) = (pre.length : Int) + 1 by simp] at this
    exact this
 obtain ⟨j, e1, e2⟩ := loop acc [] rfl (by simp)
 rw [show ((([] : List T29).length : Nat) : Int) = 0 from rfl] at e1
 rw [M.a2s, M.a3i, e1, bnd, e2]
theorem dist_ok (l : List T29) (hq : qns l ≤ 100000000) : M.a2t l = some (dist [] l) := by
 have hl := qns_len l
 have loop : ∀ (R pre acc : List T29), l = pre ++ R → qns acc ≤ qns pre → M.ag (acc, l, (l.length : Int), (pre.length : Int)) = some (dist acc R) := by
  intro R
  induction R with
  | nil =>
   intro pre acc e ha
   rw [M.ag]; try dsimp only
   rw [if_neg (by rw [e]; simp)]
   rfl
  | cons x R ih =>
   intro pre acc e ha
   have hlen : l.length = pre.length + (R.length + 1) := by rw [e]; simp
   have hsum : qns l = qns pre + (qn x + qns R) := by rw [e, qns_append, qns]
   have hacc := qns_len acc
   have hpos := qn_pos x
   have l1 : ∀ w, M.a1q (w, l, (l.length : Int), (pre.length : Int)) = M.ag (w, l, (l.length : Int), (((pre ++ [x]).length : Nat) : Int)) := by
    intro w
    rw [M.a1q]; try dsimp only
    rw [wr_i64 (by omega) (by omega), show (((pre ++ [x]).length : Nat) : Int) = (pre.length : Int) + 1 by simp]
   rw [M.ag]; try dsimp only
   rw [if_pos (by omega), if_pos (by omega), if_pos (by omega), show gi l (pre.length : Int) = x by rw [e]; exact gi_mid pre x R, has_ok acc x (by omega) (by omega), bnd, dist]
   by_cases hm : x ∈ acc
   ·rw [decide_eq_true hm, if_pos rfl, if_pos hm, l1]
    exact ih (pre ++ [x]) acc (by rw [e]; simp) (by rw [qns_append]; omega)
   ·rw [decide_eq_false hm, if_neg (by decide), if_neg hm, if_pos (by simp; omega), l1]
    exact ih (pre ++ [x]) (acc ++ [x]) (by rw [e]; simp) (by rw [qns_append, qns_append]; simp only [qns]; omega)
 rw [M.a2t]
 exact loop l [] [] rfl (Nat.le_refl _)
def gs (op : Int) : Int := if op = 4 then 1 else 0
def tk (op : Int) : Int := if op = 4 then 0 else 1
def flat (op : Int) : List T29 → Option (List T29)
 | [] => some []
 | q :: l => if q.Op = op then (flat op l).map (q.L ++ ·) else if q.Op = tk op then none else if q.Op = gs op then flat op l else (flat op l).map (q :: ·)
def mkq (op : Int) (l : List T29) : T29 := match l with
 | [] => ⟨gs op, eS, []⟩
 | [x] => x
 | l => ⟨op, eS, l⟩
noncomputable def putS (op : Int) (l : List T29) : T29 := match flat op l with
 | none => ⟨tk op, eS, []⟩
 | some f => mkq op (dist [] f)
theorem ends_ok (op : Int) : M.a3j op = some (gs op, tk op) := by
 rw [M.a3j]
 unfold gs tk
 split <;> rfl
theorem dist_len : ∀ (l acc : List T29), acc.length ≤ (dist acc l).length ∧ qns (dist acc l) ≤ qns acc + qns l
 | [], acc => by simp [dist]
 | x :: l, acc => by
  rw [dist]
  split
  ·have := dist_len l acc; rw [qns]; omega
  ·have := dist_len l (acc ++ [x]); rw [qns_append] at this; simp only [qns, List.length_append, List.length_singleton] at this ⊢; omega
theorem mem_dist {y : T29} : ∀ {l acc : List T29}, y ∈ dist acc l → y ∈ acc ∨ y ∈ l
 | [], acc, h => .inl h
 | x :: l, acc, h => by
  rw [dist] at h
  split at h
  ·rcases mem_dist h with h | h
   ·exact .inl h
   ·exact .inr (List.mem_cons_of_mem _ h)
  ·rcases mem_dist h with h | h
   ·rcases List.mem_append.1 h with h | h
    ·exact .inl h
    ·exact .inr (by rw [List.mem_singleton.1 h]; simp)
   ·exact .inr (List.mem_cons_of_mem _ h)
theorem flat_qns (op : Int) : ∀ (l f : List T29), flat op l = some f → qns f ≤ qns l
 | [], f, h => by cases h; exact Nat.le_refl _
 | q :: l, f, h => by
  have hq := qn_eq q
  rw [flat] at h
  rw [qns]
  split at h
  ·obtain ⟨f', h1, rfl⟩ := Option.map_eq_some_iff.1 h
   have := flat_qns op l f' h1
   rw [qns_append]; omega
  ·split at h
   ·cases h
   ·split at h
    ·have := flat_qns op l f h; omega
    ·obtain ⟨f', h1, rfl⟩ := Option.map_eq_some_iff.1 h
     have := flat_qns op l f' h1
     rw [qns]; omega
theorem mkq_end (op : Int) (ys : List T29) (hy : ys.length ≤ 1000000000) : (if (ys.length : Int) = 0 then some (⟨gs op, (⟨#[]⟩ : ByteArray), ([] : List T29)⟩ : T29) else if (ys.length : Int) = 1 then if 0 < (ys.length : Int) then some (gi ys 0) else none else some (⟨op, (⟨#[]⟩ : ByteArray), ys⟩ : T29)) = some (mkq op ys) := by
 match ys with
 | [] => rfl
 | [x] => rfl
 | x :: y :: l =>
  have h2 : ((x :: y :: l).length : Int) = (l.length : Int) + 2 := by simp; omega
  rw [if_neg (by omega), if_neg (by omega)]
  rfl
theorem put_ok (op : Int) (l : List T29) (hq : qns l ≤ 100000000) : M.ai op l = some (putS op l) := by
 have hll := qns_len l
 rw [M.ai, ends_ok, bnd]; try dsimp only
 have loop : ∀ (R pre acc : List T29), l = pre ++ R → qns acc ≤ qns pre → M.ah (op, (⟨0, (⟨#[]⟩ : ByteArray), ([] : List T29)⟩ : T29), gs op, tk op, acc, l, (l.length : Int), (pre.length : Int)) = some (match flat op R with
   | none => ⟨tk op, eS, []⟩
   | some f => mkq op (dist [] (acc ++ f))) := by
  intro R
  induction R with
  | nil =>
   intro pre acc e ha
   have hp : pre = l := by rw [e]; simp
   have hqa : qns acc ≤ 100000000 := by rw [hp] at ha; omega
   have hdl := dist_len acc []
   have hdq := qns_len (dist [] acc)
   rw [M.ah]; try dsimp only
   rw [if_neg (by rw [e]; simp), dist_ok acc hqa, bnd, mkq_end op (dist [] acc) (by simp only [qns] at hdl; omega)]
   simp [flat]
  | cons x R ih =>
   intro pre acc e ha
   have hlen : l.length = pre.length + (R.length + 1) := by rw [e]; simp
   have hsum : qns l = qns pre + (qn x + qns R) := by rw [e, qns_append, qns]
   have hal := qns_len acc
   have hxe := qn_eq x
   have hxl := qns_len x.L
   have l1 : ∀ w, M.a19 (op, (⟨0, (⟨#[]⟩ : ByteArray), ([] : List T29)⟩ : T29), gs op, tk op, w, l, (l.length : Int), (pre.length : Int)) = M.ah (op, (⟨0, (⟨#[]⟩ : ByteArray), ([] : List T29)⟩ : T29), gs op, tk op, w, l, (l.length : Int), (((pre ++ [x]).length : Nat) : Int)) := by
    intro w
    rw [M.a19]; try dsimp only
    rw [wr_i64 (by omega) (by omega), show (((pre ++ [x]).length : Nat) : Int) = (pre.length : Int) + 1 by simp]
   have ep : l = (pre ++ [x]) ++ R := by rw [e]; simp
   rw [M.ah]; try dsimp only
   rw [if_pos (by omega), if_pos (by omega), if_pos (by omega), show gi l (pre.length : Int) = x by rw [e]; exact gi_mid pre x R, flat]
   by_cases h1 : x.Op = op
   ·rw [if_pos h1, if_pos h1, if_pos (by simp; omega), l1, ih (pre ++ [x]) (acc ++ x.L) ep (by rw [qns_append, qns_append]; simp only [qns]; omega)]
    cases flat op R with
    | none => rfl
    | some f => simp
   ·rw [if_neg h1, if_neg h1]
    by_cases h2 : x.Op = tk op
    ·rw [if_pos h2, if_pos h2]; rfl
    ·rw [if_neg h2, if_neg h2]
     by_cases h3 : x.Op = gs op
     ·rw [if_pos h3, if_pos h3, l1, ih (pre ++ [x]) acc ep (by rw [qns_append]; omega)]
     ·rw [if_neg h3, if_neg h3, if_pos (by simp; omega), l1, ih (pre ++ [x]) (acc ++ [x]) ep (by rw [qns_append, qns_append]; simp only [qns]; omega)]
      cases flat op R with
      | none => rfl
      | some f => simp
 have := loop l [] [] rfl (Nat.le_refl _)
 rw [show ((([] : List T29).length : Nat) : Int) = 0 from rfl] at this
 rw [this]
 unfold putS
 cases flat op l with
 | none => rfl
 | some f => rfl
mutual
def Wq : T29 → Prop
 | ⟨_, _, L⟩ => Wqs L
def Wqs : List T29 → Prop
 | [] => True
 | x :: xs => ((x.Op ≠ 0 ∧ x.Op ≠ 1) ∧ Wq x) ∧ Wqs xs
end
theorem Wq_eq (q : T29) : Wq q ↔ Wqs q.L := by cases q; rw [Wq]
theorem Wqs_iff : ∀ {L : List T29}, Wqs L ↔ ∀ x ∈ L, (x.Op ≠ 0 ∧ x.Op ≠ 1) ∧ Wq x
 | [] => by simp [Wqs]
 | x :: xs => by rw [Wqs, Wqs_iff (L := xs)]; simp
theorem gstk (op : Int) (x : Int) : (x ≠ 0 ∧ x ≠ 1) ↔ (x ≠ gs op ∧ x ≠ tk op) := by unfold gs tk; split <;> constructor <;> rintro ⟨a, b⟩ <;> exact ⟨by omega, by omega⟩
theorem mem_flat (op : Int) : ∀ {l f : List T29} {y : T29}, flat op l = some f → y ∈ f → (∃ q ∈ l, q.Op = op ∧ y ∈ q.L) ∨ (y ∈ l ∧ y.Op ≠ gs op ∧ y.Op ≠ tk op)
 | [], f, y, h, hy => by cases h; simp at hy
 | q :: l, f, y, h, hy => by
  have up : ∀ {f'}, flat op l = some f' → y ∈ f' → (∃ q' ∈ q :: l, q'.Op = op ∧ y ∈ q'.L) ∨ (y ∈ q :: l ∧ y.Op ≠ gs op ∧ y.Op ≠ tk op) := fun h1 h2 => by
   rcases mem_flat op h1 h2 with ⟨z, hz, h3⟩ | ⟨h3, h4⟩
   ·exact .inl ⟨z, List.mem_cons_of_mem _ hz, h3⟩
   ·exact .inr ⟨List.mem_cons_of_mem _ h3, h4⟩
  rw [flat] at h
  split at h
  ·rename_i ho
   obtain ⟨f', h1, rfl⟩ := Option.map_eq_some_iff.1 h
   rcases List.mem_append.1 hy with hy | hy
   ·exact .inl ⟨q, by simp, ho, hy⟩
   ·exact up h1 hy
  ·split at h
   ·cases h
   ·rename_i hnt
    split at h
    ·exact up h hy
    ·rename_i hng
     obtain ⟨f', h1, rfl⟩ := Option.map_eq_some_iff.1 h
     rcases List.mem_cons.1 hy with rfl | hy
     ·exact .inr ⟨by simp, hng, hnt⟩
     ·exact up h1 hy
theorem mkq_mem {op : Int} {ys : List T29} : (mkq op ys).L = [] ∧ (mkq op ys).Text = eS ∧ ys = [] ∨ (∃ x, ys = [x] ∧ mkq op ys = x) ∨ (mkq op ys = ⟨op, eS, ys⟩) := by
 match ys with
 | [] => exact .inl ⟨rfl, rfl, rfl⟩
 | [x] => exact .inr (.inl ⟨x, rfl, rfl⟩)
 | x :: y :: l => exact .inr (.inr rfl)
theorem put_W (op : Int) (l : List T29) (hl : ∀ q ∈ l, Wq q) : Wq (putS op l) ∧ qn (putS op l) ≤ 1 + qns l := by
 unfold putS
 cases hf : flat op l with
 | none => exact ⟨by simp [Wq, Wqs], by simp [qn, qns]⟩
 | some f =>
  have hq := flat_qns op l f hf
  have hd := dist_len f []
  have el : ∀ y ∈ dist [] f, (y.Op ≠ 0 ∧ y.Op ≠ 1) ∧ Wq y := fun y hy => by
   rcases mem_dist hy with h | h
   ·simp at h
   ·rcases mem_flat op hf h with ⟨q, hq, _, hyq⟩ | ⟨hy, h⟩
    ·have := (Wq_eq q).1 (hl q hq)
     exact Wqs_iff.1 this y hyq
    ·exact ⟨(gstk op _).2 h, hl y hy⟩
  have hqd : qns (dist [] f) ≤ qns l := by have := hd.2; simp only [qns] at this; omega
  show Wq (mkq op (dist [] f)) ∧ qn (mkq op (dist [] f)) ≤ 1 + qns l
  rcases mkq_mem (op := op) (ys := dist [] f) with ⟨h1, h2, h3⟩ | ⟨x, h1, h2⟩ | h1
  ·exact ⟨by rw [Wq_eq, h1]; trivial, by rw [qn_eq, h1]; simp [qns]⟩
  ·rw [h2]
   have hx : x ∈ dist [] f := by rw [h1]; simp
   exact ⟨(el x hx).2, by have := qn_mem hx; omega⟩
  ·rw [h1]
   exact ⟨by rw [Wq_eq]; exact Wqs_iff.2 el, by rw [qn_eq]; show 1 + qns (dist [] f) ≤ _; omega⟩
def qg (g : ByteArray) : T29 := ⟨2, g, []⟩
noncomputable def grS (s : ByteArray) : T29 := putS 3 ((nrm (wins s)).map qg)
noncomputable def quS (l : List ByteArray) : T29 := putS 4 (l.map grS)
theorem qg_W (g : ByteArray) : Wq (qg g) := by simp [qg, Wq, Wqs]
theorem qg_qns : ∀ l : List ByteArray, qns (l.map qg) = l.length
 | [] => rfl
 | g :: l => by rw [List.map_cons, qns, qg_qns l]; simp [qg, qn, qns]; omega
theorem grS_W (s : ByteArray) (hs : s.size ≤ 1000) : Wq (grS s) ∧ qn (grS s) ≤ 1000 := by
 have h := put_W 3 ((nrm (wins s)).map qg) fun q hq => by obtain ⟨g, _, rfl⟩ := List.mem_map.1 hq; exact qg_W g
 refine ⟨h.1, ?_⟩
 have h2 := h.2
 rw [qg_qns] at h2
 have := nrm_len (wins s)
 have hw := wins_len s
 unfold grS
 omega
theorem grS_qns : ∀ l : List ByteArray, (∀ s ∈ l, s.size ≤ 1000) → qns (l.map grS) ≤ 1000 * l.length
 | [], _ => by simp [qns]
 | s :: l, h => by
  have := grS_qns l fun x hx => h x (List.mem_cons_of_mem _ hx)
  have := (grS_W s (h s (by simp))).2
  rw [List.map_cons, qns, List.length_cons]; omega
theorem quS_W (l : List ByteArray) (h : TxS (some l)) : Wq (quS l) ∧ qn (quS l) ≤ 40000 := by
 have hs : ∀ s ∈ l, s.size ≤ 1000 := fun s hs => by have := h.2 s hs; omega
 have hp := put_W 4 (l.map grS) fun q hq => by obtain ⟨s, hs', rfl⟩ := List.mem_map.1 hq; exact (grS_W s (hs s hs')).1
 have := grS_qns l hs
 have := h.1
 exact ⟨hp.1, by have := hp.2; unfold quS; omega⟩
theorem query_ok (l : List ByteArray) (h : TxS (some l)) (b : Bool) : M.a1b ⟨l, b⟩ = some (quS l) := by
 have hll := h.1
 have hs : ∀ s ∈ l, s.size ≤ 1000 := fun s hs => by have := h.2 s hs; omega
 have loop : ∀ (R pre : List ByteArray), l = pre ++ R → M.ab ((⟨0, (⟨#[]⟩ : ByteArray), ([] : List T29)⟩ : T29), pre.map grS, l, (l.length : Int), (pre.length : Int)) = some (quS l) := by
  intro R
  induction R with
  | nil =>
   intro pre e
   have hp : pre = l := by rw [e]; simp
   have hq := grS_qns l hs
   rw [M.ab]; try dsimp only
   rw [if_neg (by rw [hp]; omega), hp, put_ok 4 (l.map grS) (by omega), bnd]
   rfl
  | cons s R ih =>
   intro pre e
   have hlen : l.length = pre.length + (R.length + 1) := by rw [e]; simp
   have hsz := hs s (by rw [e]; simp)
   have hG := nrm_len (wins s)
   have hw := wins_len s
   have fin : ∀ v : List T29, v = (nrm (wins s)).map qg → (M.ai 3 v >>= fun y84 => if (((pre.map grS) ++ [y84]).length : Int) ≤ 1099511627776 then M.ab ((⟨0, (⟨#[]⟩ : ByteArray), ([] : List T29)⟩ : T29), ((pre.map grS) ++ [y84]), l, (l.length : Int), wr .i64 ((pre.length : Int) + 1)) else none) = some (quS l) := by
    intro v hv
    rw [hv, put_ok 3 _ (by rw [qg_qns]; omega), bnd, if_pos (by simp; omega), wr_i64 (by omega) (by omega)]
    have := ih (pre ++ [s]) (by rw [e]; simp)
    rw [show (((pre ++ [s]).length : Nat) : Int) = (pre.length : Int) + 1 by simp, List.map_append] at this
    exact this
   have l2 : ∀ (Q qre : List ByteArray), nrm (wins s) = qre ++ Q → M.a1a ((⟨0, (⟨#[]⟩ : ByteArray), ([] : List T29)⟩ : T29), pre.map grS, qre.map qg, l, (l.length : Int), (pre.length : Int), nrm (wins s), ((nrm (wins s)).length : Int), (qre.length : Int)) = some (quS l) := by
    intro Q
    induction Q with
    | nil =>
     intro qre eq
     rw [M.a1a]; try dsimp only
     rw [if_neg (by rw [eq]; simp)]
     exact fin _ (by rw [eq, List.append_nil])
    | cons g Q ihq =>
     intro qre eq
     have hl : (nrm (wins s)).length = qre.length + (Q.length + 1) := by rw [eq]; simp
     rw [M.a1a]; try dsimp only
     rw [if_pos (by omega), if_pos (by omega), if_pos (by omega), show gi (nrm (wins s)) (qre.length : Int) = g by rw [eq]; exact gi_mid qre g Q, bnd, if_pos (by simp; omega), wr_i64 (x := (qre.length : Int) + 1) (by omega) (by omega)]
     have := ihq (qre ++ [g]) (by rw [eq]; simp)
     rw [show (((qre ++ [g]).length : Nat) : Int) = (qre.length : Int) + 1 by simp, List.map_append] at this
     exact this
   rw [M.ab]; try dsimp only
   rw [if_pos (by omega), if_pos (by omega), if_pos (by omega), show gi l (pre.length : Int) = s by rw [e]; exact gi_mid pre s R, grams_ok s (by omega), bnd, M.a2u]; try dsimp only
   cases hn : nrm (wins s) with
   | nil =>
    rw [if_neg (by simp)]
    exact fin [] (by rw [hn]; rfl)
   | cons g G =>
    rw [if_pos (by simp), if_pos (by omega), if_pos (by simp), if_pos (by simp), wr_i64 (x := (0 : Int) + 1) (by omega) (by omega)]
    have := l2 G [g] (by rw [hn]; rfl)
    rw [hn] at this
    exact this
 rw [M.a1b]; try dsimp only
 exact loop l [] rfl
def runL (f : T26 → Option (List ByteArray)) (t : List ByteArray) : List T26 → List ByteArray × List T26
 | [] => (t, [])
 | x :: L => match behS (some t) (f x) with
  | none => (t, x :: L)
  | some u => runL f u L
theorem runL_len (f : T26 → Option (List ByteArray)) : ∀ (L : List T26) (t : List ByteArray), ∃ pre, L = pre ++ (runL f t L).2
 | [], t => ⟨[], rfl⟩
 | x :: L, t => by
  rw [runL]
  split
  ·exact ⟨[], rfl⟩
  ·obtain ⟨pre, h⟩ := runL_len f L _
   refine ⟨x :: pre, ?_⟩
   conv => lhs; rw [h]
   rfl
theorem runL_txs (f : T26 → Option (List ByteArray)) : ∀ (L : List T26) (t : List ByteArray), TxS (some t) → TxS (some (runL f t L).1)
 | [], t, h => h
 | x :: L, t, h => by
  rw [runL]
  split
  ·exact h
  ·rename_i u hu
   have := behS_txs (some t) (f x)
   rw [hu] at this
   exact runL_txs f L u this
noncomputable def eachL (f : T26 → Option (List ByteArray)) (g : T26 → T29) : Nat → List T26 → List T29
 | 0, _ => []
 | _ + 1, [] => []
 | n + 1, x :: L => match f x with
  | none => g x :: eachL f g n L
  | some t => quS (runL f t L).1 :: eachL f g n (runL f t L).2
def Q0 : T29 := ⟨0, eS, []⟩
noncomputable def fromS : Nat → T26 → T29
 | 0, _ => Q0
 | d + 1, r => match tellS (d + 1) r with
  | some l => quS l
  | none => if r.Kind = 2 then putS 3 (eachL (tellS d) (fromS d) r.L.length r.L) else if r.Kind = 3 then putS 4 (r.L.map (fromS d)) else if r.Kind = 4 then (if r.Min > 0 then fromS d (gi r.L 0) else Q0) else Q0
theorem Q0_W : Wq Q0 ∧ qn Q0 = 1 := ⟨by simp [Q0, Wq, Wqs], by simp [Q0, qn, qns]⟩
theorem nds_app : ∀ a b : List T26, nds (a ++ b) = nds a + nds b
 | [], b => by simp [nds]
 | x :: a, b => by rw [List.cons_append, nds, nds, nds_app a b]; omega
theorem each_W (f : T26 → Option (List ByteArray)) (hf : ∀ x, TxS (f x)) (g : T26 → T29) : ∀ (n : Nat) (L : List T26), (∀ x ∈ L, Wq (g x) ∧ qn (g x) ≤ 50000 * nd x) → (∀ q ∈ eachL f g n L, Wq q) ∧ qns (eachL f g n L) ≤ 50000 * nds L
 | 0, L, _ => by simp [eachL, qns]
 | n + 1, [], _ => by simp [eachL, qns]
 | n + 1, x :: L, h => by
  have hx := hf x
  have hp := nd_pos x
  rw [eachL]
  cases hfx : f x with
  | none =>
   have ih := each_W f hf g n L fun y hy => h y (List.mem_cons_of_mem _ hy)
   have h1 := h x (by simp)
   refine ⟨fun q hq => ?_, ?_⟩
   ·rcases List.mem_cons.1 hq with rfl | hq
    ·exact h1.1
    ·exact ih.1 q hq
   ·show qns (g x :: eachL f g n L) ≤ _
    rw [qns, nds]; omega
  | some t =>
   rw [hfx] at hx
   obtain ⟨pre, hpre⟩ := runL_len f L t
   have ih := each_W f hf g n (runL f t L).2 fun y hy => h y (by rw [hpre]; simp [hy])
   have h1 := quS_W _ (runL_txs f L t hx)
   have hn : nds L = nds pre + nds (runL f t L).2 := by conv => lhs; rw [hpre, nds_app]
   refine ⟨fun q hq => ?_, ?_⟩
   ·rcases List.mem_cons.1 hq with rfl | hq
    ·exact h1.1
    ·exact ih.1 q hq
   ·show qns (quS (runL f t L).1 :: eachL f g n (runL f t L).2) ≤ _
    rw [qns, nds]; omega
theorem map_W (g : T26 → T29) : ∀ L : List T26, (∀ x ∈ L, Wq (g x) ∧ qn (g x) ≤ 50000 * nd x) → (∀ q ∈ L.map g, Wq q) ∧ qns (L.map g) ≤ 50000 * nds L
 | [], _ => by simp [qns]
 | x :: L, h => by
  have ih := map_W g L fun y hy => h y (List.mem_cons_of_mem _ hy)
  have h1 := h x (by simp)
  refine ⟨fun q hq => ?_, ?_⟩
  ·rw [List.map_cons] at hq
   rcases List.mem_cons.1 hq with rfl | hq
   ·exact h1.1
   ·exact ih.1 q hq
  ·rw [List.map_cons, qns, nds]; omega
theorem from_W : ∀ (d : Nat) (r : T26), r.L.length ≤ 0 ∨ True → Wq (fromS d r) ∧ qn (fromS d r) ≤ 50000 * nd r
 | 0, r, _ => by have := nd_pos r; exact ⟨Q0_W.1, by rw [fromS, Q0_W.2]; omega⟩
 | d + 1, r, _ => by
  have hp := nd_pos r
  have hq0 : Wq Q0 ∧ qn Q0 ≤ 50000 * nd r := ⟨Q0_W.1, by rw [Q0_W.2]; omega⟩
  have sub : ∀ x ∈ r.L, Wq (fromS d x) ∧ qn (fromS d x) ≤ 50000 * nd x := fun x _ => from_W d x (.inr trivial)
  rw [fromS]
  cases ht : tellS (d + 1) r with
  | some l =>
   have hx := tellS_txs (d + 1) r
   rw [ht] at hx
   have := quS_W l hx
   exact ⟨this.1, by show qn (quS l) ≤ _; omega⟩
  | none =>
   show Wq (if r.Kind = 2 then _ else _) ∧ qn (if r.Kind = 2 then _ else _) ≤ _
   have hnd := nd_eq r
   by_cases h2 : r.Kind = 2
   ·rw [if_pos h2]
    have he := each_W (tellS d) (tellS_txs d) (fromS d) r.L.length r.L sub
    have := put_W 3 _ he.1
    exact ⟨this.1, by omega⟩
   ·rw [if_neg h2]
    by_cases h3 : r.Kind = 3
    ·rw [if_pos h3]
     have he := map_W (fromS d) r.L sub
     have := put_W 4 _ he.1
     exact ⟨this.1, by omega⟩
    ·rw [if_neg h3]
     by_cases h4 : r.Kind = 4 ∧ r.Min > 0
     ·rw [if_pos h4.1, if_pos h4.2]
      cases hL : r.L with
      | nil =>
       have := from_W d (gi ([] : List T26) 0) (.inr trivial)
       have e : nd (gi ([] : List T26) 0) = 1 := by decide
       rw [e] at this
       exact ⟨this.1, by omega⟩
      | cons x L =>
       have := from_W d x (.inr trivial)
       rw [hnd, hL, nds]
       exact ⟨this.1, by show qn (fromS d x) ≤ _; omega⟩
     ·by_cases h5 : r.Kind = 4
      ·rw [if_pos h5, if_neg fun h => h4 ⟨h5, h⟩]; exact hq0
      ·rw [if_neg h5]; exact hq0
theorem run_ok (f : T26 → Option (List ByteArray)) (hf : ∀ x, TxS (f x)) (L : List T26) (hL : L.length ≤ 4096) (h : ∀ x ∈ L, M.a3 x = some (tO (f x))) (x : T26) (L' : List T26) (e : L = x :: L') :
  M.a1r L = some (match f x with | none => (tO none, 1) | some t => (tO (some (runL f t L').1), ((L.length - (runL f t L').2.length : Nat) : Int))) := by
 have loop : ∀ (R pre : List T26) (t : List ByteArray), L = pre ++ R → TxS (some t) → M.aj (L, (⟨[], false⟩ : T218), ⟨t, true⟩, (pre.length : Int)) = some (tO (some (runL f t R).1), ((L.length - (runL f t R).2.length : Nat) : Int)) := by
  intro R
  induction R with
  | nil =>
   intro pre t el ht
   rw [M.aj]; try dsimp only
   rw [if_pos rfl, decide_eq_false (by rw [el]; simp), M.a1c]; try dsimp only
   rw [if_neg (by decide)]
   simp [runL, tO, el]
  | cons y R ih =>
   intro pre t el ht
   have hlen : L.length = pre.length + (R.length + 1) := by rw [el]; simp
   have hb := behS_txs (some t) (f y)
   rw [M.aj]; try dsimp only
   rw [if_pos rfl, decide_eq_true (by omega), M.a1c]; try dsimp only
   rw [if_pos rfl, if_pos (by omega), if_pos (by omega), show gi L (pre.length : Int) = y by rw [el]; exact gi_mid pre y R, eta27, h y (by rw [el]; simp), bnd, show (⟨t, true⟩ : T218) = tO (some t) from rfl, behind_ok _ _ ht.ok (hf y).ok, bnd, M.a2v]; try dsimp only
   rw [runL]
   cases hbe : behS (some t) (f y) with
   | none =>
    rw [if_neg (by simp [tO])]
    show some (tO (some t), (pre.length : Int)) = some (tO (some t), ((L.length - (y :: R).length : Nat) : Int))
    rw [show L.length - (y :: R).length = pre.length by simp; omega]
   | some u =>
    rw [hbe] at hb
    rw [if_pos (show (tO (some u)).known = true from rfl), wr_i64 (by omega) (by omega)]
    have := ih (pre ++ [y]) u (by rw [el]; simp) hb
    rw [show (((pre ++ [y]).length : Nat) : Int) = (pre.length : Int) + 1 by simp] at this
    exact this
 have hx : x ∈ L := by rw [e]; simp
 have hg : gi L 0 = x := by rw [e]; rfl
 have htx := hf x
 rw [M.a1r, if_pos (by rw [e]; simp), hg, eta27, h x hx, bnd]
 cases hfx : f x with
 | none =>
  rw [M.aj]; try dsimp only
  rw [if_neg (by simp [tO]), M.a1c]; try dsimp only
  rw [if_neg (by decide)]
  rfl
 | some t =>
  rw [hfx] at htx
  exact loop L' [x] t (by rw [e]; rfl) htx
theorem each_ok (f : T26 → Option (List ByteArray)) (hf : ∀ x, TxS (f x)) (g : T26 → T29) (N : Nat) (hN : N ≤ 1900) : ∀ (n : Nat) (L : List T26) (acc : List T29), L.length ≤ n → (∀ x ∈ L, M.a3 x = some (tO (f x))) → (∀ x ∈ L, M.a7 x = some (g x)) → (∀ x ∈ L, Wq (g x) ∧ qn (g x) ≤ 50000 * nd x) → qns acc + 50000 * nds L ≤ 50000 * N →
  M.ar (L, (⟨0, (⟨#[]⟩ : ByteArray), ([] : List T29)⟩ : T29), acc) = some (putS 3 (acc ++ eachL f g n L)) := by
 intro n
 induction n with
 | zero =>
  intro L acc hn h1 h2 h3 hq
  have : L = [] := List.eq_nil_of_length_eq_zero (by omega)
  subst this
  rw [M.ar]; try dsimp only
  rw [if_neg (by simp), put_ok 3 acc (by omega), bnd]
  simp [eachL]
 | succ n ih =>
  intro L acc hn h1 h2 h3 hq
  cases L with
  | nil =>
   rw [M.ar]; try dsimp only
   rw [if_neg (by simp), put_ok 3 acc (by omega), bnd]
   simp [eachL]
  | cons x L =>
   have hx : x ∈ x :: L := by simp
   have hp := nd_pos x
   have hnl := nds_len L
   have hnds : nds (x :: L) = nd x + nds L := by rw [nds]
   have hal := qns_len acc
   have hL1 : (x :: L).length ≤ 1900 := by simp; omega
   have hlen : ((x :: L).length : Int) = (L.length : Int) + 1 := by simp
   rw [M.ar]; try dsimp only
   have hrun := run_ok f hf (x :: L) (by omega) h1 x L rfl
   rw [if_pos (by omega), eachL]
   have htx := hf x
   cases hfx : f x with
   | none =>
    rw [hfx] at hrun
    replace hrun : M.a1r (x :: L) = some (tO none, 1) := hrun
    rw [hrun, bnd]
    show (if (tO none).known = true then _ else _) = _
    rw [if_neg (by simp [tO]), if_pos (by omega), show gi (x :: L) 0 = x from rfl, eta27, h2 x hx, bnd, if_pos (by simp; omega), M.a1s]; try dsimp only
    rw [if_pos (by omega), if_pos (by omega)]
    have es : sl (x :: L) 1 ((x :: L).length : Int) = L := by simp [sl]
    rw [es, ih L (acc ++ [g x]) (by simp at hn; omega) (fun y hy => h1 y (List.mem_cons_of_mem _ hy)) (fun y hy => h2 y (List.mem_cons_of_mem _ hy)) (fun y hy => h3 y (List.mem_cons_of_mem _ hy)) (by rw [qns_append]; simp only [qns]; have := (h3 x hx).2; omega)]
    simp
   | some t =>
    rw [hfx] at htx
    obtain ⟨pre, hpre⟩ := runL_len f L t
    have htr := runL_txs f L t htx
    have hrl : L.length = pre.length + (runL f t L).2.length := by
     conv => lhs; rw [hpre]
     simp
    have hrn : nds L = nds pre + nds (runL f t L).2 := by conv => lhs; rw [hpre, nds_app]
    have hsub : ∀ y ∈ (runL f t L).2, y ∈ x :: L := fun y hy => List.mem_cons_of_mem _ (by rw [hpre]; simp [hy])
    have hsz : (x :: L).length - (runL f t L).2.length = pre.length + 1 := by simp; omega
    rw [hfx] at hrun
    replace hrun : M.a1r (x :: L) = some (tO (some (runL f t L).1), (((x :: L).length - (runL f t L).2.length : Nat) : Int)) := hrun
    rw [hsz] at hrun
    rw [hrun, bnd]
    show (if (tO (some (runL f t L).1)).known = true then _ else _) = _
    rw [if_pos (show (tO (some (runL f t L).1)).known = true from rfl)]
    show (M.a1b ⟨(runL f t L).1, true⟩ >>= _) = _
    rw [query_ok _ htr, bnd, if_pos (by simp; omega), M.a1s]; try dsimp only
    rw [if_pos (by omega), if_pos (by simp; omega)]
    have es : sl (x :: L) ((pre.length + 1 : Nat) : Int) ((x :: L).length : Int) = (runL f t L).2 := by
     simp only [sl, Int.toNat_natCast, List.take_length, List.drop_succ_cons]
     conv => lhs; rw [hpre]
     simp
    have hqw := quS_W _ htr
    rw [es, ih (runL f t L).2 (acc ++ [quS (runL f t L).1]) (by simp at hn; omega) (fun y hy => h1 y (hsub y hy)) (fun y hy => h2 y (hsub y hy)) (fun y hy => h3 y (hsub y hy)) (by rw [qns_append]; simp only [qns]; omega)]
    simp
theorem from_ok (d : Nat) : ∀ r : T26, Rt d r → nd r ≤ 1900 → M.a7 r = some (fromS d r) := by
 induction d with
 | zero => intro r h; exact absurd h id
 | succ d ih =>
  intro r hr hn
  have ht := tell_ok (d + 1) r hr (by omega)
  have hnd := nd_eq r
  have hll := nds_len r.L
  have s1 : ∀ x ∈ r.L, M.a3 x = some (tO (tellS d x)) := fun x hx => tell_ok d x (hr.2.2 x hx) (by have := nd_mem hx; omega)
  have s2 : ∀ x ∈ r.L, M.a7 x = some (fromS d x) := fun x hx => ih x (hr.2.2 x hx) (by have := nd_mem hx; omega)
  have s3 : ∀ x ∈ r.L, Wq (fromS d x) ∧ qn (fromS d x) ≤ 50000 * nd x := fun x _ => from_W d x (.inr trivial)
  have htx := tellS_txs (d + 1) r
  rw [M.a7]; try dsimp only
  rw [ht, bnd, fromS]
  cases htl : tellS (d + 1) r with
  | some l =>
   rw [htl] at htx
   rw [if_pos (show (tO (some l)).known = true from rfl)]
   show (M.a1b ⟨l, true⟩ >>= _) = _
   rw [query_ok l htx, bnd]
  | none =>
   rw [if_neg (by simp [tO])]
   show _ = some (if r.Kind = 2 then _ else _)
   by_cases h2 : r.Kind = 2
   ·rw [if_pos h2, if_pos h2, M.a2w]; try dsimp only
    rw [each_ok (tellS d) (tellS_txs d) (fromS d) 1900 (by omega) r.L.length r.L [] (Nat.le_refl _) s1 s2 s3 (by simp only [qns]; omega), bnd, List.nil_append]
   rw [if_neg h2, if_neg h2]
   by_cases h3 : r.Kind = 3
   ·rw [if_pos h3, if_pos h3]
    have loop : ∀ (R pre : List T26), r.L = pre ++ R → M.a1d ((⟨0, (⟨#[]⟩ : ByteArray), ([] : List T29)⟩ : T29), pre.map (fromS d), r.L, (r.L.length : Int), (pre.length : Int)) = some (putS 4 (r.L.map (fromS d))) := by
     intro R
     induction R with
     | nil =>
      intro pre e
      have hm := map_W (fromS d) r.L s3
      rw [M.a1d]; try dsimp only
      rw [if_neg (by rw [e]; simp), show pre = r.L by rw [e]; simp, put_ok 4 _ (by omega), bnd]
     | cons x R ihR =>
      intro pre e
      have hlen : r.L.length = pre.length + (R.length + 1) := by rw [e]; simp
      rw [M.a1d]; try dsimp only
      rw [if_pos (by omega), if_pos (by omega), if_pos (by omega), show gi r.L (pre.length : Int) = x by rw [e]; exact gi_mid pre x R, eta27, s2 x (by rw [e]; simp), bnd, if_pos (by simp; omega), wr_i64 (by omega) (by omega)]
      have := ihR (pre ++ [x]) (by rw [e]; simp)
      rw [show (((pre ++ [x]).length : Nat) : Int) = (pre.length : Int) + 1 by simp, List.map_append] at this
      exact this
    exact loop r.L [] rfl
   rw [if_neg h3, if_neg h3]
   by_cases h4 : r.Kind = 4
   ·rw [if_pos h4, if_pos h4]
    by_cases h5 : r.Min > 0
    ·rcases hr.1 with ⟨h, _⟩ | ⟨h | h, _⟩ | ⟨_, ⟨x, hL⟩, _⟩
     ·omega
     ·omega
     ·omega
     rw [if_pos h5, if_pos h5, if_pos (by rw [hL]; simp), show gi r.L 0 = x by rw [hL]; rfl, eta27, s2 x (by rw [hL]; simp), bnd]
    ·rw [if_neg h5, if_neg h5]; rfl
   ·rw [if_neg h4, if_neg h4]; rfl
def QD : Nat → T29 → Prop
 | 0, _ => False
 | d + 1, q => ∀ x ∈ q.L, QD d x
theorem QD.mono : ∀ {d e : Nat} {q : T29}, QD d q → d ≤ e → QD e q
 | 0, _, _, h, _ => absurd h id
 | d + 1, 0, _, _, he => by omega
 | d + 1, e + 1, q, h, he => fun x hx => (h x hx).mono (by omega)
mutual
def Rq : T29 → Prop
 | ⟨o, t, L⟩ => ((o = 0 ∨ o = 1) ∧ t = eS ∧ L = []) ∨ (o = 2 ∧ t.size = 3 ∧ L = []) ∨ ((o = 3 ∨ o = 4) ∧ t = eS ∧ Rqs L)
def Rqs : List T29 → Prop
 | [] => True
 | x :: xs => Rq x ∧ Rqs xs
end
theorem Rqs_iff : ∀ {L : List T29}, Rqs L ↔ ∀ x ∈ L, Rq x
 | [] => by simp [Rqs]
 | x :: xs => by rw [Rqs, Rqs_iff (L := xs)]; simp
theorem Rq_eq (q : T29) : Rq q ↔ ((q.Op = 0 ∨ q.Op = 1) ∧ q.Text = eS ∧ q.L = []) ∨ (q.Op = 2 ∧ q.Text.size = 3 ∧ q.L = []) ∨ ((q.Op = 3 ∨ q.Op = 4) ∧ q.Text = eS ∧ ∀ x ∈ q.L, Rq x) := by
 cases q
 rw [Rq, Rqs_iff]
theorem qcount_ok (left : Nat) : left ≤ 100 → ∀ (q : T29) (n : Nat), n + qn q ≤ 4000 → ∃ n' : Nat, M.as (q, (left : Int), (n : Int)) = some (decide (QD left q), (n' : Int)) ∧ n' ≤ n + qn q := by
 induction left with
 | zero =>
  intro hl q n hn
  have hp := qn_pos q
  rw [M.as]; try dsimp only
  rw [if_pos (by rfl), M.a1t]; try dsimp only
  rw [if_pos rfl, wr_i64 (by omega) (by omega)]
  exact ⟨n + 1, by rw [decide_eq_false (fun h : QD 0 q => h)]; rfl, by omega⟩
 | succ left ih =>
  intro hl q n hn
  have hq := qn_eq q
  have hll := qns_len q.L
  have loop : ∀ (R pre : List T29) (m : Nat), q.L = pre ++ R → m + qns R ≤ 4000 → ∃ n' : Nat, M.a1e (((left + 1 : Nat) : Int), q.L, (q.L.length : Int), (pre.length : Int), (m : Int)) = some (decide (∀ x ∈ R, QD left x), (n' : Int)) ∧ n' ≤ m + qns R := by
   intro R
   induction R with
   | nil =>
    intro pre m e hm
    rw [M.a1e]; try dsimp only
    rw [if_neg (by rw [e]; simp)]
    exact ⟨m, by rw [decide_eq_true (by simp)], by omega⟩
   | cons x R ihR =>
    intro pre m e hm
    have hlen : q.L.length = pre.length + (R.length + 1) := by rw [e]; simp
    rw [qns] at hm
    obtain ⟨n1, k1, k2⟩ := ih (by omega) x m (by omega)
    rw [M.a1e]; try dsimp only
    rw [if_pos (by omega), if_pos (by omega), if_pos (by omega), show gi q.L (pre.length : Int) = x by rw [e]; exact gi_mid pre x R, wr_i64 (x := ((left + 1 : Nat) : Int) - 1) (by omega) (by omega), show ((left + 1 : Nat) : Int) - 1 = (left : Int) by omega, k1, bnd]; try dsimp only
    by_cases hx : QD left x
    ·rw [decide_eq_true hx, if_pos rfl, wr_i64 (x := (pre.length : Int) + 1) (by omega) (by omega)]
     obtain ⟨n2, g1, g2⟩ := ihR (pre ++ [x]) n1 (by rw [e]; simp) (by omega)
     rw [show (((pre ++ [x]).length : Nat) : Int) = (pre.length : Int) + 1 by simp] at g1
     refine ⟨n2, ?_, by rw [qns]; omega⟩
     rw [g1]
     congr 2
     rw [decide_eq_decide]
     simp [hx]
    ·rw [decide_eq_false hx, if_neg (by decide)]
     exact ⟨n1, by rw [decide_eq_false (fun h => hx (h x (by simp)))], by rw [qns]; omega⟩
  rw [M.as]; try dsimp only
  rw [if_neg (by omega), wr_i64 (by omega) (by omega), decide_eq_false (by omega), M.a1t]; try dsimp only
  rw [if_neg (by decide)]
  obtain ⟨n', g1, g2⟩ := loop q.L [] (n + 1) rfl (by omega)
  rw [show ((([] : List T29).length : Nat) : Int) = 0 from rfl, show ((n + 1 : Nat) : Int) = (n : Int) + 1 by push_cast; rfl] at g1
  exact ⟨n', by rw [g1]; exact congrArg some (Prod.ext (decide_eq_decide.2 Iff.rfl) rfl), by omega⟩
theorem eq_eS (t : ByteArray) : ((t.toList == (⟨#[]⟩ : ByteArray).toList) = true) ↔ t = eS := by rw [eqS, decide_eq_true_eq]; rfl
theorem qright_ok (n : Nat) : ∀ q : T29, qn q ≤ n → qn q ≤ 4000 → M.a1f q = some (decide (Rq q)) := by
 induction n with
 | zero => intro q h; have := qn_pos q; omega
 | succ n ih =>
  intro q hn hq
  have hqe := qn_eq q
  have hll := qns_len q.L
  have hL0 : ((q.L.length : Int) = 0) ↔ q.L = [] := by
   constructor
   ·intro h; exact List.eq_nil_of_length_eq_zero (by omega)
   ·intro h; rw [h]; rfl
  have e01 : (if q.Op = 0 then M.at (q, q.Op, true) else M.at (q, q.Op, decide (q.Op = 1))) = M.at (q, q.Op, decide (q.Op = 0 ∨ q.Op = 1)) := by
   by_cases h : q.Op = 0
   ·rw [if_pos h]; simp [h]
   ·rw [if_neg h]; simp [h]
  rw [M.a1f]; try dsimp only
  rw [e01, M.at]; try dsimp only
  have hR := Rq_eq q
  by_cases h01 : q.Op = 0 ∨ q.Op = 1
  ·rw [decide_eq_true h01, if_pos rfl]
   by_cases ht : q.Text = eS
   ·rw [if_pos ((eq_eS _).2 ht)]
    congr 1
    rw [decide_eq_decide, hL0, hR]
    constructor
    ·intro h; exact .inl ⟨h01, ht, h⟩
    ·rintro (h | h | h)
     ·exact h.2.2
     ·omega
     ·omega
   ·rw [if_neg (fun h => ht ((eq_eS _).1 h)), decide_eq_false]
    rw [hR]
    rintro (h | h | h)
    ·exact ht h.2.1
    ·omega
    ·omega
  ·rw [decide_eq_false h01, if_neg (by decide)]
   by_cases h2 : q.Op = 2
   ·rw [if_pos h2]
    by_cases ht : (q.Text.size : Int) = 3
    ·rw [if_pos ht]
     congr 1
     rw [decide_eq_decide, hL0, hR]
     constructor
     ·intro h; exact .inr (.inl ⟨h2, by omega, h⟩)
     ·rintro (h | h | h)
      ·omega
      ·exact h.2.2
      ·omega
    ·rw [if_neg ht, decide_eq_false]
     rw [hR]
     rintro (h | h | h)
     ·omega
     ·exact ht (by rw [h.2.1]; rfl)
     ·omega
   ·rw [if_neg h2]
    have e34 : (if q.Op = 3 then M.au (q, true) else M.au (q, decide (q.Op = 4))) = M.au (q, decide (q.Op = 3 ∨ q.Op = 4)) := by
     by_cases h : q.Op = 3
     ·rw [if_pos h]; simp [h]
     ·rw [if_neg h]; simp [h]
    rw [e34, M.au]; try dsimp only
    by_cases h34 : q.Op = 3 ∨ q.Op = 4
    ·rw [decide_eq_true h34, if_pos rfl]
     by_cases ht : q.Text = eS
     ·rw [if_pos ((eq_eS _).2 ht)]
      have loop : ∀ (R pre : List T29), q.L = pre ++ R → ∃ j : Int, M.a1g (q.L, (q.L.length : Int), (pre.length : Int)) = some j ∧ (0 ≤ j ↔ ¬ ∀ x ∈ R, Rq x) := by
       intro R
       induction R with
       | nil =>
        intro pre e
        rw [M.a1g]; try dsimp only
        rw [if_neg (by rw [e]; simp)]
        exact ⟨-1, rfl, by simp⟩
       | cons x R ihR =>
        intro pre e
        have hlen : q.L.length = pre.length + (R.length + 1) := by rw [e]; simp
        have hx : x ∈ q.L := by rw [e]; simp
        have hqx := qn_mem hx
        rw [M.a1g]; try dsimp only
        rw [if_pos (by omega), if_pos (by omega), if_pos (by omega), show gi q.L (pre.length : Int) = x by rw [e]; exact gi_mid pre x R, M.a2z, ih x (by omega) (by omega), bnd, bnd]
        by_cases hr : Rq x
        ·rw [decide_eq_true hr, if_neg (by decide), wr_i64 (by omega) (by omega)]
         obtain ⟨j, g1, g2⟩ := ihR (pre ++ [x]) (by rw [e]; simp)
         rw [show (((pre ++ [x]).length : Nat) : Int) = (pre.length : Int) + 1 by simp] at g1
         exact ⟨j, g1, by rw [g2]; simp [hr]⟩
        ·rw [decide_eq_false hr, if_pos (by decide)]
         exact ⟨_, rfl, by simp only [List.forall_mem_cons, hr, false_and, not_false_eq_true, iff_true]; omega⟩
      obtain ⟨j, g1, g2⟩ := loop q.L [] rfl
      rw [show ((([] : List T29).length : Nat) : Int) = 0 from rfl] at g1
      rw [M.a2x, M.a2y, g1, bnd, bnd]
      congr 1
      by_cases hall : ∀ x ∈ q.L, Rq x
      ·have hj : ¬ j ≥ 0 := fun h => (g2.1 h) hall
       rw [decide_eq_false hj, decide_eq_true (hR.2 (.inr (.inr ⟨h34, ht, hall⟩)))]
       rfl
      ·have hj : j ≥ 0 := g2.2 hall
       rw [decide_eq_true hj, decide_eq_false]
       ·rfl
       ·rw [hR]
        rintro (h | h | h)
        ·omega
        ·omega
        ·exact hall h.2.2
     ·rw [if_neg (fun h => ht ((eq_eS _).1 h)), decide_eq_false]
      rw [hR]
      rintro (h | h | h)
      ·omega
      ·omega
      ·exact ht h.2.1
    ·rw [decide_eq_false h34, if_neg (by decide), decide_eq_false]
     rw [hR]
     rintro (h | h | h)
     ·exact h01 h.1
     ·exact h2 h.1
     ·exact h34 h.1
theorem qcheck_ok (q : T29) (hq : qn q ≤ 3999) : M.a28 q = some (if QD 8 q ∧ Rq q then 0 else 2) := by
 obtain ⟨n', k1, k2⟩ := qcount_ok 8 (by omega) q 0 (by omega)
 rw [show ((8 : Nat) : Int) = 8 from rfl, show ((0 : Nat) : Int) = 0 from rfl] at k1
 rw [M.a28, k1, bnd]; try dsimp only
 by_cases hd : QD 8 q
 ·rw [decide_eq_true hd, if_pos rfl, qright_ok (qn q) q (Nat.le_refl _) (by omega), bnd]
  by_cases hr : Rq q
  ·rw [decide_eq_true hr, if_pos rfl, if_pos ⟨hd, hr⟩]
  ·rw [decide_eq_false hr, if_neg (by decide), if_neg fun h => hr h.2]
 ·rw [decide_eq_false hd, if_neg (by decide), if_neg fun h => hd h.1]
theorem sless_eq (x y : ByteArray) : M.a4d x y = some (decide (Tl x < Tl y)) := by
 rw [M.a4d, M.a4c, bnd, if_neg (by simp), lessS]
theorem halfS (lo hi : Nat) (h : lo < hi) (hb : hi ≤ 1073741824) : wr .i64 (ishr .u64 (wr .u64 (wr .i64 ((lo : Int) + (hi : Int)))) 1) = (((lo + hi) / 2 : Nat) : Int) := by
 have e1 : wr .i64 ((lo : Int) + (hi : Int)) = (lo : Int) + hi := wr_i64 (by omega) (by omega)
 have e2 : wr .u64 ((lo : Int) + (hi : Int)) = (lo : Int) + hi := by
  simp only [wr, IntKind.wrap, IntKind.signed, IntKind.bits]
  simp
  omega
 rw [e1, e2]
 have : ishr .u64 ((lo : Int) + (hi : Int)) 1 = (((lo + hi) / 2 : Nat) : Int) := by
  show Int.fdiv _ _ = _
  have e : (2 : Int) ^ (min (Int.toNat 1) IntKind.u64.bits) = 2 := by decide
  rw [e, Int.fdiv_eq_ediv_of_nonneg _ (by omega)]
  omega
 rw [this, wr_i64 (by omega) (by omega)]
theorem sltT {a b c : ByteArray} (h : Tl a < Tl b) (k : Tl b < Tl c) : Tl a < Tl c := List.lt_trans h k
theorem sltI (a : ByteArray) : ¬ Tl a < Tl a := List.lt_irrefl _
theorem ssearch_l0 (xs : List ByteArray) (x : ByteArray) (hr : RzS xs) (hl : xs.length ≤ 1073741824) (k : Nat) : ∀ lo hi : Nat, lo ≤ hi → hi ≤ xs.length → hi - lo ≤ k → (∀ i (h : i < xs.length), i < lo → Tl xs[i] < Tl x) → (∀ i (h : i < xs.length), hi ≤ i → ¬ Tl xs[i] < Tl x) →
  ∃ p, M.a2a (xs, x, (xs.length : Int), (lo : Int), (hi : Int)) = some (p, decide (x ∈ xs)) := by
 induction k with
 | zero =>
  intro lo hi h1 h2 h3 h4 h5
  have : hi = lo := by omega
  subst this
  rw [M.a2a]; try dsimp only
  rw [if_neg (by omega)]
  by_cases hlt : hi < xs.length
  ·rw [if_pos (by omega), if_pos (by omega), if_pos (by omega), gi_nat xs hi hlt]
   by_cases h : xs[hi] = x
   ·rw [if_pos (by rw [eqS, decide_eq_true h])]
    exact ⟨_, by rw [decide_eq_true (h ▸ List.getElem_mem hlt)]⟩
   ·rw [if_neg (by rw [eqS, decide_eq_false h]; decide)]
    refine ⟨(hi : Int), ?_⟩
    have hn : x ∉ xs := by
     intro hm
     obtain ⟨i, hi', e⟩ := List.getElem_of_mem hm
     subst e
     by_cases hc : i < hi
     ·exact sltI _ (h4 i hi' hc)
     ·have hne : hi ≠ i := by rintro rfl; exact h rfl
      exact h5 hi hlt (by omega) (List.pairwise_iff_getElem.1 hr hi i hlt hi' (by omega))
    rw [M.a4e, bnd, if_neg (by simp), decide_eq_false hn]
  ·rw [if_neg (by omega)]
   refine ⟨(hi : Int), ?_⟩
   have hn : x ∉ xs := by
    intro hm
    obtain ⟨i, hi', e⟩ := List.getElem_of_mem hm
    subst e
    exact sltI _ (h4 i hi' (by omega))
   rw [decide_eq_false hn]
 | succ k ih =>
  intro lo hi h1 h2 h3 h4 h5
  by_cases hlt : lo < hi
  ·have hm := halfS lo hi hlt (by omega)
   have hmid : (lo + hi) / 2 < xs.length := by omega
   rw [M.a2a]; try dsimp only
   rw [if_pos (by omega), hm, if_pos (by omega), if_pos (by omega), bnd, gi_nat xs _ hmid, sless_eq, bnd]
   by_cases h : Tl xs[(lo + hi) / 2] < Tl x
   ·rw [if_pos (decide_eq_true h), M.a3w]; try dsimp only
    rw [wr_i64 (by omega) (by omega), show (((lo + hi) / 2 : Nat) : Int) + 1 = (((lo + hi) / 2 + 1 : Nat) : Int) by omega]
    refine ih _ _ (by omega) h2 (by omega) (fun i hi' hc => ?_) h5
    by_cases e : i = (lo + hi) / 2
    ·subst e; exact h
    ·exact sltT (List.pairwise_iff_getElem.1 hr i ((lo + hi) / 2) hi' hmid (by omega)) h
   ·rw [if_neg (by rw [decide_eq_false h]; decide), M.a3w]; try dsimp only
    refine ih _ _ (by omega) (by omega) (by omega) h4 (fun i hi' hc => ?_)
    by_cases e : i = (lo + hi) / 2
    ·subst e; exact h
    ·exact fun h6 => h (sltT (List.pairwise_iff_getElem.1 hr ((lo + hi) / 2) i hmid hi' (by omega)) h6)
  ·exact ih lo hi h1 h2 (by omega) h4 h5
theorem ssearch (xs : List ByteArray) (x : ByteArray) (hr : RzS xs) (hl : xs.length ≤ 1073741824) : ∃ p, M.a4f xs x = some (p, decide (x ∈ xs)) := by
 rw [M.a4f]
 exact ssearch_l0 xs x hr hl xs.length 0 xs.length (by omega) (by omega) (by omega) (by intro i _ h; omega) (by intro i h h'; omega)
mutual
def FT (g : List ByteArray) : T29 → Prop
 | ⟨o, t, L⟩ => (o = 2 ∧ t ∈ g) ∨ (o = 3 ∧ FTall g L) ∨ (o = 4 ∧ FTany g L) ∨ o = 0
def FTall (g : List ByteArray) : List T29 → Prop
 | [] => True
 | x :: xs => FT g x ∧ FTall g xs
def FTany (g : List ByteArray) : List T29 → Prop
 | [] => False
 | x :: xs => FT g x ∨ FTany g xs
end
theorem FTall_iff {g : List ByteArray} : ∀ {L : List T29}, FTall g L ↔ ∀ x ∈ L, FT g x
 | [] => by simp [FTall]
 | x :: xs => by rw [FTall, FTall_iff (L := xs)]; simp
theorem FTany_iff {g : List ByteArray} : ∀ {L : List T29}, FTany g L ↔ ∃ x ∈ L, FT g x
 | [] => by simp [FTany]
 | x :: xs => by rw [FTany, FTany_iff (L := xs)]; simp
theorem FT_eq (g : List ByteArray) (q : T29) : FT g q ↔ (q.Op = 2 ∧ q.Text ∈ g) ∨ (q.Op = 3 ∧ ∀ x ∈ q.L, FT g x) ∨ (q.Op = 4 ∧ ∃ x ∈ q.L, FT g x) ∨ q.Op = 0 := by
 cases q
 rw [FT, FTall_iff, FTany_iff]
theorem fits_ok (g : List ByteArray) (hg : RzS g) (hl : g.length ≤ 1073741824) (n : Nat) : ∀ q : T29, qn q ≤ n → qn q ≤ 1000000 → M.a2b (q, g) = some (decide (FT g q)) := by
 induction n with
 | zero => intro q h; have := qn_pos q; omega
 | succ n ih =>
  intro q hn hb
  have hq := qn_eq q
  have hll := qns_len q.L
  have ch : ∀ x ∈ q.L, M.a2b (x, g) = some (decide (FT g x)) := fun x hx => by
   have := qn_mem hx
   exact ih x (by omega) (by omega)
  have all : ∀ (R pre : List T29), q.L = pre ++ R → (∀ x ∈ pre, FT g x) → ∃ j : Int, M.a2c (q.L, (q.L.length : Int), (pre.length : Int), g) = some j ∧ decide (j ≥ 0) = !decide (∀ x ∈ q.L, FT g x) := by
   intro R
   induction R with
   | nil =>
    intro pre e hp
    rw [List.append_nil] at e
    refine ⟨-1, ?_, ?_⟩
    ·rw [M.a2c]; try dsimp only
     rw [if_neg (by rw [e]; omega)]
    ·rw [decide_eq_true (e ▸ hp : ∀ x ∈ q.L, FT g x)]; rfl
   | cons x R ihR =>
    intro pre e hp
    have hlen : q.L.length = pre.length + (R.length + 1) := by rw [e]; simp
    have hx : x ∈ q.L := by rw [e]; simp
    rw [M.a2c]; try dsimp only
    rw [if_pos (by omega), if_pos (by omega), if_pos (by omega), show gi q.L (pre.length : Int) = x by rw [e]; exact gi_mid pre x R, M.a4v]; try dsimp only
    rw [M.a3x]; try dsimp only
    rw [ch x hx, bnd, bnd, bnd]
    by_cases hf : FT g x
    ·rw [decide_eq_true hf, if_neg (by decide), wr_i64 (by omega) (by omega), show (pre.length : Int) + 1 = (((pre ++ [x]).length : Nat) : Int) by simp]
     exact ihR (pre ++ [x]) (by rw [e]; simp) fun y hy => by
      rcases List.mem_append.1 hy with hy | hy
      ·exact hp y hy
      ·rw [List.mem_singleton.1 hy]; exact hf
    ·rw [decide_eq_false hf, if_pos (by decide)]
     refine ⟨_, rfl, ?_⟩
     rw [decide_eq_true (by omega), decide_eq_false (fun h => hf (h x hx))]; rfl
  have any : ∀ (R pre : List T29), q.L = pre ++ R → (∀ x ∈ pre, ¬ FT g x) → ∃ j : Int, M.a2d (q.L, (q.L.length : Int), (pre.length : Int), g) = some j ∧ decide (j ≥ 0) = decide (∃ x ∈ q.L, FT g x) := by
   intro R
   induction R with
   | nil =>
    intro pre e hp
    rw [List.append_nil] at e
    refine ⟨-1, ?_, ?_⟩
    ·rw [M.a2d]; try dsimp only
     rw [if_neg (by rw [e]; omega)]
    ·rw [decide_eq_false (show ¬ ∃ x ∈ q.L, FT g x from fun ⟨x, hx, h⟩ => hp x (e ▸ hx) h)]; rfl
   | cons x R ihR =>
    intro pre e hp
    have hlen : q.L.length = pre.length + (R.length + 1) := by rw [e]; simp
    have hx : x ∈ q.L := by rw [e]; simp
    rw [M.a2d]; try dsimp only
    rw [if_pos (by omega), if_pos (by omega), if_pos (by omega), show gi q.L (pre.length : Int) = x by rw [e]; exact gi_mid pre x R, M.a3x]; try dsimp only
    rw [ch x hx, bnd, bnd]
    by_cases hf : FT g x
    ·rw [decide_eq_true hf, if_pos rfl]
     refine ⟨_, rfl, ?_⟩
     rw [decide_eq_true (by omega), decide_eq_true ⟨x, hx, hf⟩]
    ·rw [decide_eq_false hf, if_neg (by decide), wr_i64 (by omega) (by omega), show (pre.length : Int) + 1 = (((pre ++ [x]).length : Nat) : Int) by simp]
     exact ihR (pre ++ [x]) (by rw [e]; simp) fun y hy => by
      rcases List.mem_append.1 hy with hy | hy
      ·exact hp y hy
      ·rw [List.mem_singleton.1 hy]; exact hf
  have fe := FT_eq g q
  rw [M.a2b]; try dsimp only
  by_cases o2 : q.Op = 2
  ·obtain ⟨p, hp⟩ := ssearch g q.Text hg hl
   rw [if_pos o2, hp, bnd]
   have : FT g q ↔ q.Text ∈ g := by rw [fe]; simp [o2]
   simp only [this]
  rw [if_neg o2]
  by_cases o3 : q.Op = 3
  ·obtain ⟨j, hj, he⟩ := all q.L [] rfl (by simp)
   rw [if_pos o3, M.a4s]; try dsimp only
   rw [M.a4u]; try dsimp only
   have hj' : M.a2c (q.L, (q.L.length : Int), 0, g) = some j := hj
   rw [hj', bnd, bnd, he]
   have : FT g q ↔ ∀ x ∈ q.L, FT g x := by rw [fe]; simp [o3]
   simp only [this, Bool.not_not]
  rw [if_neg o3]
  by_cases o4 : q.Op = 4
  ·obtain ⟨j, hj, he⟩ := any q.L [] rfl (by simp)
   rw [if_pos o4, M.a4t]; try dsimp only
   rw [M.a4w]; try dsimp only
   have hj' : M.a2d (q.L, (q.L.length : Int), 0, g) = some j := hj
   rw [hj', bnd, bnd, he]
   have : FT g q ↔ ∃ x ∈ q.L, FT g x := by rw [fe]; simp [o4]
   simp only [this]
  rw [if_neg o4]
  have : FT g q ↔ q.Op = 0 := by rw [fe]; simp [o2, o3, o4]
  simp only [this]
theorem wins_small (s : ByteArray) (hs : s.size ≤ 1000000) : (nrm (wins s)).length ≤ 1073741824 := by
 have := nrm_len (wins s)
 rw [wins_len] at this
 omega
theorem Fits_ok (q : T29) (s : ByteArray) (hq : qn q ≤ 3999) (hs : s.size ≤ 1000000) : M.a4g q s = some (if QD 8 q ∧ Rq q then (decide (FT (nrm (wins s)) q), 0) else (false, 2)) := by
 rw [M.a4g, qcheck_ok q hq, bnd]
 by_cases h : QD 8 q ∧ Rq q
 ·rw [if_pos h, if_pos rfl, grams_ok s hs, bnd, fits_ok _ (nrm_rises _) (wins_small s hs) (qn q) q (Nat.le_refl _) (by omega), bnd, if_pos h]
 ·rw [if_neg h, if_neg (by decide), if_neg h]
section
end
section
def U (s : ByteArray) (i : Nat) : List Int := (List.range i).map fun j : Nat => bt s (j : Int)
end
def pS (s : ByteArray) (i d : Nat) : T134 := ⟨s, (i : Int), (d : Int), none⟩
def pk (s : ByteArray) (i : Nat) : Int := if i < s.size then bt s (i : Int) else 0
theorem peek_eq (s : ByteArray) (i d : Nat) : M.a1 (pS s i d) = some (pk s i, pS s i d) := by
 rw [M.a1]
 show (some none >>= _) = _
 rw [bnd]; try dsimp only
 rw [M.a45]
 show (if decide ((i : Int) ≥ (s.size : Int)) = true then some (0, pS s i d) else _) = _
 unfold pk
 by_cases h : i < s.size
 ·rw [decide_eq_false (by omega), if_neg (by decide), if_pos h]
  show (if 0 ≤ (i : Int) then if (i : Int) < (s.size : Int) then _ else none else none) = _
  rw [if_pos (by omega), if_pos (by omega)]
  rfl
 ·rw [decide_eq_true (by omega), if_pos rfl, if_neg h]
theorem take_eq (s : ByteArray) (i d : Nat) (hi : i ≤ 1000) (c : Int) (hc : c ≠ 0) : M.a0 (pS s i d) c = some (if pk s i = c then (true, pS s (i + 1) d) else (false, pS s i d)) := by
 rw [M.a0, if_neg hc, peek_eq, bnd]
 dsimp only
 rw [M.a46]; try dsimp only
 by_cases h : pk s i = c
 ·rw [decide_eq_true h, if_neg (by decide), if_pos h]
  show some (true, (⟨s, wr .i64 ((i : Int) + 1), (d : Int), none⟩ : T134)) = _
  rw [wr_i64 (by omega) (by omega)]
  rfl
 ·rw [decide_eq_false h, if_pos (by decide), if_neg h]
theorem idx_eq (s : ByteArray) (c : Int) : M.ac s c = some (ixB s c) := rfl
theorem atom_eq (s : ByteArray) (i d : Nat) (hi : i ≤ 1000) (l : List Int) (h1 : ¬ pk s i < 32) (h2 : ¬ pk s i > 126) (h3 : ¬ ixB (⟨#[93, 41, 42, 43, 63, 123, 125, 94, 36, 124]⟩ : ByteArray) (pk s i) ≥ 0) (h4 : pk s i ≠ 40 ∧ pk s i ≠ 46 ∧ pk s i ≠ 91 ∧ pk s i ≠ 92) (hl : M.a5 (pk s i) = some l) :
  M.an (pS s i d) = some (⟨1, l, [], 0, 0⟩, pS s (i + 1) d) := by
 rw [M.an, peek_eq, bnd]; dsimp only
 rw [if_neg h1, if_neg h2, idx_eq, bnd, decide_eq_false h3, M.aw]; try dsimp only
 rw [if_neg (by decide), if_neg h4.1, M.a1j]; try dsimp only
 rw [if_neg (by decide), take_eq s i d hi 46 (by omega), if_neg h4.2.1, bnd]; dsimp only
 rw [if_neg (by decide), take_eq s i d hi 91 (by omega), if_neg h4.2.2.1, bnd]; dsimp only
 rw [if_neg (by decide), take_eq s i d hi 40 (by omega), if_neg h4.1, bnd]; dsimp only
 rw [if_neg (by decide), take_eq s i d hi 92 (by omega), if_neg h4.2.2.2, bnd]; dsimp only
 rw [if_neg (by decide), hl, bnd]
 show some (_, (⟨s, wr .i64 ((i : Int) + 1), (d : Int), none⟩ : T134)) = _
 rw [wr_i64 (by omega) (by omega)]
 rfl
theorem piece_bare {s : ByteArray} {i d : Nat} {p : T134} {r : T26} (hi : i ≤ 1000) (e : M.an p = some (r, pS s i d)) (h4 : pk s i ≠ 42 ∧ pk s i ≠ 43 ∧ pk s i ≠ 63 ∧ pk s i ≠ 123) : M.av p = some (r, pS s i d) := by
 rw [M.av, e, bnd]; dsimp only
 rw [take_eq s i d hi 42 (by omega), if_neg h4.1, bnd]; dsimp only
 rw [if_neg (by decide), take_eq s i d hi 43 (by omega), if_neg h4.2.1, bnd]; dsimp only
 rw [if_neg (by decide), take_eq s i d hi 63 (by omega), if_neg h4.2.2.1, bnd]; dsimp only
 rw [if_neg (by decide), take_eq s i d hi 123 (by omega), if_neg h4.2.2.2, bnd]; dsimp only
 rw [if_neg (by decide)]
theorem seq_un (s : ByteArray) (i d : Nat) (x : T26) (acc : List T26) : M.a6 (x, acc, pS s i d) = M.aa (x, acc, decide (i < s.size ∧ pk s i ≠ 124 ∧ pk s i ≠ 41), pS s i d) := by
 rw [M.a6]
 show (some none >>= _) = _
 rw [bnd]
 show (if (i : Int) < (s.size : Int) then M.a1 (pS s i d) >>= _ else M.aa (x, acc, false, pS s i d)) = _
 by_cases hl : i < s.size
 ·rw [if_pos (by omega), peek_eq, bnd]; dsimp only
  by_cases h1 : pk s i = 124
  ·rw [if_pos h1, decide_eq_false (by omega)]
  ·rw [if_neg h1, peek_eq, bnd]; dsimp only
   by_cases h2 : pk s i = 41
   ·rw [decide_eq_true h2, decide_eq_false (by omega)]; rfl
   ·rw [decide_eq_false h2, decide_eq_true ⟨hl, h1, h2⟩]; rfl
 ·rw [if_neg (by omega), decide_eq_false (by omega)]
theorem seq_more {s : ByteArray} {i d : Nat} (x : T26) {q : T134} {r : T26} (acc : List T26) (hl : acc.length ≤ 1000) (hg : i < s.size ∧ pk s i ≠ 124 ∧ pk s i ≠ 41) (e : M.av (pS s i d) = some (r, q)) : M.a6 (x, acc, pS s i d) = M.a6 (x, acc ++ [r], q) := by
 rw [seq_un, decide_eq_true hg, M.aa]; try dsimp only
 rw [if_pos rfl, e, bnd]; dsimp only
 rw [if_pos (by simp; omega)]
theorem seq_stop {s : ByteArray} {i d : Nat} (x : T26) (acc : List T26) {r : T26} (hg : ¬ (i < s.size ∧ pk s i ≠ 124 ∧ pk s i ≠ 41)) (hr : M.a9 2 acc = some r) : M.a6 (x, acc, pS s i d) = some (r, pS s i d) := by
 rw [seq_un, decide_eq_false hg, M.aa]; try dsimp only
 rw [if_neg (by decide), hr, bnd]
theorem several_one (k : Int) (r : T26) : M.a9 k [r] = some r := by
 rw [M.a9, if_pos (by simp), if_pos (by simp), show gi [r] 0 = r from rfl, eta27]
theorem alt_stop {s : ByteArray} {i d : Nat} (hi : i ≤ 1000) (x : T26) (acc : List T26) {r : T26} (hg : pk s i ≠ 124) (hr : M.a9 3 acc = some r) : M.a1k (x, acc, pS s i d) = some (r, pS s i d) := by
 rw [M.a1k]; try dsimp only
 rw [take_eq s i d hi 124 (by omega), if_neg hg, bnd]; dsimp only
 rw [if_neg (by decide), hr, bnd]
theorem parse_eq (s : ByteArray) (hs : s.size ≤ 256) (r : T26) (i d : Nat) (hi : ¬ i < s.size) (e : M.am (pS s 0 0) = some (r, pS s i d)) : M.a1l s = some (r, 0, 0) := by
 rw [M.a1l, if_neg (by omega)]
 show (M.am (pS s 0 0) >>= _) = _
 rw [e, bnd]
 show (some none >>= _) = _
 rw [bnd]
 show M.a22 (_, pS s i d, r, decide ((i : Int) < (s.size : Int))) = _
 rw [decide_eq_false (by omega), M.a22]; try dsimp only
 rw [if_neg (by decide), M.a47]
 show (some none >>= _) = _
 rw [bnd]
 show M.a3k (_, pS s i d, r, false) = _
 rw [M.a3k]; try dsimp only
 rw [if_neg (by decide)]
theorem ss_size (s : ByteArray) (i j : Nat) (h1 : i ≤ j) (h2 : j ≤ s.size) : (ss s (i : Int) (j : Int)).size = j - i := by
 simp only [ss, ByteArray.size_extract, Int.toNat_natCast]
 omega
theorem U_s2b (s : ByteArray) : U s s.size = s2b s := by
 unfold U s2b
 apply List.ext_getElem
 ·simp
 ·intro i h1 h2
  simp only [List.length_map, List.length_range] at h1
  simp only [List.getElem_map, List.getElem_range]
  unfold bt
  rw [dif_pos (by rw [Int.toNat_natCast]; exact h1)]
  simp only [Int.toNat_natCast]
  rfl
theorem s2b_range (s : ByteArray) : ∀ x ∈ s2b s, 0 ≤ x ∧ x ≤ 255 := by
 intro x hx
 simp only [s2b, List.mem_map] at hx
 obtain ⟨b, _, rfl⟩ := hx
 have := b.toNat_lt
 omega
theorem b2s_size (l : List Int) : (b2s l).size = l.length := by
 show ((l.map fun x => x.toNat.toUInt8).toArray).size = l.length
 simp
theorem bt_b2s (l : List Int) (i : Nat) (h : i < l.length) (h0 : 0 ≤ l[i]) (h1 : l[i] ≤ 255) : bt (b2s l) (i : Int) = l[i] := by
 unfold bt
 rw [dif_pos (by rw [b2s_size, Int.toNat_natCast]; exact h)]
 have e : (b2s l)[((i : Int).toNat)]'(by rw [b2s_size, Int.toNat_natCast]; exact h) = (l[i].toNat).toUInt8 := by
  show ((l.map fun x => x.toNat.toUInt8).toArray)[((i : Int).toNat)]'_ = _
  simp
 rw [e]
 have : ((l[i].toNat).toUInt8).toNat = l[i].toNat := by
  rw [Nat.toUInt8, UInt8.toNat_ofNat']
  exact Nat.mod_eq_of_lt (by omega)
 rw [this]
 omega
theorem s2b_app (s t : ByteArray) : s2b (s ++ t) = s2b s ++ s2b t := by
 simp [s2b, ByteArray.data_append]
def oneL (b : Int) : List Int := si [0, 0, 0, 0] (b / 64) (ishl .u64 1 (b % 64))
theorem one_eq {b : Int} (h0 : 0 ≤ b) (h1 : b ≤ 255) : M.a5 b = some (oneL b) := by
 rw [M.a5, iquo64 h0 h1, irem64 h0, if_pos (by omega), if_pos (by omega), if_pos (by omega)]
 rfl
theorem ishl_one (k : Nat) (hk : k < 64) : ishl .u64 1 (k : Int) = ((2 ^ k : Nat) : Int) := by
 have hp : 2 ^ k < 18446744073709551616 := by
  have : 2 ^ k < 2 ^ 64 := Nat.pow_lt_pow_right (by omega) hk
  exact this
 unfold ishl
 rw [Int.toNat_natCast, show min k IntKind.u64.bits = k by have : IntKind.u64.bits = 64 := rfl; omega, Int.one_mul]
 have e : ((2 : Int) ^ k) = ((2 ^ k : Nat) : Int) := by push_cast; rfl
 rw [e]
 generalize 2 ^ k = p at hp
 simp only [IntKind.wrap, IntKind.signed, IntKind.bits]
 simp
 exact Int.emod_eq_of_lt (by omega) (by omega)
theorem oneL_ok {b : Int} (h0 : 0 ≤ b) (h1 : b ≤ 255) : SetOk (oneL b) := by
 refine ⟨by simp [oneL, si], fun x hx => ?_⟩
 obtain ⟨k, hk⟩ := Int.eq_ofNat_of_zero_le (show 0 ≤ b % 64 by omega)
 have hk64 : k < 64 := by omega
 have hp : 2 ^ k < 18446744073709551616 := by
  have : 2 ^ k < 2 ^ 64 := Nat.pow_lt_pow_right (by omega) hk64
  exact this
 rcases List.mem_or_eq_of_mem_set hx with hx | rfl
 ·simp at hx; omega
 ·rw [hk, ishl_one k hk64]
  generalize 2 ^ k = p at hp
  constructor <;> omega
def asB (b : Int) : Bool := M.a1u b == some true
def hx (v : Int) : Int := if v < 10 then 48 + v else 87 + v
def qb (b : Int) : List Int := if asB b = true then [b] else [92, 120, hx (b / 16), hx (b % 16)]
def HEX : ByteArray := ⟨#[48, 49, 50, 51, 52, 53, 54, 55, 56, 57, 97, 98, 99, 100, 101, 102]⟩
theorem asis_tot (b : Int) : M.a1u b = some (asB b) := by
 have : ∃ v, M.a1u b = some v := by
  have l1 : ∀ c, ∃ v, M.a3o (b, c) = some v := by
   intro c
   rw [M.a3o]; try dsimp only
   repeat' split
   all_goals first | exact ⟨_, rfl⟩ | (rw [idx_eq, bnd]; exact ⟨_, rfl⟩)
  have l0 : ∀ c, ∃ v, M.a3p (b, c) = some v := by
   intro c
   rw [M.a3p]; try dsimp only
   repeat' split
   all_goals first | exact ⟨_, rfl⟩ | exact l1 _
  rw [M.a1u]
  split
  ·exact l0 _
  ·exact l0 _
 obtain ⟨v, hv⟩ := this
 rw [asB, hv]
 cases v <;> rfl
def plainB (n : Nat) : Bool := decide (32 ≤ n) && decide (n ≤ 126) && decide (ixB (⟨#[93, 41, 42, 43, 63, 123, 125, 94, 36, 124]⟩ : ByteArray) (n : Int) < 0) && !([40, 46, 91, 92, 42, 43, 63, 123, 124, 41].contains n)
theorem asB_all : ∀ n : Nat, n < 256 → asB (n : Int) = true → plainB n = true := by decide +kernel
theorem asB_spec (n : Nat) (h0 : n < 256) (h1 : asB (n : Int) = true) : 32 ≤ n ∧ n ≤ 126 ∧ ¬ ixB (⟨#[93, 41, 42, 43, 63, 123, 125, 94, 36, 124]⟩ : ByteArray) (n : Int) ≥ 0 ∧ n ≠ 40 ∧ n ≠ 46 ∧ n ≠ 91 ∧ n ≠ 92 ∧ n ≠ 42 ∧ n ≠ 43 ∧ n ≠ 63 ∧ n ≠ 123 ∧ n ≠ 124 ∧ n ≠ 41 := by
 have h := asB_all n h0 h1
 simp only [plainB, Bool.and_eq_true, decide_eq_true_eq, Bool.not_eq_true', List.contains_eq_mem, List.mem_cons, List.not_mem_nil, or_false, decide_eq_false_iff_not, not_or] at h
 omega
theorem hex_at : ∀ v : Nat, v < 16 → s2b (ss HEX (v : Int) ((v + 1 : Nat) : Int)) = [hx (v : Int)] ∧ (ss HEX (v : Int) ((v + 1 : Nat) : Int)).size = 1 := by decide +kernel
theorem nib_at : ∀ v : Nat, v < 16 → M.a4k (hx (v : Int)) = some (v : Int) := by decide +kernel
theorem hx_ne : ∀ v : Nat, v < 16 → 48 ≤ hx (v : Int) ∧ hx (v : Int) ≤ 102 := by decide +kernel
theorem byte_of : ∀ b : Nat, b < 256 → ior .u8 (ishl .u8 ((b : Int) / 16) 4) ((b : Int) % 16) = (b : Int) := by decide +kernel
theorem shr4 : ∀ b : Nat, b < 256 → ishr .u8 (b : Int) 4 = (b : Int) / 16 ∧ iand .u8 (b : Int) 15 = (b : Int) % 16 := by decide +kernel
theorem u8_small : ∀ v : Nat, v < 16 → wr .u8 (v : Int) = (v : Int) ∧ wr .u8 ((v : Int) + 1) = ((v + 1 : Nat) : Int) := by decide +kernel
theorem qb_range {b : Int} (h0 : 0 ≤ b) (h1 : b ≤ 255) : (∀ x ∈ qb b, 0 ≤ x ∧ x ≤ 255) ∧ (qb b).length ≤ 4 ∧ 1 ≤ (qb b).length := by
 unfold qb
 split
 ·exact ⟨fun x hx => by rw [List.mem_singleton.1 hx]; exact ⟨h0, h1⟩, by simp, by simp⟩
 ·refine ⟨fun x hx => ?_, by simp, by simp⟩
  obtain ⟨a, ha⟩ := Int.eq_ofNat_of_zero_le (show 0 ≤ b / 16 by omega)
  obtain ⟨c, hc⟩ := Int.eq_ofNat_of_zero_le (show 0 ≤ b % 16 by omega)
  have p := hx_ne a (by omega)
  have q := hx_ne c (by omega)
  rw [ha, hc] at hx
  simp at hx
  rcases hx with rfl | rfl | rfl | rfl <;> omega
theorem qfl_len : ∀ l : List Int, (∀ b ∈ l, 0 ≤ b ∧ b ≤ 255) → (l.flatMap qb).length ≤ 4 * l.length
 | [], _ => by simp
 | b :: l, h => by
  have h1 := (qb_range (h b (by simp)).1 (h b (by simp)).2).2.1
  have h2 := qfl_len l (fun x hx => h x (by simp [hx]))
  rw [List.flatMap_cons, List.length_append, List.length_cons]
  omega
theorem qfl_range (l : List Int) (h : ∀ b ∈ l, 0 ≤ b ∧ b ≤ 255) : ∀ x ∈ l.flatMap qb, 0 ≤ x ∧ x ≤ 255 := by
 intro x hx
 obtain ⟨b, hb, hx⟩ := List.mem_flatMap.1 hx
 exact (qb_range (h b hb).1 (h b hb).2).1 x hx
def leaf (b : Int) : T26 := ⟨1, oneL b, [], 0, 0⟩
theorem pk_b2s (l : List Int) (h : ∀ x ∈ l, 0 ≤ x ∧ x ≤ 255) (i : Nat) : pk (b2s l) i = if hi : i < l.length then l[i] else 0 := by
 unfold pk
 rw [b2s_size]
 by_cases hi : i < l.length
 ·rw [if_pos hi, dif_pos hi]
  have := h _ (List.getElem_mem hi)
  exact bt_b2s l i hi this.1 this.2
 ·rw [if_neg hi, dif_neg hi]
theorem pk_mid (l pre : List Int) (b : Int) (R : List Int) (h : ∀ x ∈ l, 0 ≤ x ∧ x ≤ 255) (e : l = pre ++ b :: R) : pk (b2s l) pre.length = b := by
 rw [pk_b2s l h, dif_pos (by rw [e]; simp)]
 simp [e]
theorem digit_eq (s : ByteArray) (i d : Nat) (hi : i ≤ 1000) (v : Nat) (hv : v < 16) (h : pk s i = hx (v : Int)) : M.a1w (pS s i d) = some ((v : Int), pS s (i + 1) d) := by
 rw [M.a1w, peek_eq, bnd]; dsimp only
 rw [h, nib_at v hv, bnd, if_neg (by omega), (u8_small v hv).1]
 show some (_, (⟨s, wr .i64 ((i : Int) + 1), (d : Int), none⟩ : T134)) = _
 rw [wr_i64 (by omega) (by omega)]
 rfl
theorem class_x : M.a2h 120 = some ([0, 0, 0, 0], false) := by
 rw [M.a2h, if_neg (by decide), if_neg (by decide), if_neg (by decide)]
theorem atom_hex (s : ByteArray) (i d : Nat) (hi : i ≤ 900) (b : Nat) (hb : b < 256) (h0 : pk s i = 92) (h1 : pk s (i + 1) = 120) (h2 : pk s (i + 2) = hx ((b : Int) / 16)) (h3 : pk s (i + 3) = hx ((b : Int) % 16)) :
  M.an (pS s i d) = some (leaf (b : Int), pS s (i + 4) d) := by
 obtain ⟨a, ha⟩ := Int.eq_ofNat_of_zero_le (show 0 ≤ (b : Int) / 16 by omega)
 obtain ⟨c, hc⟩ := Int.eq_ofNat_of_zero_le (show 0 ≤ (b : Int) % 16 by omega)
 have hby := byte_of b hb
 rw [ha] at h2 hby
 rw [hc] at h3 hby
 have esc : M.a1x (pS s (i + 1) d) = some (⟨oneL (b : Int), (b : Int), true⟩, pS s (i + 4) d) := by
  rw [M.a1x, peek_eq, bnd]; dsimp only
  rw [h1, class_x, bnd]; dsimp only
  rw [if_neg (by decide), if_pos rfl]
  have e : (⟨(pS s (i + 1) d).s, wr .i64 ((pS s (i + 1) d).at_ + 1), (pS s (i + 1) d).deep, (pS s (i + 1) d).bad⟩ : T134) = pS s (i + 2) d := by
   show (⟨s, wr .i64 (((i + 1 : Nat) : Int) + 1), (d : Int), none⟩ : T134) = _
   rw [wr_i64 (by omega) (by omega)]
   rfl
  rw [e, digit_eq s (i + 2) d (by omega) a (by omega) h2, bnd]; dsimp only
  rw [digit_eq s (i + 3) d (by omega) c (by omega) h3, bnd]; dsimp only
  rw [hby, M.al, one_eq (by omega) (by omega), bnd, bnd]
 rw [M.an, peek_eq, bnd]; dsimp only
 rw [h0, if_neg (by decide), if_neg (by decide), idx_eq, bnd, decide_eq_false (by decide), M.aw]; try dsimp only
 rw [if_neg (by decide), if_neg (by decide), M.a1j]; try dsimp only
 rw [if_neg (by decide), take_eq s i d (by omega) 46 (by omega), if_neg (by omega), bnd]; dsimp only
 rw [if_neg (by decide), take_eq s i d (by omega) 91 (by omega), if_neg (by omega), bnd]; dsimp only
 rw [if_neg (by decide), take_eq s i d (by omega) 40 (by omega), if_neg (by omega), bnd]; dsimp only
 rw [if_neg (by decide), take_eq s i d (by omega) 92 (by omega), if_pos h0, bnd]; dsimp only
 rw [if_pos rfl, esc, bnd]
 rfl
theorem several_all (L : List T26) : ∃ r, M.a9 2 L = some r ∧ ((∃ x, L = [x] ∧ r = x) ∨ r = ⟨2, Z4, L, 0, 0⟩) := by
 rw [M.a9]
 by_cases h : L.length = 1
 ·match L, h with
  | [x], _ => exact ⟨x, by rw [if_pos (by simp), if_pos (by simp), show gi [x] 0 = x from rfl, eta27], .inl ⟨x, rfl, rfl⟩⟩
 ·rw [if_neg (by omega)]
  exact ⟨_, rfl, .inr rfl⟩
theorem read_ok (bs : List Int) (hb : ∀ b ∈ bs, 0 ≤ b ∧ b ≤ 255) (hn : bs.length ≤ 60) : ∃ r, M.a1l (b2s (bs.flatMap qb)) = some (r, 0, 0) ∧ M.a9 2 (bs.map leaf) = some r := by
 have hl := qfl_len bs hb
 have hq := qfl_range bs hb
 obtain ⟨r, hr, _⟩ := several_all (bs.map leaf)
 refine ⟨r, ?_, hr⟩
 have hz := b2s_size (bs.flatMap qb)
 -- what stands at the beginning of a byte's quote, or at the end
 have first : ∀ (R pre : List Int), bs = pre ++ R → pk (b2s (bs.flatMap qb)) (pre.flatMap qb).length ≠ 42 ∧ pk (b2s (bs.flatMap qb)) (pre.flatMap qb).length ≠ 43 ∧ pk (b2s (bs.flatMap qb)) (pre.flatMap qb).length ≠ 63 ∧
   pk (b2s (bs.flatMap qb)) (pre.flatMap qb).length ≠ 123 ∧ pk (b2s (bs.flatMap qb)) (pre.flatMap qb).length ≠ 124 ∧ pk (b2s (bs.flatMap qb)) (pre.flatMap qb).length ≠ 41 := by
  intro R pre e
  cases R with
  | nil =>
   have : pk (b2s (bs.flatMap qb)) (pre.flatMap qb).length = 0 := by
    rw [pk_b2s _ hq, dif_neg]
    rw [e, List.append_nil]
    omega
   rw [this]; decide
  | cons b R =>
   have hb' := hb b (by rw [e]; simp)
   have key : ∃ c T, qb b = c :: T ∧ c ≠ 42 ∧ c ≠ 43 ∧ c ≠ 63 ∧ c ≠ 123 ∧ c ≠ 124 ∧ c ≠ 41 := by
    unfold qb
    by_cases h : asB b = true
    ·rw [if_pos h]
     obtain ⟨n, hn'⟩ := Int.eq_ofNat_of_zero_le hb'.1
     rw [hn'] at h
     have := asB_spec n (by omega) h
     refine ⟨b, [], rfl, ?_⟩
     omega
    ·rw [if_neg h]
     exact ⟨92, _, rfl, by decide⟩
   obtain ⟨c, Tl, k1, k2⟩ := key
   have : pk (b2s (bs.flatMap qb)) (pre.flatMap qb).length = c := pk_mid _ _ c (Tl ++ R.flatMap qb) hq (by rw [e, List.flatMap_append, List.flatMap_cons, k1]; rfl)
   rw [this]
   exact k2
 have loop : ∀ (R pre : List Int) (x : T26), bs = pre ++ R → M.a6 (x, pre.map leaf, pS (b2s (bs.flatMap qb)) (pre.flatMap qb).length 0) = some (r, pS (b2s (bs.flatMap qb)) (bs.flatMap qb).length 0) := by
  intro R
  induction R with
  | nil =>
   intro pre x e
   rw [List.append_nil] at e
   rw [← e]
   exact seq_stop x _ (by rw [hz]; omega) hr
  | cons b R ih =>
   intro pre x e
   have hb' := hb b (by rw [e]; simp)
   have hpl : (pre.flatMap qb).length + (qb b).length ≤ 240 := by
    have : (bs.flatMap qb).length = (pre.flatMap qb).length + ((qb b).length + (R.flatMap qb).length) := by rw [e, List.flatMap_append, List.flatMap_cons]; simp
    omega
   have hlt : (pre.flatMap qb).length < (b2s (bs.flatMap qb)).size := by
    have : (bs.flatMap qb).length = (pre.flatMap qb).length + ((qb b).length + (R.flatMap qb).length) := by rw [e, List.flatMap_append, List.flatMap_cons]; simp
    have := (qb_range hb'.1 hb'.2).2.2
    rw [hz]; omega
   have f0 := first (b :: R) pre e
   have f1 := first R (pre ++ [b]) (by rw [e]; simp)
   have e1 : ((pre ++ [b]).flatMap qb).length = (pre.flatMap qb).length + (qb b).length := by rw [List.flatMap_append]; simp
   rw [e1] at f1
   have hpc : M.av (pS (b2s (bs.flatMap qb)) (pre.flatMap qb).length 0) = some (leaf b, pS (b2s (bs.flatMap qb)) ((pre.flatMap qb).length + (qb b).length) 0) := by
    obtain ⟨n, hn'⟩ := Int.eq_ofNat_of_zero_le hb'.1
    by_cases h : asB b = true
    ·have hqb : qb b = [b] := by unfold qb; rw [if_pos h]
     have hpk : pk (b2s (bs.flatMap qb)) (pre.flatMap qb).length = b := pk_mid _ _ b (R.flatMap qb) hq (by rw [e, List.flatMap_append, List.flatMap_cons, hqb]; rfl)
     rw [hn'] at h
     have sp := asB_spec n (by omega) h
     rw [hqb] at f1 hpl ⊢
     refine piece_bare (by simp at hpl; simp; omega) (atom_eq _ _ 0 (by omega) (oneL b) (by omega) (by omega) (by rw [hpk, hn']; exact sp.2.2.1) (by omega) (by rw [hpk]; exact one_eq hb'.1 hb'.2)) ?_
     exact ⟨f1.1, f1.2.1, f1.2.2.1, f1.2.2.2.1⟩
    ·have hqb : qb b = [92, 120, hx (b / 16), hx (b % 16)] := by unfold qb; rw [if_neg h]
     have hfl : bs.flatMap qb = pre.flatMap qb ++ (92 :: 120 :: hx (b / 16) :: hx (b % 16) :: R.flatMap qb) := by rw [e, List.flatMap_append, List.flatMap_cons, hqb]; rfl
     have p0 := pk_mid _ (pre.flatMap qb) 92 _ hq hfl
     have p1 := pk_mid _ (pre.flatMap qb ++ [92]) 120 (hx (b / 16) :: hx (b % 16) :: R.flatMap qb) hq (by rw [hfl]; simp)
     have p2 := pk_mid _ (pre.flatMap qb ++ [92, 120]) (hx (b / 16)) (hx (b % 16) :: R.flatMap qb) hq (by rw [hfl]; simp)
     have p3 := pk_mid _ (pre.flatMap qb ++ [92, 120, hx (b / 16)]) (hx (b % 16)) (R.flatMap qb) hq (by rw [hfl]; simp)
     simp only [List.length_append, List.length_cons, List.length_nil] at p1 p2 p3
     rw [hqb] at f1 hpl ⊢
     simp only [List.length_cons, List.length_nil] at f1 hpl ⊢
     rw [hn'] at p2 p3
     have := atom_hex (b2s (bs.flatMap qb)) (pre.flatMap qb).length 0 (by omega) n (by omega) p0 p1 p2 p3
     rw [← hn'] at this
     exact piece_bare (by omega) this ⟨f1.1, f1.2.1, f1.2.2.1, f1.2.2.2.1⟩
   have hbl : bs.length = pre.length + (R.length + 1) := by rw [e]; simp
   rw [seq_more x _ (by rw [List.length_map]; omega) ⟨hlt, f0.2.2.2.2.1, f0.2.2.2.2.2⟩ hpc]
   have := ih (pre ++ [b]) x (by rw [e]; simp)
   rw [e1, List.map_append] at this
   exact this
 have h0 := loop bs [] ⟨0, [0, 0, 0, 0], [], 0, 0⟩ rfl
 refine parse_eq _ (by rw [hz]; omega) r (bs.flatMap qb).length 0 (by rw [hz]; omega) ?_
 have h0' : M.a6 (⟨0, [0, 0, 0, 0], [], 0, 0⟩, [], pS (b2s (bs.flatMap qb)) 0 0) = some (r, pS (b2s (bs.flatMap qb)) (bs.flatMap qb).length 0) := h0
 rw [M.am, M.a21, h0', bnd]; dsimp only
 exact alt_stop (by omega) _ _ (by
  have := first [] bs (by simp)
  exact this.2.2.2.2.1) (several_one _ _)
theorem nds_leaves : ∀ bs : List Int, nds (bs.map leaf) = bs.length
 | [] => rfl
 | b :: bs => by rw [List.map_cons, nds, nds_leaves bs, nd_eq]; simp [leaf, nds]; omega
theorem quote_ok (s : ByteArray) (hs : s.size ≤ 256) : M.a4b s = some (b2s ((s2b s).flatMap qb)) := by
 have hlen : (s2b s).length = s.size := by simp only [s2b, List.length_map, Array.length_toList]; rfl
 have hrange := s2b_range s
 -- one round's text
 have piece : ∀ b : Int, 0 ≤ b → b ≤ 255 → s2b ((⟨#[92, 120]⟩ : ByteArray) ++ (ss HEX (b / 16) (b / 16 + 1)) ++ (ss HEX (b % 16) (b % 16 + 1))) = [92, 120, hx (b / 16), hx (b % 16)] := by
  intro b h0 h1
  obtain ⟨a, ha⟩ := Int.eq_ofNat_of_zero_le (show 0 ≤ b / 16 by omega)
  obtain ⟨c, hc⟩ := Int.eq_ofNat_of_zero_le (show 0 ≤ b % 16 by omega)
  have p := (hex_at a (by omega)).1
  have q := (hex_at c (by omega)).1
  rw [ha, hc, show (a : Int) + 1 = ((a + 1 : Nat) : Int) by push_cast; rfl, show (c : Int) + 1 = ((c + 1 : Nat) : Int) by push_cast; rfl, s2b_app, s2b_app, p, q]
  rfl
 have round : ∀ (F : ByteArray × List Int × Int × Int → Option ByteArray) (WB : List Int → Int → Option (List Int)) (WS : List Int → ByteArray → Option (Int × List Int)) (K : List Int → Option ByteArray)
   (hWB : ∀ acc x, acc.length ≤ 4000 → WB acc x = some (acc ++ [x])) (hWS : ∀ acc x, acc.length ≤ 4000 → x.size ≤ 4 → WS acc x = some ((x.size : Int), acc ++ s2b x)) (pre R : List Int) (b : Int) (acc : List Int),
   s2b s = pre ++ b :: R → acc.length ≤ 4000 →
   (∀ i, i = (pre.length : Int) → (if i < (s.size : Int) then if 0 ≤ i then if i < (s.size : Int) then
    M.a1u (bt s i) >>= fun y37 => if y37 = true then WB acc (bt s i) >>= fun y40 => F (s, y40, (s.size : Int), wr .i64 (i + 1))
    else if 0 ≤ ishr .u8 (bt s i) 4 then if ishr .u8 (bt s i) 4 ≤ wr .u8 ((ishr .u8 (bt s i) 4) + 1) then if wr .u8 ((ishr .u8 (bt s i) 4) + 1) ≤ (HEX.size : Int) then
    if ((⟨#[92, 120]⟩ : ByteArray).size : Int) + ((ss HEX (ishr .u8 (bt s i) 4) (wr .u8 ((ishr .u8 (bt s i) 4) + 1))).size : Int) ≤ 1099511627776 then
    some ((⟨#[92, 120]⟩ : ByteArray) ++ (ss HEX (ishr .u8 (bt s i) 4) (wr .u8 ((ishr .u8 (bt s i) 4) + 1)))) >>= fun v50 =>
    if 0 ≤ iand .u8 (bt s i) 15 then if iand .u8 (bt s i) 15 ≤ wr .u8 ((iand .u8 (bt s i) 15) + 1) then if wr .u8 ((iand .u8 (bt s i) 15) + 1) ≤ (HEX.size : Int) then
    if (v50.size : Int) + ((ss HEX (iand .u8 (bt s i) 15) (wr .u8 ((iand .u8 (bt s i) 15) + 1))).size : Int) ≤ 1099511627776 then
    some (v50 ++ (ss HEX (iand .u8 (bt s i) 15) (wr .u8 ((iand .u8 (bt s i) 15) + 1)))) >>= fun v53 =>
    WS acc v53 >>= fun y55 => F (s, y55.2, (s.size : Int), wr .i64 (i + 1))
    else none else none else none else none else none else none else none else none else none else none else K acc) = F (s, acc ++ qb b, (s.size : Int), ((pre.length + 1 : Nat) : Int))) := by
  intro F WB WS K hWB hWS pre R b acc e ha i hi
  subst hi
  have hl2 : s.size = pre.length + (R.length + 1) := by rw [← hlen, e]; simp
  have hb := hrange b (by rw [e]; simp)
  have hbt : bt s (pre.length : Int) = b := by
   have : (U s s.size)[pre.length]'(by simp [U]; omega) = b := by
    simp only [U_s2b, e]
    simp
   rw [← this]
   simp [U]
  obtain ⟨n, hn⟩ := Int.eq_ofNat_of_zero_le hb.1
  have hsh := shr4 n (by omega)
  obtain ⟨a, ha'⟩ := Int.eq_ofNat_of_zero_le (show 0 ≤ b / 16 by omega)
  obtain ⟨c, hc'⟩ := Int.eq_ofNat_of_zero_le (show 0 ≤ b % 16 by omega)
  have ua := u8_small a (by omega)
  have uc := u8_small c (by omega)
  have za := (hex_at a (by omega)).2
  have zc := (hex_at c (by omega)).2
  have hp := piece b hb.1 hb.2
  rw [if_pos (by omega), if_pos (by omega), if_pos (by omega), hbt, asis_tot, bnd, wr_i64 (x := (pre.length : Int) + 1) (by omega) (by omega), show (pre.length : Int) + 1 = ((pre.length + 1 : Nat) : Int) by push_cast; rfl]
  unfold qb
  by_cases h : asB b = true
  ·rw [if_pos h, if_pos h, hWB acc b ha, bnd]
  ·rw [if_neg h, if_neg h]
   rw [← hn] at hsh
   rw [hsh.1, hsh.2]
   rw [ha', hc', show (a : Int) + 1 = ((a + 1 : Nat) : Int) by push_cast; rfl, show (c : Int) + 1 = ((c + 1 : Nat) : Int) by push_cast; rfl] at hp
   have ua2 := ua.2
   have uc2 := uc.2
   have hz : (HEX.size : Int) = 16 := rfl
   have hz2 : ((⟨#[92, 120]⟩ : ByteArray).size : Int) = 2 := rfl
   rw [ha', hc', ua2, uc2, hz, if_pos (by omega), if_pos (by omega), if_pos (by omega), hz2, za, if_pos (by omega), bnd, if_pos (by omega), if_pos (by omega), if_pos (by omega)]
   have z1 : ((⟨#[92, 120]⟩ : ByteArray) ++ (ss HEX (a : Int) ((a + 1 : Nat) : Int))).size = 3 := by
    rw [ByteArray.size_append, za]
    rfl
   rw [z1, zc, if_pos (by omega), bnd, hWS acc _ ha (by rw [ByteArray.size_append, z1, zc]; omega), bnd, hp]
 have WB1 : ∀ (acc : List Int) (x : Int), acc.length ≤ 4000 → M.a3r acc x = some (acc ++ [x]) := by
  intro acc x h
  rw [M.a3r, M.a3q, bnd, if_pos (by simp; omega)]
 have WB2 : ∀ (acc : List Int) (x : Int), acc.length ≤ 4000 → M.a3t acc x = some (acc ++ [x]) := by
  intro acc x h
  rw [M.a3t, M.a3s, bnd, if_pos (by simp; omega)]
 have sl : ∀ x : ByteArray, (s2b x).length = x.size := by
  intro x
  simp only [s2b, List.length_map, Array.length_toList]
  rfl
 have WS1 : ∀ (acc : List Int) (x : ByteArray), acc.length ≤ 4000 → x.size ≤ 4 → M.a3v acc x = some ((x.size : Int), acc ++ s2b x) := by
  intro acc x h h2
  have := sl x
  rw [M.a3v, M.a3q, bnd, if_pos (by simp only [List.length_append]; omega)]
 have WS2 : ∀ (acc : List Int) (x : ByteArray), acc.length ≤ 4000 → x.size ≤ 4 → M.a3u acc x = some ((x.size : Int), acc ++ s2b x) := by
  intro acc x h h2
  have := sl x
  rw [M.a3u, M.a3s, bnd, if_pos (by simp only [List.length_append]; omega)]
 have loop : ∀ (R pre : List Int), s2b s = pre ++ R → M.a8 (s, pre.flatMap qb, (s.size : Int), (pre.length : Int)) = some (b2s ((s2b s).flatMap qb)) := by
  intro R
  induction R with
  | nil =>
   intro pre e
   have hp : pre.length = s.size := by rw [← hlen, e]; simp
   have hq := qfl_len pre (fun x hx => hrange x (by rw [e]; simp [hx]))
   rw [M.a8]; try dsimp only
   rw [if_neg (by omega), M.a48, if_pos (by omega), bnd, e, List.append_nil]
  | cons b R ih =>
   intro pre e
   have hl2 : s.size = pre.length + (R.length + 1) := by rw [← hlen, e]; simp
   have hq := qfl_len pre (fun x hx => hrange x (by rw [e]; simp [hx]))
   have h := round M.a8 M.a3t M.a3u (fun acc => M.a48 acc >>= fun y58 => some y58.1) WB2 WS2 pre R b (pre.flatMap qb) e (by omega) _ rfl
   have := ih (pre ++ [b]) (by rw [e]; simp)
   rw [List.flatMap_append, show ([b] : List Int).flatMap qb = qb b by simp, show (((pre ++ [b]).length : Nat) : Int) = ((pre.length + 1 : Nat) : Int) by simp] at this
   rw [← this, ← h]
   conv => lhs; rw [M.a8]
   rfl
 rw [M.a4b]
 cases hR : s2b s with
 | nil =>
  have h0 : s.size = 0 := by rw [← hlen, hR]; rfl
  rw [M.a4a]; try dsimp only
  rw [if_neg (by omega), M.a49, if_pos (by simp), bnd]
  rfl
 | cons b R =>
  have h := round M.a8 M.a3r M.a3v (fun acc => M.a49 acc >>= fun y58 => some y58.1) WB1 WS1 [] R b [] hR (by simp) 0 rfl
  have := loop R [b] (by rw [hR]; rfl)
  rw [hR] at this
  rw [show ([b] : List Int).flatMap qb = qb b by simp] at this
  rw [← this]
  have h' : _ = M.a8 (s, qb b, (s.size : Int), 1) := h
  have h2 : M.a8 (s, qb b, (s.size : Int), (([b] : List Int).length : Int)) = M.a8 (s, qb b, (s.size : Int), 1) := rfl
  rw [h2, ← h']
  conv => lhs; rw [M.a4a]
  rfl
end Go.Proofs.YtdccklkdakfnaaaGreat
/-
 The law GramQuotes but for its told examples. Pure.
-/
set_option linter.unusedVariables false
set_option linter.unusedSimpArgs false
namespace Go.Proofs.YtdccklkdakfnaaaGreat
open Go.Gx
open Classical
theorem b2s_s2b (s : ByteArray) : b2s (s2b s) = s := by
 apply Tl_inj
 show (((s2b s).map fun x => x.toNat.toUInt8).toArray).toList = s.data.toList
 simp only [s2b, List.map_map]
 have : ((fun x : Int => x.toNat.toUInt8) ∘ fun b : UInt8 => ((b.toNat : Nat) : Int)) = id := by
  funext b; simp
 rw [this, List.map_id]
theorem b2s_cons (b : Int) (l : List Int) : b2s (b :: l) = b2s [b] ++ b2s l := by
 apply ByteArray.ext
 simp [b2s, ByteArray.data_append]
theorem hb_oneL : ∀ b : Nat, b < 256 → ∀ n : Nat, n < 256 → hb (oneL (b : Int)) n = decide (n = b) := by decide +kernel
theorem filter_one (n b : Nat) : (List.range n).filter (fun q => decide (q = b)) = if b < n then [b] else [] := by
 induction n with
 | zero => simp
 | succ n ih =>
  rw [List.range_succ, List.filter_append, ih]
  by_cases h : n = b
  ·subst h; simp
  ·by_cases h2 : b < n
   ·rw [if_pos h2, if_pos (by omega)]; simp [h]
   ·rw [if_neg h2, if_neg (by omega)]; simp [h]
theorem memL_oneL (b : Int) (h0 : 0 ≤ b) (h1 : b ≤ 255) : memL (oneL b) 256 = [b2s [b]] := by
 obtain ⟨n, rfl⟩ := Int.eq_ofNat_of_zero_le h0
 unfold memL
 have : (List.range 256).filter (hb (oneL (n : Int))) = [n] := by
  have e : (List.range 256).filter (hb (oneL (n : Int))) = (List.range 256).filter (fun q => decide (q = n)) := List.filter_congr fun q hq => hb_oneL n (by omega) q (by simpa using hq)
  rw [e, filter_one, if_pos (by omega)]
 rw [this]; rfl
theorem tell_leaf (d : Nat) (b : Int) (h0 : 0 ≤ b) (h1 : b ≤ 255) : tellS (d + 1) (leaf b) = some [b2s [b]] := by
 rw [tellS, if_pos (show (leaf b).Kind = 1 from rfl)]
 unfold memS
 rw [show (leaf b).Set = oneL b from rfl, memL_oneL b h0 h1, if_neg (by simp)]
theorem beh_one (p x : ByteArray) (h : p.size + x.size ≤ 32) : behS (some [p]) (some [x]) = some [p ++ x] := by
 rw [show behS (some [p]) (some [x]) = if ∃ a ∈ [p], ∃ b ∈ [x], a.size + b.size > 32 then none else ofS (cross [p] [x]) from rfl, if_neg (by rintro ⟨a, ha, b, hb, h⟩; rw [List.mem_singleton.1 ha, List.mem_singleton.1 hb] at h; omega)]
 unfold ofS
 rw [show cross [p] [x] = [p ++ x] from rfl, nrm_eq (m := [p ++ x]) (by simp) (fun v => Iff.rfl), if_neg (by simp)]
theorem row_leaves (d : Nat) : ∀ (bs : List Int) (p : ByteArray), (∀ b ∈ bs, 0 ≤ b ∧ b ≤ 255) → p.size + bs.length ≤ 32 → ((bs.map leaf).map (tellS (d + 1))).foldl behS (some [p]) = some [p ++ b2s bs]
 | [], p, _, _ => by
  show some [p] = _
  congr 2
  apply ByteArray.ext
  simp [b2s, ByteArray.data_append]
 | b :: bs, p, h, hl => by
  have h' := h b (by simp)
  have hs : (b2s [b]).size = 1 := b2s_size _
  simp only [List.length_cons] at hl
  rw [List.map_cons, List.map_cons, List.foldl_cons, tell_leaf d b h'.1 h'.2, beh_one _ _ (by omega), row_leaves d bs _ (fun x hx => h x (by simp [hx])) (by rw [ByteArray.size_append]; omega), b2s_cons b bs]
  congr 2
  apply ByteArray.ext
  simp [ByteArray.data_append]
theorem flat_qg (op : Int) (h2 : op = 3 ∨ op = 4) : ∀ l : List ByteArray, flat op (l.map qg) = some (l.map qg)
 | [] => rfl
 | g :: l => by
  have e1 : (qg g).Op = 2 := rfl
  rw [List.map_cons, flat, if_neg (by rw [e1]; omega), if_neg (by rw [e1]; unfold tk; split <;> omega), if_neg (by rw [e1]; unfold gs; split <;> omega), flat_qg op h2 l]; rfl
theorem dist_qg : ∀ (l : List ByteArray) (acc : List ByteArray), (acc ++ l).Nodup → dist (acc.map qg) (l.map qg) = (acc ++ l).map qg
 | [], acc, _ => by rw [List.map_nil, dist, List.append_nil]
 | g :: l, acc, h => by
  have hn : qg g ∉ acc.map qg := fun hm => by
   obtain ⟨x, hx, e⟩ := List.mem_map.1 hm
   have : x = g := by injection e
   subst this
   exact (List.nodup_append.1 h).2.2 x hx x (by simp) rfl
  rw [List.map_cons, dist, if_neg hn, show acc.map qg ++ [qg g] = (acc ++ [g]).map qg by simp, dist_qg l (acc ++ [g]) (by simpa using h)]
  simp
theorem rzS_nodup {l : List ByteArray} (h : RzS l) : l.Nodup := by
 unfold List.Nodup
 exact h.imp fun {a b} hab e => by subst e; exact sltI a hab
theorem grS_eq (s : ByteArray) : grS s = mkq 3 ((nrm (wins s)).map qg) := by
 unfold grS putS
 rw [flat_qg 3 (.inl rfl)]
 show mkq 3 (dist (([] : List ByteArray).map qg) _) = _
 have hh : (([] : List ByteArray) ++ nrm (wins s)).Nodup := rzS_nodup (nrm_rises (wins s))
 rw [dist_qg (nrm (wins s)) [] hh]; rfl
def oneQ (g : List ByteArray) : T29 := match g with
 | [] => ⟨0, eS, []⟩
 | [x] => qg x
 | l => ⟨3, eS, l.map qg⟩
theorem quS_one (s : ByteArray) : quS [s] = oneQ (nrm (wins s)) := by
 unfold quS
 rw [List.map_cons, List.map_nil, grS_eq]
 generalize nrm (wins s) = G
 match G with
 | [] => rfl
 | [x] =>
  show putS 4 ([x].map qg) = qg x
  unfold putS
  rw [flat_qg 4 (.inr rfl)]
  show mkq 4 (dist (([] : List ByteArray).map qg) _) = _
  rw [dist_qg [x] [] (by simp)]; rfl
 | x :: y :: l =>
  show putS 4 [⟨3, eS, (x :: y :: l).map qg⟩] = _
  unfold putS
  have : flat 4 [(⟨3, eS, (x :: y :: l).map qg⟩ : T29)] = some [⟨3, eS, (x :: y :: l).map qg⟩] := by
   rw [flat, if_neg (show ¬ (3 : Int) = 4 by decide), if_neg (show ¬ (3 : Int) = tk 4 by decide), if_neg (show ¬ (3 : Int) = gs 4 by decide)]; rfl
  rw [this]
  show mkq 4 (dist [] [_]) = _
  rw [dist, if_neg (by simp), dist]; rfl
theorem qns_qg : ∀ l : List ByteArray, qns (l.map qg) = l.length
 | [] => rfl
 | g :: l => by rw [List.map_cons, qns, qns_qg l, qn_eq]; simp [qg, qns]; omega
theorem oneQ_fit (G : List ByteArray) (h3 : ∀ g ∈ G, g.size = 3) : QD 8 (oneQ G) ∧ Rq (oneQ G) ∧ FT G (oneQ G) ∧ qn (oneQ G) ≤ 1 + G.length := by
 have leafQ : ∀ g, QD 1 (qg g) := fun g x hx => by cases hx
 match G, h3 with
 | [], h3 => exact ⟨(fun x hx => by cases hx), (Rq_eq _).2 (.inl ⟨.inl rfl, rfl, rfl⟩), (FT_eq _ _).2 (.inr (.inr (.inr rfl))), by rw [qn_eq]; simp [oneQ, qns]⟩
 | [x], h3 => exact ⟨(leafQ x).mono (by omega), (Rq_eq _).2 (.inr (.inl ⟨rfl, h3 x (by simp), rfl⟩)), (FT_eq _ _).2 (.inl ⟨rfl, by simp [oneQ, qg]⟩), by rw [qn_eq]; simp [oneQ, qg, qns]⟩
 | x :: y :: l, h3 =>
  refine ⟨QD.mono (d := 2) (fun z hz => ?_) (by omega), (Rq_eq _).2 (.inr (.inr ⟨.inl rfl, rfl, fun z hz => ?_⟩)), (FT_eq _ _).2 (.inr (.inl ⟨rfl, fun z hz => ?_⟩)), ?_⟩
  ·obtain ⟨g, hg, rfl⟩ := List.mem_map.1 (show z ∈ (x :: y :: l).map qg from hz); exact leafQ g
  ·obtain ⟨g, hg, rfl⟩ := List.mem_map.1 (show z ∈ (x :: y :: l).map qg from hz); exact (Rq_eq _).2 (.inr (.inl ⟨rfl, h3 g hg, rfl⟩))
  ·obtain ⟨g, hg, rfl⟩ := List.mem_map.1 (show z ∈ (x :: y :: l).map qg from hz); exact (FT_eq _ _).2 (.inl ⟨rfl, hg⟩)
  ·rw [qn_eq]
   show 1 + qns ((x :: y :: l).map qg) ≤ _
   rw [qns_qg]; omega
theorem wins_three (s : ByteArray) : ∀ g ∈ nrm (wins s), g.size = 3 := by
 intro g hg
 rw [mem_nrm] at hg
 obtain ⟨i, hi, rfl⟩ := List.mem_map.1 hg
 have hi' := List.mem_range.1 hi
 have := ss_size s i (i + 3) (by omega) (by omega)
 rw [show ((i + 3 : Nat) : Int) = (i : Int) + 3 by omega] at this
 omega
theorem gquotes_law (hw : M.a32 = some true) (x0 : ByteArray) : M.a4h x0 = some true := by
 obtain ⟨k, hk, k1, k2⟩ : ∃ k : Nat, imn (x0.size : Int) 32 = (k : Int) ∧ k ≤ 32 ∧ k ≤ x0.size := by
  refine ⟨min x0.size 32, ?_, by omega, by omega⟩
  simp only [imn]
  split <;> omega
 rw [M.a4h, hw, bnd, if_pos rfl, hk, if_pos (by omega), if_pos (by omega)]
 have hz' : (ss x0 0 (k : Int)).size = k := ss_size x0 0 k (Nat.zero_le _) k2
 generalize ss x0 0 (k : Int) = s at hz'
 have hb := s2b_range s
 have hlen : (s2b s).length = s.size := by simp only [s2b, List.length_map, Array.length_toList]; rfl
 obtain ⟨r, h1, h2⟩ := read_ok (s2b s) hb (by omega)
 have rl : ∀ b ∈ s2b s, Rt 1 (leaf b) := fun b h => ⟨.inl ⟨rfl, rfl, rfl, rfl⟩, oneL_ok (hb b h).1 (hb b h).2, by simp [leaf]⟩
 have hr : Rt 128 r ∧ nd r ≤ 100 ∧ fromS 128 r = quS [s] := by
  obtain ⟨r', h3, h4⟩ := several_all ((s2b s).map leaf)
  rw [h2] at h3
  cases h3
  rcases h4 with ⟨x, h4, rfl⟩ | rfl
  ·match hbs : s2b s, h4 with
   | [b], h4 =>
    simp at h4
    subst h4
    have hb' := hb b (by rw [hbs]; simp)
    refine ⟨(rl b (by rw [hbs]; simp)).mono (by omega), by rw [nd_eq]; simp [leaf, nds], ?_⟩
    rw [fromS, tell_leaf 127 b hb'.1 hb'.2, ← hbs, b2s_s2b]
  ·refine ⟨Rt.mono (d := 2) ⟨.inr (.inl ⟨.inl rfl, rfl, rfl, rfl⟩), SetOk.Z4, fun x hx => ?_⟩ (by omega), ?_, ?_⟩
   ·obtain ⟨b, hb', rfl⟩ := List.mem_map.1 hx
    exact rl b hb'
   ·rw [nd_eq]; simp only [nds_leaves]; omega
   ·have : tellS 128 (⟨2, Z4, (s2b s).map leaf, 0, 0⟩ : T26) = some [s] := by
     rw [tellS, if_neg (show ¬ (2 : Int) = 1 by decide), if_pos rfl]
     unfold rowS
     rw [row_leaves 126 (s2b s) eS hb (by rw [show eS.size = 0 from rfl]; omega), b2s_s2b]
     congr 2
    rw [fromS, this]
 have hft := oneQ_fit (nrm (wins s)) (wins_three s)
 have hnl := nrm_len (wins s)
 rw [wins_len] at hnl
 have hfrom : M.a27 r = some (oneQ (nrm (wins s)), 0) := by
  obtain ⟨c, hc, hi⟩ := check_tot r (hr.1.fit 128 (by omega))
  have : c = true := hi.2 ⟨hr.1, by omega⟩
  subst this
  rw [M.a27, hc, bnd, if_pos rfl, from_ok 128 r hr.1 (by omega), bnd, hr.2.2, quS_one]
 rw [quote_ok s (by omega), bnd, h1, bnd]; dsimp only
 rw [hfrom, bnd]; dsimp only
 rw [Fits_ok _ s (by omega) (by omega), if_pos ⟨hft.1, hft.2.1⟩, bnd, grams_ok s (by omega), bnd]; dsimp only
 rw [decide_eq_true hft.2.2.1]
 generalize nrm (wins s) = G
 match G with
 | [] => 
  rw [if_neg (by simp), M.a34]; rfl
 | [x] => 
  rw [if_pos (by simp), M.a34]; rfl
 | x :: y :: l =>
  rw [if_neg (by simp; omega), M.a34]; try dsimp only
  rw [if_pos rfl, if_pos rfl, if_pos rfl, if_pos rfl, if_pos (by show ((((x :: y :: l).map qg).length : Nat) : Int) = _; rw [List.length_map]), if_pos (by simp; omega)]
end Go.Proofs.YtdccklkdakfnaaaGreat
