import Derived.Test.YtdccklkdakfnaaaGreatMGt
import Derived.Test.YtdccklkdakfnaaaGreatGS
import Derived.Test.YtdccklkdakfnaaaGreatLM
import Derived.Sort.Walk0
import Derived.Lib.Builder
import Derived.Lib.Join
/-
 Patterns that may be (out of the sim texts).
-/
set_option linter.unusedVariables false
set_option linter.unusedSimpArgs false
namespace Go.Proofs.YtdccklkdakfnaaaGreat
open Go.Gx
def Z4 : List Int := [0, 0, 0, 0]
theorem bnd {α β : Type} (a : α) (f : α → Option β) : (some a >>= f) = f a := rfl
theorem wr_i64 {x : Int} (h0 : -9223372036854775808 ≤ x) (h1 : x ≤ 9223372036854775807) : wr .i64 x = x := by
 simp only [wr, IntKind.wrap, IntKind.signed, IntKind.bits]
 simp
 split <;> omega
theorem eta27 (r : T26) : (⟨r.Kind, r.Set, r.L, r.Min, r.Max⟩ : T26) = r := by cases r; rfl
theorem gi_mid {α : Type} [Inhabited α] (pre : List α) (r : α) (t : List α) : gi (pre ++ r :: t) (pre.length : Int) = r := by
 simp [gi]
mutual
def nd : T26 → Nat
 | ⟨_, _, L, _, _⟩ => 1 + nds L
def nds : List T26 → Nat
 | [] => 0
 | x :: xs => nd x + nds xs
end
theorem nd_eq (r : T26) : nd r = 1 + nds r.L := by cases r; rw [nd]
theorem nd_pos (r : T26) : 1 ≤ nd r := by rw [nd_eq]; omega
theorem nds_len : ∀ L : List T26, L.length ≤ nds L
 | [] => by simp
 | x :: xs => by have := nds_len xs; have := nd_pos x; rw [nds]; simp; omega
def Dp : Nat → T26 → Prop
 | 0, _ => False
 | d + 1, r => ∀ x ∈ r.L, Dp d x
theorem Dp.mono : ∀ {d e : Nat} {r : T26}, Dp d r → d ≤ e → Dp e r
 | 0, _, _, h, _ => absurd h id
 | d + 1, 0, _, _, he => by omega
 | d + 1, e + 1, r, h, he => fun x hx => (h x hx).mono (by omega)
def SetOk (l : List Int) : Prop := l.length = 4 ∧ ∀ x ∈ l, 0 ≤ x ∧ x < 18446744073709551616
theorem SetOk.Z4 : SetOk Z4 := ⟨rfl, fun x hx => by simp [Go.Proofs.YtdccklkdakfnaaaGreat.Z4] at hx; omega⟩
def Fit : Nat → T26 → Prop
 | 0, _ => True
 | d + 1, r => SetOk r.Set ∧ r.L.length ≤ 9223372036854775807 ∧ ∀ x ∈ r.L, Fit d x
theorem Fit.mono : ∀ {d e : Nat} {r : T26}, Fit d r → e ≤ d → Fit e r
 | _, 0, _, _, _ => trivial
 | 0, e + 1, _, _, he => by omega
 | d + 1, e + 1, r, h, he => ⟨h.1, h.2.1, fun x hx => (h.2.2 x hx).mono (by omega)⟩
def Shp (r : T26) : Prop :=
 (r.Kind = 1 ∧ r.L = [] ∧ r.Min = 0 ∧ r.Max = 0) ∨ ((r.Kind = 2 ∨ r.Kind = 3) ∧ r.Set = Z4 ∧ r.Min = 0 ∧ r.Max = 0) ∨
  (r.Kind = 4 ∧ (∃ x, r.L = [x]) ∧ r.Set = Z4 ∧ 0 ≤ r.Min ∧ r.Min ≤ 64 ∧ (r.Max = -1 ∨ (r.Min ≤ r.Max ∧ r.Max ≤ 64)))
def Rt : Nat → T26 → Prop
 | 0, _ => False
 | d + 1, r => Shp r ∧ SetOk r.Set ∧ ∀ x ∈ r.L, Rt d x
theorem Rt.mono : ∀ {d e : Nat} {r : T26}, Rt d r → d ≤ e → Rt e r
 | 0, _, _, h, _ => absurd h id
 | d + 1, 0, _, _, he => by omega
 | d + 1, e + 1, r, h, he => ⟨h.1, h.2.1, fun x hx => (h.2.2 x hx).mono (by omega)⟩
theorem Rt.dp : ∀ {d : Nat} {r : T26}, Rt d r → Dp d r
 | 0, _, h => h
 | d + 1, r, h => fun x hx => (h.2.2 x hx).dp
theorem count_tot (left : Nat) : left ≤ 128 → ∀ (r : T26) (n : Nat), Fit left r → n ≤ 4096 → ∃ (b : Bool) (n' : Nat), M.aa (r, (left : Int), (n : Int)) = some (b, (n' : Int)) ∧ (b = true → n' = n + nd r ∧ n' ≤ 4096 ∧ Dp left r) ∧ (n + nd r ≤ 4096 → Dp left r → b = true) := by
 induction left with
 | zero =>
  intro hl r n hf hn
  refine ⟨false, n + 1, ?_, by simp, fun _ h => absurd h id⟩
  rw [M.aa]; try dsimp only
  rw [if_pos (by omega), wr_i64 (by omega) (by omega), M.a1q]; try dsimp only
  rw [if_pos rfl]
  try rfl
 | succ left ih =>
  intro hl r n hf hn
  rw [M.aa]; try dsimp only
  rw [if_neg (by omega), wr_i64 (by omega) (by omega), M.a1q]; try dsimp only
  by_cases hm : n + 1 > 4096
  ·refine ⟨false, n + 1, ?_, by simp, fun h _ => by have := nd_pos r; omega⟩
   rw [decide_eq_true (by omega), if_pos rfl]
   try rfl
  rw [decide_eq_false (by omega), if_neg (by decide)]
  have loop : ∀ (L pre : List T26) (m : Nat), r.L = pre ++ L → m ≤ 4096 → ∃ (b : Bool) (n' : Nat), M.aw (((left + 1 : Nat) : Int), r.L, (r.L.length : Int), (pre.length : Int), (m : Int)) = some (b, (n' : Int)) ∧
    (b = true → n' = m + nds L ∧ n' ≤ 4096 ∧ ∀ x ∈ L, Dp left x) ∧ (m + nds L ≤ 4096 → (∀ x ∈ L, Dp left x) → b = true) := by
   intro L
   induction L with
   | nil =>
    intro pre m e hm
    refine ⟨true, m, ?_, fun _ => ⟨by simp [nds], hm, by simp⟩, fun _ _ => rfl⟩
    rw [M.aw]; try dsimp only
    rw [if_neg (by rw [e]; simp)]
   | cons x L ihL =>
    intro pre m e hm
    have hlen : r.L.length = pre.length + (L.length + 1) := by rw [e]; simp
    have hx : x ∈ r.L := by rw [e]; simp
    have hbig := hf.2.1
    obtain ⟨b, n', h1, h2, h3⟩ := ih (by omega) x m (hf.2.2 x hx) hm
    rw [M.aw]; try dsimp only
    rw [if_pos (by omega), if_pos (by omega), if_pos (by omega), show gi r.L (pre.length : Int) = x by rw [e]; exact gi_mid pre x L, eta27, wr_i64 (x := ((left + 1 : Nat) : Int) - 1) (by omega) (by omega),
     show ((left + 1 : Nat) : Int) - 1 = (left : Int) by omega, h1, bnd]
    dsimp only
    cases b with
    | false =>
     refine ⟨false, n', by rw [if_neg (by decide)], by simp, fun h4 h5 => ?_⟩
     have := h3 (by rw [nds] at h4; omega) (h5 x (by simp))
     cases this
    | true =>
     obtain ⟨k1, k2, k3⟩ := h2 rfl
     rw [if_pos rfl, wr_i64 (by omega) (by omega)]
     obtain ⟨b', n'', g1, g2, g3⟩ := ihL (pre ++ [x]) n' (by rw [e]; simp) k2
     rw [show (((pre ++ [x]).length : Nat) : Int) = (pre.length : Int) + 1 by simp] at g1
     refine ⟨b', n'', g1, fun hb => ?_, fun h4 h5 => g3 (by rw [nds] at h4; omega) fun y hy => h5 y (by simp [hy])⟩
     obtain ⟨j1, j2, j3⟩ := g2 hb
     refine ⟨by rw [nds]; omega, j2, fun y hy => ?_⟩
     rcases List.mem_cons.1 hy with rfl | hy
     ·exact k3
     ·exact j3 y hy
  obtain ⟨b, n', h1, h2, h3⟩ := loop r.L [] (n + 1) rfl (by omega)
  refine ⟨b, n', h1, fun hb => ?_, fun h4 h5 => h3 (by rw [nd_eq] at h4; omega) h5⟩
  obtain ⟨k1, k2, k3⟩ := h2 hb
  exact ⟨by rw [nd_eq]; omega, k2, k3⟩
theorem shaped_iff (r : T26) : ∃ b, M.a4c r = some b ∧ (b = true ↔ Shp r) := by
 have l3 : ∀ c d : Bool, M.a3u (r, [0, 0, 0, 0], c, d) = some (decide (r.L.length = 1) && decide (r.Set = Z4) && c && d) := by
  intro c d
  rw [M.a3u]; try dsimp only
  by_cases h1 : r.L.length = 1
  ·rw [if_pos (by omega)]
   by_cases h2 : r.Set = [0, 0, 0, 0]
   ·rw [if_pos h2]
    cases c
    ·rw [if_neg (by decide)]; simp [h1]
    ·rw [if_pos rfl]; simp [h1, Z4, h2]
   ·rw [if_neg h2]; simp [Z4, h2]
  ·rw [if_neg (by omega)]; simp [h1]
 have l2 : ∀ c : Bool, M.a4x (r, [0, 0, 0, 0], c) = some (decide (r.L.length = 1) && decide (r.Set = Z4) && c && decide (r.Max = -1 ∨ (r.Min ≤ r.Max ∧ r.Max ≤ 64))) := by
  intro c
  rw [M.a4x]; try dsimp only
  by_cases h1 : r.Max = -1
  ·rw [if_pos h1, l3]; simp [h1]
  ·rw [if_neg h1]
   by_cases h2 : r.Min ≤ r.Max
   ·rw [if_pos (by omega), l3]; simp [h1, h2]
   ·rw [if_neg (by omega), l3]; simp [h1, h2]
 have l1 : ∀ (c : Bool) (k : Int) (d : Bool), M.a4y (r, [0, 0, 0, 0], c, k, d) = some (if d = true then decide (r.Set = Z4) && c else decide (k = 4) && (decide (r.L.length = 1) && decide (r.Set = Z4) && decide (0 ≤ r.Min ∧ r.Min ≤ 64) && decide (r.Max = -1 ∨ (r.Min ≤ r.Max ∧ r.Max ≤ 64)))) := by
  intro c k d
  rw [M.a4y]; try dsimp only
  cases d
  ·simp only [Bool.false_eq_true, if_false]
   by_cases h1 : k = 4
   ·rw [if_pos h1]
    by_cases h2 : 0 ≤ r.Min
    ·rw [if_pos (by omega), l2]; simp [h1, h2]
    ·rw [if_neg (by omega), l2]; simp [h2]
   ·rw [if_neg h1]; simp [h1]
  ·rw [if_pos rfl, if_pos rfl]
   by_cases h2 : r.Set = [0, 0, 0, 0]
   ·rw [if_pos h2]; simp [Z4, h2]
   ·rw [if_neg h2]; simp [Z4, h2]
 have l0 : ∀ c : Bool, M.a4z (r, [0, 0, 0, 0], c) = some (if r.Kind = 1 then decide (r.L.length = 0) && c else if r.Kind = 2 ∨ r.Kind = 3 then decide (r.Set = Z4) && c else
   decide (r.Kind = 4) && (decide (r.L.length = 1) && decide (r.Set = Z4) && decide (0 ≤ r.Min ∧ r.Min ≤ 64) && decide (r.Max = -1 ∨ (r.Min ≤ r.Max ∧ r.Max ≤ 64)))) := by
  intro c
  rw [M.a4z]; try dsimp only
  by_cases h1 : r.Kind = 1
  ·rw [if_pos h1, if_pos h1]
   by_cases h2 : r.L.length = 0
   ·rw [if_pos (by omega)]; simp [h2]
   ·rw [if_neg (by omega)]; simp [h2]
  rw [if_neg h1, if_neg h1]
  by_cases h2 : r.Kind = 2
  ·rw [if_pos h2, l1, if_pos rfl, if_pos (.inl h2)]
  rw [if_neg h2, l1]
  by_cases h3 : r.Kind = 3
  ·rw [if_pos (by simpa using h3), if_pos (.inr h3)]
  ·rw [if_neg (by simpa using h3), if_neg (by omega)]
 have one : (∃ x, r.L = [x]) ↔ r.L.length = 1 := by
  constructor
  ·rintro ⟨x, h⟩; rw [h]; rfl
  ·intro h
   match hL : r.L, h with
   | [x], _ => exact ⟨x, rfl⟩
 have zero : r.L = [] ↔ r.L.length = 0 := by
  constructor
  ·intro h; rw [h]; rfl
  ·exact List.length_eq_zero_iff.1
 rw [M.a4c]; try dsimp only
 unfold Shp
 rw [one, zero]
 by_cases hm : r.Min = 0
 ·rw [if_pos hm, l0]
  refine ⟨_, rfl, ?_⟩
  split
  ·rename_i h1; simp [h1, hm]
  ·split
   ·rename_i h1 h2; rcases h2 with h2 | h2 <;> simp [h2, hm]
   ·rename_i h1 h2; simp only [not_or] at h2; simp [h1, h2.1, h2.2, hm, and_assoc]
 ·rw [if_neg hm, l0]
  refine ⟨_, rfl, ?_⟩
  split
  ·rename_i h1; simp [h1, hm]
  ·split
   ·rename_i h1 h2; rcases h2 with h2 | h2 <;> simp [h2, hm]
   ·rename_i h1 h2; simp only [not_or] at h2; simp [h1, h2.1, h2.2, hm, and_assoc]
theorem right_tot (d : Nat) : ∀ r : T26, Dp d r → Fit d r → nds r.L ≤ 4096 → ∃ b, M.ak r = some b ∧ (b = true ↔ Rt d r) := by
 induction d with
 | zero => intro r h; exact absurd h id
 | succ d ih =>
  intro r hd hf hn
  obtain ⟨bs, s1, s2⟩ := shaped_iff r
  have loop : ∀ (L pre : List T26), r.L = pre ++ L → ∃ b, M.ax (r, r.L, (r.L.length : Int), (pre.length : Int)) = some b ∧ (b = true ↔ (Shp r ∧ ∀ x ∈ L, Rt d x)) := by
   intro L
   induction L with
   | nil =>
    intro pre e
    refine ⟨bs, ?_, by simpa using s2⟩
    rw [M.ax]; try dsimp only
    rw [if_neg (by rw [e]; simp), s1, bnd]
   | cons x L ihL =>
    intro pre e
    have hlen : r.L.length = pre.length + (L.length + 1) := by rw [e]; simp
    have hx : x ∈ r.L := by rw [e]; simp
    have hl := nds_len r.L
    have hnx : nds x.L ≤ 4096 := by
     have : ∀ (l : List T26), x ∈ l → nd x ≤ nds l := by
      intro l
      induction l with
      | nil => simp
      | cons y l ih =>
       intro h
       rw [nds]
       rcases List.mem_cons.1 h with rfl | h
       ·omega
       ·have := ih h; omega
     have := this _ hx
     rw [nd_eq] at this
     omega
    obtain ⟨b, h1, h2⟩ := ih x (hd x hx) (hf.2.2 x hx) hnx
    rw [M.ax]; try dsimp only
    rw [if_pos (by omega), if_pos (by omega), if_pos (by omega), show gi r.L (pre.length : Int) = x by rw [e]; exact gi_mid pre x L, eta27, h1, bnd]
    cases b with
    | false =>
     refine ⟨false, by rw [if_neg (by decide)], ?_⟩
     simp only [Bool.false_eq_true, false_iff] at h2 ⊢
     rintro ⟨_, h⟩
     exact h2 (h x (by simp))
    | true =>
     rw [if_pos rfl, wr_i64 (by omega) (by omega)]
     obtain ⟨b', g1, g2⟩ := ihL (pre ++ [x]) (by rw [e]; simp)
     rw [show (((pre ++ [x]).length : Nat) : Int) = (pre.length : Int) + 1 by simp] at g1
     refine ⟨b', g1, g2.trans ?_⟩
     have := h2.1 rfl
     simp [this]
  obtain ⟨b, h1, h2⟩ := loop r.L [] rfl
  refine ⟨b, ?_, h2.trans ⟨fun h => ⟨h.1, hf.1, h.2⟩, fun h => ⟨h.1, h.2.2⟩⟩⟩
  rw [M.ak]; try dsimp only
  exact h1
theorem check_tot (r : T26) (hf : Fit 128 r) : ∃ b, M.a35 r = some b ∧ (b = true ↔ (Rt 128 r ∧ nd r ≤ 4096)) := by
 obtain ⟨b, n, h1, h2, h3⟩ := count_tot 128 (Nat.le_refl _) r 0 hf (by omega)
 have hs : M.a34 r = if b = true then M.ak r >>= fun y8 => if y8 = true then some (n : Int) else some 0 else some 0 := by
  rw [M.a34]
  have h1' : M.aa (r, 128, 0) = some (b, (n : Int)) := h1
  rw [h1', bnd]
 rw [M.a35, hs]
 cases b with
 | false =>
  rw [if_neg (by decide), bnd]
  refine ⟨_, rfl, ?_⟩
  simp only [gt_iff_lt, Int.lt_irrefl, decide_false, Bool.false_eq_true, false_iff]
  rintro ⟨k1, k2⟩
  have := h3 (by omega) k1.dp
  cases this
 | true =>
  obtain ⟨k1, k2, k3⟩ := h2 rfl
  obtain ⟨c, g1, g2⟩ := right_tot 128 r k3 hf (by rw [nd_eq] at k1; omega)
  rw [if_pos rfl, g1, bnd]
  cases c with
  | false =>
   rw [if_neg (by decide), bnd]
   refine ⟨_, rfl, ?_⟩
   simp only [gt_iff_lt, Int.lt_irrefl, decide_false, Bool.false_eq_true, false_iff] at g2 ⊢
   rintro ⟨k, _⟩
   exact g2 k
  | true =>
   have := nd_pos r
   rw [if_pos rfl, bnd]
   refine ⟨_, rfl, ?_⟩
   simp only [true_iff] at g2
   simp only [gt_iff_lt, decide_eq_true_eq]
   exact ⟨fun _ => ⟨g2, by omega⟩, fun _ => by omega⟩
theorem nd_mem {x : T26} : ∀ {l : List T26}, x ∈ l → nd x ≤ nds l
 | [], h => by simp at h
 | y :: l, h => by
  rw [nds]
  rcases List.mem_cons.1 h with rfl | h
  ·omega
  ·have := nd_mem h; omega
theorem gi_nat {α : Type} [Inhabited α] (l : List α) (i : Nat) (h : i < l.length) : gi l (i : Int) = l[i] := by
 simp [gi, h]
theorem gi_mem {α : Type} [Inhabited α] (l : List α) (x : Int) (h0 : 0 ≤ x) (h1 : x < l.length) : gi l x ∈ l := by
 have : x.toNat < l.length := by omega
 simp only [gi, List.getD_eq_getElem?_getD, List.getElem?_eq_getElem this, Option.getD_some]
 exact List.getElem_mem _
section
end
theorem iquo64 {b : Int} (h0 : 0 ≤ b) (h1 : b ≤ 255) : iquo .u8 b 64 = b / 64 := by
 simp only [iquo]
 rw [Int.tdiv_eq_ediv_of_nonneg h0]
 simp only [IntKind.wrap, IntKind.signed, IntKind.bits]
 simp
 omega
theorem irem64 {b : Int} (h0 : 0 ≤ b) : irem .u8 b 64 = b % 64 := by
 simp only [irem]
 rw [Int.tmod_eq_emod_of_nonneg h0]
theorem has_tot (z : List Int) {b : Int} (h0 : 0 ≤ b) (h1 : b ≤ 255) : ∃ v, M.a1r z b = some v := by
 rw [M.a1r, iquo64 h0 h1, irem64 h0, if_pos (by omega), if_pos (by omega), if_pos (by omega)]
 exact ⟨_, rfl⟩
section
end
theorem bit_eq {y : Int} (h0 : 0 ≤ y) (h1 : y < 18446744073709551616) : decide (irem .u64 y 2 = 1) = decide (iand .u64 y 1 = 1) := by
 obtain ⟨n, rfl⟩ := Int.eq_ofNat_of_zero_le h0
 have e1 : irem .u64 (n : Int) 2 = ((n % 2 : Nat) : Int) := by
  simp only [irem]
  rw [Int.tmod_eq_emod_of_nonneg (Int.natCast_nonneg _)]
  rfl
 have e2 : iand .u64 (n : Int) 1 = ((n % 2 : Nat) : Int) := by
  unfold iand
  have hb : ((BitVec.ofInt IntKind.u64.bits (n : Int)) &&& (BitVec.ofInt IntKind.u64.bits 1)).toNat = n % 2 := by
   rw [BitVec.toNat_and]
   have a1 : (BitVec.ofInt IntKind.u64.bits (n : Int)).toNat = n := by
    simp only [IntKind.bits, BitVec.toNat_ofInt]
    have : (n : Int) % ((2 ^ 64 : Nat) : Int) = (n : Int) := Int.emod_eq_of_lt (by omega) (by omega)
    rw [this]
    rfl
   have a2 : (BitVec.ofInt IntKind.u64.bits 1).toNat = 1 := by decide
   rw [a1, a2, Nat.and_one_is_mod]
  rw [hb]
  simp only [IntKind.wrap, IntKind.signed, IntKind.bits]
  have : n % 2 < 2 := Nat.mod_lt _ (by omega)
  simp
  omega
 rw [e1, e2]
theorem refhas (z : List Int) (hz : SetOk z) {b : Int} (h0 : 0 ≤ b) (h1 : b ≤ 255) : M.a5t z b = M.a1r z b := by
 rw [M.a5t, M.a1r, iquo64 h0 h1, irem64 h0, if_pos (by omega), if_pos (by omega), if_pos (by omega), if_pos (by omega), if_pos (by omega), if_pos (by omega)]
 have hm := hz.2 _ (gi_mem z (b / 64) (by omega) (by rw [hz.1]; omega))
 generalize gi z (b / 64) = w at hm
 generalize hk : b % 64 = k
 have e : ishr .u64 w k = w / (2 ^ (min k.toNat 64) : Int) := by
  unfold ishr
  exact Int.fdiv_eq_ediv_of_nonneg _ (by exact_mod_cast Nat.zero_le _)
 have p : (0 : Int) < 2 ^ (min k.toNat 64) := by exact_mod_cast Nat.pow_pos (by omega)
 rw [e, bit_eq (Int.ediv_nonneg hm.1 (by omega)) (Int.lt_of_le_of_lt (Int.ediv_le_self _ hm.1) hm.2)]
section
variable (s : ByteArray) (hs : s.size ≤ 100)
include hs
end
end Go.Proofs.YtdccklkdakfnaaaGreat
/-
 Texts, rising, each once; a text's grams; the texts of sets, and those behind one another.
-/
set_option linter.unusedVariables false
set_option linter.unusedSimpArgs false
namespace Go.Proofs.YtdccklkdakfnaaaGreat
open Go.Gx
/-! ### Rising, each once -/
abbrev Tl (x : ByteArray) : List UInt8 := x.data.toList
theorem Tl_inj {x y : ByteArray} (h : Tl x = Tl y) : x = y := by
 cases x; cases y
 simpa using Array.toList_inj.1 h
abbrev RzS (l : List ByteArray) : Prop := l.Pairwise fun x y => Tl x < Tl y
def nrm (l : List ByteArray) : List ByteArray := cmpL (srtS l)
theorem srtS_perm' (l : List ByteArray) : (srtS l).Perm l := by
 have h := (List.mergeSort_perm (l.map (·.data.toList)) (fun x y => decide (x ≤ y))).map fun l : List UInt8 => (⟨l.toArray⟩ : ByteArray)
 rw [List.map_map] at h
 have e : ((fun l : List UInt8 => (⟨l.toArray⟩ : ByteArray)) ∘ fun x : ByteArray => x.data.toList) = id := by funext x; rfl
 rw [e, List.map_id] at h
 exact h
theorem srtS_rises (l : List ByteArray) : (srtS l).Pairwise fun x y => Tl x ≤ Tl y := by
 have h := List.pairwise_mergeSort (le := fun x y : List UInt8 => decide (x ≤ y)) (fun a b c h1 h2 => by simp only [decide_eq_true_eq] at *; exact List.le_trans h1 h2) (fun a b => by simp only [Bool.or_eq_true, decide_eq_true_eq]; exact List.le_total a b) (l.map (·.data.toList))
 unfold srtS
 rw [List.pairwise_map]
 exact h.imp fun h => by simpa using h
theorem cmpR_sub {α : Type} [DecidableEq α] : ∀ (p : α) (l : List α), (cmpR p l).Sublist l
 | p, [] => by simp [cmpR]
 | p, y :: ys => by
  simp only [cmpR]
  split
  ·exact (cmpR_sub p ys).cons _
  ·exact (cmpR_sub y ys).cons_cons _
theorem cmpR_rises : ∀ (p : ByteArray) (l : List ByteArray), (p :: l).Pairwise (fun x y => Tl x ≤ Tl y) → (p :: cmpR p l).Pairwise fun x y => Tl x < Tl y
 | p, [], _ => by simp [cmpR]
 | p, y :: ys, h => by
  rw [List.pairwise_cons] at h
  have h2 := List.pairwise_cons.1 h.2
  simp only [cmpR]
  split
  ·rename_i e
   subst e
   exact cmpR_rises y ys h.2
  ·rename_i e
   have ih := cmpR_rises y ys h.2
   refine List.pairwise_cons.2 ⟨fun z hz => ?_, ih⟩
   have hpy : Tl p < Tl y := by
    have := h.1 y (by simp)
    rcases List.le_iff_lt_or_eq.1 this with h | h
    ·exact h
    ·exact absurd (Tl_inj h).symm e
   rcases List.mem_cons.1 hz with rfl | hz
   ·exact hpy
   ·exact List.lt_trans hpy ((List.pairwise_cons.1 ih).1 z hz)
theorem mem_cmpR {α : Type} [DecidableEq α] (v : α) : ∀ (p : α) (l : List α), (v = p ∨ v ∈ cmpR p l) ↔ (v = p ∨ v ∈ l)
 | p, [] => by simp [cmpR]
 | p, y :: ys => by
  simp only [cmpR]
  split
  ·rename_i e
   subst e
   rw [mem_cmpR v y ys, List.mem_cons]
   simp
  ·rw [List.mem_cons, mem_cmpR v y ys, List.mem_cons]
theorem nrm_rises (l : List ByteArray) : RzS (nrm l) := by
 unfold nrm
 have h := srtS_rises l
 cases hs : srtS l with
 | nil => exact List.Pairwise.nil
 | cons x xs => rw [hs] at h; exact cmpR_rises x xs h
theorem mem_nrm {l : List ByteArray} {v : ByteArray} : v ∈ nrm l ↔ v ∈ l := by
 rw [← (srtS_perm' l).mem_iff]
 unfold nrm
 cases hs : srtS l with
 | nil => simp [cmpL]
 | cons x xs => rw [cmpL, List.mem_cons, mem_cmpR, List.mem_cons]
theorem rzS_ext : ∀ {a b : List ByteArray}, RzS a → RzS b → (∀ v, v ∈ a ↔ v ∈ b) → a = b
 | [], [], _, _, _ => rfl
 | [], y :: ys, _, _, h => absurd ((h y).2 (by simp)) (by simp)
 | x :: xs, [], _, _, h => absurd ((h x).1 (by simp)) (by simp)
 | x :: xs, y :: ys, ha, hb, h => by
  have ha' := List.pairwise_cons.1 ha
  have hb' := List.pairwise_cons.1 hb
  have hxy : x = y := by
   rcases List.mem_cons.1 ((h x).1 (by simp)) with e | e
   ·exact e
   ·rcases List.mem_cons.1 ((h y).2 (by simp)) with e' | e'
    ·exact e'.symm
    ·exact absurd (List.lt_trans (ha'.1 y e') (hb'.1 x e)) (List.lt_irrefl _)
  subst hxy
  congr 1
  refine rzS_ext ha'.2 hb'.2 fun v => ⟨fun hv => ?_, fun hv => ?_⟩
  ·rcases List.mem_cons.1 ((h v).1 (by simp [hv])) with rfl | e
   ·exact absurd (ha'.1 v hv) (List.lt_irrefl _)
   ·exact e
  ·rcases List.mem_cons.1 ((h v).2 (by simp [hv])) with rfl | e
   ·exact absurd (hb'.1 v hv) (List.lt_irrefl _)
   ·exact e
theorem nrm_eq {l m : List ByteArray} (hm : RzS m) (h : ∀ v, v ∈ m ↔ v ∈ l) : nrm l = m := rzS_ext (nrm_rises l) hm fun v => by rw [mem_nrm, h]
theorem nrm_len (l : List ByteArray) : (nrm l).length ≤ l.length := by
 have h1 := (srtS_perm' l).length_eq
 unfold nrm
 have : (cmpL (srtS l)).length ≤ (srtS l).length := by
  cases hs : srtS l with
  | nil => exact Nat.le_refl _
  | cons x xs => rw [cmpL, List.length_cons, List.length_cons]; have := (cmpR_sub x xs).length_le; omega
 omega
/-! ### A text's grams -/
def wins (s : ByteArray) : List ByteArray := (List.range (s.size - 2)).map fun i : Nat => ss s (i : Int) ((i : Int) + 3)
theorem windows_ok (s : ByteArray) (hs : s.size ≤ 1000000) : M.a39 [] s = some (wins s) := by
 have e0 : wr .i64 (wr .i64 ((s.size : Int) - 3) + 1) = (s.size : Int) - 2 := by
  rw [wr_i64 (x := (s.size : Int) - 3) (by omega) (by omega), wr_i64 (by omega) (by omega)]; omega
 have loop : ∀ (k i : Nat), i + k = s.size - 2 → M.a14 ((s.size : Int) - 2, (i : Int), ((List.range i).map fun i : Nat => ss s (i : Int) ((i : Int) + 3)), s) = some (wins s) := by
  intro k
  induction k with
  | zero =>
   intro i hi
   rw [M.a14]; try dsimp only
   rw [if_neg (by omega), show i = s.size - 2 by omega]
   rfl
  | succ k ih =>
   intro i hi
   rw [M.a14]; try dsimp only
   rw [if_pos (by omega), if_pos (by omega), wr_i64 (x := (i : Int) + 3) (by omega) (by omega), if_pos (by omega), if_pos (by omega), M.a5j, if_pos (by simp; omega), bnd, wr_i64 (x := (i : Int) + 1) (by omega) (by omega), show (i : Int) + 1 = ((i + 1 : Nat) : Int) by push_cast; rfl]
   have := ih (i + 1) (by omega)
   rw [List.range_succ, List.map_append] at this
   exact this
 rw [M.a39, e0]
 exact loop (s.size - 2) 0 (by omega)
theorem wins_len (s : ByteArray) : (wins s).length = s.size - 2 := by simp [wins]
theorem srtS_length (l : List ByteArray) : (srtS l).length = l.length := (srtS_perm' l).length_eq
theorem grams_ok (s : ByteArray) (hs : s.size ≤ 1000000) : M.a2f s = some (nrm (wins s)) := by
 have hw := wins_len s
 rw [M.a2f, M.a5k, bnd, M.a4j, M.a4i, M.a4h, windows_ok s hs, bnd, bnd, bnd, if_pos (by omega), bnd, if_pos (by rw [srtS_length]; omega)]
 rfl
/-! ### Texts that are told: none, if there are none to tell -/
def tO : Option (List ByteArray) → T218
 | none => ⟨[], false⟩
 | some l => ⟨l, true⟩
def ofS (l : List ByteArray) : Option (List ByteArray) := if (nrm l).length > 32 then none else some (nrm l)
theorem of_ok (l : List ByteArray) (h : l.length ≤ 1000000) : M.ay l = some (tO (ofS l)) := by
 unfold ofS
 rw [M.ay, if_pos (by omega)]
 by_cases hc : (nrm l).length > 32
 ·rw [if_pos (show ((cmpL (srtS l)).length : Int) > 32 from (by have : (cmpL (srtS l)).length > 32 := hc; omega)), if_pos hc]; rfl
 ·rw [if_neg (show ¬ ((cmpL (srtS l)).length : Int) > 32 from (by have : ¬ (cmpL (srtS l)).length > 32 := hc; omega)), if_neg hc]; rfl
theorem of3_ok : M.a36 = some (tO (some [])) := by
 have e : srtS ([] : List ByteArray) = [] := List.eq_nil_of_length_eq_zero (by rw [srtS_length]; rfl)
 rw [M.a36, if_pos (by omega), e, if_neg (by simp [cmpL])]
 rfl
def cross (a b : List ByteArray) : List ByteArray := a.flatMap fun x => b.map fun y => x ++ y
def behS : Option (List ByteArray) → Option (List ByteArray) → Option (List ByteArray)
 | some a, some b => if ∃ x ∈ a, ∃ y ∈ b, x.size + y.size > 32 then none else ofS (cross a b)
 | _, _ => none
theorem cross_cons (x : ByteArray) (a b : List ByteArray) : cross (x :: a) b = (b.map fun y => x ++ y) ++ cross a b := rfl
theorem cross_len (a b : List ByteArray) : (cross a b).length = a.length * b.length := by
 induction a with
 | nil => simp [cross]
 | cons x a ih => rw [cross_cons, List.length_append, List.length_map, ih, List.length_cons, Nat.succ_mul]; omega
theorem behind_run (a b : List ByteArray) (x3 x4 : T218) (h3 : x3.l = b) (ha : a.length ≤ 1000) (hb : b.length ≤ 1000) (hsz : ∀ y ∈ b, y.size ≤ 1000000) : ∀ (R pre acc : List ByteArray), a = pre ++ R → (∀ x ∈ R, x.size ≤ 1000000) → acc.length ≤ pre.length * b.length →
  M.ac (x3, x4, acc, a, (a.length : Int), (pre.length : Int)) = some (tO (if ∃ x ∈ R, ∃ y ∈ b, x.size + y.size > 32 then none else ofS (acc ++ cross R b))) := by
 intro R
 induction R with
 | nil =>
  intro pre acc e hR hl
  have hpl : pre.length ≤ 1000 := by rw [e] at ha; simpa using ha
  have hm : pre.length * b.length ≤ 1000 * 1000 := Nat.mul_le_mul hpl hb
  rw [M.ac]; try dsimp only
  rw [if_neg (by rw [e]; simp), of_ok acc (by omega), bnd, if_neg (by simp)]
  simp [cross]
 | cons x R ih =>
  intro pre acc e hR hl
  have hlen : a.length = pre.length + (R.length + 1) := by rw [e]; simp
  have hm : (pre.length + 1) * b.length ≤ 1000 * 1000 := Nat.mul_le_mul (by omega) hb
  rw [Nat.add_mul, Nat.one_mul] at hm
  have hx := hR x (by simp)
  have inner : ∀ (Q qre : List ByteArray) (acc2 : List ByteArray), b = qre ++ Q → acc2.length ≤ pre.length * b.length + qre.length →
    M.az (x3, x4, acc2, x, a, (a.length : Int), (pre.length : Int), b, (b.length : Int), (qre.length : Int)) = if ∃ y ∈ Q, x.size + y.size > 32 then some (tO none) else M.ac (x3, x4, acc2 ++ Q.map (fun y => x ++ y), a, (a.length : Int), ((pre.length + 1 : Nat) : Int)) := by
   intro Q
   induction Q with
   | nil =>
    intro qre acc2 eb hq
    rw [M.az]; try dsimp only
    rw [if_neg (by rw [eb]; simp), if_neg (by simp), wr_i64 (x := (pre.length : Int) + 1) (by omega) (by omega), show (pre.length : Int) + 1 = ((pre.length + 1 : Nat) : Int) by push_cast; rfl]
    simp
   | cons y Q ihq =>
    intro qre acc2 eb hq
    have hbl : b.length = qre.length + (Q.length + 1) := by rw [eb]; simp
    have hy := hsz y (by rw [eb]; simp)
    rw [M.az]; try dsimp only
    rw [if_pos (by omega), if_pos (by omega), if_pos (by omega), show gi b (qre.length : Int) = y by rw [eb]; exact gi_mid qre y Q, wr_i64 (x := (x.size : Int) + (y.size : Int)) (by omega) (by omega)]
    by_cases hc : x.size + y.size > 32
    ·rw [if_pos (by omega), if_pos ⟨y, by simp, hc⟩]
     rfl
    ·rw [if_neg (by omega), if_pos (by omega), if_pos (by simp; omega), wr_i64 (x := (qre.length : Int) + 1) (by omega) (by omega)]
     have := ihq (qre ++ [y]) (acc2 ++ [x ++ y]) (by rw [eb]; simp) (by simp; omega)
     rw [show (((qre ++ [y]).length : Nat) : Int) = (qre.length : Int) + 1 by simp] at this
     rw [this]
     have hiff : (∃ z ∈ y :: Q, x.size + z.size > 32) ↔ ∃ z ∈ Q, x.size + z.size > 32 := by
      constructor
      ·rintro ⟨z, hz, h⟩
       rcases List.mem_cons.1 hz with rfl | hz
       ·exact absurd h hc
       ·exact ⟨z, hz, h⟩
      ·rintro ⟨z, hz, h⟩
       exact ⟨z, List.mem_cons_of_mem _ hz, h⟩
     simp only [hiff, List.map_cons, List.append_assoc, List.cons_append, List.nil_append]
  rw [M.ac]; try dsimp only
  rw [if_pos (by omega), if_pos (by omega), if_pos (by omega), show gi a (pre.length : Int) = x by rw [e]; exact gi_mid pre x R, h3]
  have hin := inner b [] acc rfl (by simp; omega)
  rw [show ((([] : List ByteArray).length : Nat) : Int) = 0 from rfl] at hin
  rw [hin]
  by_cases hc : ∃ y ∈ b, x.size + y.size > 32
  ·rw [if_pos hc, if_pos ⟨x, by simp, hc⟩]
  ·rw [if_neg hc]
   have := ih (pre ++ [x]) (acc ++ b.map (fun y => x ++ y)) (by rw [e]; simp) (fun z hz => hR z (List.mem_cons_of_mem _ hz)) (by simp [Nat.add_mul]; omega)
   rw [show (pre ++ [x]).length = pre.length + 1 by simp] at this
   rw [this]
   have hiff : (∃ z ∈ x :: R, ∃ y ∈ b, z.size + y.size > 32) ↔ ∃ z ∈ R, ∃ y ∈ b, z.size + y.size > 32 := by
    constructor
    ·rintro ⟨z, hz, h⟩
     rcases List.mem_cons.1 hz with rfl | hz
     ·exact absurd h hc
     ·exact ⟨z, hz, h⟩
    ·rintro ⟨z, hz, h⟩
     exact ⟨z, List.mem_cons_of_mem _ hz, h⟩
   simp only [hiff, cross_cons, List.append_assoc]
def TxOk : Option (List ByteArray) → Prop
 | none => True
 | some l => l.length ≤ 256 ∧ ∀ x ∈ l, x.size ≤ 1000
theorem behind_ok (a b : Option (List ByteArray)) (ha : TxOk a) (hb : TxOk b) : M.a2c (tO a) (tO b) = some (tO (behS a b)) := by
 rw [M.a2c]
 cases a with
 | none =>
  rw [if_neg (by simp [tO]), M.a2b]; try dsimp only
  rw [if_pos rfl]
  cases b <;> rfl
 | some a =>
  rw [if_pos (show (tO (some a)).known = true from rfl), M.a2b]; try dsimp only
  cases b with
  | none => rw [if_pos (by rfl)]; rfl
  | some b =>
   rw [if_neg (by simp [tO])]
   have := behind_run a b (tO (some b)) ⟨[], false⟩ rfl (by have := ha.1; omega) (by have := hb.1; omega) (fun y hy => by have := hb.2 y hy; omega) a [] [] rfl (fun x hx => by have := ha.2 x hx; omega) (by simp)
   exact this
end Go.Proofs.YtdccklkdakfnaaaGreat
/-
 The texts of a pattern: what the program tells.
-/
set_option linter.unusedVariables false
set_option linter.unusedSimpArgs false
namespace Go.Proofs.YtdccklkdakfnaaaGreat
open Go.Gx
/-! ### A set's texts -/
def hb (z : List Int) (b : Nat) : Bool := (M.a1r z (b : Int)).getD false
def memL (z : List Int) (n : Nat) : List ByteArray := ((List.range n).filter (hb z)).map fun b : Nat => b2s [(b : Int)]
def memS (z : List Int) : Option (List ByteArray) := if (memL z 256).length > 8 then none else some (memL z 256)
theorem memL_succ (z : List Int) (n : Nat) : memL z (n + 1) = if hb z n = true then memL z n ++ [b2s [(n : Int)]] else memL z n := by
 unfold memL
 rw [List.range_succ, List.filter_append]
 by_cases h : hb z n = true
 ·rw [if_pos h]; simp [h]
 ·rw [if_neg h]; simp [h]
theorem memL_len (z : List Int) (n : Nat) : (memL z n).length ≤ n := by
 unfold memL
 rw [List.length_map]
 exact Nat.le_trans (List.length_filter_le _ _) (by simp)
theorem wr_u8n : ∀ n : Nat, n < 256 → wr .u8 (n : Int) = (n : Int) := by decide +kernel
theorem members_ok (z : List Int) : M.a4d z = some (tO (memS z)) := by
 have loop : ∀ (k i : Nat), i + k = 256 → M.ab (z, ⟨[], false⟩, memL z i, (i : Int)) = some (tO (memS z)) := by
  intro k
  induction k with
  | zero =>
   intro i hi
   have : i = 256 := by omega
   subst this
   rw [M.ab]; try dsimp only
   rw [if_neg (by decide)]
   unfold memS
   by_cases h : (memL z 256).length > 8
   ·rw [if_pos (by omega), if_pos h]; rfl
   ·rw [if_neg (by omega), if_neg h]; rfl
  | succ k ih =>
   intro i hi
   have hl := memL_len z i
   obtain ⟨v, hv⟩ := has_tot z (b := (i : Int)) (by omega) (by omega)
   have hbv : hb z i = v := by unfold hb; rw [hv]; rfl
   have l1 : ∀ w, M.a1s (z, ⟨[], false⟩, w, (i : Int)) = M.ab (z, ⟨[], false⟩, w, ((i + 1 : Nat) : Int)) := by
    intro w
    rw [M.a1s]; try dsimp only
    rw [wr_i64 (by omega) (by omega), show (i : Int) + 1 = ((i + 1 : Nat) : Int) by push_cast; rfl]
   rw [M.ab]; try dsimp only
   rw [if_pos (by omega), wr_u8n i (by omega), hv, bnd]
   rw [← ih (i + 1) (by omega), memL_succ, hbv]
   cases v with
   | true => rw [if_pos rfl, if_pos (by simp; omega), l1, if_pos rfl]
   | false => rw [if_neg (by decide), l1, if_neg (by decide)]
 exact loop 256 0 rfl
/-! ### Lists put together, lists repeated -/
theorem grow_ok (n : Nat) (h : n ≤ 1000000) : M.a4e (n : Int) = some [] := by
 rw [M.a4e, if_neg (by omega), M.a5y]; try dsimp only
 rw [wr_i64 (by omega) (by omega)]
 by_cases h0 : (n : Int) - 0 > 0
 ·rw [if_pos h0, if_pos (by omega), if_pos (by omega), bnd]; rfl
 ·rw [if_neg h0]
theorem concat_ok (a b : List ByteArray) (ha : a.length ≤ 100000) (hb : b.length ≤ 100000) : M.a2e [a, b] = some (a ++ b) := by
 have g0 : gi [a, b] 0 = a := rfl
 have g1 : gi [a, b] 1 = b := rfl
 have h2 : (([a, b] : List (List ByteArray)).length : Int) = 2 := rfl
 rw [M.a2e, h2, M.al]; try dsimp only
 rw [if_pos (by omega), if_pos (by omega), if_pos (by rw [h2]; omega), g0, wr_i64 (x := 0 + (a.length : Int)) (by omega) (by omega), if_neg (by omega), M.a2d]; try dsimp only
 rw [wr_i64 (x := (0 : Int) + 1) (by omega) (by omega), M.al]; try dsimp only
 rw [if_pos (by omega), if_pos (by omega), if_pos (by rw [h2]; omega), show gi [a, b] (0 + 1) = b from rfl, wr_i64 (x := 0 + (a.length : Int) + (b.length : Int)) (by omega) (by omega), if_neg (by omega), M.a2d]; try dsimp only
 rw [wr_i64 (x := (0 : Int) + 1 + 1) (by omega) (by omega), M.al]; try dsimp only
 rw [if_neg (by omega), show 0 + (a.length : Int) + (b.length : Int) = ((a.length + b.length : Nat) : Int) by push_cast; omega, grow_ok _ (by omega), bnd, h2, M.a10]; try dsimp only
 rw [if_pos (by omega), if_pos (by omega), if_pos (by rw [h2]; omega), g0, List.nil_append, if_pos (by omega), wr_i64 (x := (0 : Int) + 1) (by omega) (by omega), M.a10]; try dsimp only
 rw [if_pos (by omega), if_pos (by omega), if_pos (by rw [h2]; omega), show gi [a, b] (0 + 1) = b from rfl, if_pos (by simp; omega), wr_i64 (x := (0 : Int) + 1 + 1) (by omega) (by omega), M.a10]; try dsimp only
 rw [if_neg (by omega)]
theorem mul_ok : ∀ n : Nat, n < 65 → M.a5z 1 (n : Int) = some (0, (n : Int)) := by decide +kernel
theorem wr_u64n : ∀ n : Nat, n < 65 → wr .u64 (n : Int) = (n : Int) := by decide +kernel
theorem repeat_run (x z : T26) (n : Nat) (hn : n ≤ 64) : ∀ (fuel k : Nat), 1 ≤ k → k ≤ n → n ≤ k + fuel → M.am (List.replicate k x ++ List.replicate (n - k) z, (k : Int)) = some (List.replicate n x) := by
 intro fuel
 induction fuel with
 | zero =>
  intro k h1 h2 h3
  have : k = n := by omega
  subst this
  rw [M.am]; try dsimp only
  rw [if_neg (by simp)]
  simp
 | succ fuel ih =>
  intro k h1 h2 h3
  have hl : (List.replicate k x ++ List.replicate (n - k) z).length = n := by simp; omega
  rw [M.am]; try dsimp only
  rw [hl]
  by_cases hk : (k : Int) < (n : Int)
  ·rw [if_pos hk, if_pos (by omega), if_pos (by omega), bnd]
   have e1 : sl (List.replicate k x ++ List.replicate (n - k) z) 0 (k : Int) = List.replicate k x := by simp [sl]
   have e2 : cpy (List.replicate k x ++ List.replicate (n - k) z) k (n - k) (List.replicate k x) = List.replicate (k + min k (n - k)) x ++ List.replicate (n - (k + min k (n - k))) z := by
    unfold cpy
    rw [List.take_append_of_le_length (by simp), List.take_of_length_le (by simp), List.take_replicate, List.length_replicate]
    have e3 : (List.replicate k x ++ List.replicate (n - k) z).drop (k + min k (n - k)) = List.replicate (n - (k + min k (n - k))) z := by
     rw [List.drop_append, List.length_replicate, List.drop_eq_nil_of_le (by simp), List.nil_append, List.drop_replicate]
     congr 1; omega
    rw [e3, ← List.append_assoc, List.replicate_append_replicate, Nat.min_comm (n - k) k]
   simp only [Int.toNat_natCast, e1, e2]
   rw [show ((min (k - Int.toNat 0) (n - k) : Nat) : Int) = ((min k (n - k) : Nat) : Int) by simp, wr_i64 (by omega) (by omega), show (k : Int) + ((min k (n - k) : Nat) : Int) = ((k + min k (n - k) : Nat) : Int) by push_cast; rfl]
   exact ih (k + min k (n - k)) (by omega) (by omega) (by omega)
  ·have : k = n := by omega
   subst this
   rw [if_neg hk]
   simp
theorem repeat_ok (x : T26) (n : Nat) (hn : n ≤ 64) : M.a38 [x] (n : Int) = some (List.replicate n x) := by
 rw [M.a38, if_neg (by omega), M.a4g]; try dsimp only
 rw [show wr .u64 (([x] : List T26).length : Int) = 1 from (by show wr .u64 1 = 1; decide +kernel), wr_u64n n (by omega), M.a5i, mul_ok n (by omega), bnd, bnd]; try dsimp only
 rw [if_neg (by decide), decide_eq_false (by omega), M.a37]; try dsimp only
 rw [if_neg (by decide), M.a4f]; try dsimp only
 rw [wr_i64 (by omega) (by omega), if_pos (by omega), if_pos (by omega), Int.toNat_natCast, bnd, List.length_replicate]
 by_cases h0 : n = 0
 ·subst h0
  rw [M.am]; try dsimp only
  rw [if_neg (by simp [cpy])]
  simp [cpy]
 ·have e1 : cpy (List.replicate n (⟨0, [0, 0, 0, 0], [], 0, 0⟩ : T26)) 0 n [x] = List.replicate 1 x ++ List.replicate (n - 1) ⟨0, [0, 0, 0, 0], [], 0, 0⟩ := by
   unfold cpy
   rw [List.take_zero, List.nil_append, List.take_of_length_le (by simp; omega), List.drop_replicate]
   congr 2
   simp; omega
  rw [e1, show min ([x] : List T26).length n = 1 by simp; omega]
  exact repeat_run x _ n hn n 1 (by omega) (by omega) (by omega)
/-! ### The texts of a pattern -/
def eS : ByteArray := ⟨#[]⟩
def rowS (l : List (Option (List ByteArray))) : Option (List ByteArray) := l.foldl behS (some [eS])
def alS : Option (List ByteArray) → Option (List ByteArray) → Option (List ByteArray)
 | some a, some b => ofS (a ++ b)
 | _, _ => none
def anyS (l : List (Option (List ByteArray))) : Option (List ByteArray) := l.foldl alS (some [])
def tellS : Nat → T26 → Option (List ByteArray)
 | 0, _ => none
 | d + 1, r => if r.Kind = 1 then memS r.Set else if r.Kind = 2 then rowS (r.L.map (tellS d)) else if r.Kind = 3 then anyS (r.L.map (tellS d)) else if r.Min = r.Max then rowS ((List.replicate r.Min.toNat r.L).flatten.map (tellS d)) else none
def TxS : Option (List ByteArray) → Prop
 | none => True
 | some l => l.length ≤ 32 ∧ ∀ x ∈ l, x.size ≤ 32
theorem TxS.ok {t : Option (List ByteArray)} (h : TxS t) : TxOk t := by
 cases t with
 | none => trivial
 | some l => exact ⟨by have := h.1; omega, fun x hx => by have := h.2 x hx; omega⟩
theorem ofS_txs {l : List ByteArray} (h : ∀ x ∈ l, x.size ≤ 32) : TxS (ofS l) := by
 unfold ofS
 by_cases hc : (nrm l).length > 32
 ·rw [if_pos hc]; trivial
 ·rw [if_neg hc]; exact ⟨by omega, fun x hx => h x (mem_nrm.1 hx)⟩
theorem mem_cross {a b : List ByteArray} {v : ByteArray} : v ∈ cross a b ↔ ∃ x ∈ a, ∃ y ∈ b, v = x ++ y := by
 unfold cross
 simp only [List.mem_flatMap, List.mem_map]
 constructor
 ·rintro ⟨x, hx, y, hy, rfl⟩; exact ⟨x, hx, y, hy, rfl⟩
 ·rintro ⟨x, hx, y, hy, rfl⟩; exact ⟨x, hx, y, hy, rfl⟩
theorem behS_txs (a b : Option (List ByteArray)) : TxS (behS a b) := by
 cases a with
 | none => cases b <;> trivial
 | some a =>
  cases b with
  | none => trivial
  | some b =>
   simp only [behS]
   split
   ·trivial
   ·rename_i h
    refine ofS_txs fun x hx => ?_
    obtain ⟨u, hu, v, hv, rfl⟩ := mem_cross.1 hx
    rcases Nat.lt_or_ge 32 (u.size + v.size) with h' | h'
    ·exact absurd ⟨u, hu, v, hv, h'⟩ h
    ·simpa using h'
theorem alS_txs {a b : Option (List ByteArray)} (ha : TxS a) (hb : TxS b) : TxS (alS a b) := by
 cases a with
 | none => cases b <;> trivial
 | some a =>
  cases b with
  | none => trivial
  | some b =>
   refine ofS_txs fun x hx => ?_
   rcases List.mem_append.1 hx with h | h
   ·exact ha.2 x h
   ·exact hb.2 x h
theorem memS_txs (z : List Int) : TxS (memS z) := by
 unfold memS
 split
 ·trivial
 ·refine ⟨by omega, fun x hx => ?_⟩
  unfold memL at hx
  obtain ⟨b, _, rfl⟩ := List.mem_map.1 hx
  show (b2s [(b : Int)]).size ≤ 32
  simp [b2s, ByteArray.size]
theorem fold_txs (f : Option (List ByteArray) → Option (List ByteArray) → Option (List ByteArray)) (hf : ∀ a b, TxS a → TxS b → TxS (f a b)) : ∀ (l : List (Option (List ByteArray))) (a : Option (List ByteArray)), TxS a → (∀ x ∈ l, TxS x) → TxS (l.foldl f a)
 | [], a, ha, _ => ha
 | x :: l, a, ha, hl => fold_txs f hf l (f a x) (hf a x ha (hl x (by simp))) fun y hy => hl y (by simp [hy])
theorem eS_txs : TxS (some [eS]) := ⟨by simp, fun x hx => by rw [List.mem_singleton.1 hx]; decide⟩
theorem tellS_txs : ∀ (d : Nat) (r : T26), TxS (tellS d r)
 | 0, _ => trivial
 | d + 1, r => by
  rw [tellS]
  split
  ·exact memS_txs _
  ·split
   ·exact fold_txs behS (fun a b _ _ => behS_txs a b) _ _ eS_txs fun x hx => by obtain ⟨y, _, rfl⟩ := List.mem_map.1 hx; exact tellS_txs d y
   ·split
    ·exact fold_txs alS (fun a b => alS_txs) _ _ ⟨by simp, by simp⟩ fun x hx => by obtain ⟨y, _, rfl⟩ := List.mem_map.1 hx; exact tellS_txs d y
    ·split
     ·exact fold_txs behS (fun a b _ _ => behS_txs a b) _ _ eS_txs fun x hx => by obtain ⟨y, _, rfl⟩ := List.mem_map.1 hx; exact tellS_txs d y
     ·trivial
theorem behS_none (l : List (Option (List ByteArray))) : l.foldl behS none = none := by
 induction l with
 | nil => rfl
 | cons x l ih => exact ih
theorem alS_none (l : List (Option (List ByteArray))) : l.foldl alS none = none := by
 induction l with
 | nil => rfl
 | cons x l ih => exact ih
theorem of_eS : M.ay [(⟨#[]⟩ : ByteArray)] = some (tO (some [eS])) := by
 rw [of_ok _ (by simp)]
 have : nrm [(⟨#[]⟩ : ByteArray)] = [eS] := nrm_eq (List.pairwise_singleton _ _) fun v => by rfl
 unfold ofS
 rw [this, if_neg (by decide)]
theorem row_ok (f : T26 → Option (List ByteArray)) (hf : ∀ x, TxS (f x)) (L : List T26) (hL : L.length ≤ 4096) (h : ∀ x ∈ L, M.a3 x = some (tO (f x))) : M.a1t L = some (tO (rowS (L.map f))) := by
 have loop : ∀ (R pre : List T26) (t : List ByteArray), L = pre ++ R → TxS (some t) → M.a11 (⟨[], false⟩, ⟨t, true⟩, L, (L.length : Int), (pre.length : Int)) = some (tO ((R.map f).foldl behS (some t))) := by
  intro R
  induction R with
  | nil =>
   intro pre t e ht
   rw [M.a11]; try dsimp only
   rw [if_neg (by rw [e]; simp)]
   rfl
  | cons x R ih =>
   intro pre t e ht
   have hlen : L.length = pre.length + (R.length + 1) := by rw [e]; simp
   rw [M.a11]; try dsimp only
   rw [if_pos (by omega), if_pos (by omega), if_pos (by omega), show gi L (pre.length : Int) = x by rw [e]; exact gi_mid pre x R, eta27, h x (by rw [e]; simp), bnd, show (⟨t, true⟩ : T218) = tO (some t) from rfl, behind_ok _ _ ht.ok (hf x).ok, bnd, List.map_cons, List.foldl_cons]
   have hb := behS_txs (some t) (f x)
   cases hbe : behS (some t) (f x) with
   | none =>
    rw [if_neg (by simp [tO]), behS_none]; rfl
   | some u =>
    rw [hbe] at hb
    rw [if_pos (show (tO (some u)).known = true from rfl), wr_i64 (by omega) (by omega)]
    have := ih (pre ++ [x]) u (by rw [e]; simp) hb
    rw [show (((pre ++ [x]).length : Nat) : Int) = (pre.length : Int) + 1 by simp] at this
    exact this
 rw [M.a1t, of_eS, bnd]
 exact loop L [] [eS] rfl eS_txs
theorem tell_ok (d : Nat) : ∀ r : T26, Rt d r → nd r ≤ 4096 → M.a3 r = some (tO (tellS d r)) := by
 induction d with
 | zero => intro r h; exact absurd h id
 | succ d ih =>
  intro r hr hn
  rw [nd_eq] at hn
  have hll := nds_len r.L
  have sub : ∀ x ∈ r.L, M.a3 x = some (tO (tellS d x)) := fun x hx => ih x (hr.2.2 x hx) (by have := nd_mem hx; omega)
  rw [M.a3]; try dsimp only
  rw [tellS]
  by_cases h1 : r.Kind = 1
  ·rw [if_pos h1, if_pos h1, members_ok, bnd]
  rw [if_neg h1, if_neg h1]
  by_cases h2 : r.Kind = 2
  ·rw [if_pos h2, if_pos h2, row_ok (tellS d) (tellS_txs d) r.L (by omega) sub, bnd]
  rw [if_neg h2, if_neg h2]
  by_cases h3 : r.Kind = 3
  ·rw [if_pos h3, if_pos h3, of3_ok, bnd]
   have loop : ∀ (R pre : List T26) (t : Option (List ByteArray)), r.L = pre ++ R → TxS t → M.a12 (⟨[], false⟩, tO t, r.L, (r.L.length : Int), (pre.length : Int)) = some (tO ((R.map (tellS d)).foldl alS t)) := by
    intro R
    induction R with
    | nil =>
     intro pre t e ht
     rw [M.a12]; try dsimp only
     rw [if_neg (by rw [e]; simp)]
     rfl
    | cons x R ihR =>
     intro pre t e ht
     have hlen : r.L.length = pre.length + (R.length + 1) := by rw [e]; simp
     have hx : x ∈ r.L := by rw [e]; simp
     rw [M.a12]; try dsimp only
     rw [if_pos (by omega), if_pos (by omega), if_pos (by omega), show gi r.L (pre.length : Int) = x by rw [e]; exact gi_mid pre x R, eta27, sub x hx, bnd, List.map_cons, List.foldl_cons]
     have htx := tellS_txs d x
     have l1 : ∀ u b, b = true → M.a13 (⟨[], false⟩, tO t, u, r.L, (r.L.length : Int), (pre.length : Int), b) = some (tO none) := by
      intro u b hb
      rw [M.a13]; try dsimp only
      rw [if_pos hb]; rfl
     cases hu : tellS d x with
     | none =>
      have ea : alS t none = none := by cases t <;> rfl
      rw [if_neg (by simp [tO]), l1 _ _ rfl, ea, alS_none]
     | some u =>
      rw [hu] at htx
      rw [if_pos (show (tO (some u)).known = true from rfl)]
      cases t with
      | none => rw [l1 _ _ (by rfl), show alS none (some u) = none from rfl, alS_none]
      | some t =>
       have hta := ht.1
       have hua := htx.1
       rw [M.a13]; try dsimp only
       rw [if_neg (by simp [tO])]
       show (M.a2e [t, u] >>= _) = _
       rw [concat_ok t u (by omega) (by omega), bnd, of_ok _ (by simp; omega), bnd, wr_i64 (by omega) (by omega)]
       have := ihR (pre ++ [x]) (ofS (t ++ u)) (by rw [e]; simp) (alS_txs (a := some t) (b := some u) ht htx)
       rw [show (((pre ++ [x]).length : Nat) : Int) = (pre.length : Int) + 1 by simp] at this
       exact this
   exact loop r.L [] (some []) rfl ⟨by simp, by simp⟩
  rw [if_neg h3, if_neg h3]
  by_cases hm : r.Min = r.Max
  ·rw [if_pos hm, if_pos hm]
   rcases hr.1 with ⟨h, _⟩ | ⟨h | h, _⟩ | ⟨_, ⟨x, hL⟩, _, g0, g1, _⟩
   ·exact absurd h h1
   ·exact absurd h h2
   ·exact absurd h h3
   obtain ⟨m, hmm⟩ := Int.eq_ofNat_of_zero_le g0
   rw [hmm, hL, repeat_ok x m (by omega), bnd, Int.toNat_natCast]
   have e : (List.replicate m [x]).flatten = List.replicate m x := by
    induction m with
    | zero => rfl
    | succ m ih => rw [List.replicate_succ, List.flatten_cons, List.replicate_succ]; simp [List.flatten_replicate_singleton]
   rw [e, row_ok (tellS d) (tellS_txs d) (List.replicate m x) (by simp; omega) (fun y hy => by rw [List.eq_of_mem_replicate hy]; exact sub x (by rw [hL]; simp)), bnd]
  ·rw [if_neg hm, if_neg hm]; rfl
end Go.Proofs.YtdccklkdakfnaaaGreat
/-
 The document's way to texts that rise, to grams, to a pattern's texts: they are the program's.
-/
set_option linter.unusedVariables false
set_option linter.unusedSimpArgs false
namespace Go.Proofs.YtdccklkdakfnaaaGreat
open Go.Gx
theorem tlS (s : ByteArray) : s.toList = Tl s := Lib.toList_data s
theorem eqS (a b : ByteArray) : (a.toList == b.toList) = decide (a = b) := by
 rw [tlS, tlS]
 by_cases h : a = b
 ·rw [h, decide_eq_true rfl]; simp
 ·rw [decide_eq_false h]
  rw [beq_eq_false_iff_ne]
  exact fun h' => h (Tl_inj h')
theorem lessS (a b : ByteArray) : Op.bytesLess a.toList b.toList = decide (Tl a < Tl b) := by rw [bytesLess_eq, tlS, tlS]
theorem ltS_cases {a b : ByteArray} (h : ¬ Tl a < Tl b) (hn : a ≠ b) : Tl b < Tl a := by
 rcases List.le_iff_lt_or_eq.1 (List.not_lt.1 h) with h' | h'
 ·exact h'
 ·exact absurd (Tl_inj h').symm hn
theorem rround (l : List ByteArray) (hl : l.length ≤ 100000) (i : Nat) (v : ByteArray) (hi : i < l.length) (hv : gi l (i : Int) = v) (A : List ByteArray) (hA : RzS A) (hAl : A.length ≤ 100000) : ∀ (R pre : List ByteArray), A = pre ++ R → (∀ u ∈ pre, Tl u < Tl v) →
  ∃ A', M.a3w (l, A, (i : Int), (pre.length : Int)) = M.au (l, A', ((i + 1 : Nat) : Int)) ∧ RzS A' ∧ (∀ u, u ∈ A' ↔ u ∈ A ∨ u = v) ∧ A'.length ≤ A.length + 1 := by
 intro R
 -- the text goes in here
 have ins : ∀ (R pre : List ByteArray), A = pre ++ R → (∀ u ∈ pre, Tl u < Tl v) → (∀ u ∈ R, Tl v < Tl u) →
   M.a3x (l, A, (i : Int), (pre.length : Int), false) = M.au (l, pre ++ (v :: R), ((i + 1 : Nat) : Int)) ∧ RzS (pre ++ (v :: R)) ∧ (∀ u, u ∈ pre ++ (v :: R) ↔ u ∈ A ∨ u = v) ∧ (pre ++ (v :: R)).length ≤ A.length + 1 := by
  intro R pre e hp hR
  have hlen : A.length = pre.length + R.length := by rw [e]; simp
  have es : sl A (pre.length : Int) (A.length : Int) = R := by simp only [sl, Int.toNat_natCast]; rw [List.take_length, e, List.drop_left]
  have et : A.take ((pre.length : Int) : Int).toNat = pre := by rw [e]; simp
  refine ⟨?_, ?_, ?_, ?_⟩
  ·rw [M.a3x]; try dsimp only
   rw [if_neg (by decide), if_pos (by omega), if_pos (by omega), if_pos (by omega), if_pos (by omega), hv, es, if_pos (by simp; omega), et, bnd, if_pos (by simp; omega), wr_i64 (by omega) (by omega), show (i : Int) + 1 = ((i + 1 : Nat) : Int) by push_cast; rfl]
   rfl
  ·rw [e] at hA
   have h := List.pairwise_append.1 hA
   exact List.pairwise_append.2 ⟨h.1, List.pairwise_cons.2 ⟨hR, h.2.1⟩, fun a ha b hb => by
    rcases List.mem_cons.1 hb with rfl | hb
    ·exact hp a ha
    ·exact h.2.2 a ha b hb⟩
  ·intro u
   rw [e]
   simp only [List.mem_append, List.mem_cons]
   constructor
   ·rintro (h | h | h)
    ·exact .inl (.inl h)
    ·exact .inr h
    ·exact .inl (.inr h)
   ·rintro ((h | h) | h)
    ·exact .inl h
    ·exact .inr (.inr h)
    ·exact .inr (.inl h)
  ·simp; omega
 induction R with
 | nil =>
  intro pre e hp
  have hlen : A.length = pre.length := by rw [e]; simp
  rw [M.a3w]; try dsimp only
  rw [if_neg (by omega), M.a54]; try dsimp only
  rw [if_neg (by decide), if_neg (by omega)]
  exact ⟨_, ins [] pre e hp (by simp)⟩
 | cons x R ih =>
  intro pre e hp
  have hlen : A.length = pre.length + (R.length + 1) := by rw [e]; simp
  have hx : gi A (pre.length : Int) = x := by rw [e]; exact gi_mid pre x R
  rw [M.a3w]; try dsimp only
  rw [if_pos (by omega), if_pos (by omega), if_pos (by omega), if_pos (by omega), hx, hv, lessS, M.a54]; try dsimp only
  by_cases hlt : Tl x < Tl v
  ·rw [decide_eq_true hlt, if_pos rfl, wr_i64 (by omega) (by omega)]
   have := ih (pre ++ [x]) (by rw [e]; simp) (fun u hu => by
    rcases List.mem_append.1 hu with hu | hu
    ·exact hp u hu
    ·rw [List.mem_singleton.1 hu]; exact hlt)
   rw [show (((pre ++ [x]).length : Nat) : Int) = (pre.length : Int) + 1 by simp] at this
   exact this
  ·rw [decide_eq_false hlt, if_neg (by decide), if_pos (by omega), if_pos (by omega), if_pos (by omega), if_pos (by omega), hx, hv, eqS]
   by_cases he : x = v
   ·rw [decide_eq_true he, M.a3x]; try dsimp only
    rw [if_pos rfl, wr_i64 (by omega) (by omega), show (i : Int) + 1 = ((i + 1 : Nat) : Int) by push_cast; rfl]
    refine ⟨A, rfl, hA, fun u => ⟨.inl, ?_⟩, by omega⟩
    rintro (h | rfl)
    ·exact h
    ·rw [e, ← he]; simp
   ·rw [decide_eq_false he]
    have hvx := ltS_cases hlt he
    refine ⟨_, ins (x :: R) pre e hp fun u hu => ?_⟩
    rcases List.mem_cons.1 hu with rfl | hu
    ·exact hvx
    ·rw [e] at hA
     exact List.lt_trans hvx ((List.pairwise_cons.1 (List.pairwise_append.1 hA).2.1).1 u hu)
theorem rsorted_ok (l : List ByteArray) (hl : l.length ≤ 99999) : M.a2p l = some (nrm l) := by
 have loop : ∀ (R pre A : List ByteArray), l = pre ++ R → RzS A → (∀ u, u ∈ A ↔ u ∈ pre) → A.length ≤ pre.length → M.au (l, A, (pre.length : Int)) = some (nrm l) := by
  intro R
  induction R with
  | nil =>
   intro pre A e hA hm hal
   rw [M.au]; try dsimp only
   rw [if_neg (by rw [e]; simp), nrm_eq hA fun v => by rw [hm, e, List.append_nil]]
  | cons x R ih =>
   intro pre A e hA hm hal
   have hlen : l.length = pre.length + (R.length + 1) := by rw [e]; simp
   rw [M.au]; try dsimp only
   rw [if_pos (by omega)]
   obtain ⟨A', e1, r1, m1, n1⟩ := rround l (by omega) pre.length x (by omega) (by rw [e]; exact gi_mid pre x R) A hA (by omega) A [] rfl (by simp)
   rw [show ((([] : List ByteArray).length : Nat) : Int) = 0 from rfl] at e1
   rw [e1]
   have := ih (pre ++ [x]) A' (by rw [e]; simp) r1 (fun u => by rw [m1, hm]; simp) (by simp; omega)
   rw [show (pre ++ [x]).length = pre.length + 1 by simp] at this
   exact this
 rw [M.a2p]
 exact loop l [] [] rfl List.Pairwise.nil (by simp) (by simp)
theorem rgrams_ok (s : ByteArray) (hs : s.size ≤ 90000) : M.a57 s = some (nrm (wins s)) := by
 have hw := wins_len s
 have loop : ∀ (k i : Nat), i + k = s.size - 2 → M.a40 (s, ((List.range i).map fun i : Nat => ss s (i : Int) ((i : Int) + 3)), (i : Int)) = some (nrm (wins s)) := by
  intro k
  induction k with
  | zero =>
   intro i hi
   rw [M.a40]; try dsimp only
   rw [wr_i64 (by omega) (by omega), if_neg (by omega), show i = s.size - 2 by omega]
   show (M.a2p (wins s) >>= _) = _
   rw [rsorted_ok _ (by omega), bnd]
  | succ k ih =>
   intro i hi
   rw [M.a40]; try dsimp only
   rw [wr_i64 (x := (i : Int) + 3) (by omega) (by omega), if_pos (by omega), if_pos (by omega), if_pos (by omega), if_pos (by simp; omega), wr_i64 (x := (i : Int) + 1) (by omega) (by omega), show (i : Int) + 1 = ((i + 1 : Nat) : Int) by push_cast; rfl]
   have := ih (i + 1) (by omega)
   rw [List.range_succ, List.map_append] at this
   exact this
 rw [M.a57]
 exact loop (s.size - 2) 0 (by omega)
theorem cross_run (a b : List ByteArray) (ha : a.length ≤ 256) (hb : b.length ≤ 256) (hsa : ∀ x ∈ a, x.size ≤ 1000000) (hsb : ∀ y ∈ b, y.size ≤ 1000000) : ∀ (R pre acc : List ByteArray), a = pre ++ R → acc.length ≤ pre.length * b.length →
  ∃ p, M.a29 (a, b, acc, (pre.length : Int)) = some p ∧ ((∃ x ∈ R, ∃ y ∈ b, x.size + y.size > 32) → p = ([], false)) ∧ (¬ (∃ x ∈ R, ∃ y ∈ b, x.size + y.size > 32) → p = (nrm (acc ++ cross R b), decide (((nrm (acc ++ cross R b)).length : Int) ≤ 32))) := by
 intro R
 induction R with
 | nil =>
  intro pre acc e hl
  have hpl : pre.length ≤ 256 := by rw [e] at ha; simpa using ha
  have hm : pre.length * b.length ≤ 256 * 256 := Nat.mul_le_mul hpl hb
  rw [M.a29]; try dsimp only
  rw [if_neg (by rw [e]; simp), rsorted_ok acc (by omega), bnd]
  exact ⟨_, rfl, by simp, by simp [cross]⟩
 | cons x R ih =>
  intro pre acc e hl
  have hlen : a.length = pre.length + (R.length + 1) := by rw [e]; simp
  have hm : (pre.length + 1) * b.length ≤ 256 * 256 := Nat.mul_le_mul (by omega) hb
  rw [Nat.add_mul, Nat.one_mul] at hm
  have hx := hsa x (by rw [e]; simp)
  have hgx : gi a (pre.length : Int) = x := by rw [e]; exact gi_mid pre x R
  have inner : ∀ (Q qre acc2 : List ByteArray), b = qre ++ Q → acc2.length ≤ pre.length * b.length + qre.length →
    M.a3y (a, b, acc2, (pre.length : Int), (qre.length : Int)) = if ∃ y ∈ Q, x.size + y.size > 32 then some ([], false) else M.a29 (a, b, acc2 ++ Q.map (fun y => x ++ y), ((pre.length + 1 : Nat) : Int)) := by
   intro Q
   induction Q with
   | nil =>
    intro qre acc2 eb hq
    rw [M.a3y]; try dsimp only
    rw [if_neg (by rw [eb]; simp), if_neg (by simp), wr_i64 (x := (pre.length : Int) + 1) (by omega) (by omega), show (pre.length : Int) + 1 = ((pre.length + 1 : Nat) : Int) by push_cast; rfl]
    simp
   | cons y Q ihq =>
    intro qre acc2 eb hq
    have hbl : b.length = qre.length + (Q.length + 1) := by rw [eb]; simp
    have hy := hsb y (by rw [eb]; simp)
    rw [M.a3y]; try dsimp only
    rw [if_pos (by omega), if_pos (by omega), if_pos (by omega), if_pos (by omega), hgx, show gi b (qre.length : Int) = y by rw [eb]; exact gi_mid qre y Q, wr_i64 (x := (x.size : Int) + (y.size : Int)) (by omega) (by omega)]
    by_cases hc : x.size + y.size > 32
    ·rw [if_pos (by omega), if_pos ⟨y, by simp, hc⟩]
    ·rw [if_neg (by omega), if_pos (by omega), if_pos (by simp; omega), wr_i64 (x := (qre.length : Int) + 1) (by omega) (by omega)]
     have := ihq (qre ++ [y]) (acc2 ++ [x ++ y]) (by rw [eb]; simp) (by simp; omega)
     rw [show (((qre ++ [y]).length : Nat) : Int) = (qre.length : Int) + 1 by simp] at this
     rw [this]
     have hiff : (∃ z ∈ y :: Q, x.size + z.size > 32) ↔ ∃ z ∈ Q, x.size + z.size > 32 := by
      constructor
      ·rintro ⟨z, hz, h⟩
       rcases List.mem_cons.1 hz with rfl | hz
       ·exact absurd h hc
       ·exact ⟨z, hz, h⟩
      ·rintro ⟨z, hz, h⟩
       exact ⟨z, List.mem_cons_of_mem _ hz, h⟩
     simp only [hiff, List.map_cons, List.append_assoc, List.cons_append, List.nil_append]
  rw [M.a29]; try dsimp only
  rw [if_pos (by omega)]
  have hin := inner b [] acc rfl (by simp; omega)
  rw [show ((([] : List ByteArray).length : Nat) : Int) = 0 from rfl] at hin
  rw [hin]
  by_cases hc : ∃ y ∈ b, x.size + y.size > 32
  ·rw [if_pos hc]
   exact ⟨_, rfl, fun _ => rfl, fun h => absurd ⟨x, by simp, hc⟩ h⟩
  ·rw [if_neg hc]
   obtain ⟨p, e1, h1, h2⟩ := ih (pre ++ [x]) (acc ++ b.map (fun y => x ++ y)) (by rw [e]; simp) (by simp [Nat.add_mul]; omega)
   rw [show (pre ++ [x]).length = pre.length + 1 by simp] at e1
   refine ⟨p, e1, fun h => h1 ?_, fun h => ?_⟩
   ·obtain ⟨z, hz, h⟩ := h
    rcases List.mem_cons.1 hz with rfl | hz
    ·exact absurd h hc
    ·exact ⟨z, hz, h⟩
   ·rw [h2 fun h' => h (by obtain ⟨z, hz, h'⟩ := h'; exact ⟨z, List.mem_cons_of_mem _ hz, h'⟩), cross_cons, List.append_assoc]
theorem rcross_ok (a b : List ByteArray) (ha : TxS (some a)) (hb : TxS (some b)) : ∃ p, M.a1l a b = some p ∧ ((behS (some a) (some b) = none ∧ p.2 = false ∧ p.1.length ≤ 2000) ∨ ∃ l, behS (some a) (some b) = some l ∧ p = (l, true)) := by
 obtain ⟨p, e, h1, h2⟩ := cross_run a b (by have := ha.1; omega) (by have := hb.1; omega) (fun x hx => by have := ha.2 x hx; omega) (fun x hx => by have := hb.2 x hx; omega) a [] [] rfl (by simp)
 refine ⟨p, by rw [M.a1l]; exact e, ?_⟩
 simp only [behS]
 by_cases hc : ∃ x ∈ a, ∃ y ∈ b, x.size + y.size > 32
 ·left
  rw [h1 hc, if_pos hc]
  exact ⟨rfl, rfl, by simp⟩
 ·rw [if_neg hc]
  have := h2 hc
  rw [List.nil_append] at this
  unfold ofS
  by_cases hn : (nrm (cross a b)).length > 32
  ·left
   rw [if_pos hn, this]
   have hl := nrm_len (cross a b)
   rw [cross_len] at hl
   have hm : a.length * b.length ≤ 32 * 32 := Nat.mul_le_mul ha.1 hb.1
   exact ⟨rfl, decide_eq_false (by omega), by show (nrm (cross a b)).length ≤ 2000; omega⟩
  ·right
   rw [if_neg hn]
   exact ⟨_, rfl, by rw [this, decide_eq_true (by omega)]⟩
end Go.Proofs.YtdccklkdakfnaaaGreat
/-
 A pattern's texts: the document's are the program's.
-/
set_option linter.unusedVariables false
set_option linter.unusedSimpArgs false
namespace Go.Proofs.YtdccklkdakfnaaaGreat
open Go.Gx
def RT (t : Option (List ByteArray)) (p : List ByteArray × Bool) : Prop := (t = none ∧ p.2 = false ∧ p.1.length ≤ 2000) ∨ ∃ l, t = some l ∧ p = (l, true)
theorem rset_ok (r : T26) (hz : SetOk r.Set) : ∃ p, M.a1k (r, [], 0) = some p ∧ RT (memS r.Set) p := by
 have loop : ∀ (k i : Nat), i + k = 256 → M.a1k (r, memL r.Set i, (i : Int)) = some (memL r.Set 256, decide (((memL r.Set 256).length : Int) ≤ 8)) := by
  intro k
  induction k with
  | zero =>
   intro i hi
   have : i = 256 := by omega
   subst this
   rw [M.a1k]; try dsimp only
   rw [if_neg (by decide)]
  | succ k ih =>
   intro i hi
   have hl := memL_len r.Set i
   obtain ⟨v, hv⟩ := has_tot r.Set (b := (i : Int)) (by omega) (by omega)
   have hbv : hb r.Set i = v := by unfold hb; rw [hv]; rfl
   have l1 : ∀ w, M.a53 (r, w, (i : Int)) = M.a1k (r, w, ((i + 1 : Nat) : Int)) := by
    intro w
    rw [M.a53]; try dsimp only
    rw [wr_i64 (by omega) (by omega), show (i : Int) + 1 = ((i + 1 : Nat) : Int) by push_cast; rfl]
   rw [M.a1k]; try dsimp only
   rw [if_pos (by omega), wr_u8n i (by omega), refhas _ hz (by omega) (by omega), hv, bnd]
   rw [← ih (i + 1) (by omega), memL_succ, hbv]
   cases v with
   | true => rw [if_pos rfl, if_pos (by simp; omega), l1, if_pos rfl]
   | false => rw [if_neg (by decide), l1, if_neg (by decide)]
 refine ⟨_, loop 256 0 rfl, ?_⟩
 have hl := memL_len r.Set 256
 unfold memS
 by_cases h : (memL r.Set 256).length > 8
 ·rw [if_pos h]; exact .inl ⟨rfl, decide_eq_false (by omega), by show (memL r.Set 256).length ≤ 2000; omega⟩
 ·rw [if_neg h]; exact .inr ⟨_, rfl, by rw [decide_eq_true (by omega)]⟩
theorem rtexts_ok (d : Nat) : ∀ r : T26, Rt d r → nd r ≤ 4096 → ∃ p, M.a7 r = some p ∧ RT (tellS d r) p := by
 induction d with
 | zero => intro r h; exact absurd h id
 | succ d ih =>
  intro r hr hn
  rw [nd_eq] at hn
  have hll := nds_len r.L
  have sub : ∀ x ∈ r.L, ∃ p, M.a7 x = some p ∧ RT (tellS d x) p := fun x hx => ih x (hr.2.2 x hx) (by have := nd_mem hx; omega)
  rw [M.a7]; try dsimp only
  rw [tellS]
  by_cases h1 : r.Kind = 1
  ·rw [if_pos h1, if_pos h1]; exact rset_ok r hr.2.1
  rw [if_neg h1, if_neg h1]
  by_cases h2 : r.Kind = 2
  ·rw [if_pos h2, if_pos h2]
   have stop : ∀ (w : List ByteArray) (i : Int), M.a1m (r, w, false, i) = some (w, false) := by
    intro w i
    have l5 : M.a2q (r, w, false, i, false) = some (w, false) := by
     rw [M.a2q]; try dsimp only
     rw [if_neg (by decide)]
    rw [M.a1m]; try dsimp only
    split <;> exact l5
   have loop : ∀ (R pre : List T26) (t : List ByteArray), r.L = pre ++ R → TxS (some t) → ∃ p, M.a1m (r, t, true, (pre.length : Int)) = some p ∧ RT ((R.map (tellS d)).foldl behS (some t)) p := by
    intro R
    induction R with
    | nil =>
     intro pre t e ht
     rw [M.a1m]; try dsimp only
     rw [if_neg (by rw [e]; simp), M.a2q]; try dsimp only
     rw [if_neg (by decide)]
     exact ⟨_, rfl, .inr ⟨t, rfl, rfl⟩⟩
    | cons x R ihR =>
     intro pre t e ht
     have hlen : r.L.length = pre.length + (R.length + 1) := by rw [e]; simp
     have hx : x ∈ r.L := by rw [e]; simp
     obtain ⟨px, e1, k1⟩ := sub x hx
     have htx := tellS_txs d x
     have l8 : ∀ w b, M.a55 (r, w, b, (pre.length : Int)) = M.a1m (r, w, b, (((pre ++ [x]).length : Nat) : Int)) := by
      intro w b
      rw [M.a55]; try dsimp only
      rw [wr_i64 (by omega) (by omega), show (((pre ++ [x]).length : Nat) : Int) = (pre.length : Int) + 1 by simp]
     rw [M.a1m]; try dsimp only
     rw [if_pos (by omega), M.a2q]; try dsimp only
     rw [if_pos rfl, if_pos (by omega), if_pos (by omega), show gi r.L (pre.length : Int) = x by rw [e]; exact gi_mid pre x R, eta27, e1, bnd, List.map_cons, List.foldl_cons]
     rcases k1 with ⟨k2, k3, k4⟩ | ⟨l, k2, rfl⟩
     ·rw [if_neg (by rw [k3]; decide), l8, stop, k2, show behS (some t) none = none from rfl, behS_none]
      exact ⟨_, rfl, .inl ⟨rfl, rfl, by have := ht.1; show t.length ≤ 2000; omega⟩⟩
     ·rw [k2] at htx
      obtain ⟨pc, e2, q1⟩ := rcross_ok t l ht htx
      rw [if_pos rfl]
      show ∃ p, (M.a1l t l >>= _) = some p ∧ _
      rw [e2, bnd, l8, k2]
      rcases q1 with ⟨q2, q3, q4⟩ | ⟨u, q2, rfl⟩
      ·rw [q3, stop, q2, behS_none]
       exact ⟨_, rfl, .inl ⟨rfl, rfl, q4⟩⟩
      ·have := behS_txs (some t) (some l)
       rw [q2] at this ⊢
       exact ihR (pre ++ [x]) u (by rw [e]; simp) this
   exact loop r.L [] [eS] rfl eS_txs
  rw [if_neg h2, if_neg h2]
  by_cases h3 : r.Kind = 3
  ·rw [if_pos h3, if_pos h3]
   have loop : ∀ (R pre : List T26) (t : List ByteArray), r.L = pre ++ R → TxS (some t) → ∃ p, M.a3z (r, t, (pre.length : Int)) = some p ∧ RT ((R.map (tellS d)).foldl alS (some t)) p := by
    intro R
    induction R with
    | nil =>
     intro pre t e ht
     rw [M.a3z]; try dsimp only
     rw [if_neg (by rw [e]; simp)]
     exact ⟨_, rfl, .inr ⟨t, rfl, rfl⟩⟩
    | cons x R ihR =>
     intro pre t e ht
     have hlen : r.L.length = pre.length + (R.length + 1) := by rw [e]; simp
     have hx : x ∈ r.L := by rw [e]; simp
     obtain ⟨px, e1, k1⟩ := sub x hx
     have htx := tellS_txs d x
     have hta := ht.1
     have hpl : px.1.length ≤ 2000 := by
      rcases k1 with ⟨_, _, k4⟩ | ⟨l, k2, rfl⟩
      ·exact k4
      ·rw [k2] at htx; have := htx.1; show l.length ≤ 2000; omega
     have l6 : ∀ w, M.a2r (r, w, (pre.length : Int), true) = some ([], false) := by
      intro w
      rw [M.a2r]; try dsimp only
      rw [if_pos rfl]
     rw [M.a3z]; try dsimp only
     rw [if_pos (by omega), if_pos (by omega), show gi r.L (pre.length : Int) = x by rw [e]; exact gi_mid pre x R, eta27, e1, bnd, if_pos (by simp; omega), rsorted_ok _ (by simp; omega), bnd, List.map_cons, List.foldl_cons]
     rcases k1 with ⟨k2, k3, k4⟩ | ⟨l, k2, rfl⟩
     ·rw [if_neg (by rw [k3]; decide), l6, k2, show alS (some t) none = none from rfl, alS_none]
      exact ⟨_, rfl, .inl ⟨rfl, rfl, by simp⟩⟩
     ·rw [k2] at htx
      rw [if_pos rfl, k2, show alS (some t) (some l) = ofS (t ++ l) from rfl]
      have hts := alS_txs (a := some t) (b := some l) ht htx
      rw [show alS (some t) (some l) = ofS (t ++ l) from rfl] at hts
      unfold ofS at hts ⊢
      show ∃ p, M.a2r (r, nrm (t ++ l), (pre.length : Int), decide (((nrm (t ++ l)).length : Int) > 32)) = some p ∧ _
      by_cases hc : (nrm (t ++ l)).length > 32
      ·rw [decide_eq_true (by omega), l6, if_pos hc, alS_none]
       exact ⟨_, rfl, .inl ⟨rfl, rfl, by simp⟩⟩
      ·rw [if_neg hc] at hts ⊢
       rw [decide_eq_false (by omega), M.a2r]; try dsimp only
       rw [if_neg (by decide), wr_i64 (by omega) (by omega)]
       have := ihR (pre ++ [x]) (nrm (t ++ l)) (by rw [e]; simp) hts
       rw [show (((pre ++ [x]).length : Nat) : Int) = (pre.length : Int) + 1 by simp] at this
       exact this
   exact loop r.L [] [] rfl ⟨by simp, by simp⟩
  rw [if_neg h3, if_neg h3]
  by_cases hm : r.Min = r.Max
  ·rw [if_pos hm, if_pos hm]
   rcases hr.1 with ⟨h, _⟩ | ⟨h | h, _⟩ | ⟨_, ⟨x, hL⟩, _, g0, g1, _⟩
   ·exact absurd h h1
   ·exact absurd h h2
   ·exact absurd h h3
   obtain ⟨m, hmm⟩ := Int.eq_ofNat_of_zero_le g0
   obtain ⟨px, e1, k1⟩ := sub x (by rw [hL]; simp)
   have htx := tellS_txs d x
   have hg : gi r.L 0 = x := by rw [hL]; rfl
   have hp : (0 : Int) < (r.L.length : Int) := by rw [hL]; simp
   have stop : ∀ (w : List ByteArray) (i : Int), M.a1n (r, w, false, i) = some (w, false) := by
    intro w i
    have l7 : M.a2s (r, w, false, i, false) = some (w, false) := by
     rw [M.a2s]; try dsimp only
     rw [if_neg (by decide)]
    rw [M.a1n]; try dsimp only
    split <;> exact l7
   have loop : ∀ (k i : Nat) (t : List ByteArray), i + k = m → TxS (some t) → ∃ p, M.a1n (r, t, true, (i : Int)) = some p ∧ RT ((List.replicate k (tellS d x)).foldl behS (some t)) p := by
    intro k
    induction k with
    | zero =>
     intro i t hi ht
     rw [M.a1n]; try dsimp only
     rw [if_neg (by omega), M.a2s]; try dsimp only
     rw [if_neg (by decide)]
     exact ⟨_, rfl, .inr ⟨t, rfl, rfl⟩⟩
    | succ k ihk =>
     intro i t hi ht
     have l9 : ∀ w b, M.a56 (r, w, b, (i : Int)) = M.a1n (r, w, b, ((i + 1 : Nat) : Int)) := by
      intro w b
      rw [M.a56]; try dsimp only
      rw [wr_i64 (by omega) (by omega), show (i : Int) + 1 = ((i + 1 : Nat) : Int) by push_cast; rfl]
     rw [M.a1n]; try dsimp only
     rw [if_pos (by omega), M.a2s]; try dsimp only
     rw [if_pos rfl, if_pos hp, hg, eta27, e1, bnd, List.replicate_succ, List.foldl_cons]
     rcases k1 with ⟨k2, k3, k4⟩ | ⟨l, k2, rfl⟩
     ·rw [if_neg (by rw [k3]; decide), l9, stop, k2, show behS (some t) none = none from rfl, behS_none]
      exact ⟨_, rfl, .inl ⟨rfl, rfl, by have := ht.1; show t.length ≤ 2000; omega⟩⟩
     ·have htx' := htx
      rw [k2] at htx'
      obtain ⟨pc, e2, q1⟩ := rcross_ok t l ht htx'
      rw [if_pos rfl]
      show ∃ p, (M.a1l t l >>= _) = some p ∧ _
      rw [e2, bnd, l9]
      have hbt := behS_txs (some t) (some l)
      rcases q1 with ⟨q2, q3, q4⟩ | ⟨u, q2, rfl⟩
      ·rw [q3, stop, show behS (some t) (tellS d x) = none by rw [k2, q2], behS_none]
       exact ⟨_, rfl, .inl ⟨rfl, rfl, q4⟩⟩
      ·rw [q2] at hbt
       rw [show behS (some t) (tellS d x) = some u by rw [k2, q2]]
       exact ihk (i + 1) u (by omega) hbt
   have e : (List.replicate r.Min.toNat r.L).flatten.map (tellS d) = List.replicate m (tellS d x) := by
    rw [hmm, Int.toNat_natCast, hL]
    have : (List.replicate m [x]).flatten = List.replicate m x := by
     induction m with
     | zero => rfl
     | succ m ih => rw [List.replicate_succ, List.flatten_cons, List.replicate_succ]; simp [List.flatten_replicate_singleton]
    rw [this, List.map_replicate]
   rw [e]
   exact loop m 0 [eS] (by omega) eS_txs
  ·rw [if_neg hm, if_neg hm]
   exact ⟨_, rfl, .inl ⟨rfl, rfl, by simp⟩⟩
end Go.Proofs.YtdccklkdakfnaaaGreat
/-
 Queries: which are the same, which are left of many, how they are put together: the program's way and the document's.
-/
set_option linter.unusedVariables false
set_option linter.unusedSimpArgs false
namespace Go.Proofs.YtdccklkdakfnaaaGreat
open Go.Gx
open Classical
mutual
def qn : T29 → Nat
 | ⟨_, _, L⟩ => 1 + qns L
def qns : List T29 → Nat
 | [] => 0
 | x :: xs => qn x + qns xs
end
theorem qn_eq (q : T29) : qn q = 1 + qns q.L := by cases q; rw [qn]
theorem qn_pos (q : T29) : 1 ≤ qn q := by rw [qn_eq]; omega
theorem qns_len : ∀ L : List T29, L.length ≤ qns L
 | [] => by simp
 | x :: xs => by have := qns_len xs; have := qn_pos x; rw [qns]; simp; omega
theorem qn_mem {x : T29} : ∀ {l : List T29}, x ∈ l → qn x ≤ qns l
 | [], h => by simp at h
 | y :: l, h => by
  rw [qns]
  rcases List.mem_cons.1 h with rfl | h
  ·omega
  ·have := qn_mem h; omega
theorem qns_append : ∀ a b : List T29, qns (a ++ b) = qns a + qns b
 | [], b => by simp [qns]
 | x :: a, b => by rw [List.cons_append, qns, qns, qns_append a b]; omega
mutual
def cv : T29 → T38
 | ⟨o, t, L⟩ => ⟨o, t, cvs L⟩
def cvs : List T29 → List T38
 | [] => []
 | x :: xs => cv x :: cvs xs
end
theorem cvs_eq : ∀ L : List T29, cvs L = L.map cv
 | [] => by rw [cvs]; rfl
 | x :: xs => by rw [cvs, cvs_eq xs]; rfl
theorem cv_op (q : T29) : (cv q).Op = q.Op := by cases q; rw [cv]
theorem cv_text (q : T29) : (cv q).Text = q.Text := by cases q; rw [cv]
theorem cv_L (q : T29) : (cv q).L = q.L.map cv := by cases q; rw [cv, cvs_eq]
theorem t29_ext {a b : T29} : a = b ↔ a.Op = b.Op ∧ a.Text = b.Text ∧ a.L = b.L := by
 cases a; cases b; simp
theorem gi_map (L : List T29) (i : Nat) (h : i < L.length) : gi (L.map cv) (i : Int) = cv L[i] := by
 rw [gi_nat _ _ (by simpa using h)]; simp
theorem same_ok (n : Nat) : ∀ a b : T29, qn a ≤ n → qn a ≤ 100000000 → qn b ≤ 100000000 → M.a15 (a, b) = some (decide (a = b)) := by
 induction n with
 | zero => intro a b h; have := qn_pos a; omega
 | succ n ih =>
  intro a b hn ha hb
  rw [M.a15]; try dsimp only
  by_cases ho : a.Op = b.Op
  ·rw [if_pos ho, eqS]
   by_cases ht : a.Text = b.Text
   ·rw [decide_eq_true ht, if_pos rfl, M.a3a]; try dsimp only
    have e0 : decide (a = b) = decide (a.L = b.L) := by
     rw [decide_eq_decide, t29_ext]; simp [ho, ht]
    rw [qn_eq] at hn ha hb
    have hla := qns_len a.L
    have hlb := qns_len b.L
    by_cases hl : (a.L.length : Int) = (b.L.length : Int)
    ·rw [if_pos hl]
     have loop : ∀ (R pre Q qre : List T29), a.L = pre ++ R → b.L = qre ++ Q → pre.length = qre.length → R.length = Q.length → M.a16 (b.L, a.L, (a.L.length : Int), (pre.length : Int)) = some (decide (R = Q)) := by
      intro R
      induction R with
      | nil =>
       intro pre Q qre ea eb hp hr
       have : Q = [] := List.eq_nil_of_length_eq_zero (by simpa using hr.symm)
       rw [M.a16]; try dsimp only
       rw [if_neg (by rw [ea]; simp), this]
       simp
      | cons x R ihR =>
       intro pre Q qre ea eb hp hr
       cases Q with
       | nil => simp at hr
       | cons y Q =>
        have hlen : a.L.length = pre.length + (R.length + 1) := by rw [ea]; simp
        have hx : x ∈ a.L := by rw [ea]; simp
        have hy : y ∈ b.L := by rw [eb]; simp
        have hqx := qn_mem hx
        have hqy := qn_mem hy
        rw [M.a16]; try dsimp only
        rw [if_pos (by omega), if_pos (by omega), if_pos (by omega), if_pos (by omega), show gi a.L (pre.length : Int) = x by rw [ea]; exact gi_mid pre x R, show gi b.L (pre.length : Int) = y by rw [eb, hp]; exact gi_mid qre y Q, ih x y (by omega) (by omega) (by omega), bnd]
        by_cases hxy : x = y
        ·subst hxy
         rw [decide_eq_true rfl, if_pos rfl, wr_i64 (by omega) (by omega)]
         have := ihR (pre ++ [x]) Q (qre ++ [x]) (by rw [ea]; simp) (by rw [eb]; simp) (by simp [hp]) (by simpa using hr)
         rw [show (((pre ++ [x]).length : Nat) : Int) = (pre.length : Int) + 1 by simp] at this
         rw [this]
         simp
        ·rw [decide_eq_false hxy, if_neg (by decide)]
         simp [hxy]
     have := loop a.L [] b.L [] rfl rfl rfl (by omega)
     rw [show ((([] : List T29).length : Nat) : Int) = 0 from rfl] at this
     rw [this, bnd, e0]
    ·rw [if_neg hl, bnd, e0, decide_eq_false (fun h => hl (by rw [h]))]
   ·rw [decide_eq_false ht, if_neg (by decide), decide_eq_false fun h => ht (by rw [h])]
  ·rw [if_neg ho, decide_eq_false fun h => ho (by rw [h])]
theorem rsame_ok (n : Nat) : ∀ a b : T29, qn a ≤ n → qn a ≤ 100000000 → qn b ≤ 100000000 → M.a2t (cv a, cv b) = some (decide (a = b)) := by
 induction n with
 | zero => intro a b h; have := qn_pos a; omega
 | succ n ih =>
  intro a b hn ha hb
  have l0t : M.a2u (cv a, cv b, true) = some false := by
   rw [M.a2u]; try dsimp only
   rw [if_pos rfl]
  rw [M.a2t]; try dsimp only
  rw [cv_op, cv_op, cv_text, cv_text, cv_L, cv_L, List.length_map, List.length_map]
  by_cases ho : a.Op = b.Op
  ·rw [if_pos ho, eqS]
   by_cases ht : a.Text = b.Text
   ·rw [decide_eq_true ht, if_pos rfl]
    have e0 : decide (a = b) = decide (a.L = b.L) := by
     rw [decide_eq_decide, t29_ext]; simp [ho, ht]
    rw [qn_eq] at hn ha hb
    have hla := qns_len a.L
    have hlb := qns_len b.L
    by_cases hl : (a.L.length : Int) = (b.L.length : Int)
    ·rw [decide_eq_true hl, Bool.not_true, M.a2u]; try dsimp only
     rw [if_neg (by decide)]
     have loop : ∀ (R pre Q qre : List T29), a.L = pre ++ R → b.L = qre ++ Q → pre.length = qre.length → R.length = Q.length → M.a41 (cv a, cv b, (pre.length : Int)) = some (decide (R = Q)) := by
      intro R
      induction R with
      | nil =>
       intro pre Q qre ea eb hp hr
       have : Q = [] := List.eq_nil_of_length_eq_zero (by simpa using hr.symm)
       rw [M.a41]; try dsimp only
       rw [cv_L, List.length_map, if_neg (by rw [ea]; simp), this]
       simp
      | cons x R ihR =>
       intro pre Q qre ea eb hp hr
       cases Q with
       | nil => simp at hr
       | cons y Q =>
        have hlen : a.L.length = pre.length + (R.length + 1) := by rw [ea]; simp
        have hx : x ∈ a.L := by rw [ea]; simp
        have hy : y ∈ b.L := by rw [eb]; simp
        have hqx := qn_mem hx
        have hqy := qn_mem hy
        rw [M.a41]; try dsimp only
        rw [cv_L, cv_L, List.length_map, List.length_map, if_pos (by omega), if_pos (by omega), if_pos (by omega), gi_map _ _ (by omega), gi_map _ _ (by omega), show a.L[pre.length] = x by simp [ea], show b.L[pre.length] = y by simp [eb, hp], ih x y (by omega) (by omega) (by omega), bnd]
        by_cases hxy : x = y
        ·subst hxy
         rw [decide_eq_true rfl, if_pos rfl, wr_i64 (by omega) (by omega)]
         have := ihR (pre ++ [x]) Q (qre ++ [x]) (by rw [ea]; simp) (by rw [eb]; simp) (by simp [hp]) (by simpa using hr)
         rw [show (((pre ++ [x]).length : Nat) : Int) = (pre.length : Int) + 1 by simp] at this
         rw [this]
         simp
        ·rw [decide_eq_false hxy, if_neg (by decide)]
         simp [hxy]
     have := loop a.L [] b.L [] rfl rfl rfl (by omega)
     rw [show ((([] : List T29).length : Nat) : Int) = 0 from rfl] at this
     rw [this, e0]
    ·rw [decide_eq_false hl, Bool.not_false, l0t, e0, decide_eq_false (fun h => hl (by rw [h]))]
   ·rw [decide_eq_false ht, if_neg (by decide), l0t, decide_eq_false fun h => ht (by rw [h])]
  ·rw [if_neg ho, l0t, decide_eq_false fun h => ho (by rw [h])]
/-! ### Each once -/
noncomputable def dist : List T29 → List T29 → List T29
 | acc, [] => acc
 | acc, x :: xs => if x ∈ acc then dist acc xs else dist (acc ++ [x]) xs
theorem has_ok (acc : List T29) (x : T29) (ha : qns acc ≤ 100000000) (hx : qn x ≤ 100000000) : M.a3b acc x = some (decide (x ∈ acc)) := by
 have hl := qns_len acc
 have loop : ∀ (R pre : List T29), acc = pre ++ R → x ∉ pre → ∃ j : Int, M.a17 (acc, (acc.length : Int), (pre.length : Int), x) = some j ∧ decide (j ≥ 0) = decide (x ∈ acc) := by
  intro R
  induction R with
  | nil =>
   intro pre e hp
   rw [M.a17]; try dsimp only
   rw [if_neg (by rw [e]; simp)]
   refine ⟨-1, rfl, ?_⟩
   rw [e, List.append_nil, decide_eq_false hp]
   rfl
  | cons y R ih =>
   intro pre e hp
   have hlen : acc.length = pre.length + (R.length + 1) := by rw [e]; simp
   have hy : y ∈ acc := by rw [e]; simp
   have hqy := qn_mem hy
   rw [M.a17]; try dsimp only
   rw [if_pos (by omega), if_pos (by omega), if_pos (by omega), show gi acc (pre.length : Int) = y by rw [e]; exact gi_mid pre y R, M.a4k, same_ok (qn x) x y (Nat.le_refl _) hx (by omega), bnd, bnd]
   by_cases hxy : x = y
   ·subst hxy
    rw [decide_eq_true rfl, if_pos rfl]
    exact ⟨_, rfl, by rw [decide_eq_true hy, decide_eq_true (by omega)]⟩
   ·rw [decide_eq_false hxy, if_neg (by decide), wr_i64 (by omega) (by omega)]
    have := ih (pre ++ [y]) (by rw [e]; simp) (by simp [hp, hxy])
    rw [show (((pre ++ [y]).length : Nat) : Int) = (pre.length : Int) + 1 by simp] at this
    exact this
 obtain ⟨j, e1, e2⟩ := loop acc [] rfl (by simp)
 rw [show ((([] : List T29).length : Nat) : Int) = 0 from rfl] at e1
 rw [M.a3b, M.a4l, e1, bnd, e2]
theorem dist_ok (l : List T29) (hq : qns l ≤ 100000000) : M.a3c l = some (dist [] l) := by
 have hl := qns_len l
 have loop : ∀ (R pre acc : List T29), l = pre ++ R → qns acc ≤ qns pre → M.ad (acc, l, (l.length : Int), (pre.length : Int)) = some (dist acc R) := by
  intro R
  induction R with
  | nil =>
   intro pre acc e ha
   rw [M.ad]; try dsimp only
   rw [if_neg (by rw [e]; simp)]
   rfl
  | cons x R ih =>
   intro pre acc e ha
   have hlen : l.length = pre.length + (R.length + 1) := by rw [e]; simp
   have hsum : qns l = qns pre + (qn x + qns R) := by rw [e, qns_append, qns]
   have hacc := qns_len acc
   have hpos := qn_pos x
   have l1 : ∀ w, M.a1u (w, l, (l.length : Int), (pre.length : Int)) = M.ad (w, l, (l.length : Int), (((pre ++ [x]).length : Nat) : Int)) := by
    intro w
    rw [M.a1u]; try dsimp only
    rw [wr_i64 (by omega) (by omega), show (((pre ++ [x]).length : Nat) : Int) = (pre.length : Int) + 1 by simp]
   rw [M.ad]; try dsimp only
   rw [if_pos (by omega), if_pos (by omega), if_pos (by omega), show gi l (pre.length : Int) = x by rw [e]; exact gi_mid pre x R, has_ok acc x (by omega) (by omega), bnd, dist]
   by_cases hm : x ∈ acc
   ·rw [decide_eq_true hm, if_pos rfl, if_pos hm, l1]
    exact ih (pre ++ [x]) acc (by rw [e]; simp) (by rw [qns_append]; omega)
   ·rw [decide_eq_false hm, if_neg (by decide), if_neg hm, if_pos (by simp; omega), l1]
    exact ih (pre ++ [x]) (acc ++ [x]) (by rw [e]; simp) (by rw [qns_append, qns_append]; simp only [qns]; omega)
 rw [M.a3c]
 exact loop l [] [] rfl (Nat.le_refl _)
end Go.Proofs.YtdccklkdakfnaaaGreat
/-
 Queries put together: the program's way and the document's.
-/
set_option linter.unusedVariables false
set_option linter.unusedSimpArgs false
namespace Go.Proofs.YtdccklkdakfnaaaGreat
open Go.Gx
open Classical
def gs (op : Int) : Int := if op = 4 then 1 else 0
def tk (op : Int) : Int := if op = 4 then 0 else 1
def flat (op : Int) : List T29 → Option (List T29)
 | [] => some []
 | q :: l => if q.Op = op then (flat op l).map (q.L ++ ·) else if q.Op = tk op then none else if q.Op = gs op then flat op l else (flat op l).map (q :: ·)
def mkq (op : Int) (l : List T29) : T29 := match l with
 | [] => ⟨gs op, eS, []⟩
 | [x] => x
 | l => ⟨op, eS, l⟩
noncomputable def putS (op : Int) (l : List T29) : T29 := match flat op l with
 | none => ⟨tk op, eS, []⟩
 | some f => mkq op (dist [] f)
theorem ends_ok (op : Int) : M.a4m op = some (gs op, tk op) := by
 rw [M.a4m]
 unfold gs tk
 split <;> rfl
theorem dist_len : ∀ (l acc : List T29), acc.length ≤ (dist acc l).length ∧ qns (dist acc l) ≤ qns acc + qns l
 | [], acc => by simp [dist]
 | x :: l, acc => by
  rw [dist]
  split
  ·have := dist_len l acc; rw [qns]; omega
  ·have := dist_len l (acc ++ [x]); rw [qns_append] at this; simp only [qns, List.length_append, List.length_singleton] at this ⊢; omega
theorem mem_dist {y : T29} : ∀ {l acc : List T29}, y ∈ dist acc l → y ∈ acc ∨ y ∈ l
 | [], acc, h => .inl h
 | x :: l, acc, h => by
  rw [dist] at h
  split at h
  ·rcases mem_dist h with h | h
   ·exact .inl h
   ·exact .inr (List.mem_cons_of_mem _ h)
  ·rcases mem_dist h with h | h
   ·rcases List.mem_append.1 h with h | h
    ·exact .inl h
    ·exact .inr (by rw [List.mem_singleton.1 h]; simp)
   ·exact .inr (List.mem_cons_of_mem _ h)
theorem flat_qns (op : Int) : ∀ (l f : List T29), flat op l = some f → qns f ≤ qns l
 | [], f, h => by cases h; exact Nat.le_refl _
 | q :: l, f, h => by
  have hq := qn_eq q
  rw [flat] at h
  rw [qns]
  split at h
  ·obtain ⟨f', h1, rfl⟩ := Option.map_eq_some_iff.1 h
   have := flat_qns op l f' h1
   rw [qns_append]; omega
  ·split at h
   ·cases h
   ·split at h
    ·have := flat_qns op l f h; omega
    ·obtain ⟨f', h1, rfl⟩ := Option.map_eq_some_iff.1 h
     have := flat_qns op l f' h1
     rw [qns]; omega
theorem mkq_end (op : Int) (ys : List T29) (hy : ys.length ≤ 1000000000) : (if (ys.length : Int) = 0 then some (⟨gs op, (⟨#[]⟩ : ByteArray), ([] : List T29)⟩ : T29) else if (ys.length : Int) = 1 then if 0 < (ys.length : Int) then some (gi ys 0) else none else some (⟨op, (⟨#[]⟩ : ByteArray), ys⟩ : T29)) = some (mkq op ys) := by
 match ys with
 | [] => rfl
 | [x] => rfl
 | x :: y :: l =>
  have h2 : ((x :: y :: l).length : Int) = (l.length : Int) + 2 := by simp; omega
  rw [if_neg (by omega), if_neg (by omega)]
  rfl
theorem put_ok (op : Int) (l : List T29) (hq : qns l ≤ 100000000) : M.af op l = some (putS op l) := by
 have hll := qns_len l
 rw [M.af, ends_ok, bnd]; try dsimp only
 have loop : ∀ (R pre acc : List T29), l = pre ++ R → qns acc ≤ qns pre → M.ae (op, (⟨0, (⟨#[]⟩ : ByteArray), ([] : List T29)⟩ : T29), gs op, tk op, acc, l, (l.length : Int), (pre.length : Int)) = some (match flat op R with
   | none => ⟨tk op, eS, []⟩
   | some f => mkq op (dist [] (acc ++ f))) := by
  intro R
  induction R with
  | nil =>
   intro pre acc e ha
   have hp : pre = l := by rw [e]; simp
   have hqa : qns acc ≤ 100000000 := by rw [hp] at ha; omega
   have hdl := dist_len acc []
   have hdq := qns_len (dist [] acc)
   rw [M.ae]; try dsimp only
   rw [if_neg (by rw [e]; simp), dist_ok acc hqa, bnd, mkq_end op (dist [] acc) (by simp only [qns] at hdl; omega)]
   simp [flat]
  | cons x R ih =>
   intro pre acc e ha
   have hlen : l.length = pre.length + (R.length + 1) := by rw [e]; simp
   have hsum : qns l = qns pre + (qn x + qns R) := by rw [e, qns_append, qns]
   have hal := qns_len acc
   have hxe := qn_eq x
   have hxl := qns_len x.L
   have l1 : ∀ w, M.a18 (op, (⟨0, (⟨#[]⟩ : ByteArray), ([] : List T29)⟩ : T29), gs op, tk op, w, l, (l.length : Int), (pre.length : Int)) = M.ae (op, (⟨0, (⟨#[]⟩ : ByteArray), ([] : List T29)⟩ : T29), gs op, tk op, w, l, (l.length : Int), (((pre ++ [x]).length : Nat) : Int)) := by
    intro w
    rw [M.a18]; try dsimp only
    rw [wr_i64 (by omega) (by omega), show (((pre ++ [x]).length : Nat) : Int) = (pre.length : Int) + 1 by simp]
   have ep : l = (pre ++ [x]) ++ R := by rw [e]; simp
   rw [M.ae]; try dsimp only
   rw [if_pos (by omega), if_pos (by omega), if_pos (by omega), show gi l (pre.length : Int) = x by rw [e]; exact gi_mid pre x R, flat]
   by_cases h1 : x.Op = op
   ·rw [if_pos h1, if_pos h1, if_pos (by simp; omega), l1, ih (pre ++ [x]) (acc ++ x.L) ep (by rw [qns_append, qns_append]; simp only [qns]; omega)]
    cases flat op R with
    | none => rfl
    | some f => simp
   ·rw [if_neg h1, if_neg h1]
    by_cases h2 : x.Op = tk op
    ·rw [if_pos h2, if_pos h2]; rfl
    ·rw [if_neg h2, if_neg h2]
     by_cases h3 : x.Op = gs op
     ·rw [if_pos h3, if_pos h3, l1, ih (pre ++ [x]) acc ep (by rw [qns_append]; omega)]
     ·rw [if_neg h3, if_neg h3, if_pos (by simp; omega), l1, ih (pre ++ [x]) (acc ++ [x]) ep (by rw [qns_append, qns_append]; simp only [qns]; omega)]
      cases flat op R with
      | none => rfl
      | some f => simp
 have := loop l [] [] rfl (Nat.le_refl _)
 rw [show ((([] : List T29).length : Nat) : Int) = 0 from rfl] at this
 rw [this]
 unfold putS
 cases flat op l with
 | none => rfl
 | some f => rfl
/-! ### Queries as they come to be: what lies in them takes neither all nor nothing -/
mutual
def Wq : T29 → Prop
 | ⟨_, _, L⟩ => Wqs L
def Wqs : List T29 → Prop
 | [] => True
 | x :: xs => ((x.Op ≠ 0 ∧ x.Op ≠ 1) ∧ Wq x) ∧ Wqs xs
end
theorem Wq_eq (q : T29) : Wq q ↔ Wqs q.L := by cases q; rw [Wq]
theorem Wqs_iff : ∀ {L : List T29}, Wqs L ↔ ∀ x ∈ L, (x.Op ≠ 0 ∧ x.Op ≠ 1) ∧ Wq x
 | [] => by simp [Wqs]
 | x :: xs => by rw [Wqs, Wqs_iff (L := xs)]; simp
theorem gstk (op : Int) (x : Int) : (x ≠ 0 ∧ x ≠ 1) ↔ (x ≠ gs op ∧ x ≠ tk op) := by unfold gs tk; split <;> constructor <;> rintro ⟨a, b⟩ <;> exact ⟨by omega, by omega⟩
theorem mem_flat (op : Int) : ∀ {l f : List T29} {y : T29}, flat op l = some f → y ∈ f → (∃ q ∈ l, q.Op = op ∧ y ∈ q.L) ∨ (y ∈ l ∧ y.Op ≠ gs op ∧ y.Op ≠ tk op)
 | [], f, y, h, hy => by cases h; simp at hy
 | q :: l, f, y, h, hy => by
  have up : ∀ {f'}, flat op l = some f' → y ∈ f' → (∃ q' ∈ q :: l, q'.Op = op ∧ y ∈ q'.L) ∨ (y ∈ q :: l ∧ y.Op ≠ gs op ∧ y.Op ≠ tk op) := fun h1 h2 => by
   rcases mem_flat op h1 h2 with ⟨z, hz, h3⟩ | ⟨h3, h4⟩
   ·exact .inl ⟨z, List.mem_cons_of_mem _ hz, h3⟩
   ·exact .inr ⟨List.mem_cons_of_mem _ h3, h4⟩
  rw [flat] at h
  split at h
  ·rename_i ho
   obtain ⟨f', h1, rfl⟩ := Option.map_eq_some_iff.1 h
   rcases List.mem_append.1 hy with hy | hy
   ·exact .inl ⟨q, by simp, ho, hy⟩
   ·exact up h1 hy
  ·split at h
   ·cases h
   ·rename_i hnt
    split at h
    ·exact up h hy
    ·rename_i hng
     obtain ⟨f', h1, rfl⟩ := Option.map_eq_some_iff.1 h
     rcases List.mem_cons.1 hy with rfl | hy
     ·exact .inr ⟨by simp, hng, hnt⟩
     ·exact up h1 hy
theorem mkq_mem {op : Int} {ys : List T29} : (mkq op ys).L = [] ∧ (mkq op ys).Text = eS ∧ ys = [] ∨ (∃ x, ys = [x] ∧ mkq op ys = x) ∨ (mkq op ys = ⟨op, eS, ys⟩) := by
 match ys with
 | [] => exact .inl ⟨rfl, rfl, rfl⟩
 | [x] => exact .inr (.inl ⟨x, rfl, rfl⟩)
 | x :: y :: l => exact .inr (.inr rfl)
theorem put_W (op : Int) (l : List T29) (hl : ∀ q ∈ l, Wq q) : Wq (putS op l) ∧ qn (putS op l) ≤ 1 + qns l := by
 unfold putS
 cases hf : flat op l with
 | none => exact ⟨by simp [Wq, Wqs], by simp [qn, qns]⟩
 | some f =>
  have hq := flat_qns op l f hf
  have hd := dist_len f []
  have el : ∀ y ∈ dist [] f, (y.Op ≠ 0 ∧ y.Op ≠ 1) ∧ Wq y := fun y hy => by
   rcases mem_dist hy with h | h
   ·simp at h
   ·rcases mem_flat op hf h with ⟨q, hq, _, hyq⟩ | ⟨hy, h⟩
    ·have := (Wq_eq q).1 (hl q hq)
     exact Wqs_iff.1 this y hyq
    ·exact ⟨(gstk op _).2 h, hl y hy⟩
  have hqd : qns (dist [] f) ≤ qns l := by have := hd.2; simp only [qns] at this; omega
  show Wq (mkq op (dist [] f)) ∧ qn (mkq op (dist [] f)) ≤ 1 + qns l
  rcases mkq_mem (op := op) (ys := dist [] f) with ⟨h1, h2, h3⟩ | ⟨x, h1, h2⟩ | h1
  ·exact ⟨by rw [Wq_eq, h1]; trivial, by rw [qn_eq, h1]; simp [qns]⟩
  ·rw [h2]
   have hx : x ∈ dist [] f := by rw [h1]; simp
   exact ⟨(el x hx).2, by have := qn_mem hx; omega⟩
  ·rw [h1]
   exact ⟨by rw [Wq_eq]; exact Wqs_iff.2 el, by rw [qn_eq]; show 1 + qns (dist [] f) ≤ _; omega⟩
end Go.Proofs.YtdccklkdakfnaaaGreat
/-
 Queries put together by the document's way; the queries of texts.
-/
set_option linter.unusedVariables false
set_option linter.unusedSimpArgs false
namespace Go.Proofs.YtdccklkdakfnaaaGreat
open Go.Gx
open Classical
def fl (op : Int) (l : List T29) : List T29 := l.flatMap fun q => if q.Op = op then q.L else [q]
theorem fl_cons (op : Int) (q : T29) (l : List T29) : fl op (q :: l) = (if q.Op = op then q.L else [q]) ++ fl op l := rfl
theorem fl_qns (op : Int) : ∀ l : List T29, qns (fl op l) ≤ qns l
 | [] => Nat.le_refl _
 | q :: l => by
  have := fl_qns op l
  have hq := qn_eq q
  rw [fl_cons, qns_append, qns]
  split
  ·omega
  ·simp only [qns]; omega
theorem flat_spec (op : Int) : ∀ l : List T29, (∀ q ∈ l, Wq q) → flat op l = if ∃ q ∈ fl op l, q.Op = tk op then none else some ((fl op l).filter fun q => decide (q.Op ≠ gs op))
 | [], _ => by simp [flat, fl]
 | q :: l, h => by
  have ih := flat_spec op l fun x hx => h x (List.mem_cons_of_mem _ hx)
  have hw := Wqs_iff.1 ((Wq_eq q).1 (h q (by simp)))
  rw [flat, fl_cons, ih]
  by_cases h1 : q.Op = op
  ·rw [if_pos h1, if_pos h1]
   have hiff : (∃ x ∈ q.L ++ fl op l, x.Op = tk op) ↔ ∃ x ∈ fl op l, x.Op = tk op := by
    constructor
    ·rintro ⟨x, hx, ho⟩
     rcases List.mem_append.1 hx with hx | hx
     ·exact absurd ho ((gstk op _).1 (hw x hx).1).2
     ·exact ⟨x, hx, ho⟩
    ·rintro ⟨x, hx, ho⟩; exact ⟨x, List.mem_append.2 (.inr hx), ho⟩
   have hf : q.L.filter (fun x => decide (x.Op ≠ gs op)) = q.L := List.filter_eq_self.2 fun x hx => decide_eq_true ((gstk op _).1 (hw x hx).1).1
   simp only [hiff, List.filter_append, hf]
   split <;> rfl
  ·rw [if_neg h1, if_neg h1]
   by_cases h2 : q.Op = tk op
   ·rw [if_pos h2, if_pos ⟨q, by simp, h2⟩]
   ·rw [if_neg h2]
    have hiff : (∃ x ∈ [q] ++ fl op l, x.Op = tk op) ↔ ∃ x ∈ fl op l, x.Op = tk op := by
     constructor
     ·rintro ⟨x, hx, ho⟩
      rcases List.mem_append.1 hx with hx | hx
      ·rw [List.mem_singleton.1 hx] at ho; exact absurd ho h2
      ·exact ⟨x, hx, ho⟩
     ·rintro ⟨x, hx, ho⟩; exact ⟨x, List.mem_append.2 (.inr hx), ho⟩
    simp only [hiff, List.filter_append]
    by_cases h3 : q.Op = gs op
    ·rw [if_pos h3]
     simp [h3]
    ·rw [if_neg h3]
     simp only [List.filter_cons, h3, ne_eq, not_false_eq_true, decide_true, if_true, List.filter_nil, List.cons_append, List.nil_append]
     split <;> rfl
theorem cv_mkq (op : Int) (ys : List T29) : (if ((ys.map cv).length : Int) = 0 then some (⟨gs op, (⟨#[]⟩ : ByteArray), ([] : List T38)⟩ : T38) else if ((ys.map cv).length : Int) = 1 then if 0 < ((ys.map cv).length : Int) then some (gi (ys.map cv) 0) else none else some (⟨op, (⟨#[]⟩ : ByteArray), ys.map cv⟩ : T38)) = some (cv (mkq op ys)) := by
 match ys with
 | [] => simp [mkq, cv, cvs, eS]
 | [x] => rfl
 | x :: y :: l =>
  have h2 : (((x :: y :: l).map cv).length : Int) = (l.length : Int) + 2 := by simp; omega
  rw [if_neg (by omega), if_neg (by omega)]
  show _ = some (cv ⟨op, eS, x :: y :: l⟩)
  rw [cv, cvs_eq]
  rfl
theorem cv_one (op : Int) : cv ⟨op, eS, []⟩ = (⟨op, (⟨#[]⟩ : ByteArray), ([] : List T38)⟩ : T38) := by rw [cv, cvs]; rfl
theorem rput_l3 (op : Int) (F : List T29) (hF : qns F ≤ 100000000) (z : T38) : ∀ (R pre acc : List T29), F = pre ++ R → qns acc ≤ qns pre → M.ah (op, z, gs op, tk op, F.map cv, acc.map cv, (pre.length : Int)) =
  some (cv (if ∃ q ∈ R, q.Op = tk op then ⟨tk op, eS, []⟩ else mkq op (dist acc (R.filter fun q => decide (q.Op ≠ gs op))))) := by
 have hFl := qns_len F
 intro R
 induction R with
 | nil =>
  intro pre acc e ha
  rw [M.ah]; try dsimp only
  rw [if_neg (by rw [e]; simp), cv_mkq, if_neg (by simp)]
  rfl
 | cons x R ih =>
  intro pre acc e ha
  have hlen : F.length = pre.length + (R.length + 1) := by rw [e]; simp
  have hsum : qns F = qns pre + (qn x + qns R) := by rw [e, qns_append, qns]
  have hal := qns_len acc
  have hxp := qn_pos x
  have hgx : gi (F.map cv) (pre.length : Int) = cv x := by rw [gi_map _ _ (by omega)]; simp [e]
  have ep : F = (pre ++ [x]) ++ R := by rw [e]; simp
  have l6 : ∀ w : List T29, M.a59 (op, z, gs op, tk op, F.map cv, w.map cv, (pre.length : Int)) = M.ah (op, z, gs op, tk op, F.map cv, w.map cv, (((pre ++ [x]).length : Nat) : Int)) := by
   intro w
   rw [M.a59]; try dsimp only
   rw [wr_i64 (by omega) (by omega), show (((pre ++ [x]).length : Nat) : Int) = (pre.length : Int) + 1 by simp]
  have inner : ∀ (Q qre : List T29) (b : Bool), acc = qre ++ Q → M.a2v (op, z, gs op, tk op, F.map cv, acc.map cv, (pre.length : Int), b, (qre.length : Int)) =
    M.ah (op, z, gs op, tk op, F.map cv, (if b = true ∨ x ∈ Q then acc else acc ++ [x]).map cv, (((pre ++ [x]).length : Nat) : Int)) := by
   intro Q
   induction Q with
   | nil =>
    intro qre b ea
    rw [M.a2v]; try dsimp only
    rw [List.length_map, if_neg (by rw [ea]; simp)]
    cases b with
    | true => rw [if_pos rfl, l6, if_pos (.inl rfl)]
    | false =>
     rw [if_neg (by decide), if_pos (by omega), List.length_map, if_pos (by omega), hgx, if_pos (by simp; omega), if_neg (by simp)]
     have := l6 (acc ++ [x])
     rw [List.map_append] at this ⊢
     exact this
   | cons y Q ihq =>
    intro qre b ea
    have hl : acc.length = qre.length + (Q.length + 1) := by rw [ea]; simp
    have hy : y ∈ acc := by rw [ea]; simp
    have hqy := qn_mem hy
    have l5 : ∀ b', M.a58 (op, z, gs op, tk op, F.map cv, acc.map cv, (pre.length : Int), b', (qre.length : Int)) = M.a2v (op, z, gs op, tk op, F.map cv, acc.map cv, (pre.length : Int), b', (((qre ++ [y]).length : Nat) : Int)) := by
     intro b'
     rw [M.a58]; try dsimp only
     rw [wr_i64 (by omega) (by omega), show (((qre ++ [y]).length : Nat) : Int) = (qre.length : Int) + 1 by simp]
    rw [M.a2v]; try dsimp only
    rw [List.length_map, if_pos (by omega)]
    cases b with
    | true =>
     rw [if_pos rfl, l5, ihq (qre ++ [y]) true (by rw [ea]; simp), if_pos (.inl rfl), if_pos (.inl rfl)]
    | false =>
     rw [if_neg (by decide), if_pos (by omega), if_pos (by omega), List.length_map, if_pos (by omega), hgx, gi_map acc _ (by omega), show acc[qre.length] = y by simp [ea], rsame_ok (qn y) y x (Nat.le_refl _) (by omega) (by omega), bnd, l5, ihq (qre ++ [y]) _ (by rw [ea]; simp)]
     congr 3
     have : (decide (y = x) = true ∨ x ∈ Q) ↔ (false = true ∨ x ∈ y :: Q) := by
      rw [decide_eq_true_eq, List.mem_cons]
      constructor
      ·rintro (h | h)
       ·exact .inr (.inl h.symm)
       ·exact .inr (.inr h)
      ·rintro (h | h | h)
       ·cases h
       ·exact .inl h.symm
       ·exact .inr h
     simp only [this]
  rw [M.ah]; try dsimp only
  rw [List.length_map, if_pos (by omega), if_pos (by omega), hgx, cv_op]
  by_cases h2 : x.Op = tk op
  ·rw [if_pos h2, if_pos ⟨x, by simp, h2⟩, cv_one]
  ·rw [if_neg h2]
   have hin := inner acc [] (decide (x.Op = gs op)) rfl
   rw [show ((([] : List T29).length : Nat) : Int) = 0 from rfl] at hin
   rw [hin]
   have hiff : (∃ q ∈ x :: R, q.Op = tk op) ↔ ∃ q ∈ R, q.Op = tk op := by
    constructor
    ·rintro ⟨q, hq, ho⟩
     rcases List.mem_cons.1 hq with rfl | hq
     ·exact absurd ho h2
     ·exact ⟨q, hq, ho⟩
    ·rintro ⟨q, hq, ho⟩; exact ⟨q, List.mem_cons_of_mem _ hq, ho⟩
   simp only [hiff, decide_eq_true_eq]
   by_cases h3 : x.Op = gs op
   ·rw [if_pos (.inl h3), List.filter_cons_of_neg (by simp [h3])]
    exact ih (pre ++ [x]) acc ep (by rw [qns_append]; omega)
   ·rw [List.filter_cons_of_pos (by simp [h3]), dist]
    by_cases hm : x ∈ acc
    ·rw [if_pos (.inr hm), if_pos hm]
     exact ih (pre ++ [x]) acc ep (by rw [qns_append]; omega)
    ·rw [if_neg (by simp [h3, hm]), if_neg hm]
     exact ih (pre ++ [x]) (acc ++ [x]) ep (by rw [qns_append, qns_append]; simp only [qns]; omega)
theorem rput_ok (op : Int) (l : List T29) (hq : qns l ≤ 100000000) (hw : ∀ q ∈ l, Wq q) : M.a2w op (l.map cv) = some (cv (putS op l)) := by
 have hll := qns_len l
 have hF := fl_qns op l
 have hFl := qns_len (fl op l)
 have key : ∀ z, M.a5b (op, l.map cv, z, gs op, tk op) = some (cv (putS op l)) := by
  intro z
  have loop : ∀ (R pre : List T29), l = pre ++ R → M.a1o (op, l.map cv, z, gs op, tk op, (fl op pre).map cv, (pre.length : Int)) = M.ah (op, z, gs op, tk op, (fl op l).map cv, [], 0) := by
   intro R
   induction R with
   | nil =>
    intro pre e
    rw [M.a1o]; try dsimp only
    rw [List.length_map, if_neg (by rw [e]; simp), show pre = l by rw [e]; simp]
   | cons x R ih =>
    intro pre e
    have hlen : l.length = pre.length + (R.length + 1) := by rw [e]; simp
    have hsum : qns l = qns pre + (qn x + qns R) := by rw [e, qns_append, qns]
    have hp := fl_qns op pre
    have hpl := qns_len (fl op pre)
    have hxe := qn_eq x
    have hxl := qns_len x.L
    have ep : l = (pre ++ [x]) ++ R := by rw [e]; simp
    have l2 : ∀ w, M.a5a (op, l.map cv, z, gs op, tk op, w, (pre.length : Int)) = M.a1o (op, l.map cv, z, gs op, tk op, w, (((pre ++ [x]).length : Nat) : Int)) := by
     intro w
     rw [M.a5a]; try dsimp only
     rw [wr_i64 (by omega) (by omega), show (((pre ++ [x]).length : Nat) : Int) = (pre.length : Int) + 1 by simp]
    have efl : fl op (pre ++ [x]) = fl op pre ++ (if x.Op = op then x.L else [x]) := by simp [fl]
    have := ih (pre ++ [x]) ep
    rw [M.a1o]; try dsimp only
    rw [List.length_map, if_pos (by omega), if_pos (by omega), gi_map _ _ (by omega), show l[pre.length] = x by simp [e], cv_op]
    rw [← this, efl]
    by_cases h1 : x.Op = op
    ·rw [if_pos h1, if_pos h1, cv_L, if_pos (by simp; omega), l2, List.map_append]
    ·rw [if_neg h1, if_neg h1, if_pos (by simp; omega), l2, List.map_append]; rfl
  have h0 := loop l [] rfl
  rw [M.a5b]; try dsimp only
  rw [show M.a1o (op, l.map cv, z, gs op, tk op, ([] : List T38), 0) = _ from h0]
  have h3 := rput_l3 op (fl op l) (by omega) z (fl op l) [] [] rfl (Nat.le_refl _)
  rw [show M.ah (op, z, gs op, tk op, (fl op l).map cv, ([] : List T38), 0) = _ from h3]
  unfold putS
  rw [flat_spec op l hw]
  by_cases hc : ∃ q ∈ fl op l, q.Op = tk op
  ·rw [if_pos hc, if_pos hc]
  ·rw [if_neg hc, if_neg hc]
 rw [M.a2w]
 by_cases h4 : op = 4
 ·rw [if_pos h4]
  have := key (⟨0, (⟨#[]⟩ : ByteArray), ([] : List T38)⟩ : T38)
  rw [show gs op = 1 by simp [gs, h4], show tk op = 0 by simp [tk, h4]] at this
  exact this
 ·rw [if_neg h4]
  have := key (⟨0, (⟨#[]⟩ : ByteArray), ([] : List T38)⟩ : T38)
  rw [show gs op = 0 by simp [gs, h4], show tk op = 1 by simp [tk, h4]] at this
  exact this
end Go.Proofs.YtdccklkdakfnaaaGreat
/-
 The queries of texts: the program's way and the document's.
-/
set_option linter.unusedVariables false
set_option linter.unusedSimpArgs false
namespace Go.Proofs.YtdccklkdakfnaaaGreat
open Go.Gx
open Classical
def qg (g : ByteArray) : T29 := ⟨2, g, []⟩
noncomputable def grS (s : ByteArray) : T29 := putS 3 ((nrm (wins s)).map qg)
noncomputable def quS (l : List ByteArray) : T29 := putS 4 (l.map grS)
theorem qg_W (g : ByteArray) : Wq (qg g) := by simp [qg, Wq, Wqs]
theorem qg_qns : ∀ l : List ByteArray, qns (l.map qg) = l.length
 | [] => rfl
 | g :: l => by rw [List.map_cons, qns, qg_qns l]; simp [qg, qn, qns]; omega
theorem cv_qg (g : ByteArray) : cv (qg g) = (⟨2, g, []⟩ : T38) := by rw [qg, cv, cvs]
theorem grS_W (s : ByteArray) (hs : s.size ≤ 1000) : Wq (grS s) ∧ qn (grS s) ≤ 1000 := by
 have h := put_W 3 ((nrm (wins s)).map qg) fun q hq => by obtain ⟨g, _, rfl⟩ := List.mem_map.1 hq; exact qg_W g
 refine ⟨h.1, ?_⟩
 have h2 := h.2
 rw [qg_qns] at h2
 have := nrm_len (wins s)
 have hw := wins_len s
 unfold grS
 omega
theorem grS_qns : ∀ l : List ByteArray, (∀ s ∈ l, s.size ≤ 1000) → qns (l.map grS) ≤ 1000 * l.length
 | [], _ => by simp [qns]
 | s :: l, h => by
  have := grS_qns l fun x hx => h x (List.mem_cons_of_mem _ hx)
  have := (grS_W s (h s (by simp))).2
  rw [List.map_cons, qns, List.length_cons]; omega
theorem quS_W (l : List ByteArray) (h : TxS (some l)) : Wq (quS l) ∧ qn (quS l) ≤ 40000 := by
 have hs : ∀ s ∈ l, s.size ≤ 1000 := fun s hs => by have := h.2 s hs; omega
 have hp := put_W 4 (l.map grS) fun q hq => by obtain ⟨s, hs', rfl⟩ := List.mem_map.1 hq; exact (grS_W s (hs s hs')).1
 have := grS_qns l hs
 have := h.1
 exact ⟨hp.1, by have := hp.2; unfold quS; omega⟩
theorem query_ok (l : List ByteArray) (h : TxS (some l)) (b : Bool) : M.a1a ⟨l, b⟩ = some (quS l) := by
 have hll := h.1
 have hs : ∀ s ∈ l, s.size ≤ 1000 := fun s hs => by have := h.2 s hs; omega
 have loop : ∀ (R pre : List ByteArray), l = pre ++ R → M.a8 ((⟨0, (⟨#[]⟩ : ByteArray), ([] : List T29)⟩ : T29), pre.map grS, l, (l.length : Int), (pre.length : Int)) = some (quS l) := by
  intro R
  induction R with
  | nil =>
   intro pre e
   have hp : pre = l := by rw [e]; simp
   have hq := grS_qns l hs
   rw [M.a8]; try dsimp only
   rw [if_neg (by rw [hp]; omega), hp, put_ok 4 (l.map grS) (by omega), bnd]
   rfl
  | cons s R ih =>
   intro pre e
   have hlen : l.length = pre.length + (R.length + 1) := by rw [e]; simp
   have hsz := hs s (by rw [e]; simp)
   have hG := nrm_len (wins s)
   have hw := wins_len s
   have fin : ∀ v : List T29, v = (nrm (wins s)).map qg → (M.af 3 v >>= fun y84 => if (((pre.map grS) ++ [y84]).length : Int) ≤ 1099511627776 then M.a8 ((⟨0, (⟨#[]⟩ : ByteArray), ([] : List T29)⟩ : T29), ((pre.map grS) ++ [y84]), l, (l.length : Int), wr .i64 ((pre.length : Int) + 1)) else none) = some (quS l) := by
    intro v hv
    rw [hv, put_ok 3 _ (by rw [qg_qns]; omega), bnd, if_pos (by simp; omega), wr_i64 (by omega) (by omega)]
    have := ih (pre ++ [s]) (by rw [e]; simp)
    rw [show (((pre ++ [s]).length : Nat) : Int) = (pre.length : Int) + 1 by simp, List.map_append] at this
    exact this
   have l2 : ∀ (Q qre : List ByteArray), nrm (wins s) = qre ++ Q → M.a19 ((⟨0, (⟨#[]⟩ : ByteArray), ([] : List T29)⟩ : T29), pre.map grS, qre.map qg, l, (l.length : Int), (pre.length : Int), nrm (wins s), ((nrm (wins s)).length : Int), (qre.length : Int)) = some (quS l) := by
    intro Q
    induction Q with
    | nil =>
     intro qre eq
     rw [M.a19]; try dsimp only
     rw [if_neg (by rw [eq]; simp)]
     exact fin _ (by rw [eq, List.append_nil])
    | cons g Q ihq =>
     intro qre eq
     have hl : (nrm (wins s)).length = qre.length + (Q.length + 1) := by rw [eq]; simp
     rw [M.a19]; try dsimp only
     rw [if_pos (by omega), if_pos (by omega), if_pos (by omega), show gi (nrm (wins s)) (qre.length : Int) = g by rw [eq]; exact gi_mid qre g Q, bnd, if_pos (by simp; omega), wr_i64 (x := (qre.length : Int) + 1) (by omega) (by omega)]
     have := ihq (qre ++ [g]) (by rw [eq]; simp)
     rw [show (((qre ++ [g]).length : Nat) : Int) = (qre.length : Int) + 1 by simp, List.map_append] at this
     exact this
   rw [M.a8]; try dsimp only
   rw [if_pos (by omega), if_pos (by omega), if_pos (by omega), show gi l (pre.length : Int) = s by rw [e]; exact gi_mid pre s R, grams_ok s (by omega), bnd, M.a3d]; try dsimp only
   cases hn : nrm (wins s) with
   | nil =>
    rw [if_neg (by simp)]
    exact fin [] (by rw [hn]; rfl)
   | cons g G =>
    rw [if_pos (by simp), if_pos (by omega), if_pos (by simp), if_pos (by simp), wr_i64 (x := (0 : Int) + 1) (by omega) (by omega)]
    have := l2 G [g] (by rw [hn]; rfl)
    rw [hn] at this
    exact this
 rw [M.a1a]; try dsimp only
 exact loop l [] rfl
theorem rof_ok (l : List ByteArray) (h : TxS (some l)) : M.a1p l = some (cv (quS l)) := by
 have hll := h.1
 have hs : ∀ s ∈ l, s.size ≤ 1000 := fun s hs => by have := h.2 s hs; omega
 have hw4 : ∀ q ∈ l.map grS, Wq q := fun q hq => by obtain ⟨s, hs', rfl⟩ := List.mem_map.1 hq; exact (grS_W s (hs s hs')).1
 have loop : ∀ (R pre : List ByteArray), l = pre ++ R → M.a2x (l, (⟨0, (⟨#[]⟩ : ByteArray), ([] : List T38)⟩ : T38), (pre.map grS).map cv, (pre.length : Int)) = some (cv (quS l)) := by
  intro R
  induction R with
  | nil =>
   intro pre e
   have hp : pre = l := by rw [e]; simp
   have hq := grS_qns l hs
   rw [M.a2x]; try dsimp only
   rw [if_neg (by rw [hp]; omega), hp, rput_ok 4 (l.map grS) (by omega) hw4, bnd]
   rfl
  | cons s R ih =>
   intro pre e
   have hlen : l.length = pre.length + (R.length + 1) := by rw [e]; simp
   have hsz := hs s (by rw [e]; simp)
   have hG := nrm_len (wins s)
   have hw := wins_len s
   have l1 : ∀ (Q qre : List ByteArray), nrm (wins s) = qre ++ Q → M.a42 (l, (⟨0, (⟨#[]⟩ : ByteArray), ([] : List T38)⟩ : T38), (pre.map grS).map cv, (pre.length : Int), nrm (wins s), (qre.map qg).map cv, (qre.length : Int)) = some (cv (quS l)) := by
    intro Q
    induction Q with
    | nil =>
     intro qre eq
     rw [M.a42]; try dsimp only
     rw [if_neg (by rw [eq]; simp), show qre = nrm (wins s) by rw [eq, List.append_nil], rput_ok 3 _ (by rw [qg_qns]; omega) (fun q hq => by obtain ⟨g, _, rfl⟩ := List.mem_map.1 hq; exact qg_W g), bnd, if_pos (by simp; omega), wr_i64 (by omega) (by omega)]
     have := ih (pre ++ [s]) (by rw [e]; simp)
     rw [show (((pre ++ [s]).length : Nat) : Int) = (pre.length : Int) + 1 by simp, List.map_append, List.map_append] at this
     exact this
    | cons g Q ihq =>
     intro qre eq
     have hl : (nrm (wins s)).length = qre.length + (Q.length + 1) := by rw [eq]; simp
     rw [M.a42]; try dsimp only
     rw [if_pos (by omega), if_pos (by omega), show gi (nrm (wins s)) (qre.length : Int) = g by rw [eq]; exact gi_mid qre g Q, bnd, if_pos (by simp; omega), wr_i64 (x := (qre.length : Int) + 1) (by omega) (by omega)]
     have := ihq (qre ++ [g]) (by rw [eq]; simp)
     rw [show (((qre ++ [g]).length : Nat) : Int) = (qre.length : Int) + 1 by simp, List.map_append, List.map_append, List.map_singleton, List.map_singleton, cv_qg] at this
     exact this
   rw [M.a2x]; try dsimp only
   rw [if_pos (by omega), if_pos (by omega), show gi l (pre.length : Int) = s by rw [e]; exact gi_mid pre s R, rgrams_ok s (by omega), bnd]
   exact l1 (nrm (wins s)) [] rfl
 rw [M.a1p]
 exact loop l [] rfl
end Go.Proofs.YtdccklkdakfnaaaGreat
/-
 A pattern's query: the program's way and the document's.
-/
set_option linter.unusedVariables false
set_option linter.unusedSimpArgs false
namespace Go.Proofs.YtdccklkdakfnaaaGreat
open Go.Gx
open Classical
def runL (f : T26 → Option (List ByteArray)) (t : List ByteArray) : List T26 → List ByteArray × List T26
 | [] => (t, [])
 | x :: L => match behS (some t) (f x) with
  | none => (t, x :: L)
  | some u => runL f u L
theorem runL_len (f : T26 → Option (List ByteArray)) : ∀ (L : List T26) (t : List ByteArray), ∃ pre, L = pre ++ (runL f t L).2
 | [], t => ⟨[], rfl⟩
 | x :: L, t => by
  rw [runL]
  split
  ·exact ⟨[], rfl⟩
  ·obtain ⟨pre, h⟩ := runL_len f L _
   refine ⟨x :: pre, ?_⟩
   conv => lhs; rw [h]
   rfl
theorem runL_txs (f : T26 → Option (List ByteArray)) : ∀ (L : List T26) (t : List ByteArray), TxS (some t) → TxS (some (runL f t L).1)
 | [], t, h => h
 | x :: L, t, h => by
  rw [runL]
  split
  ·exact h
  ·rename_i u hu
   have := behS_txs (some t) (f x)
   rw [hu] at this
   exact runL_txs f L u this
noncomputable def eachL (f : T26 → Option (List ByteArray)) (g : T26 → T29) : Nat → List T26 → List T29
 | 0, _ => []
 | _ + 1, [] => []
 | n + 1, x :: L => match f x with
  | none => g x :: eachL f g n L
  | some t => quS (runL f t L).1 :: eachL f g n (runL f t L).2
def Q0 : T29 := ⟨0, eS, []⟩
noncomputable def fromS : Nat → T26 → T29
 | 0, _ => Q0
 | d + 1, r => match tellS (d + 1) r with
  | some l => quS l
  | none => if r.Kind = 2 then putS 3 (eachL (tellS d) (fromS d) r.L.length r.L) else if r.Kind = 3 then putS 4 (r.L.map (fromS d)) else if r.Kind = 4 then (if r.Min > 0 then fromS d (gi r.L 0) else Q0) else Q0
theorem Q0_W : Wq Q0 ∧ qn Q0 = 1 := ⟨by simp [Q0, Wq, Wqs], by simp [Q0, qn, qns]⟩
theorem nds_app : ∀ a b : List T26, nds (a ++ b) = nds a + nds b
 | [], b => by simp [nds]
 | x :: a, b => by rw [List.cons_append, nds, nds, nds_app a b]; omega
theorem each_W (f : T26 → Option (List ByteArray)) (hf : ∀ x, TxS (f x)) (g : T26 → T29) : ∀ (n : Nat) (L : List T26), (∀ x ∈ L, Wq (g x) ∧ qn (g x) ≤ 50000 * nd x) → (∀ q ∈ eachL f g n L, Wq q) ∧ qns (eachL f g n L) ≤ 50000 * nds L
 | 0, L, _ => by simp [eachL, qns]
 | n + 1, [], _ => by simp [eachL, qns]
 | n + 1, x :: L, h => by
  have hx := hf x
  have hp := nd_pos x
  rw [eachL]
  cases hfx : f x with
  | none =>
   have ih := each_W f hf g n L fun y hy => h y (List.mem_cons_of_mem _ hy)
   have h1 := h x (by simp)
   refine ⟨fun q hq => ?_, ?_⟩
   ·rcases List.mem_cons.1 hq with rfl | hq
    ·exact h1.1
    ·exact ih.1 q hq
   ·show qns (g x :: eachL f g n L) ≤ _
    rw [qns, nds]; omega
  | some t =>
   rw [hfx] at hx
   obtain ⟨pre, hpre⟩ := runL_len f L t
   have ih := each_W f hf g n (runL f t L).2 fun y hy => h y (by rw [hpre]; simp [hy])
   have h1 := quS_W _ (runL_txs f L t hx)
   have hn : nds L = nds pre + nds (runL f t L).2 := by conv => lhs; rw [hpre, nds_app]
   refine ⟨fun q hq => ?_, ?_⟩
   ·rcases List.mem_cons.1 hq with rfl | hq
    ·exact h1.1
    ·exact ih.1 q hq
   ·show qns (quS (runL f t L).1 :: eachL f g n (runL f t L).2) ≤ _
    rw [qns, nds]; omega
theorem map_W (g : T26 → T29) : ∀ L : List T26, (∀ x ∈ L, Wq (g x) ∧ qn (g x) ≤ 50000 * nd x) → (∀ q ∈ L.map g, Wq q) ∧ qns (L.map g) ≤ 50000 * nds L
 | [], _ => by simp [qns]
 | x :: L, h => by
  have ih := map_W g L fun y hy => h y (List.mem_cons_of_mem _ hy)
  have h1 := h x (by simp)
  refine ⟨fun q hq => ?_, ?_⟩
  ·rw [List.map_cons] at hq
   rcases List.mem_cons.1 hq with rfl | hq
   ·exact h1.1
   ·exact ih.1 q hq
  ·rw [List.map_cons, qns, nds]; omega
theorem from_W : ∀ (d : Nat) (r : T26), r.L.length ≤ 0 ∨ True → Wq (fromS d r) ∧ qn (fromS d r) ≤ 50000 * nd r
 | 0, r, _ => by have := nd_pos r; exact ⟨Q0_W.1, by rw [fromS, Q0_W.2]; omega⟩
 | d + 1, r, _ => by
  have hp := nd_pos r
  have hq0 : Wq Q0 ∧ qn Q0 ≤ 50000 * nd r := ⟨Q0_W.1, by rw [Q0_W.2]; omega⟩
  have sub : ∀ x ∈ r.L, Wq (fromS d x) ∧ qn (fromS d x) ≤ 50000 * nd x := fun x _ => from_W d x (.inr trivial)
  rw [fromS]
  cases ht : tellS (d + 1) r with
  | some l =>
   have hx := tellS_txs (d + 1) r
   rw [ht] at hx
   have := quS_W l hx
   exact ⟨this.1, by show qn (quS l) ≤ _; omega⟩
  | none =>
   show Wq (if r.Kind = 2 then _ else _) ∧ qn (if r.Kind = 2 then _ else _) ≤ _
   have hnd := nd_eq r
   by_cases h2 : r.Kind = 2
   ·rw [if_pos h2]
    have he := each_W (tellS d) (tellS_txs d) (fromS d) r.L.length r.L sub
    have := put_W 3 _ he.1
    exact ⟨this.1, by omega⟩
   ·rw [if_neg h2]
    by_cases h3 : r.Kind = 3
    ·rw [if_pos h3]
     have he := map_W (fromS d) r.L sub
     have := put_W 4 _ he.1
     exact ⟨this.1, by omega⟩
    ·rw [if_neg h3]
     by_cases h4 : r.Kind = 4 ∧ r.Min > 0
     ·rw [if_pos h4.1, if_pos h4.2]
      cases hL : r.L with
      | nil =>
       have := from_W d (gi ([] : List T26) 0) (.inr trivial)
       have e : nd (gi ([] : List T26) 0) = 1 := by decide
       rw [e] at this
       exact ⟨this.1, by omega⟩
      | cons x L =>
       have := from_W d x (.inr trivial)
       rw [hnd, hL, nds]
       exact ⟨this.1, by show qn (fromS d x) ≤ _; omega⟩
     ·by_cases h5 : r.Kind = 4
      ·rw [if_pos h5, if_neg fun h => h4 ⟨h5, h⟩]; exact hq0
      ·rw [if_neg h5]; exact hq0
end Go.Proofs.YtdccklkdakfnaaaGreat
/-
 A pattern's query: what the program does.
-/
set_option linter.unusedVariables false
set_option linter.unusedSimpArgs false
namespace Go.Proofs.YtdccklkdakfnaaaGreat
open Go.Gx
open Classical
theorem run_ok (f : T26 → Option (List ByteArray)) (hf : ∀ x, TxS (f x)) (L : List T26) (hL : L.length ≤ 4096) (h : ∀ x ∈ L, M.a3 x = some (tO (f x))) (x : T26) (L' : List T26) (e : L = x :: L') :
  M.a1v L = some (match f x with | none => (tO none, 1) | some t => (tO (some (runL f t L').1), ((L.length - (runL f t L').2.length : Nat) : Int))) := by
 have loop : ∀ (R pre : List T26) (t : List ByteArray), L = pre ++ R → TxS (some t) → M.ag (L, (⟨[], false⟩ : T218), ⟨t, true⟩, (pre.length : Int)) = some (tO (some (runL f t R).1), ((L.length - (runL f t R).2.length : Nat) : Int)) := by
  intro R
  induction R with
  | nil =>
   intro pre t el ht
   rw [M.ag]; try dsimp only
   rw [if_pos rfl, decide_eq_false (by rw [el]; simp), M.a1b]; try dsimp only
   rw [if_neg (by decide)]
   simp [runL, tO, el]
  | cons y R ih =>
   intro pre t el ht
   have hlen : L.length = pre.length + (R.length + 1) := by rw [el]; simp
   have hb := behS_txs (some t) (f y)
   rw [M.ag]; try dsimp only
   rw [if_pos rfl, decide_eq_true (by omega), M.a1b]; try dsimp only
   rw [if_pos rfl, if_pos (by omega), if_pos (by omega), show gi L (pre.length : Int) = y by rw [el]; exact gi_mid pre y R, eta27, h y (by rw [el]; simp), bnd, show (⟨t, true⟩ : T218) = tO (some t) from rfl, behind_ok _ _ ht.ok (hf y).ok, bnd, M.a3e]; try dsimp only
   rw [runL]
   cases hbe : behS (some t) (f y) with
   | none =>
    rw [if_neg (by simp [tO])]
    show some (tO (some t), (pre.length : Int)) = some (tO (some t), ((L.length - (y :: R).length : Nat) : Int))
    rw [show L.length - (y :: R).length = pre.length by simp; omega]
   | some u =>
    rw [hbe] at hb
    rw [if_pos (show (tO (some u)).known = true from rfl), wr_i64 (by omega) (by omega)]
    have := ih (pre ++ [y]) u (by rw [el]; simp) hb
    rw [show (((pre ++ [y]).length : Nat) : Int) = (pre.length : Int) + 1 by simp] at this
    exact this
 have hx : x ∈ L := by rw [e]; simp
 have hg : gi L 0 = x := by rw [e]; rfl
 have htx := hf x
 rw [M.a1v, if_pos (by rw [e]; simp), hg, eta27, h x hx, bnd]
 cases hfx : f x with
 | none =>
  rw [M.ag]; try dsimp only
  rw [if_neg (by simp [tO]), M.a1b]; try dsimp only
  rw [if_neg (by decide)]
  rfl
 | some t =>
  rw [hfx] at htx
  exact loop L' [x] t (by rw [e]; rfl) htx
theorem each_ok (f : T26 → Option (List ByteArray)) (hf : ∀ x, TxS (f x)) (g : T26 → T29) (N : Nat) (hN : N ≤ 1900) : ∀ (n : Nat) (L : List T26) (acc : List T29), L.length ≤ n → (∀ x ∈ L, M.a3 x = some (tO (f x))) → (∀ x ∈ L, M.a6 x = some (g x)) → (∀ x ∈ L, Wq (g x) ∧ qn (g x) ≤ 50000 * nd x) → qns acc + 50000 * nds L ≤ 50000 * N →
  M.an (L, (⟨0, (⟨#[]⟩ : ByteArray), ([] : List T29)⟩ : T29), acc) = some (putS 3 (acc ++ eachL f g n L)) := by
 intro n
 induction n with
 | zero =>
  intro L acc hn h1 h2 h3 hq
  have : L = [] := List.eq_nil_of_length_eq_zero (by omega)
  subst this
  rw [M.an]; try dsimp only
  rw [if_neg (by simp), put_ok 3 acc (by omega), bnd]
  simp [eachL]
 | succ n ih =>
  intro L acc hn h1 h2 h3 hq
  cases L with
  | nil =>
   rw [M.an]; try dsimp only
   rw [if_neg (by simp), put_ok 3 acc (by omega), bnd]
   simp [eachL]
  | cons x L =>
   have hx : x ∈ x :: L := by simp
   have hp := nd_pos x
   have hnl := nds_len L
   have hnds : nds (x :: L) = nd x + nds L := by rw [nds]
   have hal := qns_len acc
   have hL1 : (x :: L).length ≤ 1900 := by simp; omega
   have hlen : ((x :: L).length : Int) = (L.length : Int) + 1 := by simp
   rw [M.an]; try dsimp only
   have hrun := run_ok f hf (x :: L) (by omega) h1 x L rfl
   rw [if_pos (by omega), eachL]
   have htx := hf x
   cases hfx : f x with
   | none =>
    rw [hfx] at hrun
    replace hrun : M.a1v (x :: L) = some (tO none, 1) := hrun
    rw [hrun, bnd]
    show (if (tO none).known = true then _ else _) = _
    rw [if_neg (by simp [tO]), if_pos (by omega), show gi (x :: L) 0 = x from rfl, eta27, h2 x hx, bnd, if_pos (by simp; omega), M.a1w]; try dsimp only
    rw [if_pos (by omega), if_pos (by omega)]
    have es : sl (x :: L) 1 ((x :: L).length : Int) = L := by simp [sl]
    rw [es, ih L (acc ++ [g x]) (by simp at hn; omega) (fun y hy => h1 y (List.mem_cons_of_mem _ hy)) (fun y hy => h2 y (List.mem_cons_of_mem _ hy)) (fun y hy => h3 y (List.mem_cons_of_mem _ hy)) (by rw [qns_append]; simp only [qns]; have := (h3 x hx).2; omega)]
    simp
   | some t =>
    rw [hfx] at htx
    obtain ⟨pre, hpre⟩ := runL_len f L t
    have htr := runL_txs f L t htx
    have hrl : L.length = pre.length + (runL f t L).2.length := by
     conv => lhs; rw [hpre]
     simp
    have hrn : nds L = nds pre + nds (runL f t L).2 := by conv => lhs; rw [hpre, nds_app]
    have hsub : ∀ y ∈ (runL f t L).2, y ∈ x :: L := fun y hy => List.mem_cons_of_mem _ (by rw [hpre]; simp [hy])
    have hsz : (x :: L).length - (runL f t L).2.length = pre.length + 1 := by simp; omega
    rw [hfx] at hrun
    replace hrun : M.a1v (x :: L) = some (tO (some (runL f t L).1), (((x :: L).length - (runL f t L).2.length : Nat) : Int)) := hrun
    rw [hsz] at hrun
    rw [hrun, bnd]
    show (if (tO (some (runL f t L).1)).known = true then _ else _) = _
    rw [if_pos (show (tO (some (runL f t L).1)).known = true from rfl)]
    show (M.a1a ⟨(runL f t L).1, true⟩ >>= _) = _
    rw [query_ok _ htr, bnd, if_pos (by simp; omega), M.a1w]; try dsimp only
    rw [if_pos (by omega), if_pos (by simp; omega)]
    have es : sl (x :: L) ((pre.length + 1 : Nat) : Int) ((x :: L).length : Int) = (runL f t L).2 := by
     simp only [sl, Int.toNat_natCast, List.take_length, List.drop_succ_cons]
     conv => lhs; rw [hpre]
     simp
    have hqw := quS_W _ htr
    rw [es, ih (runL f t L).2 (acc ++ [quS (runL f t L).1]) (by simp at hn; omega) (fun y hy => h1 y (hsub y hy)) (fun y hy => h2 y (hsub y hy)) (fun y hy => h3 y (hsub y hy)) (by rw [qns_append]; simp only [qns]; omega)]
    simp
theorem from_ok (d : Nat) : ∀ r : T26, Rt d r → nd r ≤ 1900 → M.a6 r = some (fromS d r) := by
 induction d with
 | zero => intro r h; exact absurd h id
 | succ d ih =>
  intro r hr hn
  have ht := tell_ok (d + 1) r hr (by omega)
  have hnd := nd_eq r
  have hll := nds_len r.L
  have s1 : ∀ x ∈ r.L, M.a3 x = some (tO (tellS d x)) := fun x hx => tell_ok d x (hr.2.2 x hx) (by have := nd_mem hx; omega)
  have s2 : ∀ x ∈ r.L, M.a6 x = some (fromS d x) := fun x hx => ih x (hr.2.2 x hx) (by have := nd_mem hx; omega)
  have s3 : ∀ x ∈ r.L, Wq (fromS d x) ∧ qn (fromS d x) ≤ 50000 * nd x := fun x _ => from_W d x (.inr trivial)
  have htx := tellS_txs (d + 1) r
  rw [M.a6]; try dsimp only
  rw [ht, bnd, fromS]
  cases htl : tellS (d + 1) r with
  | some l =>
   rw [htl] at htx
   rw [if_pos (show (tO (some l)).known = true from rfl)]
   show (M.a1a ⟨l, true⟩ >>= _) = _
   rw [query_ok l htx, bnd]
  | none =>
   rw [if_neg (by simp [tO])]
   show _ = some (if r.Kind = 2 then _ else _)
   by_cases h2 : r.Kind = 2
   ·rw [if_pos h2, if_pos h2, M.a3f]; try dsimp only
    rw [each_ok (tellS d) (tellS_txs d) (fromS d) 1900 (by omega) r.L.length r.L [] (Nat.le_refl _) s1 s2 s3 (by simp only [qns]; omega), bnd, List.nil_append]
   rw [if_neg h2, if_neg h2]
   by_cases h3 : r.Kind = 3
   ·rw [if_pos h3, if_pos h3]
    have loop : ∀ (R pre : List T26), r.L = pre ++ R → M.a1c ((⟨0, (⟨#[]⟩ : ByteArray), ([] : List T29)⟩ : T29), pre.map (fromS d), r.L, (r.L.length : Int), (pre.length : Int)) = some (putS 4 (r.L.map (fromS d))) := by
     intro R
     induction R with
     | nil =>
      intro pre e
      have hm := map_W (fromS d) r.L s3
      rw [M.a1c]; try dsimp only
      rw [if_neg (by rw [e]; simp), show pre = r.L by rw [e]; simp, put_ok 4 _ (by omega), bnd]
     | cons x R ihR =>
      intro pre e
      have hlen : r.L.length = pre.length + (R.length + 1) := by rw [e]; simp
      rw [M.a1c]; try dsimp only
      rw [if_pos (by omega), if_pos (by omega), if_pos (by omega), show gi r.L (pre.length : Int) = x by rw [e]; exact gi_mid pre x R, eta27, s2 x (by rw [e]; simp), bnd, if_pos (by simp; omega), wr_i64 (by omega) (by omega)]
      have := ihR (pre ++ [x]) (by rw [e]; simp)
      rw [show (((pre ++ [x]).length : Nat) : Int) = (pre.length : Int) + 1 by simp, List.map_append] at this
      exact this
    exact loop r.L [] rfl
   rw [if_neg h3, if_neg h3]
   by_cases h4 : r.Kind = 4
   ·rw [if_pos h4, if_pos h4]
    by_cases h5 : r.Min > 0
    ·rcases hr.1 with ⟨h, _⟩ | ⟨h | h, _⟩ | ⟨_, ⟨x, hL⟩, _⟩
     ·omega
     ·omega
     ·omega
     rw [if_pos h5, if_pos h5, if_pos (by rw [hL]; simp), show gi r.L 0 = x by rw [hL]; rfl, eta27, s2 x (by rw [hL]; simp), bnd]
    ·rw [if_neg h5, if_neg h5]; rfl
   ·rw [if_neg h4, if_neg h4]; rfl
end Go.Proofs.YtdccklkdakfnaaaGreat
/-
 A pattern's query: the document's way.
-/
set_option linter.unusedVariables false
set_option linter.unusedSimpArgs false
namespace Go.Proofs.YtdccklkdakfnaaaGreat
open Go.Gx
open Classical
theorem reach_ok (d : Nat) (r : T26) (N : Nat) (hN : N ≤ 1900) (hnl : nds r.L ≤ N)
  (h1 : ∀ x ∈ r.L, ∃ p, M.a7 x = some p ∧ RT (tellS d x) p) (h2 : ∀ x ∈ r.L, M.av x = some (cv (fromS d x))) :
  ∀ (n : Nat) (R pre : List T26) (acc : List T29), R.length ≤ n → r.L = pre ++ R → (∀ q ∈ acc, Wq q) → qns acc + 50000 * nds R ≤ 50000 * N →
   M.ai (r, (⟨0, (⟨#[]⟩ : ByteArray), ([] : List T38)⟩ : T38), acc.map cv, (pre.length : Int)) = some (cv (putS 3 (acc ++ eachL (tellS d) (fromS d) n R))) := by
 have hll := nds_len r.L
 intro n
 induction n with
 | zero =>
  intro R pre acc hn e hw hq
  have : R = [] := List.eq_nil_of_length_eq_zero (by omega)
  subst this
  rw [M.ai]; try dsimp only
  rw [if_neg (by rw [e]; simp), rput_ok 3 acc (by omega) hw, bnd]
  simp [eachL]
 | succ n ih =>
  intro R pre acc hn e hw hq
  cases R with
  | nil =>
   rw [M.ai]; try dsimp only
   rw [if_neg (by rw [e]; simp), rput_ok 3 acc (by omega) hw, bnd]
   simp [eachL]
  | cons x R =>
   have hlen : r.L.length = pre.length + (R.length + 1) := by rw [e]; simp
   have hx : x ∈ r.L := by rw [e]; simp
   have hp := nd_pos x
   have hnds : nds (x :: R) = nd x + nds R := by rw [nds]
   have hal := qns_len acc
   obtain ⟨p, e1, k1⟩ := h1 x hx
   have htx := tellS_txs d x
   have hW := from_W d x (.inr trivial)
   rw [M.ai]; try dsimp only
   rw [if_pos (by omega), if_pos (by omega), show gi r.L (pre.length : Int) = x by rw [e]; exact gi_mid pre x R, eta27, e1, bnd, eachL]
   rcases k1 with ⟨k2, k3, k4⟩ | ⟨t, k2, rfl⟩
   ·rw [if_neg (by rw [k3]; decide), h2 x hx, bnd, if_pos (by simp; omega), wr_i64 (by omega) (by omega), k2]
    have := ih R (pre ++ [x]) (acc ++ [fromS d x]) (by simp at hn; omega) (by rw [e]; simp) (fun q hq' => by
     rcases List.mem_append.1 hq' with h | h
     ·exact hw q h
     ·rw [List.mem_singleton.1 h]; exact hW.1) (by rw [qns_append]; simp only [qns]; omega)
    rw [show (((pre ++ [x]).length : Nat) : Int) = (pre.length : Int) + 1 by simp, List.map_append] at this
    rw [show (acc.map cv ++ [cv (fromS d x)]) = acc.map cv ++ [fromS d x].map cv from rfl, this]
    simp
   ·rw [k2] at htx
    rw [if_pos rfl, wr_i64 (by omega) (by omega), k2]
    -- as many as can be told together
    have fin : ∀ (S qre : List T26) (u : List ByteArray), r.L = qre ++ S → TxS (some u) → S.length ≤ n → qns acc + 40000 + 50000 * nds S ≤ 50000 * N → (M.a1p u >>= fun y => if ((acc.map cv ++ [y]).length : Int) ≤ 1099511627776 then M.ai (r, (⟨0, (⟨#[]⟩ : ByteArray), ([] : List T38)⟩ : T38), acc.map cv ++ [y], (qre.length : Int)) else none) = some (cv (putS 3 (acc ++ (quS u :: eachL (tellS d) (fromS d) n S)))) := by
     intro S qre u eS' hu hS hqq
     have hqw := quS_W u hu
     rw [rof_ok u hu, bnd, if_pos (by simp; omega)]
     have := ih S qre (acc ++ [quS u]) hS eS' (fun q hq' => by
      rcases List.mem_append.1 hq' with h | h
      ·exact hw q h
      ·rw [List.mem_singleton.1 h]; exact hqw.1) (by rw [qns_append]; simp only [qns]; omega)
     rw [List.map_append] at this
     rw [show (acc.map cv ++ [cv (quS u)]) = acc.map cv ++ [quS u].map cv from rfl, this]
     simp
    have loop : ∀ (S qre : List T26) (u : List ByteArray), r.L = qre ++ S → TxS (some u) → S.length ≤ n → qns acc + 40000 + 50000 * nds S ≤ 50000 * N → M.a44 (r, (⟨0, (⟨#[]⟩ : ByteArray), ([] : List T38)⟩ : T38), acc.map cv, (qre.length : Int), u) = some (cv (putS 3 (acc ++ (quS (runL (tellS d) u S).1 :: eachL (tellS d) (fromS d) n (runL (tellS d) u S).2)))) := by
     intro S
     induction S with
     | nil =>
      intro qre u eS' hu hS hqq
      rw [M.a44]; try dsimp only
      rw [if_neg (by rw [eS']; simp), fin [] qre u eS' hu hS hqq]
      rfl
     | cons y S ihS =>
      intro qre u eS' hu hS hqq
      have hl2 : r.L.length = qre.length + (S.length + 1) := by rw [eS']; simp
      have hy : y ∈ r.L := by rw [eS']; simp
      have hnys : nds (y :: S) = nd y + nds S := by rw [nds]
      obtain ⟨py, f1, j1⟩ := h1 y hy
      have hty := tellS_txs d y
      rw [M.a44]; try dsimp only
      rw [if_pos (by omega), if_pos (by omega), show gi r.L (qre.length : Int) = y by rw [eS']; exact gi_mid qre y S, eta27, f1, bnd, runL]
      rcases j1 with ⟨j2, j3, j4⟩ | ⟨v, j2, rfl⟩
      ·rw [if_neg (by rw [j3]; decide), fin (y :: S) qre u eS' hu hS hqq, j2]
       rfl
      ·rw [j2] at hty
       rw [if_pos rfl, j2]
       obtain ⟨pc, g1, g2⟩ := rcross_ok u v hu hty
       show (M.a1l u v >>= _) = _
       rw [g1, bnd]
       have hb := behS_txs (some u) (some v)
       rcases g2 with ⟨g3, g4, g5⟩ | ⟨z, g3, rfl⟩
       ·rw [if_neg (by rw [g4]; decide), fin (y :: S) qre u eS' hu hS hqq, g3]
       ·rw [if_pos rfl, wr_i64 (by omega) (by omega), g3]
        rw [g3] at hb
        have := ihS (qre ++ [y]) z (by rw [eS']; simp) hb (by simp at hS; omega) (by omega)
        rw [show (((qre ++ [y]).length : Nat) : Int) = (qre.length : Int) + 1 by simp] at this
        exact this
    have := loop R (pre ++ [x]) t (by rw [e]; simp) htx (by simp at hn; omega) (by omega)
    rw [show (((pre ++ [x]).length : Nat) : Int) = (pre.length : Int) + 1 by simp] at this
    exact this
theorem rfrom_ok (d : Nat) : ∀ r : T26, Rt d r → nd r ≤ 1900 → M.av r = some (cv (fromS d r)) := by
 induction d with
 | zero => intro r h; exact absurd h id
 | succ d ih =>
  intro r hr hn
  obtain ⟨p, e1, k1⟩ := rtexts_ok (d + 1) r hr (by omega)
  have hnd := nd_eq r
  have hll := nds_len r.L
  have s1 : ∀ x ∈ r.L, ∃ p, M.a7 x = some p ∧ RT (tellS d x) p := fun x hx => rtexts_ok d x (hr.2.2 x hx) (by have := nd_mem hx; omega)
  have s2 : ∀ x ∈ r.L, M.av x = some (cv (fromS d x)) := fun x hx => ih x (hr.2.2 x hx) (by have := nd_mem hx; omega)
  have s3 : ∀ x ∈ r.L, Wq (fromS d x) ∧ qn (fromS d x) ≤ 50000 * nd x := fun x _ => from_W d x (.inr trivial)
  have htx := tellS_txs (d + 1) r
  have c0 : cv Q0 = (⟨0, (⟨#[]⟩ : ByteArray), ([] : List T38)⟩ : T38) := cv_one 0
  rw [M.av]; try dsimp only
  rw [e1, bnd, fromS]
  rcases k1 with ⟨k2, k3, k4⟩ | ⟨t, k2, rfl⟩
  ·rw [if_neg (by rw [k3]; decide), k2]
   show _ = some (cv (if r.Kind = 2 then _ else _))
   by_cases h2 : r.Kind = 2
   ·rw [if_pos h2, if_pos h2]
    have := reach_ok d r 1900 (by omega) (by omega) s1 s2 r.L.length r.L [] [] (Nat.le_refl _) rfl (by simp) (by simp only [qns]; omega)
    exact this
   rw [if_neg h2, if_neg h2]
   by_cases h3 : r.Kind = 3
   ·rw [if_pos h3, if_pos h3]
    have hm := map_W (fromS d) r.L s3
    have loop : ∀ (R pre : List T26), r.L = pre ++ R → M.a43 (r, (⟨0, (⟨#[]⟩ : ByteArray), ([] : List T38)⟩ : T38), (pre.map (fromS d)).map cv, (pre.length : Int)) = some (cv (putS 4 (r.L.map (fromS d)))) := by
     intro R
     induction R with
     | nil =>
      intro pre e
      rw [M.a43]; try dsimp only
      rw [if_neg (by rw [e]; simp), show pre = r.L by rw [e]; simp, rput_ok 4 _ (by omega) hm.1, bnd]
     | cons x R ihR =>
      intro pre e
      have hlen : r.L.length = pre.length + (R.length + 1) := by rw [e]; simp
      rw [M.a43]; try dsimp only
      rw [if_pos (by omega), if_pos (by omega), show gi r.L (pre.length : Int) = x by rw [e]; exact gi_mid pre x R, eta27, s2 x (by rw [e]; simp), bnd, if_pos (by simp; omega), wr_i64 (by omega) (by omega)]
      have := ihR (pre ++ [x]) (by rw [e]; simp)
      rw [show (((pre ++ [x]).length : Nat) : Int) = (pre.length : Int) + 1 by simp, List.map_append, List.map_append] at this
      exact this
    exact loop r.L [] rfl
   rw [if_neg h3, if_neg h3]
   by_cases h4 : r.Kind = 4
   ·rw [if_pos h4, if_pos h4]
    by_cases h5 : r.Min > 0
    ·rcases hr.1 with ⟨h, _⟩ | ⟨h | h, _⟩ | ⟨_, ⟨x, hL⟩, _⟩
     ·omega
     ·omega
     ·omega
     rw [if_pos h5, if_pos h5, if_pos (by rw [hL]; simp), show gi r.L 0 = x by rw [hL]; rfl, eta27, s2 x (by rw [hL]; simp), bnd]
    ·rw [if_neg h5, if_neg h5, c0]
   ·rw [if_neg h4, if_neg h4, c0]
  ·rw [k2] at htx ⊢
   rw [if_pos rfl]
   show (M.a1p t >>= _) = some (cv (quS t))
   rw [rof_ok t htx, bnd]
end Go.Proofs.YtdccklkdakfnaaaGreat
/-
 May a query be: the program's way and the document's.
-/
set_option linter.unusedVariables false
set_option linter.unusedSimpArgs false
namespace Go.Proofs.YtdccklkdakfnaaaGreat
open Go.Gx
open Classical
def QD : Nat → T29 → Prop
 | 0, _ => False
 | d + 1, q => ∀ x ∈ q.L, QD d x
theorem QD.mono : ∀ {d e : Nat} {q : T29}, QD d q → d ≤ e → QD e q
 | 0, _, _, h, _ => absurd h id
 | d + 1, 0, _, _, he => by omega
 | d + 1, e + 1, q, h, he => fun x hx => (h x hx).mono (by omega)
mutual
def Rq : T29 → Prop
 | ⟨o, t, L⟩ => ((o = 0 ∨ o = 1) ∧ t = eS ∧ L = []) ∨ (o = 2 ∧ t.size = 3 ∧ L = []) ∨ ((o = 3 ∨ o = 4) ∧ t = eS ∧ Rqs L)
def Rqs : List T29 → Prop
 | [] => True
 | x :: xs => Rq x ∧ Rqs xs
end
theorem Rqs_iff : ∀ {L : List T29}, Rqs L ↔ ∀ x ∈ L, Rq x
 | [] => by simp [Rqs]
 | x :: xs => by rw [Rqs, Rqs_iff (L := xs)]; simp
theorem Rq_eq (q : T29) : Rq q ↔ ((q.Op = 0 ∨ q.Op = 1) ∧ q.Text = eS ∧ q.L = []) ∨ (q.Op = 2 ∧ q.Text.size = 3 ∧ q.L = []) ∨ ((q.Op = 3 ∨ q.Op = 4) ∧ q.Text = eS ∧ ∀ x ∈ q.L, Rq x) := by
 cases q
 rw [Rq, Rqs_iff]
theorem qcount_ok (left : Nat) : left ≤ 100 → ∀ (q : T29) (n : Nat), n + qn q ≤ 4000 → ∃ n' : Nat, M.ao (q, (left : Int), (n : Int)) = some (decide (QD left q), (n' : Int)) ∧ n' ≤ n + qn q := by
 induction left with
 | zero =>
  intro hl q n hn
  have hp := qn_pos q
  rw [M.ao]; try dsimp only
  rw [if_pos (by rfl), M.a1y]; try dsimp only
  rw [if_pos rfl, wr_i64 (by omega) (by omega)]
  exact ⟨n + 1, by rw [decide_eq_false (fun h : QD 0 q => h)]; rfl, by omega⟩
 | succ left ih =>
  intro hl q n hn
  have hq := qn_eq q
  have hll := qns_len q.L
  have loop : ∀ (R pre : List T29) (m : Nat), q.L = pre ++ R → m + qns R ≤ 4000 → ∃ n' : Nat, M.a1d (((left + 1 : Nat) : Int), q.L, (q.L.length : Int), (pre.length : Int), (m : Int)) = some (decide (∀ x ∈ R, QD left x), (n' : Int)) ∧ n' ≤ m + qns R := by
   intro R
   induction R with
   | nil =>
    intro pre m e hm
    rw [M.a1d]; try dsimp only
    rw [if_neg (by rw [e]; simp)]
    exact ⟨m, by rw [decide_eq_true (by simp)], by omega⟩
   | cons x R ihR =>
    intro pre m e hm
    have hlen : q.L.length = pre.length + (R.length + 1) := by rw [e]; simp
    rw [qns] at hm
    obtain ⟨n1, k1, k2⟩ := ih (by omega) x m (by omega)
    rw [M.a1d]; try dsimp only
    rw [if_pos (by omega), if_pos (by omega), if_pos (by omega), show gi q.L (pre.length : Int) = x by rw [e]; exact gi_mid pre x R, wr_i64 (x := ((left + 1 : Nat) : Int) - 1) (by omega) (by omega), show ((left + 1 : Nat) : Int) - 1 = (left : Int) by omega, k1, bnd]; try dsimp only
    by_cases hx : QD left x
    ·rw [decide_eq_true hx, if_pos rfl, wr_i64 (x := (pre.length : Int) + 1) (by omega) (by omega)]
     obtain ⟨n2, g1, g2⟩ := ihR (pre ++ [x]) n1 (by rw [e]; simp) (by omega)
     rw [show (((pre ++ [x]).length : Nat) : Int) = (pre.length : Int) + 1 by simp] at g1
     refine ⟨n2, ?_, by rw [qns]; omega⟩
     rw [g1]
     congr 2
     rw [decide_eq_decide]
     simp [hx]
    ·rw [decide_eq_false hx, if_neg (by decide)]
     exact ⟨n1, by rw [decide_eq_false (fun h => hx (h x (by simp)))], by rw [qns]; omega⟩
  rw [M.ao]; try dsimp only
  rw [if_neg (by omega), wr_i64 (by omega) (by omega), decide_eq_false (by omega), M.a1y]; try dsimp only
  rw [if_neg (by decide)]
  obtain ⟨n', g1, g2⟩ := loop q.L [] (n + 1) rfl (by omega)
  rw [show ((([] : List T29).length : Nat) : Int) = 0 from rfl, show ((n + 1 : Nat) : Int) = (n : Int) + 1 by push_cast; rfl] at g1
  exact ⟨n', by rw [g1]; exact congrArg some (Prod.ext (decide_eq_decide.2 Iff.rfl) rfl), by omega⟩
theorem eq_eS (t : ByteArray) : ((t.toList == (⟨#[]⟩ : ByteArray).toList) = true) ↔ t = eS := by rw [eqS, decide_eq_true_eq]; rfl
theorem qright_ok (n : Nat) : ∀ q : T29, qn q ≤ n → qn q ≤ 4000 → M.a1e q = some (decide (Rq q)) := by
 induction n with
 | zero => intro q h; have := qn_pos q; omega
 | succ n ih =>
  intro q hn hq
  have hqe := qn_eq q
  have hll := qns_len q.L
  have hL0 : ((q.L.length : Int) = 0) ↔ q.L = [] := by
   constructor
   ·intro h; exact List.eq_nil_of_length_eq_zero (by omega)
   ·intro h; rw [h]; rfl
  have e01 : (if q.Op = 0 then M.ap (q, q.Op, true) else M.ap (q, q.Op, decide (q.Op = 1))) = M.ap (q, q.Op, decide (q.Op = 0 ∨ q.Op = 1)) := by
   by_cases h : q.Op = 0
   ·rw [if_pos h]; simp [h]
   ·rw [if_neg h]; simp [h]
  rw [M.a1e]; try dsimp only
  rw [e01, M.ap]; try dsimp only
  have hR := Rq_eq q
  by_cases h01 : q.Op = 0 ∨ q.Op = 1
  ·rw [decide_eq_true h01, if_pos rfl]
   by_cases ht : q.Text = eS
   ·rw [if_pos ((eq_eS _).2 ht)]
    congr 1
    rw [decide_eq_decide, hL0, hR]
    constructor
    ·intro h; exact .inl ⟨h01, ht, h⟩
    ·rintro (h | h | h)
     ·exact h.2.2
     ·omega
     ·omega
   ·rw [if_neg (fun h => ht ((eq_eS _).1 h)), decide_eq_false]
    rw [hR]
    rintro (h | h | h)
    ·exact ht h.2.1
    ·omega
    ·omega
  ·rw [decide_eq_false h01, if_neg (by decide)]
   by_cases h2 : q.Op = 2
   ·rw [if_pos h2]
    by_cases ht : (q.Text.size : Int) = 3
    ·rw [if_pos ht]
     congr 1
     rw [decide_eq_decide, hL0, hR]
     constructor
     ·intro h; exact .inr (.inl ⟨h2, by omega, h⟩)
     ·rintro (h | h | h)
      ·omega
      ·exact h.2.2
      ·omega
    ·rw [if_neg ht, decide_eq_false]
     rw [hR]
     rintro (h | h | h)
     ·omega
     ·exact ht (by rw [h.2.1]; rfl)
     ·omega
   ·rw [if_neg h2]
    have e34 : (if q.Op = 3 then M.aq (q, true) else M.aq (q, decide (q.Op = 4))) = M.aq (q, decide (q.Op = 3 ∨ q.Op = 4)) := by
     by_cases h : q.Op = 3
     ·rw [if_pos h]; simp [h]
     ·rw [if_neg h]; simp [h]
    rw [e34, M.aq]; try dsimp only
    by_cases h34 : q.Op = 3 ∨ q.Op = 4
    ·rw [decide_eq_true h34, if_pos rfl]
     by_cases ht : q.Text = eS
     ·rw [if_pos ((eq_eS _).2 ht)]
      have loop : ∀ (R pre : List T29), q.L = pre ++ R → ∃ j : Int, M.a1f (q.L, (q.L.length : Int), (pre.length : Int)) = some j ∧ (0 ≤ j ↔ ¬ ∀ x ∈ R, Rq x) := by
       intro R
       induction R with
       | nil =>
        intro pre e
        rw [M.a1f]; try dsimp only
        rw [if_neg (by rw [e]; simp)]
        exact ⟨-1, rfl, by simp⟩
       | cons x R ihR =>
        intro pre e
        have hlen : q.L.length = pre.length + (R.length + 1) := by rw [e]; simp
        have hx : x ∈ q.L := by rw [e]; simp
        have hqx := qn_mem hx
        rw [M.a1f]; try dsimp only
        rw [if_pos (by omega), if_pos (by omega), if_pos (by omega), show gi q.L (pre.length : Int) = x by rw [e]; exact gi_mid pre x R, M.a3i, ih x (by omega) (by omega), bnd, bnd]
        by_cases hr : Rq x
        ·rw [decide_eq_true hr, if_neg (by decide), wr_i64 (by omega) (by omega)]
         obtain ⟨j, g1, g2⟩ := ihR (pre ++ [x]) (by rw [e]; simp)
         rw [show (((pre ++ [x]).length : Nat) : Int) = (pre.length : Int) + 1 by simp] at g1
         exact ⟨j, g1, by rw [g2]; simp [hr]⟩
        ·rw [decide_eq_false hr, if_pos (by decide)]
         exact ⟨_, rfl, by simp only [List.forall_mem_cons, hr, false_and, not_false_eq_true, iff_true]; omega⟩
      obtain ⟨j, g1, g2⟩ := loop q.L [] rfl
      rw [show ((([] : List T29).length : Nat) : Int) = 0 from rfl] at g1
      rw [M.a3g, M.a3h, g1, bnd, bnd]
      congr 1
      by_cases hall : ∀ x ∈ q.L, Rq x
      ·have hj : ¬ j ≥ 0 := fun h => (g2.1 h) hall
       rw [decide_eq_false hj, decide_eq_true (hR.2 (.inr (.inr ⟨h34, ht, hall⟩)))]
       rfl
      ·have hj : j ≥ 0 := g2.2 hall
       rw [decide_eq_true hj, decide_eq_false]
       ·rfl
       ·rw [hR]
        rintro (h | h | h)
        ·omega
        ·omega
        ·exact hall h.2.2
     ·rw [if_neg (fun h => ht ((eq_eS _).1 h)), decide_eq_false]
      rw [hR]
      rintro (h | h | h)
      ·omega
      ·omega
      ·exact ht h.2.1
    ·rw [decide_eq_false h34, if_neg (by decide), decide_eq_false]
     rw [hR]
     rintro (h | h | h)
     ·exact h01 h.1
     ·exact h2 h.1
     ·exact h34 h.1
theorem qcheck_ok (q : T29) (hq : qn q ≤ 3999) : M.a2g q = some (if QD 8 q ∧ Rq q then 0 else 2) := by
 obtain ⟨n', k1, k2⟩ := qcount_ok 8 (by omega) q 0 (by omega)
 rw [show ((8 : Nat) : Int) = 8 from rfl, show ((0 : Nat) : Int) = 0 from rfl] at k1
 rw [M.a2g, k1, bnd]; try dsimp only
 by_cases hd : QD 8 q
 ·rw [decide_eq_true hd, if_pos rfl, qright_ok (qn q) q (Nat.le_refl _) (by omega), bnd]
  by_cases hr : Rq q
  ·rw [decide_eq_true hr, if_pos rfl, if_pos ⟨hd, hr⟩]
  ·rw [decide_eq_false hr, if_neg (by decide), if_neg fun h => hr h.2]
 ·rw [decide_eq_false hd, if_neg (by decide), if_neg fun h => hd h.1]
end Go.Proofs.YtdccklkdakfnaaaGreat
/-
 May a query be: the document's way.
-/
set_option linter.unusedVariables false
set_option linter.unusedSimpArgs false
namespace Go.Proofs.YtdccklkdakfnaaaGreat
open Go.Gx
open Classical
theorem rdeep_ok (left : Nat) : left ≤ 40 → ∀ q : T29, qn q ≤ 4000 → ∃ d n : Int, M.a2z (cv q, (left : Int)) = some (d, n) ∧
  ((QD (left + 1) q ∧ n = (qn q : Int) ∧ 1 ≤ d ∧ d ≤ (left : Int) + 1 ∧ ∀ k : Nat, QD k q ↔ d ≤ (k : Int)) ∨ (¬ QD (left + 1) q ∧ d = 99 ∧ n = 9999)) := by
 induction left with
 | zero =>
  intro hl q hn
  rw [M.a2z]; try dsimp only
  rw [M.a30]; try dsimp only
  rw [cv_L, List.length_map]
  by_cases hL : q.L = []
  ·rw [if_neg (by rw [hL]; simp), M.a31]; try dsimp only
   rw [if_neg (by decide), wr_i64 (by omega) (by omega)]
   refine ⟨0 + 1, 1, rfl, .inl ⟨by simp [QD, hL], by rw [qn_eq, hL, qns]; rfl, by omega, by omega, fun k => ?_⟩⟩
   cases k with
   | zero => simp [QD]
   | succ k => simp only [QD, hL, List.not_mem_nil, false_implies, implies_true, true_iff]; omega
  ·have : 0 < q.L.length := List.length_pos_iff.2 hL
   rw [if_pos (by omega), decide_eq_true (by omega), M.a31]; try dsimp only
   rw [if_pos rfl, if_pos (by rfl)]
   refine ⟨99, 9999, rfl, .inr ⟨?_, rfl, rfl⟩⟩
   intro h
   obtain ⟨x, hx⟩ := List.exists_mem_of_ne_nil _ hL
   exact h x hx
 | succ left ih =>
  intro hl q hn
  rw [qn_eq] at hn
  have loop : ∀ (L pre : List T29) (d : Int), q.L = pre ++ L → 0 ≤ d → d ≤ (left : Int) + 1 → (∀ k : Nat, (∀ x ∈ pre, QD k x) ↔ d ≤ (k : Int)) →
    ∃ d' n' : Int, M.a30 (((left + 1 : Nat) : Int), cv q, d, ((1 + qns pre : Nat) : Int), (pre.length : Int)) = some (d', n') ∧
    ((QD (left + 2) q ∧ n' = (qn q : Int) ∧ 1 ≤ d' ∧ d' ≤ (left : Int) + 2 ∧ ∀ k : Nat, QD k q ↔ d' ≤ (k : Int)) ∨ (¬ QD (left + 2) q ∧ d' = 99 ∧ n' = 9999)) := by
   intro L
   induction L with
   | nil =>
    intro pre d e h0 h1 hk
    rw [List.append_nil] at e
    rw [M.a30]; try dsimp only
    rw [cv_L, List.length_map, if_neg (by rw [e]; simp), M.a31]; try dsimp only
    rw [if_neg (by decide), wr_i64 (by omega) (by omega)]
    refine ⟨d + 1, _, rfl, .inl ⟨?_, by rw [qn_eq, e], by omega, by omega, fun k => ?_⟩⟩
    ·show ∀ x ∈ q.L, QD (left + 1) x
     rw [e]; exact (hk (left + 1)).2 (by omega)
    ·cases k with
     | zero =>
      simp only [QD]
      constructor
      ·exact fun h => h.elim
      ·intro h; omega
     | succ k =>
      show (∀ x ∈ q.L, QD k x) ↔ _
      rw [e, hk k]; omega
   | cons x L ihL =>
    intro pre d e h0 h1 hk
    have hlen : q.L.length = pre.length + (L.length + 1) := by rw [e]; simp
    have hx : x ∈ q.L := by rw [e]; simp
    have hl2 := qns_len q.L
    have hnx := qn_mem hx
    have hsum : qns q.L = qns pre + (qn x + qns L) := by rw [e, qns_append, qns]
    obtain ⟨dx, nx, k1, k2⟩ := ih (by omega) x (by omega)
    rw [M.a30]; try dsimp only
    rw [cv_L, List.length_map, if_pos (by omega), decide_eq_true (by omega), M.a31]; try dsimp only
    rw [cv_L, List.length_map, if_pos rfl, if_neg (by omega), if_pos (by omega), if_pos (by omega), gi_map _ _ (by omega), show q.L[pre.length] = x by simp [e], wr_i64 (x := ((left + 1 : Nat) : Int) - 1) (by omega) (by omega), show ((left + 1 : Nat) : Int) - 1 = (left : Int) by omega, k1, bnd]; try dsimp only
    rcases k2 with ⟨g1, rfl, g3, g4, g5⟩ | ⟨g1, rfl, rfl⟩
    ·rw [wr_i64 (x := ((1 + qns pre : Nat) : Int) + _) (by omega) (by omega), if_neg (by omega)]
     have hmx : 0 ≤ imx d dx ∧ imx d dx ≤ (left : Int) + 1 := by simp only [imx]; split <;> omega
     rw [decide_eq_false (by omega), M.a5d]; try dsimp only
     rw [if_neg (by decide), wr_i64 (x := (pre.length : Int) + 1) (by omega) (by omega)]
     have := ihL (pre ++ [x]) (imx d dx) (by rw [e]; simp) hmx.1 hmx.2 (fun k => by
      have hh : (∀ y ∈ pre ++ [x], QD k y) ↔ (∀ y ∈ pre, QD k y) ∧ QD k x := by
       constructor
       ·intro h; exact ⟨fun y hy => h y (by simp [hy]), h x (by simp)⟩
       ·rintro ⟨h1, h2⟩ y hy
        rcases List.mem_append.1 hy with hy | hy
        ·exact h1 y hy
        ·simp at hy; rw [hy]; exact h2
      rw [hh, hk k, g5 k]
      simp only [imx]
      split <;> omega)
     rw [show (((pre ++ [x]).length : Nat) : Int) = (pre.length : Int) + 1 by simp, show ((1 + qns (pre ++ [x]) : Nat) : Int) = ((1 + qns pre : Nat) : Int) + (qn x : Int) by rw [qns_append, qns, qns]; push_cast; omega] at this
     exact this
    ·rw [wr_i64 (x := ((1 + qns pre : Nat) : Int) + 9999) (by omega) (by omega), if_pos (by omega), M.a5d]; try dsimp only
     rw [if_pos rfl]
     exact ⟨99, 9999, rfl, .inr ⟨fun h => g1 (h x hx), rfl, rfl⟩⟩
  rw [M.a2z]; try dsimp only
  obtain ⟨d', n', k1, k2⟩ := loop q.L [] 0 rfl (by omega) (by omega) (fun k => by simp)
  refine ⟨d', n', k1, ?_⟩
  rcases k2 with ⟨a, b, c, d, f⟩ | h
  ·exact .inl ⟨a, b, c, by push_cast; omega, f⟩
  ·exact .inr h
theorem rshape_ok (n : Nat) : ∀ q : T29, qn q ≤ n → qn q ≤ 4000 → M.a47 (cv q) = some (decide (Rq q)) := by
 induction n with
 | zero => intro q h; have := qn_pos q; omega
 | succ n ih =>
  intro q hn hq
  have hqe := qn_eq q
  have hll := qns_len q.L
  have hR := Rq_eq q
  have hL0 : ((q.L.length : Int) = 0) ↔ q.L = [] := by
   constructor
   ·intro h; exact List.eq_nil_of_length_eq_zero (by omega)
   ·intro h; rw [h]; rfl
  have loop : ∀ (R pre : List T29) (b : Bool), q.L = pre ++ R → M.a48 (cv q, b, (pre.length : Int)) = some (decide (b = true ∧ ∀ x ∈ R, Rq x)) := by
   intro R
   induction R with
   | nil =>
    intro pre b e
    rw [M.a48]; try dsimp only
    rw [cv_L, List.length_map, if_neg (by rw [e]; simp), M.a5e]; try dsimp only
    rw [if_neg (by decide)]
    cases b <;> simp
   | cons x R ihR =>
    intro pre b e
    have hlen : q.L.length = pre.length + (R.length + 1) := by rw [e]; simp
    have hx : x ∈ q.L := by rw [e]; simp
    have hqx := qn_mem hx
    rw [M.a48]; try dsimp only
    rw [cv_L, List.length_map, if_pos (by omega), M.a5e]; try dsimp only
    cases b with
    | false => rw [if_neg (by decide)]; simp
    | true =>
     rw [cv_L, List.length_map, if_pos rfl, if_pos (by omega), if_pos (by omega), gi_map _ _ (by omega), show q.L[pre.length] = x by simp [e], ih x (by omega) (by omega), bnd, wr_i64 (by omega) (by omega)]
     have := ihR (pre ++ [x]) (decide (Rq x)) (by rw [e]; simp)
     rw [show (((pre ++ [x]).length : Nat) : Int) = (pre.length : Int) + 1 by simp] at this
     rw [this]
     congr 1
     rw [decide_eq_decide]
     simp
  have l1 : ∀ b, M.a2a (cv q, b) = some (decide (b = true ∧ ∀ x ∈ q.L, Rq x)) := by
   intro b
   rw [M.a2a]; try dsimp only
   exact loop q.L [] b rfl
  have e01 : (if (cv q).Op = 0 then M.a32 (cv q, (cv q).Op, true) else M.a32 (cv q, (cv q).Op, decide ((cv q).Op = 1))) = M.a32 (cv q, q.Op, decide (q.Op = 0 ∨ q.Op = 1)) := by
   rw [cv_op]
   by_cases h : q.Op = 0
   ·rw [if_pos h]; simp [h]
   ·rw [if_neg h]; simp [h]
  rw [M.a47]; try dsimp only
  rw [e01, M.a32]; try dsimp only
  rw [cv_text, cv_L, List.length_map]
  by_cases h01 : q.Op = 0 ∨ q.Op = 1
  ·rw [decide_eq_true h01, if_pos rfl]
   by_cases ht : q.Text = eS
   ·rw [if_pos ((eq_eS _).2 ht), l1]
    congr 1
    rw [decide_eq_decide, decide_eq_true_eq, hL0, hR]
    constructor
    ·intro h; exact .inl ⟨h01, ht, h.1⟩
    ·rintro (h | h | h)
     ·exact ⟨h.2.2, by rw [h.2.2]; simp⟩
     ·omega
     ·omega
   ·rw [if_neg (fun h => ht ((eq_eS _).1 h)), l1]
    congr 1
    rw [decide_eq_decide, hR]
    constructor
    ·intro h; cases h.1
    ·rintro (h | h | h)
     ·exact absurd h.2.1 ht
     ·omega
     ·omega
  ·rw [decide_eq_false h01, if_neg (by decide)]
   by_cases h2 : q.Op = 2
   ·rw [if_pos h2]
    by_cases ht : (q.Text.size : Int) = 3
    ·rw [if_pos ht, l1]
     congr 1
     rw [decide_eq_decide, decide_eq_true_eq, hL0, hR]
     constructor
     ·intro h; exact .inr (.inl ⟨h2, by omega, h.1⟩)
     ·rintro (h | h | h)
      ·omega
      ·exact ⟨h.2.2, by rw [h.2.2]; simp⟩
      ·omega
    ·rw [if_neg ht, l1]
     congr 1
     rw [decide_eq_decide, hR]
     constructor
     ·intro h; cases h.1
     ·rintro (h | h | h)
      ·omega
      ·exact absurd (by rw [h.2.1]; rfl) ht
      ·omega
   ·rw [if_neg h2]
    have e34 : (if q.Op = 3 then M.a33 (cv q, true) else M.a33 (cv q, decide (q.Op = 4))) = M.a33 (cv q, decide (q.Op = 3 ∨ q.Op = 4)) := by
     by_cases h : q.Op = 3
     ·rw [if_pos h]; simp [h]
     ·rw [if_neg h]; simp [h]
    rw [e34, M.a33]; try dsimp only
    by_cases h34 : q.Op = 3 ∨ q.Op = 4
    ·rw [decide_eq_true h34, if_pos rfl, cv_text, l1]
     congr 1
     rw [decide_eq_decide, eq_eS, hR]
     constructor
     ·intro h; exact .inr (.inr ⟨h34, h.1, h.2⟩)
     ·rintro (h | h | h)
      ·omega
      ·omega
      ·exact ⟨h.2.1, h.2.2⟩
    ·rw [decide_eq_false h34, if_neg (by decide), decide_eq_false]
     rw [hR]
     rintro (h | h | h)
     ·exact h01 h.1
     ·exact h2 h.1
     ·exact h34 h.1
theorem rqcheck_ok (q : T29) (hq : qn q ≤ 3999) : M.a5f (cv q) = some (if QD 8 q ∧ Rq q then 0 else 2) := by
 obtain ⟨d, n, k1, k2⟩ := rdeep_ok 8 (by omega) q (by omega)
 rw [show ((8 : Nat) : Int) = 8 from rfl] at k1
 rw [M.a5f, k1, bnd]; try dsimp only
 rcases k2 with ⟨g1, rfl, g3, g4, g5⟩ | ⟨g1, rfl, rfl⟩
 ·have h8 := g5 8
  by_cases hd : d > 8
  ·rw [if_pos hd, if_neg fun h => by have := h8.1 h.1; omega]
  ·have hq8 : QD 8 q := h8.2 (by omega)
   rw [if_neg hd, if_neg (by omega), rshape_ok (qn q) q (Nat.le_refl _) (by omega), bnd]
   by_cases hr : Rq q
   ·rw [decide_eq_true hr, if_pos rfl, if_pos ⟨hq8, hr⟩]
   ·rw [decide_eq_false hr, if_neg (by decide), if_neg fun h => hr h.2]
 ·rw [if_pos (by omega), if_neg fun h => g1 (h.1.mono (by omega))]
end Go.Proofs.YtdccklkdakfnaaaGreat
/-
 What a law's pattern is cut to. Pure.
-/
set_option linter.unusedVariables false
set_option linter.unusedSimpArgs false
namespace Go.Proofs.YtdccklkdakfnaaaGreat
open Go.Gx
theorem cut_ok (left : Nat) : left ≤ 130 → ∀ (r : T26) (b : Int), (∀ e, Fit e r) → 1 ≤ b → b ≤ 100 → ∃ (o : T26) (b' : Int), M.a23 (r, (left : Int), b) = some (o, b') ∧ 0 ≤ b' ∧ b' ≤ b - nd o ∧ Dp (left + 1) o ∧ ∀ e, Fit e o := by
 induction left with
 | zero =>
  intro hl r b hf h1 h2
  refine ⟨⟨r.Kind, r.Set, [], r.Min, r.Max⟩, b - 1, ?_, by omega, by rw [nd_eq, nds]; omega, by simp [Dp], fun e => ?_⟩
  ·rw [M.a23]; try dsimp only
   rw [wr_i64 (by omega) (by omega), M.a24]; try dsimp only
   have l1 : M.a1h (0, r, ⟨0, [0, 0, 0, 0], [], 0, 0⟩, ⟨r.Kind, r.Set, [], r.Min, r.Max⟩, 0, false, b - 1) = some (⟨r.Kind, r.Set, [], r.Min, r.Max⟩, b - 1) := by
    rw [M.a1h]; try dsimp only
    rw [if_neg (by decide)]
   by_cases hL : (0 : Int) < (r.L.length : Int)
   ·rw [if_pos hL, if_neg (by omega)]; exact l1
   ·rw [if_neg hL]; exact l1
  ·cases e with
   | zero => trivial
   | succ e => exact ⟨(hf 1).1, by simp, by simp⟩
 | succ left ih =>
  intro hl r b hf h1 h2
  have hS := (hf 1).1
  have hlen := (hf 1).2.1
  have loop : ∀ (R pre : List T26) (acc : T26) (c : Int), r.L = pre ++ R → 0 ≤ c → c + (acc.L.length : Int) ≤ 100 →
    ∃ (ys : List T26) (c' : Int), M.a24 (((left + 1 : Nat) : Int), r, ⟨0, [0, 0, 0, 0], [], 0, 0⟩, acc, (pre.length : Int), c) = some (⟨acc.Kind, acc.Set, acc.L ++ ys, acc.Min, acc.Max⟩, c') ∧ 0 ≤ c' ∧ c' ≤ c - nds ys ∧ (∀ y ∈ ys, Dp (left + 1) y) ∧ (acc.L ++ ys).length ≤ 100 ∧ ∀ e, ∀ y ∈ ys, Fit e y := by
   intro R
   induction R with
   | nil =>
    intro pre acc c e hc ha
    refine ⟨[], c, ?_, hc, by rw [nds]; omega, by simp, by simp; omega, by simp⟩
    rw [M.a24]; try dsimp only
    rw [if_neg (by rw [e]; simp), M.a1h]; try dsimp only
    rw [if_neg (by decide), List.append_nil, eta27]
   | cons x R ihR =>
    intro pre acc c e hc ha
    have hl2 : r.L.length = pre.length + (R.length + 1) := by rw [e]; simp
    have hx : x ∈ r.L := by rw [e]; simp
    rw [M.a24]; try dsimp only
    rw [if_pos (by omega), if_pos (by omega)]
    by_cases hc0 : c > 0
    ·rw [decide_eq_true hc0, M.a1h]; try dsimp only
     obtain ⟨o, c1, k1, k2, k3, k4, k5⟩ := ih (by omega) x c (fun e' => (hf (e' + 1)).2.2 x hx) (by omega) (by omega)
     have hno := nd_pos o
     rw [if_pos rfl, if_pos (by omega), if_pos (by omega), show gi r.L (pre.length : Int) = x by rw [e]; exact gi_mid pre x R, eta27, wr_i64 (x := ((left + 1 : Nat) : Int) - 1) (by omega) (by omega), show ((left + 1 : Nat) : Int) - 1 = (left : Int) by omega, k1, bnd]; try dsimp only
     rw [if_pos (by simp; omega), wr_i64 (by omega) (by omega)]
     obtain ⟨ys, c2, g1, g2, g3, g4, g5, g6⟩ := ihR (pre ++ [x]) ⟨acc.Kind, acc.Set, acc.L ++ [o], acc.Min, acc.Max⟩ c1 (by rw [e]; simp) k2 (by simp; omega)
     rw [show (((pre ++ [x]).length : Nat) : Int) = (pre.length : Int) + 1 by simp] at g1
     refine ⟨o :: ys, c2, ?_, g2, by rw [nds]; omega, fun y hy => ?_, by simpa using g5, fun e' y hy => ?_⟩
     ·rw [g1]; simp
     ·rcases List.mem_cons.1 hy with rfl | hy
      ·exact k4
      ·exact g4 y hy
     ·rcases List.mem_cons.1 hy with rfl | hy
      ·exact k5 e'
      ·exact g6 e' y hy
    ·rw [decide_eq_false hc0, M.a1h]; try dsimp only
     refine ⟨[], c, ?_, hc, by rw [nds]; omega, by simp, by simp; omega, by simp⟩
     rw [if_neg (by decide), List.append_nil, eta27]
  obtain ⟨ys, c', g1, g2, g3, g4, g5, g6⟩ := loop r.L [] ⟨r.Kind, r.Set, [], r.Min, r.Max⟩ (b - 1) rfl (by omega) (by simp; omega)
  refine ⟨⟨r.Kind, r.Set, ys, r.Min, r.Max⟩, c', ?_, g2, by rw [nd_eq]; push_cast; omega, g4, fun e => ?_⟩
  ·rw [M.a23]; try dsimp only
   rw [wr_i64 (by omega) (by omega)]
   have g1' : M.a24 (((left + 1 : Nat) : Int), r, ⟨0, [0, 0, 0, 0], [], 0, 0⟩, ⟨r.Kind, r.Set, [], r.Min, r.Max⟩, 0, b - 1) = _ := g1
   rw [g1']
   rfl
  ·cases e with
   | zero => trivial
   | succ e => exact ⟨hS, by simp at g5; show ys.length ≤ _; omega, fun y hy => g6 e y hy⟩
theorem some_ok (r : T26) (hf : ∀ e, Fit e r) : ∃ o : T26, M.a5r r = some o ∧ (∀ e, Fit e o) ∧ Dp 11 o ∧ nd o ≤ 40 := by
 obtain ⟨o, b', k1, k2, k3, k4, k5⟩ := cut_ok 10 (by omega) r 40 hf (by omega) (by omega)
 have k1' : M.a23 (r, 10, 40) = some (o, b') := k1
 exact ⟨o, by rw [M.a5r, k1', bnd], k5, k4, by omega⟩
end Go.Proofs.YtdccklkdakfnaaaGreat
/-
 What a law's query is cut to, and its plain form. Pure.
-/
set_option linter.unusedVariables false
set_option linter.unusedSimpArgs false
namespace Go.Proofs.YtdccklkdakfnaaaGreat
open Go.Gx
def FQ : Nat → T29 → Prop
 | 0, _ => True
 | e + 1, q => q.L.length ≤ 9223372036854775807 ∧ ∀ x ∈ q.L, FQ e x
theorem eta29 (q : T29) : (⟨q.Op, q.Text, q.L⟩ : T29) = q := by cases q; rfl
theorem imn_le (n : Nat) : 0 ≤ imn (n : Int) 5 ∧ imn (n : Int) 5 ≤ (n : Int) := by
 unfold imn; split <;> omega
theorem qcut_ok (left : Nat) : left ≤ 130 → ∀ (q : T29) (b : Int), (∀ e, FQ e q) → 1 ≤ b → b ≤ 100 → ∃ (o : T29) (b' : Int), M.a25 (q, (left : Int), b) = some (o, b') ∧ 0 ≤ b' ∧ b' ≤ b - qn o ∧ QD (left + 1) o := by
 induction left with
 | zero =>
  intro hl q b hf h1 h2
  have hi := imn_le q.Text.size
  refine ⟨⟨q.Op, ss q.Text 0 (imn (q.Text.size : Int) 5), []⟩, b - 1, ?_, by omega, by rw [qn_eq, qns]; omega, by simp [QD]⟩
  rw [M.a25]; try dsimp only
  rw [if_pos hi.1, if_pos hi.2, wr_i64 (by omega) (by omega), M.a26]; try dsimp only
  have l1 : M.a1i (0, q, ⟨0, ⟨#[]⟩, []⟩, ⟨q.Op, ss q.Text 0 (imn (q.Text.size : Int) 5), []⟩, 0, false, b - 1) = some (⟨q.Op, ss q.Text 0 (imn (q.Text.size : Int) 5), []⟩, b - 1) := by
   rw [M.a1i]; try dsimp only
   rw [if_neg (by decide)]
  by_cases hL : (0 : Int) < (q.L.length : Int)
  ·rw [if_pos hL, if_neg (by omega)]; exact l1
  ·rw [if_neg hL]; exact l1
 | succ left ih =>
  intro hl q b hf h1 h2
  have hi := imn_le q.Text.size
  have hlen := (hf 1).1
  have loop : ∀ (R pre : List T29) (acc : T29) (c : Int), q.L = pre ++ R → 0 ≤ c → c + (acc.L.length : Int) ≤ 100 →
    ∃ (ys : List T29) (c' : Int), M.a26 (((left + 1 : Nat) : Int), q, ⟨0, ⟨#[]⟩, []⟩, acc, (pre.length : Int), c) = some (⟨acc.Op, acc.Text, acc.L ++ ys⟩, c') ∧ 0 ≤ c' ∧ c' ≤ c - qns ys ∧ (∀ y ∈ ys, QD (left + 1) y) := by
   intro R
   induction R with
   | nil =>
    intro pre acc c e hc ha
    refine ⟨[], c, ?_, hc, by rw [qns]; omega, by simp⟩
    rw [M.a26]; try dsimp only
    rw [if_neg (by rw [e]; simp), M.a1i]; try dsimp only
    rw [if_neg (by decide), List.append_nil, eta29]
   | cons x R ihR =>
    intro pre acc c e hc ha
    have hl2 : q.L.length = pre.length + (R.length + 1) := by rw [e]; simp
    have hx : x ∈ q.L := by rw [e]; simp
    rw [M.a26]; try dsimp only
    rw [if_pos (by omega), if_pos (by omega)]
    by_cases hc0 : c > 0
    ·rw [decide_eq_true hc0, M.a1i]; try dsimp only
     obtain ⟨o, c1, k1, k2, k3, k4⟩ := ih (by omega) x c (fun e' => (hf (e' + 1)).2 x hx) (by omega) (by omega)
     have hno := qn_pos o
     rw [if_pos rfl, if_pos (by omega), if_pos (by omega), show gi q.L (pre.length : Int) = x by rw [e]; exact gi_mid pre x R, wr_i64 (x := ((left + 1 : Nat) : Int) - 1) (by omega) (by omega), show ((left + 1 : Nat) : Int) - 1 = (left : Int) by omega, k1, bnd]; try dsimp only
     rw [if_pos (by simp; omega), wr_i64 (by omega) (by omega)]
     obtain ⟨ys, c2, g1, g2, g3, g4⟩ := ihR (pre ++ [x]) ⟨acc.Op, acc.Text, acc.L ++ [o]⟩ c1 (by rw [e]; simp) k2 (by simp; omega)
     rw [show (((pre ++ [x]).length : Nat) : Int) = (pre.length : Int) + 1 by simp] at g1
     refine ⟨o :: ys, c2, ?_, g2, by rw [qns]; omega, fun y hy => ?_⟩
     ·rw [g1]; simp
     ·rcases List.mem_cons.1 hy with rfl | hy
      ·exact k4
      ·exact g4 y hy
    ·rw [decide_eq_false hc0, M.a1i]; try dsimp only
     refine ⟨[], c, ?_, hc, by rw [qns]; omega, by simp⟩
     rw [if_neg (by decide), List.append_nil, eta29]
  obtain ⟨ys, c', g1, g2, g3, g4⟩ := loop q.L [] ⟨q.Op, ss q.Text 0 (imn (q.Text.size : Int) 5), []⟩ (b - 1) rfl (by omega) (by simp; omega)
  refine ⟨⟨q.Op, ss q.Text 0 (imn (q.Text.size : Int) 5), ys⟩, c', ?_, g2, by rw [qn_eq]; push_cast; omega, g4⟩
  rw [M.a25]; try dsimp only
  rw [if_pos hi.1, if_pos hi.2, wr_i64 (by omega) (by omega)]
  have g1' : M.a26 (((left + 1 : Nat) : Int), q, ⟨0, ⟨#[]⟩, []⟩, ⟨q.Op, ss q.Text 0 (imn (q.Text.size : Int) 5), []⟩, 0, b - 1) = _ := g1
  rw [g1']
  rfl
theorem plain_ok (left : Nat) : left ≤ 1000 → ∀ q : T29, QD (left + 1) q → qn q ≤ 100000000 → M.aj (q, (left : Int)) = some (cv q) := by
 induction left with
 | zero =>
  intro hl q hq hn
  have hL : q.L = [] := by
   cases h : q.L with
   | nil => rfl
   | cons x t => exact absurd (hq x (by rw [h]; simp)) id
  rw [M.aj]; try dsimp only
  rw [M.a2y]; try dsimp only
  rw [hL, if_neg (by simp), M.a46]; try dsimp only
  rw [if_neg (by decide)]
  congr 1
  cases q
  subst hL
  rw [cv, cvs]
 | succ left ih =>
  intro hl q hq hn
  have hqn := qn_eq q
  have hll := qns_len q.L
  have loop : ∀ (R pre : List T29) (o : Int) (t : ByteArray), q.L = pre ++ R → M.a2y (((left + 1 : Nat) : Int), q, ⟨0, ⟨#[]⟩, []⟩, ⟨o, t, pre.map cv⟩, (pre.length : Int)) = some ⟨o, t, q.L.map cv⟩ := by
   intro R
   induction R with
   | nil =>
    intro pre o t e
    rw [M.a2y]; try dsimp only
    rw [if_neg (by rw [e]; simp), M.a46]; try dsimp only
    rw [if_neg (by decide), e, List.append_nil]
   | cons x R ihR =>
    intro pre o t e
    have hl2 : q.L.length = pre.length + (R.length + 1) := by rw [e]; simp
    have hx : x ∈ q.L := by rw [e]; simp
    have hxn := qn_mem hx
    rw [M.a2y]; try dsimp only
    rw [if_pos (by omega), decide_eq_true (by omega), M.a46]; try dsimp only
    rw [if_pos rfl, if_pos (by omega), if_pos (by omega), show gi q.L (pre.length : Int) = x by rw [e]; exact gi_mid pre x R, wr_i64 (x := ((left + 1 : Nat) : Int) - 1) (by omega) (by omega), show ((left + 1 : Nat) : Int) - 1 = (left : Int) by omega, ih (by omega) x (hq x hx) (by omega), bnd]; try dsimp only
    rw [if_pos (by simp; omega), wr_i64 (by omega) (by omega)]
    have := ihR (pre ++ [x]) o t (by rw [e]; simp)
    rw [show (((pre ++ [x]).length : Nat) : Int) = (pre.length : Int) + 1 by simp, List.map_append] at this
    exact this
  rw [M.aj]; try dsimp only
  have := loop q.L [] q.Op q.Text rfl
  rw [show (([] : List T29).length : Int) = 0 from rfl] at this
  rw [show ([] : List T29).map cv = [] from rfl] at this
  rw [this, ← cvs_eq]
  cases q
  rw [cv]
end Go.Proofs.YtdccklkdakfnaaaGreat
/-
 A query's text: the program's way and the document's.
-/
set_option linter.unusedVariables false
set_option linter.unusedSimpArgs false
namespace Go.Proofs.YtdccklkdakfnaaaGreat
open Go.Gx
open Classical
abbrev sP : ByteArray := ⟨#[32]⟩
theorem bext {a b : ByteArray} (h : a.data.toList = b.data.toList) : a = b := by
 cases a; cases b; congr 1; exact Array.toList_inj.1 h
theorem jn_nil : joinB [] sP = ⟨#[]⟩ := rfl
theorem jn_one (x : ByteArray) : joinB [x] sP = x := by
 apply bext; unfold joinB; simp [Lib.join_one]
theorem jn_snoc (x : ByteArray) (r : List ByteArray) (y : ByteArray) : joinB (x :: r ++ [y]) sP = joinB (x :: r) sP ++ sP ++ y := by
 apply bext
 unfold joinB
 simp [Lib.join_cons, Lib.joinTail, ByteArray.data_append]
theorem jn_size (l : List ByteArray) : (joinB l sP).size ≤ (l.map fun x => x.size + 1).sum := by
 cases l with
 | nil => simp [jn_nil]; rfl
 | cons x r =>
  have h : ∀ (r : List (List UInt8)), (Lib.joinTail [32] r).length = (r.map fun x => x.length + 1).sum := by
   intro r
   induction r with
   | nil => rfl
   | cons y r ih => simp [Lib.joinTail] at ih ⊢; omega
  have e : (joinB (x :: r) sP).size = x.size + (Lib.joinTail [32] (r.map (·.data.toList))).length := by
   unfold joinB
   rw [List.map_cons, Lib.join_cons]
   show (List.toArray _).size = _
   rw [List.size_toArray, List.length_append, Array.length_toList]
   rfl
  rw [e, h]
  simp only [List.map_map, List.map_cons, List.sum_cons]
  have : (r.map ((fun x : List UInt8 => x.length + 1) ∘ fun x : ByteArray => x.data.toList)) = r.map fun x => x.size + 1 := by
   apply List.map_congr_left; intro a _; show (a.data.toList).length + 1 = a.data.size + 1; rw [Array.length_toList]
  rw [this]; omega
mutual
def txt : T29 → ByteArray
 | ⟨o, t, L⟩ => if o = 1 then ⟨#[45]⟩ else if o = 2 then ((⟨#[124]⟩ : ByteArray) ++ t) ++ (⟨#[124]⟩ : ByteArray) else if o = 3 then ((⟨#[40]⟩ : ByteArray) ++ joinB (txts L) sP) ++ (⟨#[41]⟩ : ByteArray) else if o = 4 then ((⟨#[91]⟩ : ByteArray) ++ joinB (txts L) sP) ++ (⟨#[93]⟩ : ByteArray) else ⟨#[42]⟩
def txts : List T29 → List ByteArray
 | [] => []
 | x :: xs => txt x :: txts xs
end
theorem txts_eq : ∀ L : List T29, txts L = L.map txt
 | [] => by rw [txts]; rfl
 | x :: xs => by rw [txts, txts_eq xs]; rfl
theorem txt_eq (q : T29) : txt q = if q.Op = 1 then ⟨#[45]⟩ else if q.Op = 2 then ((⟨#[124]⟩ : ByteArray) ++ q.Text) ++ (⟨#[124]⟩ : ByteArray) else if q.Op = 3 then ((⟨#[40]⟩ : ByteArray) ++ joinB (q.L.map txt) sP) ++ (⟨#[41]⟩ : ByteArray) else if q.Op = 4 then ((⟨#[91]⟩ : ByteArray) ++ joinB (q.L.map txt) sP) ++ (⟨#[93]⟩ : ByteArray) else ⟨#[42]⟩ := by
 cases q
 rw [txt, txts_eq]
theorem sum_le {L : List T29} (h : ∀ x ∈ L, (txt x).size + 1 ≤ 6 * qn x) : ((L.map txt).map fun x => x.size + 1).sum ≤ 6 * qns L := by
 induction L with
 | nil => simp
 | cons x L ih =>
  have := h x (by simp)
  have := ih fun y hy => h y (by simp [hy])
  rw [qns]
  simp only [List.map_cons, List.sum_cons]
  omega
theorem jt_size {L : List T29} (h : ∀ x ∈ L, (txt x).size + 1 ≤ 6 * qn x) : (joinB (L.map txt) sP).size ≤ 6 * qns L :=
 Nat.le_trans (jn_size _) (sum_le h)
theorem txt_size (n : Nat) : ∀ q : T29, qn q ≤ n → Rq q → (txt q).size + 1 ≤ 6 * qn q := by
 induction n with
 | zero => intro q h; have := qn_pos q; omega
 | succ n ih =>
  intro q h hr
  have hq := qn_eq q
  rw [txt_eq]
  have s1 : ∀ b : UInt8, (⟨#[b]⟩ : ByteArray).size = 1 := fun _ => rfl
  rcases (Rq_eq q).1 hr with ⟨ho, _, _⟩ | ⟨ho, ht, _⟩ | ⟨ho, _, hL⟩
  ·rcases ho with ho | ho <;> simp [ho, s1] <;> omega
  ·simp [ho, ByteArray.size_append, s1, ht]; omega
  ·have hj := jt_size (L := q.L) fun x hx => ih x (by have := qn_mem hx; omega) (hL x hx)
   rcases ho with ho | ho <;> simp [ho, ByteArray.size_append, s1] <;> omega
theorem text_in (n : Nat) : ∀ q : T29, qn q ≤ n → qn q ≤ 3999 → QD 8 q → Rq q → M.a9 q = some (txt q) := by
 induction n with
 | zero => intro q h; have := qn_pos q; omega
 | succ n ih =>
  intro q h hn hd hr
  have hq := qn_eq q
  have hll := qns_len q.L
  have hch : ∀ x ∈ q.L, Rq x := by
   rcases (Rq_eq q).1 hr with ⟨_, _, e⟩ | ⟨_, _, e⟩ | ⟨_, _, hL⟩
   ·rw [e]; simp
   ·rw [e]; simp
   ·exact hL
  have hj : (joinB (q.L.map txt) sP).size ≤ 6 * qns q.L := jt_size fun x hx => txt_size (qn x) x (Nat.le_refl _) (hch x hx)
  have s1 : ∀ b : UInt8, (⟨#[b]⟩ : ByteArray).size = 1 := fun _ => rfl
  have fin : M.ar (q, q.L.map txt, q.L, (q.L.length : Int), (q.L.length : Int)) = some (txt q) := by
   rw [M.ar]; try dsimp only
   rw [if_neg (by omega), if_pos (by simp; omega), if_pos (by show ((joinB (q.L.map txt) sP).size : Int) ≤ _; omega), txt_eq]
   by_cases o1 : q.Op = 1
   ·rw [if_pos o1, if_pos o1]
   rw [if_neg o1, if_neg o1]
   by_cases o2 : q.Op = 2
   ·have ht : q.Text.size ≤ 3 := by
     rcases (Rq_eq q).1 hr with ⟨h, _, _⟩ | ⟨_, h, _⟩ | ⟨h, _, _⟩
     ·omega
     ·omega
     ·omega
    rw [if_pos o2, if_pos o2, if_pos (by rw [s1]; omega), if_pos (by rw [ByteArray.size_append, s1]; push_cast; omega)]
    rfl
   rw [if_neg o2, if_neg o2]
   by_cases o3 : q.Op = 3
   ·rw [if_pos o3, if_pos o3, if_pos (by rw [s1]; show _ + ((joinB (q.L.map txt) sP).size : Int) ≤ _; omega), bnd, if_pos (by rw [ByteArray.size_append, s1, s1]; have : (joinB (q.L.map txt) (⟨#[32]⟩ : ByteArray)).size ≤ 6 * qns q.L := hj; push_cast; omega)]
   rw [if_neg o3, if_neg o3]
   by_cases o4 : q.Op = 4
   ·rw [if_pos o4, if_pos o4, if_pos (by rw [s1]; show _ + ((joinB (q.L.map txt) sP).size : Int) ≤ _; omega), bnd, if_pos (by rw [ByteArray.size_append, s1, s1]; have : (joinB (q.L.map txt) (⟨#[32]⟩ : ByteArray)).size ≤ 6 * qns q.L := hj; push_cast; omega)]
   rw [if_neg o4, if_neg o4]
  have loop : ∀ (R pre : List T29), q.L = pre ++ R → M.ar (q, pre.map txt, q.L, (q.L.length : Int), (pre.length : Int)) = some (txt q) := by
   intro R
   induction R with
   | nil =>
    intro pre e
    rw [List.append_nil] at e
    rw [← e]; exact fin
   | cons x R ihR =>
    intro pre e
    have hl2 : q.L.length = pre.length + (R.length + 1) := by rw [e]; simp
    have hx : x ∈ q.L := by rw [e]; simp
    have hxn := qn_mem hx
    rw [M.ar]; try dsimp only
    rw [if_pos (by omega), if_pos (by omega), if_pos (by omega), show gi q.L (pre.length : Int) = x by rw [e]; exact gi_mid pre x R, ih x (by omega) (by omega) ((show QD 7 x from hd x hx).mono (by omega)) (hch x hx), bnd, if_pos (by simp; omega), wr_i64 (by omega) (by omega)]
    have := ihR (pre ++ [x]) (by rw [e]; simp)
    rw [show (((pre ++ [x]).length : Nat) : Int) = (pre.length : Int) + 1 by simp, List.map_append] at this
    exact this
  rw [M.a9, qcheck_ok q hn, if_pos ⟨hd, hr⟩, bnd, if_pos rfl]
  exact loop q.L [] rfl
theorem rtext_in (n : Nat) : ∀ q : T29, qn q ≤ n → qn q ≤ 3999 → Rq q → M.a49 (cv q) = some (txt q) := by
 induction n with
 | zero => intro q h; have := qn_pos q; omega
 | succ n ih =>
  intro q h hn hr
  have hq := qn_eq q
  have hll := qns_len q.L
  have hR := (Rq_eq q).1 hr
  have hch : ∀ x ∈ q.L, Rq x := by
   rcases hR with ⟨_, _, e⟩ | ⟨_, _, e⟩ | ⟨_, _, hL⟩
   ·rw [e]; simp
   ·rw [e]; simp
   ·exact hL
  have hsz : ∀ L : List T29, (∀ x ∈ L, x ∈ q.L) → (joinB (L.map txt) sP).size ≤ 6 * qns L := fun L hL => jt_size fun x hx => txt_size (qn x) x (Nat.le_refl _) (hch x (hL x hx))
  have hj := hsz q.L fun _ h => h
  have s1 : ∀ b : UInt8, (⟨#[b]⟩ : ByteArray).size = 1 := fun _ => rfl
  have fin : ∀ i : Int, M.a4b (cv q, joinB (q.L.map txt) sP, i, false) = some (txt q) := by
   intro i
   rw [M.a4b]; try dsimp only
   rw [if_neg (by decide), cv_op, cv_text, txt_eq]
   by_cases o0 : q.Op = 0
   ·rw [if_pos o0]; simp [o0]
   rw [if_neg o0]
   by_cases o1 : q.Op = 1
   ·rw [if_pos o1, if_pos o1]
   rw [if_neg o1, if_neg o1]
   by_cases o2 : q.Op = 2
   ·have ht : q.Text.size ≤ 3 := by
     rcases hR with ⟨h, _, _⟩ | ⟨_, h, _⟩ | ⟨h, _, _⟩
     ·omega
     ·omega
     ·omega
    rw [if_pos o2, if_pos o2, if_pos (by rw [s1]; omega), if_pos (by rw [ByteArray.size_append, s1]; push_cast; omega)]
    rfl
   rw [if_neg o2, if_neg o2]
   by_cases o3 : q.Op = 3
   ·rw [if_pos o3, if_pos o3, if_pos (by rw [s1]; omega), if_pos (by rw [ByteArray.size_append, s1, s1]; push_cast; omega)]; rfl
   rw [if_neg o3, if_neg o3]
   by_cases o4 : q.Op = 4
   ·rw [if_pos o4, if_pos o4, if_pos (by rw [s1]; omega), if_pos (by rw [ByteArray.size_append, s1, s1]; push_cast; omega)]; rfl
   ·rcases hR with ⟨h, _, _⟩ | ⟨h, _, _⟩ | ⟨h, _, _⟩
    ·omega
    ·omega
    ·omega
  have loop : ∀ (R pre : List T29), q.L = pre ++ R → M.a4a (cv q, joinB (pre.map txt) sP, (pre.length : Int)) = some (txt q) := by
   intro R
   induction R with
   | nil =>
    intro pre e
    rw [List.append_nil] at e
    rw [M.a4a]; try dsimp only
    rw [cv_L, List.length_map, if_neg (by rw [e]; omega), ← e]
    exact fin _
   | cons x R ihR =>
    intro pre e
    have hl2 : q.L.length = pre.length + (R.length + 1) := by rw [e]; simp
    have hx : x ∈ q.L := by rw [e]; simp
    have hxn := qn_mem hx
    have hpre := hsz pre fun y hy => by rw [e]; simp [hy]
    have hqs : qns q.L = qns pre + (qn x + qns R) := by rw [e, qns_append, qns]
    have htx := txt_size (qn x) x (Nat.le_refl _) (hch x hx)
    have ho : q.Op > 2 := by
     rcases hR with ⟨_, _, h⟩ | ⟨_, _, h⟩ | ⟨h, _, _⟩
     ·rw [h] at hx; simp at hx
     ·rw [h] at hx; simp at hx
     ·omega
    have gi' : gi (cv q).L (pre.length : Int) = cv x := by
     rw [cv_L, gi_map _ _ (by omega)]; simp [e]
    have := ihR (pre ++ [x]) (by rw [e]; simp)
    rw [show (((pre ++ [x]).length : Nat) : Int) = (pre.length : Int) + 1 by simp, List.map_append, List.map_cons, List.map_nil] at this
    rw [M.a4a]; try dsimp only
    rw [cv_L, List.length_map, if_pos (by omega), cv_op, decide_eq_true ho, M.a4b]; try dsimp only
    rw [if_pos rfl]
    cases pre with
    | nil =>
     rw [if_neg (by simp), M.a5g]; try dsimp only
     rw [cv_L, List.length_map, ← cv_L, if_pos (by simp), if_pos (by simp; omega), gi', ih x (by omega) (by omega) (hch x hx), bnd, if_pos (by rw [List.map_nil, jn_nil]; show ((0 : Nat) : Int) + _ ≤ _; omega), wr_i64 (by simp) (by simp)]
     rw [List.map_nil, List.nil_append, jn_one] at this
     rw [List.map_nil, jn_nil, show (⟨#[]⟩ : ByteArray) ++ txt x = txt x by apply bext; simp]
     exact this
    | cons y pre =>
     rw [if_pos (by rw [List.length_cons]; omega), if_pos (by rw [s1]; omega), M.a5g]; try dsimp only
     rw [cv_L, List.length_map, ← cv_L, if_pos (by simp; omega), if_pos (by omega), gi', ih x (by omega) (by omega) (hch x hx), bnd, if_pos (by rw [ByteArray.size_append, s1]; push_cast; omega), wr_i64 (by omega) (by omega)]
     rw [List.map_cons, jn_snoc] at this
     exact this
  rw [M.a49]; try dsimp only
  exact loop q.L [] rfl
theorem texts_same (q : T29) (hq : qn q ≤ 3999) : ∃ t, M.a9 q = some t ∧ M.a5h (cv q) = some t := by
 by_cases h : QD 8 q ∧ Rq q
 ·refine ⟨txt q, text_in (qn q) q (Nat.le_refl _) hq h.1 h.2, ?_⟩
  rw [M.a5h, rqcheck_ok q hq, if_pos h, bnd, if_pos rfl, rtext_in (qn q) q (Nat.le_refl _) hq h.2, bnd]
 ·refine ⟨⟨#[]⟩, ?_, ?_⟩
  ·rw [M.a9, qcheck_ok q hq, if_neg h, bnd, if_neg (by decide)]
  ·rw [M.a5h, rqcheck_ok q hq, if_neg h, bnd, if_neg (by decide)]
end Go.Proofs.YtdccklkdakfnaaaGreat
/-
 May a pattern be: the document's way. Turned from the texts of prog.
-/
set_option linter.unusedVariables false
set_option linter.unusedSimpArgs false
namespace Go.Proofs.YtdccklkdakfnaaaGreat
open Go.Gx
theorem deep_tot (left : Nat) : left ≤ 128 → ∀ r : T26, nd r ≤ 4096 → ∃ d n : Int, M.a27 (r, (left : Int)) = some (d, n) ∧
  ((Dp (left + 1) r ∧ n = (nd r : Int) ∧ 1 ≤ d ∧ d ≤ (left : Int) + 1 ∧ ∀ k : Nat, Dp k r ↔ d ≤ (k : Int)) ∨ (¬ Dp (left + 1) r ∧ d = 999 ∧ n = 9999)) := by
 induction left with
 | zero =>
  intro hl r hn
  rw [M.a27]; try dsimp only
  rw [M.a2n]; try dsimp only
  by_cases hL : r.L = []
  ·rw [if_neg (by rw [hL]; simp), M.a2o]; try dsimp only
   rw [if_neg (by decide), wr_i64 (by omega) (by omega)]
   refine ⟨0 + 1, 1, rfl, .inl ⟨by simp [Dp, hL], by rw [nd_eq, hL, nds]; rfl, by omega, by omega, fun k => ?_⟩⟩
   cases k with
   | zero => simp [Dp]
   | succ k => simp only [Dp, hL, List.not_mem_nil, false_implies, implies_true, true_iff]; omega
  ·have : 0 < r.L.length := List.length_pos_iff.2 hL
   rw [if_pos (by omega), decide_eq_true (by omega), M.a2o]; try dsimp only
   rw [if_pos rfl, if_pos (by rfl)]
   refine ⟨999, 9999, rfl, .inr ⟨?_, rfl, rfl⟩⟩
   intro h
   obtain ⟨x, hx⟩ := List.exists_mem_of_ne_nil _ hL
   exact h x hx
 | succ left ih =>
  intro hl r hn
  rw [nd_eq] at hn
  have loop : ∀ (L pre : List T26) (d : Int), r.L = pre ++ L → 0 ≤ d → d ≤ (left : Int) + 1 → (∀ k : Nat, (∀ x ∈ pre, Dp k x) ↔ d ≤ (k : Int)) →
    ∃ d' n' : Int, M.a2n (((left + 1 : Nat) : Int), r, d, ((1 + nds pre : Nat) : Int), (pre.length : Int)) = some (d', n') ∧
    ((Dp (left + 2) r ∧ n' = (nd r : Int) ∧ 1 ≤ d' ∧ d' ≤ (left : Int) + 2 ∧ ∀ k : Nat, Dp k r ↔ d' ≤ (k : Int)) ∨ (¬ Dp (left + 2) r ∧ d' = 999 ∧ n' = 9999)) := by
   intro L
   induction L with
   | nil =>
    intro pre d e h0 h1 hk
    rw [List.append_nil] at e
    rw [M.a2n]; try dsimp only
    rw [if_neg (by rw [e]; simp), M.a2o]; try dsimp only
    rw [if_neg (by decide), wr_i64 (by omega) (by omega)]
    refine ⟨d + 1, _, rfl, .inl ⟨?_, by rw [nd_eq, e], by omega, by omega, fun k => ?_⟩⟩
    ·show ∀ x ∈ r.L, Dp (left + 1) x
     rw [e]; exact (hk (left + 1)).2 (by omega)
    ·cases k with
     | zero =>
      simp only [Dp]
      constructor
      ·exact fun h => h.elim
      ·intro h; omega
     | succ k =>
      show (∀ x ∈ r.L, Dp k x) ↔ _
      rw [e, hk k]; omega
   | cons x L ihL =>
    intro pre d e h0 h1 hk
    have hlen : r.L.length = pre.length + (L.length + 1) := by rw [e]; simp
    have hx : x ∈ r.L := by rw [e]; simp
    have hl2 := nds_len r.L
    have hnx := nd_mem hx
    have hsum : nds r.L = nds pre + (nd x + nds L) := by rw [e, nds_app, nds]
    obtain ⟨dx, nx, k1, k2⟩ := ih (by omega) x (by omega)
    rw [M.a2n]; try dsimp only
    rw [if_pos (by omega), decide_eq_true (by omega), M.a2o]; try dsimp only
    rw [if_pos rfl, if_neg (by omega), if_pos (by omega), if_pos (by omega), show gi r.L (pre.length : Int) = x by rw [e]; exact gi_mid pre x L, eta27, wr_i64 (x := ((left + 1 : Nat) : Int) - 1) (by omega) (by omega), show ((left + 1 : Nat) : Int) - 1 = (left : Int) by omega, k1, bnd]; try dsimp only
    rcases k2 with ⟨g1, rfl, g3, g4, g5⟩ | ⟨g1, rfl, rfl⟩
    ·rw [wr_i64 (x := ((1 + nds pre : Nat) : Int) + _) (by omega) (by omega), if_neg (by omega)]
     have hmx : 0 ≤ imx d dx ∧ imx d dx ≤ (left : Int) + 1 := by simp only [imx]; split <;> omega
     rw [decide_eq_false (by omega), M.a50]; try dsimp only
     rw [if_neg (by decide), wr_i64 (x := (pre.length : Int) + 1) (by omega) (by omega)]
     have := ihL (pre ++ [x]) (imx d dx) (by rw [e]; simp) hmx.1 hmx.2 (fun k => by
      have hh : (∀ y ∈ pre ++ [x], Dp k y) ↔ (∀ y ∈ pre, Dp k y) ∧ Dp k x := by
       constructor
       ·intro h; exact ⟨fun y hy => h y (by simp [hy]), h x (by simp)⟩
       ·rintro ⟨h1, h2⟩ y hy
        rcases List.mem_append.1 hy with hy | hy
        ·exact h1 y hy
        ·simp at hy; rw [hy]; exact h2
      rw [hh, hk k, g5 k]
      simp only [imx]
      split <;> omega)
     rw [show (((pre ++ [x]).length : Nat) : Int) = (pre.length : Int) + 1 by simp, show ((1 + nds (pre ++ [x]) : Nat) : Int) = ((1 + nds pre : Nat) : Int) + (nd x : Int) by rw [nds_app, nds, nds]; push_cast; omega] at this
     exact this
    ·rw [wr_i64 (x := ((1 + nds pre : Nat) : Int) + 9999) (by omega) (by omega), if_pos (by omega), M.a50]; try dsimp only
     rw [if_pos rfl]
     exact ⟨999, 9999, rfl, .inr ⟨fun h => g1 (h x hx), rfl, rfl⟩⟩
  rw [M.a27]; try dsimp only
  obtain ⟨d', n', k1, k2⟩ := loop r.L [] 0 rfl (by omega) (by omega) (fun k => by simp)
  refine ⟨d', n', k1, ?_⟩
  rcases k2 with ⟨a, b, c, d, f⟩ | h
  ·exact .inl ⟨a, b, c, by push_cast; omega, f⟩
  ·exact .inr h
theorem shape_un (r : T26) : (∃ b, M.a1j r = M.a4 (r, b) ∧ (b = true ↔ Shp r)) ∨ (M.a1j r = some false ∧ ¬ Shp r) := by
 have e0 : M.a1j r = M.a51 (r, decide (r.Set = [0, 0, 0, 0]), decide (r.Min = 0 ∧ r.Max = 0)) := by
  rw [M.a1j]; try dsimp only
  by_cases h : r.Min = 0
  ·rw [if_pos h]; simp [h]
  ·rw [if_neg h]; simp [h]
 rw [e0, M.a51]; try dsimp only
 by_cases h1 : r.Kind = 1
 ·rw [if_pos h1]
  left
  by_cases hL : r.L = []
  ·rw [if_pos (by rw [hL]; rfl)]
   refine ⟨_, rfl, ?_⟩
   rw [decide_eq_true_eq]
   constructor
   ·exact fun h => .inl ⟨h1, hL, h.1, h.2⟩
   ·rintro (h | h | h)
    ·exact h.2.2
    ·omega
    ·omega
  ·have : 0 < r.L.length := List.length_pos_iff.2 hL
   rw [if_neg (by omega)]
   refine ⟨_, rfl, ?_⟩
   simp only [Bool.false_eq_true, false_iff]
   rintro (h | h | h)
   ·exact hL h.2.1
   ·omega
   ·omega
 rw [if_neg h1]
 by_cases h23 : r.Kind = 2 ∨ r.Kind = 3
 ·left
  have e1 : (if r.Kind = 2 then M.a28 (r, decide (r.Set = [0, 0, 0, 0]), decide (r.Min = 0 ∧ r.Max = 0), r.Kind, true) else M.a28 (r, decide (r.Set = [0, 0, 0, 0]), decide (r.Min = 0 ∧ r.Max = 0), r.Kind, decide (r.Kind = 3))) = M.a28 (r, decide (r.Set = [0, 0, 0, 0]), decide (r.Min = 0 ∧ r.Max = 0), r.Kind, true) := by
   rcases h23 with h | h
   ·rw [if_pos h]
   ·rw [if_neg (by omega), decide_eq_true h]
  rw [e1, M.a28]; try dsimp only
  rw [if_pos rfl]
  by_cases hS : r.Set = [0, 0, 0, 0]
  ·rw [decide_eq_true hS, if_pos rfl]
   refine ⟨_, rfl, ?_⟩
   rw [decide_eq_true_eq]
   constructor
   ·exact fun h => .inr (.inl ⟨h23, hS, h.1, h.2⟩)
   ·rintro (h | h | h)
    ·omega
    ·exact h.2.2
    ·omega
  ·rw [decide_eq_false hS, if_neg (by decide)]
   refine ⟨_, rfl, ?_⟩
   simp only [Bool.false_eq_true, false_iff]
   rintro (h | h | h)
   ·omega
   ·exact hS h.2.1
   ·omega
 rw [if_neg (by omega), show decide (r.Kind = 3) = false from decide_eq_false (by omega), M.a28]; try dsimp only
 rw [if_neg Bool.false_ne_true]
 by_cases h4 : r.Kind = 4
 ·rw [if_pos h4]
  left
  have ex : r.L.length = 1 ↔ ∃ x, r.L = [x] := List.length_eq_one_iff
  have key : Shp r ↔ (r.L.length = 1 ∧ r.Set = [0, 0, 0, 0] ∧ 0 ≤ r.Min ∧ r.Min ≤ 64 ∧ (r.Max = -1 ∨ (r.Min ≤ r.Max ∧ r.Max ≤ 64))) := by
   rw [ex]
   constructor
   ·rintro (h | h | h)
    ·omega
    ·omega
    ·exact ⟨h.2.1, h.2.2.1, h.2.2.2⟩
   ·exact fun h => .inr (.inr ⟨h4, h.1, h.2.1, h.2.2⟩)
  have no : ¬ Shp r → ∃ b, M.a4 (r, false) = M.a4 (r, b) ∧ (b = true ↔ Shp r) := fun h => ⟨false, rfl, by simp [h]⟩
  by_cases a1 : r.L.length = 1
  ·rw [if_pos (by omega)]
   by_cases a2 : r.Set = [0, 0, 0, 0]
   ·rw [decide_eq_true a2, if_pos rfl]
    by_cases a3 : r.Min ≥ 0
    ·rw [if_pos a3]
     by_cases a4 : r.Min ≤ 64
     ·rw [if_pos a4]
      by_cases a5 : r.Max ≤ 64
      ·rw [if_pos a5]
       by_cases a6 : r.Max = -1
       ·rw [if_pos a6]
        exact ⟨true, rfl, by rw [key]; simp only [true_iff]; exact ⟨a1, a2, a3, a4, .inl a6⟩⟩
       ·rw [if_neg a6]
        refine ⟨_, rfl, ?_⟩
        rw [key, decide_eq_true_eq]
        constructor
        ·exact fun h => ⟨a1, a2, a3, a4, .inr ⟨h, a5⟩⟩
        ·rintro ⟨_, _, _, _, h | h⟩
         ·exact absurd h a6
         ·exact h.1
      ·rw [if_neg a5]
       exact no (by rw [key]; rintro ⟨_, _, _, _, h | h⟩ <;> omega)
     ·rw [if_neg a4]
      exact no (by rw [key]; rintro ⟨_, _, _, h, _⟩; exact a4 h)
    ·rw [if_neg a3]
     exact no (by rw [key]; rintro ⟨_, _, h, _⟩; exact a3 h)
   ·rw [decide_eq_false a2, if_neg (by decide)]
    exact no (by rw [key]; rintro ⟨_, h, _⟩; exact a2 h)
  ·rw [if_neg (by omega)]
   exact no (by rw [key]; rintro ⟨h, _⟩; exact a1 h)
 ·right
  rw [if_neg h4]
  refine ⟨rfl, ?_⟩
  rintro (h | h | h)
  ·omega
  ·omega
  ·omega
theorem shape_tot (d : Nat) : ∀ r : T26, Dp d r → nd r ≤ 4096 → (∀ e, Fit e r) → ∃ b, M.a1j r = some b ∧ (b = true ↔ Rt d r) := by
 induction d with
 | zero => intro r h; exact absurd h id
 | succ d ih =>
  intro r hd hn hf
  rw [nd_eq] at hn
  have loop : ∀ (L pre : List T26) (b : Bool), r.L = pre ++ L → ∃ b', M.a3v (r, b, (pre.length : Int)) = some b' ∧ (b' = true ↔ b = true ∧ ∀ x ∈ L, Rt d x) := by
   intro L
   induction L with
   | nil =>
    intro pre b e
    rw [M.a3v]; try dsimp only
    rw [if_neg (by rw [e]; simp), M.a52]; try dsimp only
    exact ⟨b, by rw [if_neg (by decide)], by simp⟩
   | cons x L ihL =>
    intro pre b e
    have hlen : r.L.length = pre.length + (L.length + 1) := by rw [e]; simp
    have hx : x ∈ r.L := by rw [e]; simp
    have hl2 := nds_len r.L
    have hnx := nd_mem hx
    rw [M.a3v]; try dsimp only
    rw [if_pos (by omega), M.a52]; try dsimp only
    cases b with
    | false => exact ⟨false, by rw [if_neg (by decide)], by simp⟩
    | true =>
     obtain ⟨bx, g1, g2⟩ := ih x (hd x hx) (by omega) (fun e => (hf (e + 1)).2.2 x hx)
     rw [if_pos rfl, if_pos (by omega), if_pos (by omega), show gi r.L (pre.length : Int) = x by rw [e]; exact gi_mid pre x L, eta27, g1, bnd, wr_i64 (by omega) (by omega)]
     obtain ⟨b', k1, k2⟩ := ihL (pre ++ [x]) bx (by rw [e]; simp)
     rw [show (((pre ++ [x]).length : Nat) : Int) = (pre.length : Int) + 1 by simp] at k1
     exact ⟨b', k1, by rw [k2, g2]; simp⟩
  rcases shape_un r with ⟨b, e1, e2⟩ | ⟨e1, e2⟩
  ·obtain ⟨b', k1, k2⟩ := loop r.L [] b rfl
   refine ⟨b', ?_, ?_⟩
   ·rw [e1, M.a4]; exact k1
   ·rw [k2, e2]
    exact ⟨fun h => ⟨h.1, (hf 1).1, h.2⟩, fun h => ⟨h.1, h.2.2⟩⟩
  ·exact ⟨false, e1, by simp only [Bool.false_eq_true, false_iff]; exact fun h => e2 h.1⟩
theorem rcheck_tot (r : T26) (hn : nd r ≤ 4096) (hf : ∀ e, Fit e r) : M.a5s r = some (@decide (Rt 128 r) (Classical.propDecidable _)) := by
 obtain ⟨d, n, k1, k2⟩ := deep_tot 128 (by omega) r hn
 have k1' : M.a27 (r, 128) = some (d, n) := k1
 rw [M.a5s, k1', bnd]; try dsimp only
 rcases k2 with ⟨g1, rfl, g3, g4, g5⟩ | ⟨g1, rfl, rfl⟩
 ·by_cases hd : d ≤ 128
  ·rw [if_pos hd, if_pos (by omega)]
   obtain ⟨b, h1, h2⟩ := shape_tot 128 r ((g5 128).2 hd) hn hf
   rw [h1, bnd]
   congr 1
   cases b with
   | true => exact (@decide_eq_true _ (Classical.propDecidable _) (h2.1 rfl)).symm
   | false => exact (@decide_eq_false _ (Classical.propDecidable _) (fun h => by have := h2.2 h; cases this)).symm
  ·rw [if_neg hd, @decide_eq_false _ (Classical.propDecidable _) (fun h => hd ((g5 128).1 h.dp))]
 ·rw [if_neg (by omega), @decide_eq_false _ (Classical.propDecidable _) (fun h => g1 (h.dp.mono (by omega)))]
end Go.Proofs.YtdccklkdakfnaaaGreat
/-
 How deep a pattern's query is; the query of a pattern, the program's way and the document's.
-/
set_option linter.unusedVariables false
set_option linter.unusedSimpArgs false
namespace Go.Proofs.YtdccklkdakfnaaaGreat
open Go.Gx
open Classical
theorem flat_QD (op : Int) (e : Nat) : ∀ (l f : List T29), (∀ q ∈ l, QD (e + 1) q) → flat op l = some f → ∀ q ∈ f, QD (e + 1) q
 | [], f, _, h => by rw [flat] at h; injection h with h; subst h; simp
 | q :: l, f, hq, h => by
  have hl : ∀ x ∈ l, QD (e + 1) x := fun x hx => hq x (by simp [hx])
  have h0 : QD (e + 1) q := hq q (by simp)
  rw [flat] at h
  split at h
  ·obtain ⟨f', h1, rfl⟩ := Option.map_eq_some_iff.1 h
   intro x hx
   rcases List.mem_append.1 hx with hx | hx
   ·exact (show QD e x from h0 x hx).mono (by omega)
   ·exact flat_QD op e l f' hl h1 x hx
  ·split at h
   ·cases h
   ·split at h
    ·exact flat_QD op e l f hl h
    ·obtain ⟨f', h1, rfl⟩ := Option.map_eq_some_iff.1 h
     intro x hx
     rcases List.mem_cons.1 hx with rfl | hx
     ·exact h0
     ·exact flat_QD op e l f' hl h1 x hx
theorem mkq_QD (op : Int) (e : Nat) (l : List T29) (h : ∀ q ∈ l, QD (e + 1) q) : QD (e + 2) (mkq op l) := by
 unfold mkq
 split
 ·intro x hx; cases hx
 ·exact (h _ (by simp)).mono (by omega)
 ·exact h
theorem put_QD (op : Int) (e : Nat) (l : List T29) (h : ∀ q ∈ l, QD (e + 1) q) : QD (e + 2) (putS op l) := by
 unfold putS
 split
 ·intro x hx; cases hx
 ·rename_i f hf
  refine mkq_QD op e _ fun q hq => ?_
  rcases mem_dist hq with h1 | h1
  ·cases h1
  ·exact flat_QD op e l f h hf q h1
theorem grS_QD (s : ByteArray) : QD 2 (grS s) := by
 refine put_QD 3 0 _ fun q hq => ?_
 obtain ⟨g, _, rfl⟩ := List.mem_map.1 hq
 intro x hx; cases hx
theorem quS_QD (l : List ByteArray) : QD 3 (quS l) := by
 refine put_QD 4 1 _ fun q hq => ?_
 obtain ⟨g, _, rfl⟩ := List.mem_map.1 hq
 exact grS_QD g
theorem Q0_QD : QD 1 Q0 := by intro x hx; cases hx
theorem each_QD (f : T26 → Option (List ByteArray)) (g : T26 → T29) (e : Nat) (hg : ∀ x, QD (e + 3) (g x)) : ∀ (n : Nat) (L : List T26), ∀ q ∈ eachL f g n L, QD (e + 3) q
 | 0, L, q, h => by rw [eachL] at h; cases h
 | n + 1, [], q, h => by rw [eachL] at h; cases h
 | n + 1, x :: L, q, h => by
  rw [eachL] at h
  split at h
  ·rcases List.mem_cons.1 h with rfl | h
   ·exact hg x
   ·exact each_QD f g e hg n L q h
  ·rcases List.mem_cons.1 h with rfl | h
   ·exact (quS_QD _).mono (by omega)
   ·exact each_QD f g e hg n _ q h
theorem from_QD : ∀ (d : Nat) (r : T26), QD (d + 3) (fromS d r)
 | 0, r => by rw [fromS]; exact Q0_QD.mono (by omega)
 | d + 1, r => by
  have ih := from_QD d
  have h0 : QD (d + 1 + 3) Q0 := Q0_QD.mono (by omega)
  rw [fromS]
  split
  ·exact (quS_QD _).mono (by omega)
  ·split
   ·exact put_QD 3 (d + 2) _ (each_QD _ _ d ih _ _)
   ·split
    ·refine put_QD 4 (d + 2) _ fun q hq => ?_
     obtain ⟨x, _, rfl⟩ := List.mem_map.1 hq
     exact ih x
    ·split
     ·split
      ·exact (ih _).mono (by omega)
      ·exact h0
     ·exact h0
theorem from_both (o : T26) (hf : ∀ e, Fit e o) (hn : nd o ≤ 40) : ∃ (q : T29) (n : Int), M.a1x o = some (q, n) ∧ M.a5c o = some (cv q, n) ∧ QD 131 q ∧ qn q ≤ 2000000 := by
 obtain ⟨b, k1, k2⟩ := check_tot o (hf 128)
 have k3 := rcheck_tot o (by omega) hf
 by_cases hr : Rt 128 o
 ·have hb : b = true := k2.2 ⟨hr, by omega⟩
  subst hb
  have hw := from_W 128 o (.inr trivial)
  refine ⟨fromS 128 o, 0, ?_, ?_, from_QD 128 o, by omega⟩
  ·rw [M.a1x, k1, bnd, if_pos rfl, from_ok 128 o hr (by omega), bnd]
  ·rw [M.a5c, k3, bnd, if_pos (@decide_eq_true _ (Classical.propDecidable _) hr), rfrom_ok 128 o hr (by omega), bnd]
 ·have hb : b = false := by
   cases b with
   | false => rfl
   | true => exact absurd (k2.1 rfl).1 hr
  subst hb
  refine ⟨⟨0, ⟨#[]⟩, []⟩, 2, ?_, ?_, (fun x hx => by cases hx), by simp [qn, qns]⟩
  ·rw [M.a1x, k1, bnd, if_neg (by decide)]
  ·rw [M.a5c, k3, bnd, if_neg (by rw [@decide_eq_false _ (Classical.propDecidable _) hr]; decide), cv, cvs]
theorem samet_l0 (l : List ByteArray) (hl : l.length ≤ 1000000) (k : Nat) : ∀ i : Nat, i + k = l.length → M.a45 (l, l, (i : Int)) = some true := by
 induction k with
 | zero =>
  intro i h
  rw [M.a45]; try dsimp only
  rw [if_neg (by omega)]
 | succ k ih =>
  intro i h
  rw [M.a45]; try dsimp only
  rw [if_pos (by omega), if_pos (by omega), if_pos (by omega)]
  simp only [beq_self_eq_true, if_true]
  rw [wr_i64 (by omega) (by omega)]
  exact ih (i + 1) (by omega)
theorem samet_self (l : List ByteArray) (hl : l.length ≤ 1000000) : M.a5u l l = some true := by
 rw [M.a5u]
 have := samet_l0 l hl l.length 0 (by omega)
 simpa using this
end Go.Proofs.YtdccklkdakfnaaaGreat
/-
 The law GramTells but for its told examples.
-/
set_option linter.unusedVariables false
set_option linter.unusedSimpArgs false
namespace Go.Proofs.YtdccklkdakfnaaaGreat
open Go.Gx
open Classical
theorem tells_law (hw : M.a3t = some true) (x0 : ByteArray) (x1 : T26) (x2 : T29) (hf : ∀ e, Fit e x1) (hq : ∀ e, FQ e x2) : M.a5v x0 x1 x2 = some true := by
 have hi : 0 ≤ imn (x0.size : Int) 100 ∧ imn (x0.size : Int) 100 ≤ (x0.size : Int) ∧ imn (x0.size : Int) 100 ≤ 100 := by
  unfold imn; split <;> omega
 obtain ⟨o, k1, k2, k3, k4⟩ := some_ok x1 hf
 obtain ⟨c, b', c1, c2, c3, c4⟩ := qcut_ok 9 (by omega) x2 80 hq (by omega) (by omega)
 have c1' : M.a25 (x2, 9, 80) = some (c, b') := c1
 have hcn : qn c ≤ 80 := by omega
 obtain ⟨q, n, f1, f2, f3, f4⟩ := from_both o k2 k4
 have hsz : (ss x0 0 (imn (x0.size : Int) 100)).size ≤ 100 := by
  unfold ss; rw [ByteArray.size_extract]; omega
 have hwl := wins_len (ss x0 0 (imn (x0.size : Int) 100))
 have p1 : M.aj (q, 200) = some (cv q) := plain_ok 200 (by omega) q (f3.mono (by omega)) (by omega)
 have p2 : M.aj (c, 20) = some (cv c) := plain_ok 20 (by omega) c (c4.mono (by omega)) (by omega)
 obtain ⟨t, t1, t2⟩ := texts_same c (by omega)
 rw [M.a5v, if_pos hi.1, if_pos hi.2.1, k1, bnd, c1', bnd, f1, bnd, f2, bnd, grams_ok _ (by omega), bnd, rgrams_ok _ (by omega), bnd]
 rw [samet_self _ (by have := nrm_len (wins (ss x0 0 (imn (x0.size : Int) 100))); omega), bnd, if_pos rfl, if_pos rfl, p1, bnd, rsame_ok (qn q) q q (Nat.le_refl _) (by omega) (by omega), bnd, if_pos (by simp), qcheck_ok c (by omega), bnd, p2, bnd, rqcheck_ok c (by omega), bnd, if_pos rfl, t1, bnd, bnd, t2, bnd, if_pos (by simp), hw, bnd]
end Go.Proofs.YtdccklkdakfnaaaGreat
