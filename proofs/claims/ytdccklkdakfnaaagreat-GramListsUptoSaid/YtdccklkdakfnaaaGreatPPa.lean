import Derived.Test.YtdccklkdakfnaaaGreatMGl
import Derived.Test.YtdccklkdakfnaaaGreatGS
import Derived.Test.YtdccklkdakfnaaaGreatGR
import Derived.Test.YtdccklkdakfnaaaGreatLM
import Derived.Sort.Walk0
import Derived.Lib.Builder
/-
 Queries and their fits; lists by keys.
-/
set_option linter.unusedVariables false
set_option linter.unusedSimpArgs false
namespace Go.Proofs.YtdccklkdakfnaaaGreat
open Go.Gx
open Classical
def Z4 : List Int := [0, 0, 0, 0]
theorem bnd {α β : Type} (a : α) (f : α → Option β) : (some a >>= f) = f a := rfl
theorem wr_i64 {x : Int} (h0 : -9223372036854775808 ≤ x) (h1 : x ≤ 9223372036854775807) : wr .i64 x = x := by
 simp only [wr, IntKind.wrap, IntKind.signed, IntKind.bits]
 simp
 split <;> omega
theorem gi_mid {α : Type} [Inhabited α] (pre : List α) (r : α) (t : List α) : gi (pre ++ r :: t) (pre.length : Int) = r := by
 simp [gi]
def Dp : Nat → T26 → Prop
 | 0, _ => False
 | d + 1, r => ∀ x ∈ r.L, Dp d x
theorem Dp.mono : ∀ {d e : Nat} {r : T26}, Dp d r → d ≤ e → Dp e r
 | 0, _, _, h, _ => absurd h id
 | d + 1, 0, _, _, he => by omega
 | d + 1, e + 1, r, h, he => fun x hx => (h x hx).mono (by omega)
def SetOk (l : List Int) : Prop := l.length = 4 ∧ ∀ x ∈ l, 0 ≤ x ∧ x < 18446744073709551616
theorem SetOk.Z4 : SetOk Z4 := ⟨rfl, fun x hx => by simp [Go.Proofs.YtdccklkdakfnaaaGreat.Z4] at hx; omega⟩
def Fit : Nat → T26 → Prop
 | 0, _ => True
 | d + 1, r => SetOk r.Set ∧ r.L.length ≤ 9223372036854775807 ∧ ∀ x ∈ r.L, Fit d x
theorem Fit.mono : ∀ {d e : Nat} {r : T26}, Fit d r → e ≤ d → Fit e r
 | _, 0, _, _, _ => trivial
 | 0, e + 1, _, _, he => by omega
 | d + 1, e + 1, r, h, he => ⟨h.1, h.2.1, fun x hx => (h.2.2 x hx).mono (by omega)⟩
def Shp (r : T26) : Prop :=
 (r.Kind = 1 ∧ r.L = [] ∧ r.Min = 0 ∧ r.Max = 0) ∨ ((r.Kind = 2 ∨ r.Kind = 3) ∧ r.Set = Z4 ∧ r.Min = 0 ∧ r.Max = 0) ∨
  (r.Kind = 4 ∧ (∃ x, r.L = [x]) ∧ r.Set = Z4 ∧ 0 ≤ r.Min ∧ r.Min ≤ 64 ∧ (r.Max = -1 ∨ (r.Min ≤ r.Max ∧ r.Max ≤ 64)))
def Rt : Nat → T26 → Prop
 | 0, _ => False
 | d + 1, r => Shp r ∧ SetOk r.Set ∧ ∀ x ∈ r.L, Rt d x
theorem Rt.mono : ∀ {d e : Nat} {r : T26}, Rt d r → d ≤ e → Rt e r
 | 0, _, _, h, _ => absurd h id
 | d + 1, 0, _, _, he => by omega
 | d + 1, e + 1, r, h, he => ⟨h.1, h.2.1, fun x hx => (h.2.2 x hx).mono (by omega)⟩
theorem gi_nat {α : Type} [Inhabited α] (l : List α) (i : Nat) (h : i < l.length) : gi l (i : Int) = l[i] := by
 simp [gi, h]
section
variable (s : ByteArray) (hs : s.size ≤ 100)
include hs
end
abbrev Tl (x : ByteArray) : List UInt8 := x.data.toList
theorem Tl_inj {x y : ByteArray} (h : Tl x = Tl y) : x = y := by
 cases x; cases y
 simpa using Array.toList_inj.1 h
abbrev RzS (l : List ByteArray) : Prop := l.Pairwise fun x y => Tl x < Tl y
def nrm (l : List ByteArray) : List ByteArray := cmpL (srtS l)
theorem srtS_perm' (l : List ByteArray) : (srtS l).Perm l := by
 have h := (List.mergeSort_perm (l.map (·.data.toList)) (fun x y => decide (x ≤ y))).map fun l : List UInt8 => (⟨l.toArray⟩ : ByteArray)
 rw [List.map_map] at h
 have e : ((fun l : List UInt8 => (⟨l.toArray⟩ : ByteArray)) ∘ fun x : ByteArray => x.data.toList) = id := by funext x; rfl
 rw [e, List.map_id] at h
 exact h
theorem srtS_rises (l : List ByteArray) : (srtS l).Pairwise fun x y => Tl x ≤ Tl y := by
 have h := List.pairwise_mergeSort (le := fun x y : List UInt8 => decide (x ≤ y)) (fun a b c h1 h2 => by simp only [decide_eq_true_eq] at *; exact List.le_trans h1 h2) (fun a b => by simp only [Bool.or_eq_true, decide_eq_true_eq]; exact List.le_total a b) (l.map (·.data.toList))
 unfold srtS
 rw [List.pairwise_map]
 exact h.imp fun h => by simpa using h
theorem cmpR_sub {α : Type} [DecidableEq α] : ∀ (p : α) (l : List α), (cmpR p l).Sublist l
 | p, [] => by simp [cmpR]
 | p, y :: ys => by
  simp only [cmpR]
  split
  ·exact (cmpR_sub p ys).cons _
  ·exact (cmpR_sub y ys).cons_cons _
theorem cmpR_rises : ∀ (p : ByteArray) (l : List ByteArray), (p :: l).Pairwise (fun x y => Tl x ≤ Tl y) → (p :: cmpR p l).Pairwise fun x y => Tl x < Tl y
 | p, [], _ => by simp [cmpR]
 | p, y :: ys, h => by
  rw [List.pairwise_cons] at h
  have h2 := List.pairwise_cons.1 h.2
  simp only [cmpR]
  split
  ·rename_i e
   subst e
   exact cmpR_rises y ys h.2
  ·rename_i e
   have ih := cmpR_rises y ys h.2
   refine List.pairwise_cons.2 ⟨fun z hz => ?_, ih⟩
   have hpy : Tl p < Tl y := by
    have := h.1 y (by simp)
    rcases List.le_iff_lt_or_eq.1 this with h | h
    ·exact h
    ·exact absurd (Tl_inj h).symm e
   rcases List.mem_cons.1 hz with rfl | hz
   ·exact hpy
   ·exact List.lt_trans hpy ((List.pairwise_cons.1 ih).1 z hz)
theorem nrm_rises (l : List ByteArray) : RzS (nrm l) := by
 unfold nrm
 have h := srtS_rises l
 cases hs : srtS l with
 | nil => exact List.Pairwise.nil
 | cons x xs => rw [hs] at h; exact cmpR_rises x xs h
theorem nrm_len (l : List ByteArray) : (nrm l).length ≤ l.length := by
 have h1 := (srtS_perm' l).length_eq
 unfold nrm
 have : (cmpL (srtS l)).length ≤ (srtS l).length := by
  cases hs : srtS l with
  | nil => exact Nat.le_refl _
  | cons x xs => rw [cmpL, List.length_cons, List.length_cons]; have := (cmpR_sub x xs).length_le; omega
 omega
def wins (s : ByteArray) : List ByteArray := (List.range (s.size - 2)).map fun i : Nat => ss s (i : Int) ((i : Int) + 3)
theorem windows_ok (s : ByteArray) (hs : s.size ≤ 1000000) : M.a2m [] s = some (wins s) := by
 have e0 : wr .i64 (wr .i64 ((s.size : Int) - 3) + 1) = (s.size : Int) - 2 := by
  rw [wr_i64 (x := (s.size : Int) - 3) (by omega) (by omega), wr_i64 (by omega) (by omega)]; omega
 have loop : ∀ (k i : Nat), i + k = s.size - 2 → M.ae ((s.size : Int) - 2, (i : Int), ((List.range i).map fun i : Nat => ss s (i : Int) ((i : Int) + 3)), s) = some (wins s) := by
  intro k
  induction k with
  | zero =>
   intro i hi
   rw [M.ae]; try dsimp only
   rw [if_neg (by omega), show i = s.size - 2 by omega]
   rfl
  | succ k ih =>
   intro i hi
   rw [M.ae]; try dsimp only
   rw [if_pos (by omega), if_pos (by omega), wr_i64 (x := (i : Int) + 3) (by omega) (by omega), if_pos (by omega), if_pos (by omega), M.a4h, if_pos (by simp; omega), bnd, wr_i64 (x := (i : Int) + 1) (by omega) (by omega), show (i : Int) + 1 = ((i + 1 : Nat) : Int) by push_cast; rfl]
   have := ih (i + 1) (by omega)
   rw [List.range_succ, List.map_append] at this
   exact this
 rw [M.a2m, e0]
 exact loop (s.size - 2) 0 (by omega)
theorem wins_len (s : ByteArray) : (wins s).length = s.size - 2 := by simp [wins]
theorem srtS_length (l : List ByteArray) : (srtS l).length = l.length := (srtS_perm' l).length_eq
theorem grams_ok (s : ByteArray) (hs : s.size ≤ 1000000) : M.au s = some (nrm (wins s)) := by
 have hw := wins_len s
 rw [M.au, M.a4i, bnd, M.a3p, M.a3o, M.a3n, windows_ok s hs, bnd, bnd, bnd, if_pos (by omega), bnd, if_pos (by rw [srtS_length]; omega)]
 rfl
def hb (z : List Int) (b : Nat) : Bool := (M.a4a z (b : Int)).getD false
def eS : ByteArray := ⟨#[]⟩
theorem tlS (s : ByteArray) : s.toList = Tl s := Lib.toList_data s
theorem eqS (a b : ByteArray) : (a.toList == b.toList) = decide (a = b) := by
 rw [tlS, tlS]
 by_cases h : a = b
 ·rw [h, decide_eq_true rfl]; simp
 ·rw [decide_eq_false h]
  rw [beq_eq_false_iff_ne]
  exact fun h' => h (Tl_inj h')
theorem lessS (a b : ByteArray) : Op.bytesLess a.toList b.toList = decide (Tl a < Tl b) := by rw [bytesLess_eq, tlS, tlS]
mutual
def qn : T29 → Nat
 | ⟨_, _, L⟩ => 1 + qns L
def qns : List T29 → Nat
 | [] => 0
 | x :: xs => qn x + qns xs
end
theorem qn_eq (q : T29) : qn q = 1 + qns q.L := by cases q; rw [qn]
theorem qn_pos (q : T29) : 1 ≤ qn q := by rw [qn_eq]; omega
theorem qns_len : ∀ L : List T29, L.length ≤ qns L
 | [] => by simp
 | x :: xs => by have := qns_len xs; have := qn_pos x; rw [qns]; simp; omega
theorem qn_mem {x : T29} : ∀ {l : List T29}, x ∈ l → qn x ≤ qns l
 | [], h => by simp at h
 | y :: l, h => by
  rw [qns]
  rcases List.mem_cons.1 h with rfl | h
  ·omega
  ·have := qn_mem h; omega
def QD : Nat → T29 → Prop
 | 0, _ => False
 | d + 1, q => ∀ x ∈ q.L, QD d x
theorem QD.mono : ∀ {d e : Nat} {q : T29}, QD d q → d ≤ e → QD e q
 | 0, _, _, h, _ => absurd h id
 | d + 1, 0, _, _, he => by omega
 | d + 1, e + 1, q, h, he => fun x hx => (h x hx).mono (by omega)
mutual
def Rq : T29 → Prop
 | ⟨o, t, L⟩ => ((o = 0 ∨ o = 1) ∧ t = eS ∧ L = []) ∨ (o = 2 ∧ t.size = 3 ∧ L = []) ∨ ((o = 3 ∨ o = 4) ∧ t = eS ∧ Rqs L)
def Rqs : List T29 → Prop
 | [] => True
 | x :: xs => Rq x ∧ Rqs xs
end
theorem Rqs_iff : ∀ {L : List T29}, Rqs L ↔ ∀ x ∈ L, Rq x
 | [] => by simp [Rqs]
 | x :: xs => by rw [Rqs, Rqs_iff (L := xs)]; simp
theorem Rq_eq (q : T29) : Rq q ↔ ((q.Op = 0 ∨ q.Op = 1) ∧ q.Text = eS ∧ q.L = []) ∨ (q.Op = 2 ∧ q.Text.size = 3 ∧ q.L = []) ∨ ((q.Op = 3 ∨ q.Op = 4) ∧ q.Text = eS ∧ ∀ x ∈ q.L, Rq x) := by
 cases q
 rw [Rq, Rqs_iff]
theorem qcount_ok (left : Nat) : left ≤ 100 → ∀ (q : T29) (n : Nat), n + qn q ≤ 4000 → ∃ n' : Nat, M.a7 (q, (left : Int), (n : Int)) = some (decide (QD left q), (n' : Int)) ∧ n' ≤ n + qn q := by
 induction left with
 | zero =>
  intro hl q n hn
  have hp := qn_pos q
  rw [M.a7]; try dsimp only
  rw [if_pos (by rfl), M.ax]; try dsimp only
  rw [if_pos rfl, wr_i64 (by omega) (by omega)]
  exact ⟨n + 1, by rw [decide_eq_false (fun h : QD 0 q => h)]; rfl, by omega⟩
 | succ left ih =>
  intro hl q n hn
  have hq := qn_eq q
  have hll := qns_len q.L
  have loop : ∀ (R pre : List T29) (m : Nat), q.L = pre ++ R → m + qns R ≤ 4000 → ∃ n' : Nat, M.ag (((left + 1 : Nat) : Int), q.L, (q.L.length : Int), (pre.length : Int), (m : Int)) = some (decide (∀ x ∈ R, QD left x), (n' : Int)) ∧ n' ≤ m + qns R := by
   intro R
   induction R with
   | nil =>
    intro pre m e hm
    rw [M.ag]; try dsimp only
    rw [if_neg (by rw [e]; simp)]
    exact ⟨m, by rw [decide_eq_true (by simp)], by omega⟩
   | cons x R ihR =>
    intro pre m e hm
    have hlen : q.L.length = pre.length + (R.length + 1) := by rw [e]; simp
    rw [qns] at hm
    obtain ⟨n1, k1, k2⟩ := ih (by omega) x m (by omega)
    rw [M.ag]; try dsimp only
    rw [if_pos (by omega), if_pos (by omega), if_pos (by omega), show gi q.L (pre.length : Int) = x by rw [e]; exact gi_mid pre x R, wr_i64 (x := ((left + 1 : Nat) : Int) - 1) (by omega) (by omega), show ((left + 1 : Nat) : Int) - 1 = (left : Int) by omega, k1, bnd]; try dsimp only
    by_cases hx : QD left x
    ·rw [decide_eq_true hx, if_pos rfl, wr_i64 (x := (pre.length : Int) + 1) (by omega) (by omega)]
     obtain ⟨n2, g1, g2⟩ := ihR (pre ++ [x]) n1 (by rw [e]; simp) (by omega)
     rw [show (((pre ++ [x]).length : Nat) : Int) = (pre.length : Int) + 1 by simp] at g1
     refine ⟨n2, ?_, by rw [qns]; omega⟩
     rw [g1]
     congr 2
     rw [decide_eq_decide]
     simp [hx]
    ·rw [decide_eq_false hx, if_neg (by decide)]
     exact ⟨n1, by rw [decide_eq_false (fun h => hx (h x (by simp)))], by rw [qns]; omega⟩
  rw [M.a7]; try dsimp only
  rw [if_neg (by omega), wr_i64 (by omega) (by omega), decide_eq_false (by omega), M.ax]; try dsimp only
  rw [if_neg (by decide)]
  obtain ⟨n', g1, g2⟩ := loop q.L [] (n + 1) rfl (by omega)
  rw [show ((([] : List T29).length : Nat) : Int) = 0 from rfl, show ((n + 1 : Nat) : Int) = (n : Int) + 1 by push_cast; rfl] at g1
  exact ⟨n', by rw [g1]; exact congrArg some (Prod.ext (decide_eq_decide.2 Iff.rfl) rfl), by omega⟩
theorem eq_eS (t : ByteArray) : ((t.toList == (⟨#[]⟩ : ByteArray).toList) = true) ↔ t = eS := by rw [eqS, decide_eq_true_eq]; rfl
theorem qright_ok (n : Nat) : ∀ q : T29, qn q ≤ n → qn q ≤ 100000 → M.ah q = some (decide (Rq q)) := by
 induction n with
 | zero => intro q h; have := qn_pos q; omega
 | succ n ih =>
  intro q hn hq
  have hqe := qn_eq q
  have hll := qns_len q.L
  have hL0 : ((q.L.length : Int) = 0) ↔ q.L = [] := by
   constructor
   ·intro h; exact List.eq_nil_of_length_eq_zero (by omega)
   ·intro h; rw [h]; rfl
  have e01 : (if q.Op = 0 then M.a8 (q, q.Op, true) else M.a8 (q, q.Op, decide (q.Op = 1))) = M.a8 (q, q.Op, decide (q.Op = 0 ∨ q.Op = 1)) := by
   by_cases h : q.Op = 0
   ·rw [if_pos h]; simp [h]
   ·rw [if_neg h]; simp [h]
  rw [M.ah]; try dsimp only
  rw [e01, M.a8]; try dsimp only
  have hR := Rq_eq q
  by_cases h01 : q.Op = 0 ∨ q.Op = 1
  ·rw [decide_eq_true h01, if_pos rfl]
   by_cases ht : q.Text = eS
   ·rw [if_pos ((eq_eS _).2 ht)]
    congr 1
    rw [decide_eq_decide, hL0, hR]
    constructor
    ·intro h; exact .inl ⟨h01, ht, h⟩
    ·rintro (h | h | h)
     ·exact h.2.2
     ·omega
     ·omega
   ·rw [if_neg (fun h => ht ((eq_eS _).1 h)), decide_eq_false]
    rw [hR]
    rintro (h | h | h)
    ·exact ht h.2.1
    ·omega
    ·omega
  ·rw [decide_eq_false h01, if_neg (by decide)]
   by_cases h2 : q.Op = 2
   ·rw [if_pos h2]
    by_cases ht : (q.Text.size : Int) = 3
    ·rw [if_pos ht]
     congr 1
     rw [decide_eq_decide, hL0, hR]
     constructor
     ·intro h; exact .inr (.inl ⟨h2, by omega, h⟩)
     ·rintro (h | h | h)
      ·omega
      ·exact h.2.2
      ·omega
    ·rw [if_neg ht, decide_eq_false]
     rw [hR]
     rintro (h | h | h)
     ·omega
     ·exact ht (by rw [h.2.1]; rfl)
     ·omega
   ·rw [if_neg h2]
    have e34 : (if q.Op = 3 then M.a9 (q, true) else M.a9 (q, decide (q.Op = 4))) = M.a9 (q, decide (q.Op = 3 ∨ q.Op = 4)) := by
     by_cases h : q.Op = 3
     ·rw [if_pos h]; simp [h]
     ·rw [if_neg h]; simp [h]
    rw [e34, M.a9]; try dsimp only
    by_cases h34 : q.Op = 3 ∨ q.Op = 4
    ·rw [decide_eq_true h34, if_pos rfl]
     by_cases ht : q.Text = eS
     ·rw [if_pos ((eq_eS _).2 ht)]
      have loop : ∀ (R pre : List T29), q.L = pre ++ R → ∃ j : Int, M.ai (q.L, (q.L.length : Int), (pre.length : Int)) = some j ∧ (0 ≤ j ↔ ¬ ∀ x ∈ R, Rq x) := by
       intro R
       induction R with
       | nil =>
        intro pre e
        rw [M.ai]; try dsimp only
        rw [if_neg (by rw [e]; simp)]
        exact ⟨-1, rfl, by simp⟩
       | cons x R ihR =>
        intro pre e
        have hlen : q.L.length = pre.length + (R.length + 1) := by rw [e]; simp
        have hx : x ∈ q.L := by rw [e]; simp
        have hqx := qn_mem hx
        rw [M.ai]; try dsimp only
        rw [if_pos (by omega), if_pos (by omega), if_pos (by omega), show gi q.L (pre.length : Int) = x by rw [e]; exact gi_mid pre x R, M.a2x, ih x (by omega) (by omega), bnd, bnd]
        by_cases hr : Rq x
        ·rw [decide_eq_true hr, if_neg (by decide), wr_i64 (by omega) (by omega)]
         obtain ⟨j, g1, g2⟩ := ihR (pre ++ [x]) (by rw [e]; simp)
         rw [show (((pre ++ [x]).length : Nat) : Int) = (pre.length : Int) + 1 by simp] at g1
         exact ⟨j, g1, by rw [g2]; simp [hr]⟩
        ·rw [decide_eq_false hr, if_pos (by decide)]
         exact ⟨_, rfl, by simp only [List.forall_mem_cons, hr, false_and, not_false_eq_true, iff_true]; omega⟩
      obtain ⟨j, g1, g2⟩ := loop q.L [] rfl
      rw [show ((([] : List T29).length : Nat) : Int) = 0 from rfl] at g1
      rw [M.a2v, M.a2w, g1, bnd, bnd]
      congr 1
      by_cases hall : ∀ x ∈ q.L, Rq x
      ·have hj : ¬ j ≥ 0 := fun h => (g2.1 h) hall
       rw [decide_eq_false hj, decide_eq_true (hR.2 (.inr (.inr ⟨h34, ht, hall⟩)))]
       rfl
      ·have hj : j ≥ 0 := g2.2 hall
       rw [decide_eq_true hj, decide_eq_false]
       ·rfl
       ·rw [hR]
        rintro (h | h | h)
        ·omega
        ·omega
        ·exact hall h.2.2
     ·rw [if_neg (fun h => ht ((eq_eS _).1 h)), decide_eq_false]
      rw [hR]
      rintro (h | h | h)
      ·omega
      ·omega
      ·exact ht h.2.1
    ·rw [decide_eq_false h34, if_neg (by decide), decide_eq_false]
     rw [hR]
     rintro (h | h | h)
     ·exact h01 h.1
     ·exact h2 h.1
     ·exact h34 h.1
theorem qcheck_ok (q : T29) (hq : qn q ≤ 3999) : M.aj q = some (if QD 8 q ∧ Rq q then 0 else 2) := by
 obtain ⟨n', k1, k2⟩ := qcount_ok 8 (by omega) q 0 (by omega)
 rw [show ((8 : Nat) : Int) = 8 from rfl, show ((0 : Nat) : Int) = 0 from rfl] at k1
 rw [M.aj, k1, bnd]; try dsimp only
 by_cases hd : QD 8 q
 ·rw [decide_eq_true hd, if_pos rfl, qright_ok (qn q) q (Nat.le_refl _) (by omega), bnd]
  by_cases hr : Rq q
  ·rw [decide_eq_true hr, if_pos rfl, if_pos ⟨hd, hr⟩]
  ·rw [decide_eq_false hr, if_neg (by decide), if_neg fun h => hr h.2]
 ·rw [decide_eq_false hd, if_neg (by decide), if_neg fun h => hd h.1]
def FQ : Nat → T29 → Prop
 | 0, _ => True
 | e + 1, q => q.L.length ≤ 9223372036854775807 ∧ ∀ x ∈ q.L, FQ e x
theorem eta29 (q : T29) : (⟨q.Op, q.Text, q.L⟩ : T29) = q := by cases q; rfl
theorem imn_le (n : Nat) : 0 ≤ imn (n : Int) 5 ∧ imn (n : Int) 5 ≤ (n : Int) := by
 unfold imn; split <;> omega
theorem qcut_ok (left : Nat) : left ≤ 130 → ∀ (q : T29) (b : Int), (∀ e, FQ e q) → 1 ≤ b → b ≤ 100 → ∃ (o : T29) (b' : Int), M.ay (q, (left : Int), b) = some (o, b') ∧ 0 ≤ b' ∧ b' ≤ b - qn o ∧ QD (left + 1) o := by
 induction left with
 | zero =>
  intro hl q b hf h1 h2
  have hi := imn_le q.Text.size
  refine ⟨⟨q.Op, ss q.Text 0 (imn (q.Text.size : Int) 5), []⟩, b - 1, ?_, by omega, by rw [qn_eq, qns]; omega, by simp [QD]⟩
  rw [M.ay]; try dsimp only
  rw [if_pos hi.1, if_pos hi.2, wr_i64 (by omega) (by omega), M.az]; try dsimp only
  have l1 : M.ak (0, q, ⟨0, ⟨#[]⟩, []⟩, ⟨q.Op, ss q.Text 0 (imn (q.Text.size : Int) 5), []⟩, 0, false, b - 1) = some (⟨q.Op, ss q.Text 0 (imn (q.Text.size : Int) 5), []⟩, b - 1) := by
   rw [M.ak]; try dsimp only
   rw [if_neg (by decide)]
  by_cases hL : (0 : Int) < (q.L.length : Int)
  ·rw [if_pos hL, if_neg (by omega)]; exact l1
  ·rw [if_neg hL]; exact l1
 | succ left ih =>
  intro hl q b hf h1 h2
  have hi := imn_le q.Text.size
  have hlen := (hf 1).1
  have loop : ∀ (R pre : List T29) (acc : T29) (c : Int), q.L = pre ++ R → 0 ≤ c → c + (acc.L.length : Int) ≤ 100 →
    ∃ (ys : List T29) (c' : Int), M.az (((left + 1 : Nat) : Int), q, ⟨0, ⟨#[]⟩, []⟩, acc, (pre.length : Int), c) = some (⟨acc.Op, acc.Text, acc.L ++ ys⟩, c') ∧ 0 ≤ c' ∧ c' ≤ c - qns ys ∧ (∀ y ∈ ys, QD (left + 1) y) := by
   intro R
   induction R with
   | nil =>
    intro pre acc c e hc ha
    refine ⟨[], c, ?_, hc, by rw [qns]; omega, by simp⟩
    rw [M.az]; try dsimp only
    rw [if_neg (by rw [e]; simp), M.ak]; try dsimp only
    rw [if_neg (by decide), List.append_nil, eta29]
   | cons x R ihR =>
    intro pre acc c e hc ha
    have hl2 : q.L.length = pre.length + (R.length + 1) := by rw [e]; simp
    have hx : x ∈ q.L := by rw [e]; simp
    rw [M.az]; try dsimp only
    rw [if_pos (by omega), if_pos (by omega)]
    by_cases hc0 : c > 0
    ·rw [decide_eq_true hc0, M.ak]; try dsimp only
     obtain ⟨o, c1, k1, k2, k3, k4⟩ := ih (by omega) x c (fun e' => (hf (e' + 1)).2 x hx) (by omega) (by omega)
     have hno := qn_pos o
     rw [if_pos rfl, if_pos (by omega), if_pos (by omega), show gi q.L (pre.length : Int) = x by rw [e]; exact gi_mid pre x R, wr_i64 (x := ((left + 1 : Nat) : Int) - 1) (by omega) (by omega), show ((left + 1 : Nat) : Int) - 1 = (left : Int) by omega, k1, bnd]; try dsimp only
     rw [if_pos (by simp; omega), wr_i64 (by omega) (by omega)]
     obtain ⟨ys, c2, g1, g2, g3, g4⟩ := ihR (pre ++ [x]) ⟨acc.Op, acc.Text, acc.L ++ [o]⟩ c1 (by rw [e]; simp) k2 (by simp; omega)
     rw [show (((pre ++ [x]).length : Nat) : Int) = (pre.length : Int) + 1 by simp] at g1
     refine ⟨o :: ys, c2, ?_, g2, by rw [qns]; omega, fun y hy => ?_⟩
     ·rw [g1]; simp
     ·rcases List.mem_cons.1 hy with rfl | hy
      ·exact k4
      ·exact g4 y hy
    ·rw [decide_eq_false hc0, M.ak]; try dsimp only
     refine ⟨[], c, ?_, hc, by rw [qns]; omega, by simp⟩
     rw [if_neg (by decide), List.append_nil, eta29]
  obtain ⟨ys, c', g1, g2, g3, g4⟩ := loop q.L [] ⟨q.Op, ss q.Text 0 (imn (q.Text.size : Int) 5), []⟩ (b - 1) rfl (by omega) (by simp; omega)
  refine ⟨⟨q.Op, ss q.Text 0 (imn (q.Text.size : Int) 5), ys⟩, c', ?_, g2, by rw [qn_eq]; push_cast; omega, g4⟩
  rw [M.ay]; try dsimp only
  rw [if_pos hi.1, if_pos hi.2, wr_i64 (by omega) (by omega)]
  have g1' : M.az (((left + 1 : Nat) : Int), q, ⟨0, ⟨#[]⟩, []⟩, ⟨q.Op, ss q.Text 0 (imn (q.Text.size : Int) 5), []⟩, 0, b - 1) = _ := g1
  rw [g1']
  rfl
theorem sless_eq (x y : ByteArray) : M.a4y x y = some (decide (Tl x < Tl y)) := by
 rw [M.a4y, M.a4x, bnd, if_neg (by simp), lessS]
theorem halfS (lo hi : Nat) (h : lo < hi) (hb : hi ≤ 1073741824) : wr .i64 (ishr .u64 (wr .u64 (wr .i64 ((lo : Int) + (hi : Int)))) 1) = (((lo + hi) / 2 : Nat) : Int) := by
 have e1 : wr .i64 ((lo : Int) + (hi : Int)) = (lo : Int) + hi := wr_i64 (by omega) (by omega)
 have e2 : wr .u64 ((lo : Int) + (hi : Int)) = (lo : Int) + hi := by
  simp only [wr, IntKind.wrap, IntKind.signed, IntKind.bits]
  simp
  omega
 rw [e1, e2]
 have : ishr .u64 ((lo : Int) + (hi : Int)) 1 = (((lo + hi) / 2 : Nat) : Int) := by
  show Int.fdiv _ _ = _
  have e : (2 : Int) ^ (min (Int.toNat 1) IntKind.u64.bits) = 2 := by decide
  rw [e, Int.fdiv_eq_ediv_of_nonneg _ (by omega)]
  omega
 rw [this, wr_i64 (by omega) (by omega)]
theorem sltT {a b c : ByteArray} (h : Tl a < Tl b) (k : Tl b < Tl c) : Tl a < Tl c := List.lt_trans h k
theorem sltI (a : ByteArray) : ¬ Tl a < Tl a := List.lt_irrefl _
theorem ssearch_l0 (xs : List ByteArray) (x : ByteArray) (hr : RzS xs) (hl : xs.length ≤ 1073741824) (k : Nat) : ∀ lo hi : Nat, lo ≤ hi → hi ≤ xs.length → hi - lo ≤ k → (∀ i (h : i < xs.length), i < lo → Tl xs[i] < Tl x) → (∀ i (h : i < xs.length), hi ≤ i → ¬ Tl xs[i] < Tl x) →
  ∃ p, M.a1w (xs, x, (xs.length : Int), (lo : Int), (hi : Int)) = some (p, decide (x ∈ xs)) := by
 induction k with
 | zero =>
  intro lo hi h1 h2 h3 h4 h5
  have : hi = lo := by omega
  subst this
  rw [M.a1w]; try dsimp only
  rw [if_neg (by omega)]
  by_cases hlt : hi < xs.length
  ·rw [if_pos (by omega), if_pos (by omega), if_pos (by omega), gi_nat xs hi hlt]
   by_cases h : xs[hi] = x
   ·rw [if_pos (by rw [eqS, decide_eq_true h])]
    exact ⟨_, by rw [decide_eq_true (h ▸ List.getElem_mem hlt)]⟩
   ·rw [if_neg (by rw [eqS, decide_eq_false h]; decide)]
    refine ⟨(hi : Int), ?_⟩
    have hn : x ∉ xs := by
     intro hm
     obtain ⟨i, hi', e⟩ := List.getElem_of_mem hm
     subst e
     by_cases hc : i < hi
     ·exact sltI _ (h4 i hi' hc)
     ·have hne : hi ≠ i := by rintro rfl; exact h rfl
      exact h5 hi hlt (by omega) (List.pairwise_iff_getElem.1 hr hi i hlt hi' (by omega))
    rw [M.a4z, bnd, if_neg (by simp), decide_eq_false hn]
  ·rw [if_neg (by omega)]
   refine ⟨(hi : Int), ?_⟩
   have hn : x ∉ xs := by
    intro hm
    obtain ⟨i, hi', e⟩ := List.getElem_of_mem hm
    subst e
    exact sltI _ (h4 i hi' (by omega))
   rw [decide_eq_false hn]
 | succ k ih =>
  intro lo hi h1 h2 h3 h4 h5
  by_cases hlt : lo < hi
  ·have hm := halfS lo hi hlt (by omega)
   have hmid : (lo + hi) / 2 < xs.length := by omega
   rw [M.a1w]; try dsimp only
   rw [if_pos (by omega), hm, if_pos (by omega), if_pos (by omega), bnd, gi_nat xs _ hmid, sless_eq, bnd]
   by_cases h : Tl xs[(lo + hi) / 2] < Tl x
   ·rw [if_pos (decide_eq_true h), M.a3x]; try dsimp only
    rw [wr_i64 (by omega) (by omega), show (((lo + hi) / 2 : Nat) : Int) + 1 = (((lo + hi) / 2 + 1 : Nat) : Int) by omega]
    refine ih _ _ (by omega) h2 (by omega) (fun i hi' hc => ?_) h5
    by_cases e : i = (lo + hi) / 2
    ·subst e; exact h
    ·exact sltT (List.pairwise_iff_getElem.1 hr i ((lo + hi) / 2) hi' hmid (by omega)) h
   ·rw [if_neg (by rw [decide_eq_false h]; decide), M.a3x]; try dsimp only
    refine ih _ _ (by omega) (by omega) (by omega) h4 (fun i hi' hc => ?_)
    by_cases e : i = (lo + hi) / 2
    ·subst e; exact h
    ·exact fun h6 => h (sltT (List.pairwise_iff_getElem.1 hr ((lo + hi) / 2) i hmid hi' (by omega)) h6)
  ·exact ih lo hi h1 h2 (by omega) h4 h5
theorem ssearch (xs : List ByteArray) (x : ByteArray) (hr : RzS xs) (hl : xs.length ≤ 1073741824) : ∃ p, M.a50 xs x = some (p, decide (x ∈ xs)) := by
 rw [M.a50]
 exact ssearch_l0 xs x hr hl xs.length 0 xs.length (by omega) (by omega) (by omega) (by intro i _ h; omega) (by intro i h h'; omega)
mutual
def FT (g : List ByteArray) : T29 → Prop
 | ⟨o, t, L⟩ => (o = 2 ∧ t ∈ g) ∨ (o = 3 ∧ FTall g L) ∨ (o = 4 ∧ FTany g L) ∨ o = 0
def FTall (g : List ByteArray) : List T29 → Prop
 | [] => True
 | x :: xs => FT g x ∧ FTall g xs
def FTany (g : List ByteArray) : List T29 → Prop
 | [] => False
 | x :: xs => FT g x ∨ FTany g xs
end
theorem FTall_iff {g : List ByteArray} : ∀ {L : List T29}, FTall g L ↔ ∀ x ∈ L, FT g x
 | [] => by simp [FTall]
 | x :: xs => by rw [FTall, FTall_iff (L := xs)]; simp
theorem FTany_iff {g : List ByteArray} : ∀ {L : List T29}, FTany g L ↔ ∃ x ∈ L, FT g x
 | [] => by simp [FTany]
 | x :: xs => by rw [FTany, FTany_iff (L := xs)]; simp
theorem FT_eq (g : List ByteArray) (q : T29) : FT g q ↔ (q.Op = 2 ∧ q.Text ∈ g) ∨ (q.Op = 3 ∧ ∀ x ∈ q.L, FT g x) ∨ (q.Op = 4 ∧ ∃ x ∈ q.L, FT g x) ∨ q.Op = 0 := by
 cases q
 rw [FT, FTall_iff, FTany_iff]
theorem fits_ok (g : List ByteArray) (hg : RzS g) (hl : g.length ≤ 1073741824) (n : Nat) : ∀ q : T29, qn q ≤ n → qn q ≤ 1000000 → M.a1x (q, g) = some (decide (FT g q)) := by
 induction n with
 | zero => intro q h; have := qn_pos q; omega
 | succ n ih =>
  intro q hn hb
  have hq := qn_eq q
  have hll := qns_len q.L
  have ch : ∀ x ∈ q.L, M.a1x (x, g) = some (decide (FT g x)) := fun x hx => by
   have := qn_mem hx
   exact ih x (by omega) (by omega)
  have all : ∀ (R pre : List T29), q.L = pre ++ R → (∀ x ∈ pre, FT g x) → ∃ j : Int, M.a1y (q.L, (q.L.length : Int), (pre.length : Int), g) = some j ∧ decide (j ≥ 0) = !decide (∀ x ∈ q.L, FT g x) := by
   intro R
   induction R with
   | nil =>
    intro pre e hp
    rw [List.append_nil] at e
    refine ⟨-1, ?_, ?_⟩
    ·rw [M.a1y]; try dsimp only
     rw [if_neg (by rw [e]; omega)]
    ·rw [decide_eq_true (e ▸ hp : ∀ x ∈ q.L, FT g x)]; rfl
   | cons x R ihR =>
    intro pre e hp
    have hlen : q.L.length = pre.length + (R.length + 1) := by rw [e]; simp
    have hx : x ∈ q.L := by rw [e]; simp
    rw [M.a1y]; try dsimp only
    rw [if_pos (by omega), if_pos (by omega), if_pos (by omega), show gi q.L (pre.length : Int) = x by rw [e]; exact gi_mid pre x R, M.a5x]; try dsimp only
    rw [M.a3y]; try dsimp only
    rw [ch x hx, bnd, bnd, bnd]
    by_cases hf : FT g x
    ·rw [decide_eq_true hf, if_neg (by decide), wr_i64 (by omega) (by omega), show (pre.length : Int) + 1 = (((pre ++ [x]).length : Nat) : Int) by simp]
     exact ihR (pre ++ [x]) (by rw [e]; simp) fun y hy => by
      rcases List.mem_append.1 hy with hy | hy
      ·exact hp y hy
      ·rw [List.mem_singleton.1 hy]; exact hf
    ·rw [decide_eq_false hf, if_pos (by decide)]
     refine ⟨_, rfl, ?_⟩
     rw [decide_eq_true (by omega), decide_eq_false (fun h => hf (h x hx))]; rfl
  have any : ∀ (R pre : List T29), q.L = pre ++ R → (∀ x ∈ pre, ¬ FT g x) → ∃ j : Int, M.a1z (q.L, (q.L.length : Int), (pre.length : Int), g) = some j ∧ decide (j ≥ 0) = decide (∃ x ∈ q.L, FT g x) := by
   intro R
   induction R with
   | nil =>
    intro pre e hp
    rw [List.append_nil] at e
    refine ⟨-1, ?_, ?_⟩
    ·rw [M.a1z]; try dsimp only
     rw [if_neg (by rw [e]; omega)]
    ·rw [decide_eq_false (show ¬ ∃ x ∈ q.L, FT g x from fun ⟨x, hx, h⟩ => hp x (e ▸ hx) h)]; rfl
   | cons x R ihR =>
    intro pre e hp
    have hlen : q.L.length = pre.length + (R.length + 1) := by rw [e]; simp
    have hx : x ∈ q.L := by rw [e]; simp
    rw [M.a1z]; try dsimp only
    rw [if_pos (by omega), if_pos (by omega), if_pos (by omega), show gi q.L (pre.length : Int) = x by rw [e]; exact gi_mid pre x R, M.a3y]; try dsimp only
    rw [ch x hx, bnd, bnd]
    by_cases hf : FT g x
    ·rw [decide_eq_true hf, if_pos rfl]
     refine ⟨_, rfl, ?_⟩
     rw [decide_eq_true (by omega), decide_eq_true ⟨x, hx, hf⟩]
    ·rw [decide_eq_false hf, if_neg (by decide), wr_i64 (by omega) (by omega), show (pre.length : Int) + 1 = (((pre ++ [x]).length : Nat) : Int) by simp]
     exact ihR (pre ++ [x]) (by rw [e]; simp) fun y hy => by
      rcases List.mem_append.1 hy with hy | hy
      ·exact hp y hy
      ·rw [List.mem_singleton.1 hy]; exact hf
  have fe := FT_eq g q
  rw [M.a1x]; try dsimp only
  by_cases o2 : q.Op = 2
  ·obtain ⟨p, hp⟩ := ssearch g q.Text hg hl
   rw [if_pos o2, hp, bnd]
   have : FT g q ↔ q.Text ∈ g := by rw [fe]; simp [o2]
   simp only [this]
  rw [if_neg o2]
  by_cases o3 : q.Op = 3
  ·obtain ⟨j, hj, he⟩ := all q.L [] rfl (by simp)
   rw [if_pos o3, M.a5u]; try dsimp only
   rw [M.a5w]; try dsimp only
   have hj' : M.a1y (q.L, (q.L.length : Int), 0, g) = some j := hj
   rw [hj', bnd, bnd, he]
   have : FT g q ↔ ∀ x ∈ q.L, FT g x := by rw [fe]; simp [o3]
   simp only [this, Bool.not_not]
  rw [if_neg o3]
  by_cases o4 : q.Op = 4
  ·obtain ⟨j, hj, he⟩ := any q.L [] rfl (by simp)
   rw [if_pos o4, M.a5v]; try dsimp only
   rw [M.a5y]; try dsimp only
   have hj' : M.a1z (q.L, (q.L.length : Int), 0, g) = some j := hj
   rw [hj', bnd, bnd, he]
   have : FT g q ↔ ∃ x ∈ q.L, FT g x := by rw [fe]; simp [o4]
   simp only [this]
  rw [if_neg o4]
  have : FT g q ↔ q.Op = 0 := by rw [fe]; simp [o2, o3, o4]
  simp only [this]
theorem wins_small (s : ByteArray) (hs : s.size ≤ 1000000) : (nrm (wins s)).length ≤ 1073741824 := by
 have := nrm_len (wins s)
 rw [wins_len] at this
 omega
theorem Fits_ok (q : T29) (s : ByteArray) (hq : qn q ≤ 3999) (hs : s.size ≤ 1000000) : M.a51 q s = some (if QD 8 q ∧ Rq q then (decide (FT (nrm (wins s)) q), 0) else (false, 2)) := by
 rw [M.a51, qcheck_ok q hq, bnd]
 by_cases h : QD 8 q ∧ Rq q
 ·rw [if_pos h, if_pos rfl, grams_ok s hs, bnd, fits_ok _ (nrm_rises _) (wins_small s hs) (qn q) q (Nat.le_refl _) (by omega), bnd, if_pos h]
 ·rw [if_neg h, if_neg (by decide), if_neg h]
theorem ss_size (s : ByteArray) (i j : Nat) (h1 : i ≤ j) (h2 : j ≤ s.size) : (ss s (i : Int) (j : Int)).size = j - i := by
 simp only [ss, ByteArray.size_extract, Int.toNat_natCast]
 omega
theorem gi_natL (xs : List (List Int)) (i : Nat) (h : i < xs.length) : gi xs (i : Int) = xs[i] := by simp [gi, h]
theorem gi_zero (x : Int) (xs : List Int) : gi (x :: xs) 0 = x := rfl
theorem sl_tail {α : Type} (x : α) (xs : List α) : sl (x :: xs) 1 (((x :: xs).length : Nat) : Int) = xs := by
 simp only [sl, Int.toNat_natCast, List.take_length]
 rfl
abbrev Rz (xs : List Int) : Prop := xs.Pairwise (· < ·)
theorem rz_cons {x : Int} {xs : List Int} : Rz (x :: xs) ↔ (∀ z ∈ xs, x < z) ∧ Rz xs := List.pairwise_cons
theorem rz_ext {a : List Int} : ∀ {b : List Int}, Rz a → Rz b → (∀ v, v ∈ a ↔ v ∈ b) → a = b := by
 induction a with
 | nil =>
  intro b _ _ h
  cases b with
  | nil => rfl
  | cons y ys => exact absurd ((h y).2 (by simp)) (by simp)
 | cons x xs ih =>
  intro b ha hb h
  cases b with
  | nil => exact absurd ((h x).1 (by simp)) (by simp)
  | cons y ys =>
   rw [rz_cons] at ha hb
   have hxy : x = y := by
    rcases List.mem_cons.1 ((h x).1 (by simp)) with e | e
    ·exact e
    ·rcases List.mem_cons.1 ((h y).2 (by simp)) with e' | e'
     ·exact e'.symm
     ·have h1 := hb.1 x e
      have h2 := ha.1 y e'
      omega
   subst hxy
   congr 1
   refine ih ha.2 hb.2 fun v => ⟨fun hv => ?_, fun hv => ?_⟩
   ·rcases List.mem_cons.1 ((h v).1 (by simp [hv])) with e | e
    ·have := ha.1 v hv; omega
    ·exact e
   ·rcases List.mem_cons.1 ((h v).2 (by simp [hv])) with e | e
    ·have := hb.1 v hv; omega
    ·exact e
def keep (f : Int → Bool) (m v : Int) : List Int := if f m then [v] else []
def mg (f : Int → Bool) : List Int → List Int → List Int
 | [], [] => []
 | x :: xs, [] => keep f 1 x ++ mg f xs []
 | [], y :: ys => keep f 2 y ++ mg f [] ys
 | x :: xs, y :: ys => if x < y then keep f 1 x ++ mg f xs (y :: ys) else if y < x then keep f 2 y ++ mg f (x :: xs) ys else keep f 3 x ++ mg f xs ys
termination_by a b => a.length + b.length
def mk (a b : List Int) (v : Int) : Int := (if v ∈ a then 1 else 0) + (if v ∈ b then 2 else 0)
theorem mem_keep {f : Int → Bool} {m x v : Int} : v ∈ keep f m x ↔ f m = true ∧ v = x := by unfold keep; split <;> simp_all
theorem mem_mg (f : Int → Bool) (a b : List Int) : Rz a → Rz b → ∀ v, v ∈ mg f a b ↔ (v ∈ a ∨ v ∈ b) ∧ f (mk a b v) = true := by
 fun_induction mg f a b with
 | case1 => intro _ _ v; simp
 | case2 x xs ih =>
  intro ha hb v
  rw [rz_cons] at ha
  rw [List.mem_append, mem_keep, ih ha.2 hb v]
  have hx : x ∉ xs := fun h => absurd (ha.1 x h) (by omega)
  by_cases e : v = x
  ·subst e; simp [mk, hx]
  ·simp [mk, e]
 | case3 y ys ih =>
  intro ha hb v
  rw [rz_cons] at hb
  rw [List.mem_append, mem_keep, ih ha hb.2 v]
  have hy : y ∉ ys := fun h => absurd (hb.1 y h) (by omega)
  by_cases e : v = y
  ·subst e; simp [mk, hy]
  ·simp [mk, e]
 | case4 x xs y ys hlt ih =>
  intro ha hb v
  rw [rz_cons] at ha
  rw [List.mem_append, mem_keep, ih ha.2 hb v]
  rw [rz_cons] at hb
  have hx : x ∉ xs := fun h => absurd (ha.1 x h) (by omega)
  have hx2 : x ∉ ys := fun h => by have := hb.1 x h; omega
  by_cases e : v = x
  ·subst e
   have : v ≠ y := by omega
   simp [mk, hx, hx2, this]
  ·simp [mk, e]
 | case5 x xs y ys hlt hgt ih =>
  intro ha hb v
  rw [rz_cons] at hb
  rw [List.mem_append, mem_keep, ih ha hb.2 v]
  rw [rz_cons] at ha
  have hy : y ∉ ys := fun h => absurd (hb.1 y h) (by omega)
  have hy2 : y ∉ xs := fun h => by have := ha.1 y h; omega
  by_cases e : v = y
  ·subst e
   have : v ≠ x := by omega
   simp [mk, hy, hy2, this]
  ·simp [mk, e]
 | case6 x xs y ys hlt hgt ih =>
  intro ha hb v
  rw [rz_cons] at ha hb
  rw [List.mem_append, mem_keep, ih ha.2 hb.2 v]
  have hxy : x = y := by omega
  subst hxy
  have hx : x ∉ xs := fun h => absurd (ha.1 x h) (by omega)
  have hy : x ∉ ys := fun h => absurd (hb.1 x h) (by omega)
  by_cases e : v = x
  ·subst e; simp [mk, hx, hy]
  ·simp [mk, e]
theorem rz_keep {f : Int → Bool} {m x : Int} {l : List Int} (hl : Rz l) (h : ∀ v ∈ l, x < v) : Rz (keep f m x ++ l) := by
 unfold keep
 split
 ·exact List.pairwise_cons.2 ⟨h, hl⟩
 ·exact hl
theorem rz_mg (f : Int → Bool) (a b : List Int) : Rz a → Rz b → Rz (mg f a b) := by
 fun_induction mg f a b with
 | case1 => intro _ _; exact List.Pairwise.nil
 | case2 x xs ih =>
  intro ha hb
  rw [rz_cons] at ha
  exact rz_keep (ih ha.2 hb) fun v hv => by
   have := ((mem_mg f _ _ ha.2 hb v).1 hv).1
   simp at this; exact ha.1 v this
 | case3 y ys ih =>
  intro ha hb
  rw [rz_cons] at hb
  exact rz_keep (ih ha hb.2) fun v hv => by
   have := ((mem_mg f _ _ ha hb.2 v).1 hv).1
   simp at this; exact hb.1 v this
 | case4 x xs y ys hlt ih =>
  intro ha hb
  rw [rz_cons] at ha
  refine rz_keep (ih ha.2 hb) fun v hv => ?_
  have := ((mem_mg f _ _ ha.2 hb v).1 hv).1
  rw [rz_cons] at hb
  rcases this with h | h
  ·exact ha.1 v h
  ·rcases List.mem_cons.1 h with h | h
   ·omega
   ·have := hb.1 v h; omega
 | case5 x xs y ys hlt hgt ih =>
  intro ha hb
  rw [rz_cons] at hb
  refine rz_keep (ih ha hb.2) fun v hv => ?_
  have := ((mem_mg f _ _ ha hb.2 v).1 hv).1
  rw [rz_cons] at ha
  rcases this with h | h
  ·rcases List.mem_cons.1 h with h | h
   ·omega
   ·have := ha.1 v h; omega
  ·exact hb.1 v h
 | case6 x xs y ys hlt hgt ih =>
  intro ha hb
  rw [rz_cons] at ha hb
  refine rz_keep (ih ha.2 hb.2) fun v hv => ?_
  rcases ((mem_mg f _ _ ha.2 hb.2 v).1 hv).1 with h | h
  ·exact ha.1 v h
  ·have := hb.1 v h; omega
theorem len_keep (f : Int → Bool) (m x : Int) : (keep f m x).length ≤ 1 := by unfold keep; split <;> simp
theorem len_mg (f : Int → Bool) (a b : List Int) : (mg f a b).length ≤ a.length + b.length := by
 fun_induction mg f a b with
 | case1 => simp
 | case2 x xs ih => have := len_keep f 1 x; simp at ih ⊢; omega
 | case3 y ys ih => have := len_keep f 2 y; simp at ih ⊢; omega
 | case4 x xs y ys hlt ih => have := len_keep f 1 x; simp at ih ⊢; omega
 | case5 x xs y ys hlt hgt ih => have := len_keep f 2 y; simp at ih ⊢; omega
 | case6 x xs y ys hlt hgt ih => have := len_keep f 3 x; simp at ih ⊢; omega
def fBoth (m : Int) : Bool := decide (m = 3)
def fOne (m : Int) : Bool := !(decide (m = 0))
theorem mem_both {a b : List Int} (ha : Rz a) (hb : Rz b) (v : Int) : v ∈ mg fBoth a b ↔ v ∈ a ∧ v ∈ b := by
 rw [mem_mg _ _ _ ha hb]; unfold mk fBoth; by_cases h1 : v ∈ a <;> by_cases h2 : v ∈ b <;> simp [h1, h2]
theorem mem_one {a b : List Int} (ha : Rz a) (hb : Rz b) (v : Int) : v ∈ mg fOne a b ↔ v ∈ a ∨ v ∈ b := by
 rw [mem_mg _ _ _ ha hb]; unfold mk fOne; by_cases h1 : v ∈ a <;> by_cases h2 : v ∈ b <;> simp [h1, h2]
theorem o01 : ior .i64 0 1 = 1 := by decide +kernel
theorem o02 : ior .i64 0 2 = 2 := by decide +kernel
theorem o12 : ior .i64 1 2 = 3 := by decide +kernel
theorem a12 : iand .i64 1 2 = 0 := by decide +kernel
theorem a22 : iand .i64 2 2 = 2 := by decide +kernel
theorem a32 : iand .i64 3 2 = 2 := by decide +kernel
theorem a11 : iand .i64 1 1 = 1 := by decide +kernel
theorem a21 : iand .i64 2 1 = 0 := by decide +kernel
theorem a31 : iand .i64 3 1 = 1 := by decide +kernel
theorem thoser_one (acc a b : List Int) (v m : Int) (h : acc.length ≤ 1073741824) : M.a4r acc a b v m = some (acc ++ keep fOne m v) := by
 have e : M.a5s m = some (fOne m) := rfl
 simp only [M.a4r, e, Option.bind_eq_bind, Option.bind_some, keep]
 cases fOne m
 ·simp
 ·rw [if_pos rfl, if_pos (by simp; omega), if_pos rfl]
theorem merge_one (n : Nat) : ∀ (a b acc : List Int), a.length + b.length ≤ n → acc.length + n ≤ 1073741824 → M.ab (acc, a, b) = some (acc ++ mg fOne a b, [], []) := by
 have z0 : (([] : List Int).length : Int) = 0 := rfl
 induction n with
 | zero =>
  intro a b acc hn hl
  obtain rfl : a = [] := List.eq_nil_of_length_eq_zero (by omega)
  obtain rfl : b = [] := List.eq_nil_of_length_eq_zero (by omega)
  rw [M.ab]; try dsimp only
  rw [if_neg (by omega), decide_eq_false (by omega), M.a11]; try dsimp only
  rw [if_neg Bool.false_ne_true, mg, List.append_nil]
 | succ n ih =>
  intro a b acc hn hl
  match a, b with
  | [], [] =>
   rw [M.ab]; try dsimp only
   rw [if_neg (by omega), decide_eq_false (by omega), M.a11]; try dsimp only
   rw [if_neg Bool.false_ne_true, mg, List.append_nil]
  | x :: xs, [] =>
   have hk := len_keep fOne 1 x
   have lx : ((x :: xs).length : Int) = (xs.length : Int) + 1 := by simp
   have ex := sl_tail x xs
   simp only [List.length_cons, List.length_nil] at hn
   have go := ih xs [] (acc ++ keep fOne 1 x) (by simp only [List.length_nil]; omega) (by simp only [List.length_append]; omega)
   rw [M.ab]; try dsimp only
   rw [if_pos (by omega)]
   rw [M.a11]; try dsimp only
   rw [if_pos rfl, if_pos (by omega)]
   rw [M.am]; try dsimp only
   rw [if_pos rfl, o01]
   rw [M.a12]; try dsimp only
   rw [if_neg (by omega), if_neg (by omega)]
   rw [M.an]; try dsimp only
   rw [if_neg Bool.false_ne_true]
   rw [M.a13]; try dsimp only
   rw [a12, if_pos rfl]
   rw [M.a14]; try dsimp only
   rw [a11, if_neg (by decide), if_pos (by omega), if_pos (by omega), ex, gi_zero]
   rw [M.a15]; try dsimp only
   rw [thoser_one _ _ _ _ _ (by omega)]
   simp only [Option.bind_eq_bind, Option.bind_some]
   rw [go, mg, List.append_assoc]
  | [], y :: ys =>
   have hk := len_keep fOne 2 y
   have ly : ((y :: ys).length : Int) = (ys.length : Int) + 1 := by simp
   have ey := sl_tail y ys
   simp only [List.length_cons, List.length_nil] at hn
   have go := ih [] ys (acc ++ keep fOne 2 y) (by simp only [List.length_nil]; omega) (by simp only [List.length_append]; omega)
   rw [M.ab]; try dsimp only
   rw [if_neg (by omega), decide_eq_true (by omega)]
   rw [M.a11]; try dsimp only
   rw [if_pos rfl, if_neg (by omega), if_neg (by omega)]
   rw [M.am]; try dsimp only
   rw [if_neg Bool.false_ne_true]
   rw [M.a12]; try dsimp only
   rw [if_pos (by omega)]
   rw [M.an]; try dsimp only
   rw [if_pos rfl, o02]
   rw [M.a13]; try dsimp only
   rw [a22, if_neg (by decide), if_pos (by omega), if_pos (by omega), ey, gi_zero]
   rw [M.a14]; try dsimp only
   rw [a21, if_pos rfl]
   rw [M.a15]; try dsimp only
   rw [thoser_one _ _ _ _ _ (by omega)]
   simp only [Option.bind_eq_bind, Option.bind_some]
   rw [go, mg, List.append_assoc]
  | x :: xs, y :: ys =>
   have lx : ((x :: xs).length : Int) = (xs.length : Int) + 1 := by simp
   have ly : ((y :: ys).length : Int) = (ys.length : Int) + 1 := by simp
   have ex := sl_tail x xs
   have ey := sl_tail y ys
   simp only [List.length_cons] at hn
   rw [M.ab]; try dsimp only
   rw [if_pos (by omega)]
   rw [M.a11]; try dsimp only
   rw [if_pos rfl, if_neg (by omega), if_pos (by omega), if_pos (by omega), if_pos (by omega), gi_zero, gi_zero]
   rcases Int.lt_trichotomy x y with hlt | heq | hgt
   ·have hk := len_keep fOne 1 x
    have go := ih xs (y :: ys) (acc ++ keep fOne 1 x) (by simp only [List.length_cons]; omega) (by simp only [List.length_append]; omega)
    rw [decide_eq_true (show x ≤ y by omega)]
    rw [M.am]; try dsimp only
    rw [if_pos rfl, o01]
    rw [M.a12]; try dsimp only
    rw [if_neg (by omega), if_pos (by omega), if_pos (by omega), if_pos (by omega), gi_zero, gi_zero, decide_eq_false (show ¬ y ≤ x by omega)]
    rw [M.an]; try dsimp only
    rw [if_neg Bool.false_ne_true]
    rw [M.a13]; try dsimp only
    rw [a12, if_pos rfl]
    rw [M.a14]; try dsimp only
    rw [a11, if_neg (by decide), if_pos (by omega), if_pos (by omega), ex, gi_zero]
    rw [M.a15]; try dsimp only
    rw [thoser_one _ _ _ _ _ (by omega)]
    simp only [Option.bind_eq_bind, Option.bind_some]
    rw [go, mg, if_pos hlt, List.append_assoc]
   ·subst heq
    have hk := len_keep fOne 3 x
    have go := ih xs ys (acc ++ keep fOne 3 x) (by omega) (by simp only [List.length_append]; omega)
    rw [decide_eq_true (show x ≤ x by omega)]
    rw [M.am]; try dsimp only
    rw [if_pos rfl, o01]
    rw [M.a12]; try dsimp only
    rw [if_neg (by omega), if_pos (by omega), if_pos (by omega), if_pos (by omega), gi_zero, gi_zero, decide_eq_true (show x ≤ x by omega)]
    rw [M.an]; try dsimp only
    rw [if_pos rfl, o12]
    rw [M.a13]; try dsimp only
    rw [a32, if_neg (by decide), if_pos (by omega), if_pos (by omega), ey]
    rw [M.a14]; try dsimp only
    rw [a31, if_neg (by decide), if_pos (by omega), if_pos (by omega), ex, gi_zero]
    rw [M.a15]; try dsimp only
    rw [thoser_one _ _ _ _ _ (by omega)]
    simp only [Option.bind_eq_bind, Option.bind_some]
    rw [go, mg, if_neg (Int.lt_irrefl x), if_neg (Int.lt_irrefl x), List.append_assoc]
   ·have hk := len_keep fOne 2 y
    have go := ih (x :: xs) ys (acc ++ keep fOne 2 y) (by simp only [List.length_cons]; omega) (by simp only [List.length_append]; omega)
    rw [decide_eq_false (show ¬ x ≤ y by omega)]
    rw [M.am]; try dsimp only
    rw [if_neg Bool.false_ne_true]
    rw [M.a12]; try dsimp only
    rw [if_neg (by omega), if_pos (by omega), if_pos (by omega), if_pos (by omega), gi_zero, gi_zero, decide_eq_true (show y ≤ x by omega)]
    rw [M.an]; try dsimp only
    rw [if_pos rfl, o02]
    rw [M.a13]; try dsimp only
    rw [a22, if_neg (by decide), if_pos (by omega), if_pos (by omega), ey, gi_zero]
    rw [M.a14]; try dsimp only
    rw [a21, if_pos rfl]
    rw [M.a15]; try dsimp only
    rw [thoser_one _ _ _ _ _ (by omega)]
    simp only [Option.bind_eq_bind, Option.bind_some]
    rw [go, mg, if_neg (by omega), if_pos (by omega), List.append_assoc]
theorem those_one (a b : List Int) (h : a.length + b.length ≤ 1073741824) : M.a4s a b = some (mg fOne a b) := by
 simp only [M.a4s, M.a3v, M.a5t, Option.bind_eq_bind, Option.bind_some]
 rw [merge_one (a.length + b.length) a b [] (Nat.le_refl _) (by simp; omega)]
 rfl
theorem thoser_both (acc a b : List Int) (v m : Int) (h : acc.length ≤ 1073741824) : M.a52 acc a b v m = some (acc ++ keep fBoth m v) := by
 have e : M.a60 m = some (fBoth m) := rfl
 simp only [M.a52, e, Option.bind_eq_bind, Option.bind_some, keep]
 cases fBoth m
 ·simp
 ·rw [if_pos rfl, if_pos (by simp; omega), if_pos rfl]
theorem merge_both (n : Nat) : ∀ (a b acc : List Int), a.length + b.length ≤ n → acc.length + n ≤ 1073741824 → M.ac (acc, a, b) = some (acc ++ mg fBoth a b, [], []) := by
 have z0 : (([] : List Int).length : Int) = 0 := rfl
 induction n with
 | zero =>
  intro a b acc hn hl
  obtain rfl : a = [] := List.eq_nil_of_length_eq_zero (by omega)
  obtain rfl : b = [] := List.eq_nil_of_length_eq_zero (by omega)
  rw [M.ac]; try dsimp only
  rw [if_neg (by omega), decide_eq_false (by omega), M.a16]; try dsimp only
  rw [if_neg Bool.false_ne_true, mg, List.append_nil]
 | succ n ih =>
  intro a b acc hn hl
  match a, b with
  | [], [] =>
   rw [M.ac]; try dsimp only
   rw [if_neg (by omega), decide_eq_false (by omega), M.a16]; try dsimp only
   rw [if_neg Bool.false_ne_true, mg, List.append_nil]
  | x :: xs, [] =>
   have hk := len_keep fBoth 1 x
   have lx : ((x :: xs).length : Int) = (xs.length : Int) + 1 := by simp
   have ex := sl_tail x xs
   simp only [List.length_cons, List.length_nil] at hn
   have go := ih xs [] (acc ++ keep fBoth 1 x) (by simp only [List.length_nil]; omega) (by simp only [List.length_append]; omega)
   rw [M.ac]; try dsimp only
   rw [if_pos (by omega)]
   rw [M.a16]; try dsimp only
   rw [if_pos rfl, if_pos (by omega)]
   rw [M.ao]; try dsimp only
   rw [if_pos rfl, o01]
   rw [M.a17]; try dsimp only
   rw [if_neg (by omega), if_neg (by omega)]
   rw [M.ap]; try dsimp only
   rw [if_neg Bool.false_ne_true]
   rw [M.a18]; try dsimp only
   rw [a12, if_pos rfl]
   rw [M.a19]; try dsimp only
   rw [a11, if_neg (by decide), if_pos (by omega), if_pos (by omega), ex, gi_zero]
   rw [M.a1a]; try dsimp only
   rw [thoser_both _ _ _ _ _ (by omega)]
   simp only [Option.bind_eq_bind, Option.bind_some]
   rw [go, mg, List.append_assoc]
  | [], y :: ys =>
   have hk := len_keep fBoth 2 y
   have ly : ((y :: ys).length : Int) = (ys.length : Int) + 1 := by simp
   have ey := sl_tail y ys
   simp only [List.length_cons, List.length_nil] at hn
   have go := ih [] ys (acc ++ keep fBoth 2 y) (by simp only [List.length_nil]; omega) (by simp only [List.length_append]; omega)
   rw [M.ac]; try dsimp only
   rw [if_neg (by omega), decide_eq_true (by omega)]
   rw [M.a16]; try dsimp only
   rw [if_pos rfl, if_neg (by omega), if_neg (by omega)]
   rw [M.ao]; try dsimp only
   rw [if_neg Bool.false_ne_true]
   rw [M.a17]; try dsimp only
   rw [if_pos (by omega)]
   rw [M.ap]; try dsimp only
   rw [if_pos rfl, o02]
   rw [M.a18]; try dsimp only
   rw [a22, if_neg (by decide), if_pos (by omega), if_pos (by omega), ey, gi_zero]
   rw [M.a19]; try dsimp only
   rw [a21, if_pos rfl]
   rw [M.a1a]; try dsimp only
   rw [thoser_both _ _ _ _ _ (by omega)]
   simp only [Option.bind_eq_bind, Option.bind_some]
   rw [go, mg, List.append_assoc]
  | x :: xs, y :: ys =>
   have lx : ((x :: xs).length : Int) = (xs.length : Int) + 1 := by simp
   have ly : ((y :: ys).length : Int) = (ys.length : Int) + 1 := by simp
   have ex := sl_tail x xs
   have ey := sl_tail y ys
   simp only [List.length_cons] at hn
   rw [M.ac]; try dsimp only
   rw [if_pos (by omega)]
   rw [M.a16]; try dsimp only
   rw [if_pos rfl, if_neg (by omega), if_pos (by omega), if_pos (by omega), if_pos (by omega), gi_zero, gi_zero]
   rcases Int.lt_trichotomy x y with hlt | heq | hgt
   ·have hk := len_keep fBoth 1 x
    have go := ih xs (y :: ys) (acc ++ keep fBoth 1 x) (by simp only [List.length_cons]; omega) (by simp only [List.length_append]; omega)
    rw [decide_eq_true (show x ≤ y by omega)]
    rw [M.ao]; try dsimp only
    rw [if_pos rfl, o01]
    rw [M.a17]; try dsimp only
    rw [if_neg (by omega), if_pos (by omega), if_pos (by omega), if_pos (by omega), gi_zero, gi_zero, decide_eq_false (show ¬ y ≤ x by omega)]
    rw [M.ap]; try dsimp only
    rw [if_neg Bool.false_ne_true]
    rw [M.a18]; try dsimp only
    rw [a12, if_pos rfl]
    rw [M.a19]; try dsimp only
    rw [a11, if_neg (by decide), if_pos (by omega), if_pos (by omega), ex, gi_zero]
    rw [M.a1a]; try dsimp only
    rw [thoser_both _ _ _ _ _ (by omega)]
    simp only [Option.bind_eq_bind, Option.bind_some]
    rw [go, mg, if_pos hlt, List.append_assoc]
   ·subst heq
    have hk := len_keep fBoth 3 x
    have go := ih xs ys (acc ++ keep fBoth 3 x) (by omega) (by simp only [List.length_append]; omega)
    rw [decide_eq_true (show x ≤ x by omega)]
    rw [M.ao]; try dsimp only
    rw [if_pos rfl, o01]
    rw [M.a17]; try dsimp only
    rw [if_neg (by omega), if_pos (by omega), if_pos (by omega), if_pos (by omega), gi_zero, gi_zero, decide_eq_true (show x ≤ x by omega)]
    rw [M.ap]; try dsimp only
    rw [if_pos rfl, o12]
    rw [M.a18]; try dsimp only
    rw [a32, if_neg (by decide), if_pos (by omega), if_pos (by omega), ey]
    rw [M.a19]; try dsimp only
    rw [a31, if_neg (by decide), if_pos (by omega), if_pos (by omega), ex, gi_zero]
    rw [M.a1a]; try dsimp only
    rw [thoser_both _ _ _ _ _ (by omega)]
    simp only [Option.bind_eq_bind, Option.bind_some]
    rw [go, mg, if_neg (Int.lt_irrefl x), if_neg (Int.lt_irrefl x), List.append_assoc]
   ·have hk := len_keep fBoth 2 y
    have go := ih (x :: xs) ys (acc ++ keep fBoth 2 y) (by simp only [List.length_cons]; omega) (by simp only [List.length_append]; omega)
    rw [decide_eq_false (show ¬ x ≤ y by omega)]
    rw [M.ao]; try dsimp only
    rw [if_neg Bool.false_ne_true]
    rw [M.a17]; try dsimp only
    rw [if_neg (by omega), if_pos (by omega), if_pos (by omega), if_pos (by omega), gi_zero, gi_zero, decide_eq_true (show y ≤ x by omega)]
    rw [M.ap]; try dsimp only
    rw [if_pos rfl, o02]
    rw [M.a18]; try dsimp only
    rw [a22, if_neg (by decide), if_pos (by omega), if_pos (by omega), ey, gi_zero]
    rw [M.a19]; try dsimp only
    rw [a21, if_pos rfl]
    rw [M.a1a]; try dsimp only
    rw [thoser_both _ _ _ _ _ (by omega)]
    simp only [Option.bind_eq_bind, Option.bind_some]
    rw [go, mg, if_neg (by omega), if_pos (by omega), List.append_assoc]
theorem those_both (a b : List Int) (h : a.length + b.length ≤ 1073741824) : M.a53 a b = some (mg fBoth a b) := by
 simp only [M.a53, M.a3v, M.a61, Option.bind_eq_bind, Option.bind_some]
 rw [merge_both (a.length + b.length) a b [] (Nat.le_refl _) (by simp; omega)]
 rfl
theorem rises_l0 (xs : List Int) (hr : Rz xs) (hl : xs.length ≤ 1073741824) (k : Nat) : ∀ i : Nat, 1 ≤ i → xs.length ≤ i + k → M.al (xs, (i : Int)) = some true := by
 induction k with
 | zero =>
  intro i h1 hk
  rw [M.al]; try dsimp only
  rw [if_neg (by omega)]
 | succ k ih =>
  intro i h1 hk
  rw [M.al]; try dsimp only
  by_cases hi : i < xs.length
  ·rw [if_pos (by omega), wr_i64 (by omega) (by omega), if_pos (by omega), if_pos (by omega), if_pos (by omega)]
   have e1 : gi xs ((i : Int) - 1) = xs[i - 1] := by rw [show (i : Int) - 1 = ((i - 1 : Nat) : Int) by omega]; exact gi_nat xs _ (by omega)
   rw [e1, gi_nat xs i hi]
   have hlt := List.pairwise_iff_getElem.1 hr (i - 1) i (by omega) hi (by omega)
   rw [if_neg (by omega), wr_i64 (by omega) (by omega)]
   exact ih (i + 1) (by omega) (by omega)
  ·rw [if_neg (by omega)]
theorem check (xs : List Int) (hr : Rz xs) (hl : xs.length ≤ 1073741824) : M.a10 xs = some 0 := by
 rw [M.a10, M.a4q, show (1 : Int) = ((1 : Nat) : Int) from rfl, rises_l0 xs hr hl xs.length 1 (by omega) (by omega)]
 rfl
theorem clone (xs : List Int) (hl : xs.length ≤ 1073741824) : M.aa xs = some xs := by rw [M.aa, if_pos (by omega)]
def tot (l : List (List Int)) : Nat := (l.map List.length).sum
theorem le_tot {x : List Int} {l : List (List Int)} (h : x ∈ l) : x.length ≤ tot l := by
 induction l with
 | nil => cases h
 | cons y l ih =>
  simp only [tot, List.map_cons, List.sum_cons] at ih ⊢
  rcases List.mem_cons.1 h with rfl | h
  ·omega
  ·have := ih h; omega
theorem fold_one_l1 (l : List (List Int)) (hl : l.length ≤ 4096) (k : Nat) : ∀ (i : Nat) (acc : List Int), i + k = l.length → acc.length + tot (l.drop i) ≤ 1073741824 → M.a31 (acc, l, (l.length : Int), (i : Int)) = some ((l.drop i).foldl (mg fOne) acc, 0) := by
 induction k with
 | zero =>
  intro i acc hi hb
  rw [M.a31]; try dsimp only
  rw [if_neg (by omega), List.drop_eq_nil_of_le (by omega)]
  rfl
 | succ k ih =>
  intro i acc hi hb
  have hlt : i < l.length := by omega
  rw [M.a31]; try dsimp only
  rw [if_pos (by omega), if_pos (by omega), if_pos (by omega), gi_natL l i hlt]
  rw [List.drop_eq_getElem_cons hlt] at hb ⊢
  simp only [tot, List.map_cons, List.sum_cons] at hb
  have hm := len_mg fOne acc l[i]
  rw [those_one acc l[i] (by omega)]
  simp only [Option.bind_eq_bind, Option.bind_some]
  rw [wr_i64 (by omega) (by omega), show (i : Int) + 1 = ((i + 1 : Nat) : Int) by omega, ih (i + 1) _ (by omega) (by unfold tot; omega)]
  rfl
theorem fold_one_l0 (l : List (List Int)) (hd : List Int) (tl : List (List Int)) (he : l = hd :: tl) (hl : l.length ≤ 4096) (hr : ∀ x ∈ l, Rz x) (hb : tot l ≤ 1073741824) (k : Nat) : ∀ i : Nat, i + k = l.length → M.a32 (l, l, (l.length : Int), (i : Int)) = some (tl.foldl (mg fOne) hd, 0) := by
 induction k with
 | zero =>
  intro i hi
  have h1 : ((l.length : Nat) : Int) = (tl.length : Int) + 1 := by rw [he]; simp
  rw [M.a32]; try dsimp only
  rw [if_neg (by omega), if_neg (by omega), if_pos (by omega)]
  have e0 : gi l 0 = hd := by rw [he]; rfl
  have e1 : sl l 1 (l.length : Int) = tl := by rw [he]; exact sl_tail hd tl
  have hhd := le_tot (show hd ∈ l by rw [he]; simp)
  rw [e0, clone hd (by omega)]
  simp only [Option.bind_eq_bind, Option.bind_some]
  rw [if_pos (by omega), e1]
  have := fold_one_l1 tl (by omega) tl.length 0 hd (by omega) (by rw [he] at hb; simpa [tot] using hb)
  rw [List.drop_zero] at this
  exact this
 | succ k ih =>
  intro i hi
  have hlt : i < l.length := by omega
  rw [M.a32]; try dsimp only
  rw [if_pos (by omega), if_pos (by omega), if_pos (by omega), gi_natL l i hlt, check l[i] (hr _ (List.getElem_mem hlt)) (by have := le_tot (List.getElem_mem hlt); omega)]
  simp only [Option.bind_eq_bind, Option.bind_some, if_true]
  rw [wr_i64 (by omega) (by omega), show (i : Int) + 1 = ((i + 1 : Nat) : Int) by omega]
  exact ih (i + 1) (by omega)
theorem fold_one (hd : List Int) (tl : List (List Int)) (hl : tl.length ≤ 4095) (hr : ∀ x ∈ hd :: tl, Rz x) (hb : tot (hd :: tl) ≤ 1073741824) : M.a4t (hd :: tl) = some (tl.foldl (mg fOne) hd, 0) := by
 have h1 : (((hd :: tl).length : Nat) : Int) = (tl.length : Int) + 1 := by simp
 rw [M.a4t, if_neg (by omega)]
 exact fold_one_l0 (hd :: tl) hd tl rfl (by simp; omega) hr hb (hd :: tl).length 0 (by omega)
theorem fold_both_l1 (l : List (List Int)) (hl : l.length ≤ 4096) (k : Nat) : ∀ (i : Nat) (acc : List Int), i + k = l.length → acc.length + tot (l.drop i) ≤ 1073741824 → M.a33 (acc, l, (l.length : Int), (i : Int)) = some ((l.drop i).foldl (mg fBoth) acc, 0) := by
 induction k with
 | zero =>
  intro i acc hi hb
  rw [M.a33]; try dsimp only
  rw [if_neg (by omega), List.drop_eq_nil_of_le (by omega)]
  rfl
 | succ k ih =>
  intro i acc hi hb
  have hlt : i < l.length := by omega
  rw [M.a33]; try dsimp only
  rw [if_pos (by omega), if_pos (by omega), if_pos (by omega), gi_natL l i hlt]
  rw [List.drop_eq_getElem_cons hlt] at hb ⊢
  simp only [tot, List.map_cons, List.sum_cons] at hb
  have hm := len_mg fBoth acc l[i]
  rw [those_both acc l[i] (by omega)]
  simp only [Option.bind_eq_bind, Option.bind_some]
  rw [wr_i64 (by omega) (by omega), show (i : Int) + 1 = ((i + 1 : Nat) : Int) by omega, ih (i + 1) _ (by omega) (by unfold tot; omega)]
  rfl
theorem fold_both_l0 (l : List (List Int)) (hd : List Int) (tl : List (List Int)) (he : l = hd :: tl) (hl : l.length ≤ 4096) (hr : ∀ x ∈ l, Rz x) (hb : tot l ≤ 1073741824) (k : Nat) : ∀ i : Nat, i + k = l.length → M.a34 (l, l, (l.length : Int), (i : Int)) = some (tl.foldl (mg fBoth) hd, 0) := by
 induction k with
 | zero =>
  intro i hi
  have h1 : ((l.length : Nat) : Int) = (tl.length : Int) + 1 := by rw [he]; simp
  rw [M.a34]; try dsimp only
  rw [if_neg (by omega), if_neg (by omega), if_pos (by omega)]
  have e0 : gi l 0 = hd := by rw [he]; rfl
  have e1 : sl l 1 (l.length : Int) = tl := by rw [he]; exact sl_tail hd tl
  have hhd := le_tot (show hd ∈ l by rw [he]; simp)
  rw [e0, clone hd (by omega)]
  simp only [Option.bind_eq_bind, Option.bind_some]
  rw [if_pos (by omega), e1]
  have := fold_both_l1 tl (by omega) tl.length 0 hd (by omega) (by rw [he] at hb; simpa [tot] using hb)
  rw [List.drop_zero] at this
  exact this
 | succ k ih =>
  intro i hi
  have hlt : i < l.length := by omega
  rw [M.a34]; try dsimp only
  rw [if_pos (by omega), if_pos (by omega), if_pos (by omega), gi_natL l i hlt, check l[i] (hr _ (List.getElem_mem hlt)) (by have := le_tot (List.getElem_mem hlt); omega)]
  simp only [Option.bind_eq_bind, Option.bind_some, if_true]
  rw [wr_i64 (by omega) (by omega), show (i : Int) + 1 = ((i + 1 : Nat) : Int) by omega]
  exact ih (i + 1) (by omega)
theorem fold_both (hd : List Int) (tl : List (List Int)) (hl : tl.length ≤ 4095) (hr : ∀ x ∈ hd :: tl, Rz x) (hb : tot (hd :: tl) ≤ 1073741824) : M.a54 (hd :: tl) = some (tl.foldl (mg fBoth) hd, 0) := by
 have h1 : (((hd :: tl).length : Nat) : Int) = (tl.length : Int) + 1 := by simp
 rw [M.a54, if_neg (by omega)]
 exact fold_both_l0 (hd :: tl) hd tl rfl (by simp; omega) hr hb (hd :: tl).length 0 (by omega)
theorem and_eq (hd : List Int) (tl : List (List Int)) (hl : tl.length ≤ 4095) (hr : ∀ x ∈ hd :: tl, Rz x) (hb : tot (hd :: tl) ≤ 1073741824) : M.a55 (hd :: tl) = some (tl.foldl (mg fBoth) hd, 0) := by rw [M.a55, fold_both hd tl hl hr hb]; rfl
theorem or_eq (hd : List Int) (tl : List (List Int)) (hl : tl.length ≤ 4095) (hr : ∀ x ∈ hd :: tl, Rz x) (hb : tot (hd :: tl) ≤ 1073741824) : M.a3w (hd :: tl) = some (tl.foldl (mg fOne) hd, 0) := by rw [M.a3w, fold_one hd tl hl hr hb]; rfl
theorem rz_cons2 {x y : Int} {l : List Int} : Rz (x :: y :: l) ↔ x < y ∧ Rz (y :: l) := by
 constructor
 ·intro h
  rw [rz_cons] at h
  exact ⟨h.1 y (by simp), h.2⟩
 ·rintro ⟨h1, h2⟩
  rw [rz_cons]
  refine ⟨fun z hz => ?_, h2⟩
  rcases List.mem_cons.1 hz with rfl | hz
  ·exact h1
  ·have := (rz_cons.1 h2).1 z hz; omega
theorem rz_one (l : List Int) (h : l.length ≤ 1) : Rz l := by
 match l, h with
 | [], _ => exact List.Pairwise.nil
 | [x], _ => exact List.pairwise_singleton _ _
theorem rz_drop_step (xs : List Int) (i : Nat) (h1 : 1 ≤ i) (hi : i < xs.length) : Rz (xs.drop (i - 1)) ↔ xs[i - 1] < xs[i] ∧ Rz (xs.drop i) := by
 have e1 : xs.drop (i - 1) = xs[i - 1] :: xs.drop i := by
  rw [List.drop_eq_getElem_cons (by omega)]
  congr 2
  omega
 have e2 : xs.drop i = xs[i] :: xs.drop (i + 1) := List.drop_eq_getElem_cons hi
 rw [e1, e2, rz_cons2]
theorem rises_any (xs : List Int) (hl : xs.length ≤ 1073741824) (k : Nat) : ∀ i : Nat, 1 ≤ i → xs.length ≤ i + k → M.al (xs, (i : Int)) = some (decide (Rz (xs.drop (i - 1)))) := by
 induction k with
 | zero =>
  intro i h1 hk
  rw [M.al]; try dsimp only
  rw [if_neg (by omega), decide_eq_true (rz_one _ (by simp; omega))]
 | succ k ih =>
  intro i h1 hk
  rw [M.al]; try dsimp only
  by_cases hi : i < xs.length
  ·rw [if_pos (by omega), wr_i64 (by omega) (by omega), if_pos (by omega), if_pos (by omega), if_pos (by omega)]
   have e1 : gi xs ((i : Int) - 1) = xs[i - 1] := by rw [show (i : Int) - 1 = ((i - 1 : Nat) : Int) by omega]; exact gi_nat xs _ (by omega)
   rw [e1, gi_nat xs i hi]
   have hst := rz_drop_step xs i h1 hi
   split
   ·rw [decide_eq_false (by rw [hst]; intro h; omega)]
   ·rw [wr_i64 (by omega) (by omega), show (i : Int) + 1 = ((i + 1 : Nat) : Int) by omega, ih (i + 1) (by omega) (by omega)]
    congr 1
    rw [decide_eq_decide, hst]
    simp only [Nat.add_sub_cancel]
    constructor
    ·intro h; exact ⟨by omega, h⟩
    ·exact fun h => h.2
  ·rw [if_neg (by omega), decide_eq_true (rz_one _ (by simp; omega))]
def chk (xs : List Int) : Int := if Rz xs then 0 else 2
theorem check_any (xs : List Int) (hl : xs.length ≤ 1073741824) : M.a10 xs = some (chk xs) := by
 rw [M.a10, M.a4q, show (1 : Int) = ((1 : Nat) : Int) from rfl, rises_any xs hl xs.length 1 (by omega) (by omega)]
 simp only [Nat.sub_self, List.drop_zero, Option.bind_eq_bind, Option.bind_some, decide_eq_true_eq]
 unfold chk
 split <;> rfl
end Go.Proofs.YtdccklkdakfnaaaGreat
/-
 The numbers that fit a query, by lists of numbers. Pure.
-/
set_option linter.unusedVariables false
set_option linter.unusedSimpArgs false
namespace Go.Proofs.YtdccklkdakfnaaaGreat
open Go.Gx
open Classical
theorem rz_filter {a : List Int} (h : Rz a) (p : Int → Bool) : Rz (a.filter p) := h.sublist List.filter_sublist
theorem eval_gen {m : List (ByteArray × List Int)} {L : ByteArray → List Int} (hl : ∀ t, M.a3z 0 t [m] = some (L t)) (hL : ∀ t, Rz (L t) ∧ (L t).length ≤ 1000) {D : Int → Prop} {G : Int → List ByteArray} (hG : ∀ v t, D v → (t ∈ G v ↔ v ∈ L t)) (n : Nat) :
  ∀ (q : T29) (a : List Int), qn q ≤ n → qn q ≤ 1000000 → Rq q → Rz a → a.length ≤ 1000 → (∀ v ∈ a, D v) →
  M.a1b (q, 0, a, [m]) = some (a.filter fun v => decide (FT (G v) q)) := by
 induction n with
 | zero => intro q a hq; have := qn_pos q; omega
 | succ n ih =>
  intro q a hn hb hr ha hal hD
  have hq := qn_eq q
  have hll := qns_len q.L
  have hrq := (Rq_eq q).1 hr
  have fe := fun v => FT_eq (G v) q
  have hcl : ∀ b : List Int, b.length ≤ 1000 → M.aa b = some b := fun b hb => clone b (by omega)
  have ch : (∀ x ∈ q.L, Rq x) → ∀ x ∈ q.L, ∀ b, Rz b → b.length ≤ 1000 → (∀ v ∈ b, D v) → M.a1b (x, 0, b, [m]) = some (b.filter fun v => decide (FT (G v) x)) := fun hc x hx b hb1 hb2 hb3 => by
   have := qn_mem hx
   exact ih x b (by omega) (by omega) (hc x hx) hb1 hb2 hb3
  rw [M.a1b]; try dsimp only
  rcases hrq with ⟨h0 | h1, _, _⟩ | ⟨h2, _, _⟩ | ⟨h34, _, hc⟩
  ·rw [if_pos h0, hcl a hal, bnd]
   congr 1
   exact (List.filter_eq_self.2 fun v _ => decide_eq_true ((fe v).2 (.inr (.inr (.inr h0))))).symm
  ·rw [if_neg (by omega), if_neg (by omega), if_neg (by omega), if_neg (by omega)]
   congr 1
   exact (List.filter_eq_nil_iff.2 fun v _ => by rw [decide_eq_true_eq, fe]; omega).symm
  ·have hr2 := hL q.Text
   rw [if_neg (by omega), if_pos h2, hl q.Text, bnd, and_eq a [L q.Text] (by simp) (fun x hx => by
    rcases List.mem_cons.1 hx with rfl | hx
    ·exact ha
    ·rw [List.mem_singleton.1 hx]; exact hr2.1) (by simp [tot]; omega), bnd]
   congr 1
   refine rz_ext (rz_mg _ _ _ ha hr2.1) (rz_filter ha _) fun v => ?_
   show v ∈ mg fBoth a (L q.Text) ↔ _
   rw [mem_both ha hr2.1, List.mem_filter, decide_eq_true_eq, fe v]
   refine and_congr_right fun hv => ?_
   rw [← hG v q.Text (hD v hv)]
   simp [h2]
  ·have hch := ch hc
   rcases h34 with h3 | h4
   ·have loop : ∀ (R pre : List T29), q.L = pre ++ R → M.a35 (a.filter (fun v => decide (∀ x ∈ pre, FT (G v) x)), q.L, (q.L.length : Int), (pre.length : Int), 0, [m]) = some (a.filter fun v => decide (∀ x ∈ q.L, FT (G v) x)) := by
     intro R
     induction R with
     | nil =>
      intro pre e
      rw [List.append_nil] at e
      rw [M.a35]; try dsimp only
      rw [if_neg (by rw [e]; omega), e]
     | cons x R ihR =>
      intro pre e
      have hlen : q.L.length = pre.length + (R.length + 1) := by rw [e]; simp
      have hx : x ∈ q.L := by rw [e]; simp
      have hfl : (a.filter (fun v => decide (∀ x ∈ pre, FT (G v) x))).length ≤ a.length := List.length_filter_le _ _
      rw [M.a35]; try dsimp only
      rw [if_pos (by omega), if_pos (by omega), if_pos (by omega), show gi q.L (pre.length : Int) = x by rw [e]; exact gi_mid pre x R, hch x hx _ (rz_filter ha _) (by omega) (fun v hv => hD v ((List.mem_filter.1 hv).1)), bnd, wr_i64 (by omega) (by omega), show (pre.length : Int) + 1 = (((pre ++ [x]).length : Nat) : Int) by simp]
      have e2 : (a.filter (fun v => decide (∀ x ∈ pre, FT (G v) x))).filter (fun v => decide (FT (G v) x)) = a.filter (fun v => decide (∀ z ∈ pre ++ [x], FT (G v) z)) := by
       rw [List.filter_filter]
       refine List.filter_congr fun v _ => ?_
       rw [Bool.eq_iff_iff]
       simp only [Bool.and_eq_true, decide_eq_true_eq, List.mem_append, List.mem_singleton]
       exact ⟨fun ⟨p1, p2⟩ z hz => hz.elim (p2 z) (fun e => e ▸ p1), fun p => ⟨p x (.inr rfl), fun z hz => p z (.inl hz)⟩⟩
      rw [e2]
      exact ihR (pre ++ [x]) (by rw [e]; simp)
    have h0 := loop q.L [] rfl
    have e0 : a.filter (fun v => decide (∀ x ∈ ([] : List T29), FT (G v) x)) = a := List.filter_eq_self.2 fun v _ => by simp
    rw [e0] at h0
    rw [if_neg (by omega), if_neg (by omega), if_pos h3, hcl a hal, bnd]
    refine Eq.trans h0 ?_
    congr 1
    exact List.filter_congr fun v _ => by rw [decide_eq_decide, fe v]; simp [h3]
   ·have loop : ∀ (R pre : List T29), q.L = pre ++ R → M.a20 (a, a.filter (fun v => decide (∃ x ∈ pre, FT (G v) x)), q.L, (q.L.length : Int), (pre.length : Int), 0, [m]) = some (a.filter fun v => decide (∃ x ∈ q.L, FT (G v) x)) := by
     intro R
     induction R with
     | nil =>
      intro pre e
      rw [List.append_nil] at e
      rw [M.a20]; try dsimp only
      rw [if_neg (by rw [e]; omega), e]
     | cons x R ihR =>
      intro pre e
      have hlen : q.L.length = pre.length + (R.length + 1) := by rw [e]; simp
      have hx : x ∈ q.L := by rw [e]; simp
      have hf1 : (a.filter (fun v => decide (∃ x ∈ pre, FT (G v) x))).length ≤ a.length := List.length_filter_le _ _
      have hf2 : (a.filter (fun v => decide (FT (G v) x))).length ≤ a.length := List.length_filter_le _ _
      have r1 := rz_filter ha (fun v => decide (∃ x ∈ pre, FT (G v) x))
      have r2 := rz_filter ha (fun v => decide (FT (G v) x))
      rw [M.a20]; try dsimp only
      rw [if_pos (by omega), if_pos (by omega), if_pos (by omega), show gi q.L (pre.length : Int) = x by rw [e]; exact gi_mid pre x R, hch x hx _ ha hal hD, bnd, or_eq _ [_] (by simp) (fun z hz => by
       rcases List.mem_cons.1 hz with rfl | hz
       ·exact r1
       ·rw [List.mem_singleton.1 hz]; exact r2) (by simp [tot]; omega), bnd, wr_i64 (by omega) (by omega), show (pre.length : Int) + 1 = (((pre ++ [x]).length : Nat) : Int) by simp]
      have e2 : mg fOne (a.filter (fun v => decide (∃ x ∈ pre, FT (G v) x))) (a.filter (fun v => decide (FT (G v) x))) = a.filter (fun v => decide (∃ z ∈ pre ++ [x], FT (G v) z)) := by
       refine rz_ext (rz_mg _ _ _ r1 r2) (rz_filter ha _) fun v => ?_
       rw [mem_one r1 r2, List.mem_filter, List.mem_filter, List.mem_filter]
       simp only [decide_eq_true_eq, List.mem_append, List.mem_singleton]
       constructor
       ·rintro (⟨hv, z, hz, hf⟩ | ⟨hv, hf⟩)
        ·exact ⟨hv, z, .inl hz, hf⟩
        ·exact ⟨hv, x, .inr rfl, hf⟩
       ·rintro ⟨hv, z, hz | rfl, hf⟩
        ·exact .inl ⟨hv, z, hz, hf⟩
        ·exact .inr ⟨hv, hf⟩
      show M.a20 (a, mg fOne _ _, _) = _
      rw [e2]
      exact ihR (pre ++ [x]) (by rw [e]; simp)
    have h0 := loop q.L [] rfl
    have e0 : a.filter (fun v => decide (∃ x ∈ ([] : List T29), FT (G v) x)) = [] := List.filter_eq_nil_iff.2 fun v _ => by simp
    rw [e0] at h0
    rw [if_neg (by omega), if_neg (by omega), if_neg (by omega), if_pos h4]
    refine Eq.trans h0 ?_
    congr 1
    exact List.filter_congr fun v _ => by rw [decide_eq_decide, fe v]; simp [h4]
end Go.Proofs.YtdccklkdakfnaaaGreat
/-
 The law GramLists but for its told examples. Pure.
-/
set_option linter.unusedVariables false
set_option linter.unusedSimpArgs false
namespace Go.Proofs.YtdccklkdakfnaaaGreat
open Go.Gx
open Classical
abbrev Mp := List (ByteArray × List Int)
def Lm (m : Mp) (t : ByteArray) : List Int := (mget m t).getD []
theorem list_m (m : Mp) (t : ByteArray) (h : (Lm m t).length ≤ 1000) : M.a3z 0 t [m] = some (Lm m t) := by
 rw [M.a3z, M.a1v, bnd]
 show (M.aa (Lm m t) >>= fun y11 => some y11) = _
 rw [clone _ (by omega), bnd]
theorem one_end {L : List Int} {n : Int} (hr : Rz L) (hn : ∀ v ∈ L, v < n) : Rz (L ++ [n]) ∧ mg fOne L [n] = L ++ [n] := by
 have r1 : Rz (L ++ [n]) := List.pairwise_append.2 ⟨hr, List.pairwise_singleton _ _, fun a ha b hb => by rw [List.mem_singleton.1 hb]; exact hn a ha⟩
 have r2 : Rz [n] := List.pairwise_singleton _ _
 refine ⟨r1, rz_ext (rz_mg _ _ _ hr r2) r1 fun v => ?_⟩
 rw [mem_one hr r2, List.mem_append]
theorem put_m (m : Mp) (k : ByteArray) (n : Int) (hr : Rz (Lm m k)) (hn : ∀ v ∈ Lm m k, v < n) (hl : (Lm m k).length ≤ 1000) : M.a4w 0 k n [m] = some (0, [mset m k (Lm m k ++ [n])]) := by
 obtain ⟨_, e⟩ := one_end hr hn
 rw [M.a4w, M.a1v, bnd]
 show (M.a4u (Lm m k) n >>= fun y11 => _) = _
 rw [M.a4u, or_eq (Lm m k) [[n]] (by simp) (fun x hx => by
  rcases List.mem_cons.1 hx with rfl | hx
  ·exact hr
  ·rw [List.mem_singleton.1 hx]; exact List.pairwise_singleton _ _) (by simp [tot]; omega), bnd, bnd]
 show (M.a4v 0 k (mg fOne (Lm m k) [n]) [m] >>= fun y15 => _) = _
 rw [e, M.a4v, if_neg (by simp; omega), bnd, bnd]; rfl
theorem Lm_set (m : Mp) (k t : ByteArray) (X : List Int) : Lm (mset m k X) t = if t = k then X else Lm m t := by
 unfold Lm
 rw [mget_mset]
 split <;> rfl
def Sx (x1 : List ByteArray) (j : Nat) : ByteArray := ss (gi x1 (j : Int)) 0 (imn ((gi x1 (j : Int)).size : Int) 40)
def Gr (x1 : List ByteArray) (v : Int) : List ByteArray := nrm (wins (Sx x1 ((v - 1) / 3).toNat))
def nums (i : Nat) : List Int := (List.range i).map fun j : Nat => 3 * (j : Int) + 1
theorem nums_succ (i : Nat) : nums (i + 1) = nums i ++ [3 * (i : Int) + 1] := by simp [nums, List.range_succ]
theorem nums_len (i : Nat) : (nums i).length = i := by simp [nums]
theorem nums_lt {i : Nat} {v : Int} (h : v ∈ nums i) : v < 3 * (i : Int) + 1 := by
 obtain ⟨j, hj, rfl⟩ := List.mem_map.1 h
 have := List.mem_range.1 hj
 omega
theorem nums_rz : ∀ i : Nat, Rz (nums i)
 | 0 => List.Pairwise.nil
 | i + 1 => by
  rw [nums_succ]
  exact List.pairwise_append.2 ⟨nums_rz i, List.pairwise_singleton _ _, fun a ha b hb => by rw [List.mem_singleton.1 hb]; exact nums_lt ha⟩
theorem Gr_at (x1 : List ByteArray) (i : Nat) : Gr x1 (3 * (i : Int) + 1) = nrm (wins (Sx x1 i)) := by
 unfold Gr
 have : ((3 * (i : Int) + 1 - 1) / 3).toNat = i := by omega
 rw [this]
theorem Sx_size (x1 : List ByteArray) (j : Nat) : (Sx x1 j).size ≤ 40 := by
 obtain ⟨k, hk, k1, k2⟩ : ∃ k : Nat, imn ((gi x1 (j : Int)).size : Int) 40 = (k : Int) ∧ k ≤ 40 ∧ k ≤ (gi x1 (j : Int)).size := by
  refine ⟨min (gi x1 (j : Int)).size 40, ?_, by omega, by omega⟩
  simp only [imn]
  split <;> omega
 unfold Sx
 rw [hk]
 have := ss_size (gi x1 (j : Int)) 0 k (Nat.zero_le _) k2
 rw [show ((0 : Nat) : Int) = 0 from rfl] at this
 omega
theorem rz_nodup {l : List ByteArray} (h : RzS l) : l.Nodup := by
 unfold List.Nodup
 exact h.imp fun {a b} hab e => by subst e; exact sltI a hab
def Lx (x1 : List ByteArray) (i : Nat) (t : ByteArray) : List Int := (nums i).filter fun v => decide (t ∈ Gr x1 v)
theorem Lx_rz (x1 : List ByteArray) (i : Nat) (t : ByteArray) : Rz (Lx x1 i t) ∧ (Lx x1 i t).length ≤ i ∧ ∀ v ∈ Lx x1 i t, v < 3 * (i : Int) + 1 := by
 refine ⟨rz_filter (nums_rz i) _, ?_, fun v hv => nums_lt ((List.mem_filter.1 hv).1)⟩
 have := List.length_filter_le (fun v => decide (t ∈ Gr x1 v)) (nums i)
 rw [nums_len] at this
 exact this
theorem Lx_succ (x1 : List ByteArray) (i : Nat) (t : ByteArray) : Lx x1 (i + 1) t = Lx x1 i t ++ (if t ∈ nrm (wins (Sx x1 i)) then [3 * (i : Int) + 1] else []) := by
 unfold Lx
 rw [nums_succ, List.filter_append, ← Gr_at x1 i]
 congr 1
 by_cases h : t ∈ Gr x1 (3 * (i : Int) + 1)
 ·rw [if_pos h, List.filter_cons_of_pos (by simpa using h)]; rfl
 ·rw [if_neg h, List.filter_cons_of_neg (by simpa using h)]; rfl
theorem puts_ok (x1 : List ByteArray) (q : T29) (all want : List Int) (i : Nat) (hi : i ≤ 12) : ∀ (R pre : List ByteArray) (m : Mp), nrm (wins (Sx x1 i)) = pre ++ R → (∀ t, Lm m t = Lx x1 i t ++ (if t ∈ pre then [3 * (i : Int) + 1] else [])) →
  ∃ m' : Mp, (∀ t, Lm m' t = Lx x1 (i + 1) t) ∧ M.a1d (x1, q, 0, all, want, (i : Int), Sx x1 i, 3 * (i : Int) + 1, nrm (wins (Sx x1 i)), (pre.length : Int), [m]) = M.a1d (x1, q, 0, all, want, (i : Int), Sx x1 i, 3 * (i : Int) + 1, nrm (wins (Sx x1 i)), ((nrm (wins (Sx x1 i))).length : Int), [m']) := by
 have hnd := rz_nodup (nrm_rises (wins (Sx x1 i)))
 have hlen := nrm_len (wins (Sx x1 i))
 have hsz := Sx_size x1 i
 rw [wins_len] at hlen
 intro R
 induction R with
 | nil =>
  intro pre m e hm
  rw [List.append_nil] at e
  exact ⟨m, fun t => by rw [hm t, Lx_succ, e], by rw [e]⟩
 | cons g R ih =>
  intro pre m e hm
  have hl : (nrm (wins (Sx x1 i))).length = pre.length + (R.length + 1) := by rw [e]; simp
  have hg : gi (nrm (wins (Sx x1 i))) (pre.length : Int) = g := by rw [e]; exact gi_mid pre g R
  have hgn : g ∉ pre := fun hp => by
   rw [e] at hnd
   exact (List.nodup_append.1 hnd).2.2 g hp g (by simp) rfl
  obtain ⟨r1, r2, r3⟩ := Lx_rz x1 i g
  have hLg : Lm m g = Lx x1 i g := by rw [hm g, if_neg hgn, List.append_nil]
  have hput := put_m m g (3 * (i : Int) + 1) (by rw [hLg]; exact r1) (by rw [hLg]; exact r3) (by rw [hLg]; omega)
  obtain ⟨m', h1, h2⟩ := ih (pre ++ [g]) (mset m g (Lm m g ++ [3 * (i : Int) + 1])) (by rw [e]; simp) (fun t => by
   rw [Lm_set]
   by_cases ht : t = g
   ·subst ht
    rw [if_pos rfl, hLg, if_pos (by simp)]
   ·rw [if_neg ht, hm t]
    congr 1
    by_cases hp : t ∈ pre
    ·rw [if_pos hp, if_pos (by simp [hp])]
    ·rw [if_neg hp, if_neg (by simp [hp, ht])])
  refine ⟨m', h1, ?_⟩
  rw [← h2]
  conv => lhs; rw [M.a1d]
  try dsimp only
  rw [if_pos (by omega), if_pos (by omega), hg, hput, bnd]
  try dsimp only
  rw [wr_i64 (by omega) (by omega), show (pre.length : Int) + 1 = (((pre ++ [g]).length : Nat) : Int) by simp]
theorem gEval (m : Mp) (x1 : List ByteArray) (i : Nat) (hi : i ≤ 12) (hm : ∀ t, Lm m t = Lx x1 i t) (q : T29) (hq : qn q ≤ 3999) :
  M.a56 q 0 (nums i) [m] = some (if QD 8 q ∧ Rq q then ((nums i).filter fun v => decide (FT (Gr x1 v) q), 0) else ([], 2)) := by
 have hl : (nums i).length = i := nums_len i
 rw [M.a56, qcheck_ok q hq, bnd]
 by_cases hc : QD 8 q ∧ Rq q
 ·rw [if_pos hc, if_pos rfl, check_any _ (by omega), bnd, chk, if_pos (nums_rz i), M.a40]; try dsimp only
  have ev := eval_gen (m := m) (L := Lx x1 i) (D := fun v => v ∈ nums i) (G := Gr x1) (fun t => by
   have := (Lx_rz x1 i t).2.1
   rw [← hm t]
   exact list_m m t (by rw [hm t]; omega)) (fun t => ⟨(Lx_rz x1 i t).1, by have := (Lx_rz x1 i t).2.1; omega⟩) (fun v t hv => by
   unfold Lx
   rw [List.mem_filter, decide_eq_true_eq]
   exact ⟨fun h => ⟨hv, h⟩, fun h => h.2⟩) (qn q) q (nums i) (Nat.le_refl _) (by omega) hc.2 (nums_rz i) (by omega) (fun v hv => hv)
  rw [if_neg (by decide), M.a5z, M.a1v, bnd, bnd, ev, bnd, if_pos hc]
 ·rw [if_neg hc, if_neg (by decide), M.a40]; try dsimp only
  rw [if_pos rfl, if_neg hc]
theorem same_l3 (X : List Int) (p : List Mp) (hX : X.length ≤ 1000) (k : Nat) : ∀ i : Nat, i + k = X.length → M.a36 (X, X, (i : Int), p) = some (true, p) := by
 induction k with
 | zero =>
  intro i hi
  rw [M.a36]; try dsimp only
  rw [if_neg (by omega)]
 | succ k ih =>
  intro i hi
  rw [M.a36]; try dsimp only
  rw [if_pos (by omega), if_pos (by omega), if_pos (by omega), if_pos rfl, wr_i64 (by omega) (by omega), show (i : Int) + 1 = ((i + 1 : Nat) : Int) by omega]
  exact ih (i + 1) (by omega)
noncomputable def wn (x1 : List ByteArray) (q : T29) (i : Nat) : List Int := if QD 8 q ∧ Rq q then (nums i).filter fun v => decide (FT (Gr x1 v) q) else []
theorem lists_acts (x1 : List ByteArray) (q : T29) (hq : qn q ≤ 60) (n : Nat) : ∀ (i : Nat) (m : Mp), i + n = 12 → i ≤ x1.length → (∀ t, Lm m t = Lx x1 i t) →
  ∃ ps, M.a1c (x1, q, 0, nums i, wn x1 q i, (i : Int), [m]) = some (true, ps) := by
 have fin : ∀ (i : Nat) (m : Mp), i ≤ 12 → (∀ t, Lm m t = Lx x1 i t) → ∃ ps, M.a37 (x1, q, 0, nums i, wn x1 q i, (i : Int), false, [m]) = some (true, ps) := by
  intro i m hi hm
  refine ⟨[m], ?_⟩
  rw [M.a37]; try dsimp only
  rw [if_neg (by decide), gEval m x1 i hi hm q (by omega), bnd]
  by_cases hc : QD 8 q ∧ Rq q
  ·have hl := List.length_filter_le (fun v => decide (FT (Gr x1 v) q)) (nums i)
   rw [nums_len] at hl
   rw [if_pos hc]; try dsimp only
   rw [if_pos rfl, show wn x1 q i = (nums i).filter (fun v => decide (FT (Gr x1 v) q)) by unfold wn; rw [if_pos hc], if_pos rfl]
   exact same_l3 _ _ (by omega) _ 0 (Nat.zero_add _)
  ·rw [if_neg hc]; try dsimp only
   rw [if_neg (by decide), qcheck_ok q (by omega), bnd, if_neg hc, if_neg (by decide), M.a57]; rfl
 induction n with
 | zero =>
  intro i m hi hx hm
  have hf := fin i m (by omega) hm
  rw [M.a1c]; try dsimp only
  split
  ·rw [decide_eq_false (by omega)]; exact hf
  ·exact hf
 | succ n ih =>
  intro i m hi hx hm
  rw [M.a1c]; try dsimp only
  by_cases hl : (i : Int) < (x1.length : Int)
  ·obtain ⟨k, hk, k1, k2⟩ : ∃ k : Nat, imn ((gi x1 (i : Int)).size : Int) 40 = (k : Int) ∧ k ≤ 40 ∧ k ≤ (gi x1 (i : Int)).size := by
    refine ⟨min (gi x1 (i : Int)).size 40, ?_, by omega, by omega⟩
    simp only [imn]
    split <;> omega
   have hs : ss (gi x1 (i : Int)) 0 (imn ((gi x1 (i : Int)).size : Int) 40) = Sx x1 i := rfl
   have hsz := Sx_size x1 i
   have hnum : wr .u64 (wr .i64 ((wr .i64 (3 * (i : Int))) + 1)) = 3 * (i : Int) + 1 := by
    rw [wr_i64 (x := 3 * (i : Int)) (by omega) (by omega), wr_i64 (by omega) (by omega)]
    simp only [wr, IntKind.wrap, IntKind.signed, IntKind.bits]
    simp
    omega
   obtain ⟨m', h1, h2⟩ := puts_ok x1 q (nums (i + 1)) (wn x1 q i) i (by omega) (nrm (wins (Sx x1 i))) [] m rfl (fun t => by rw [hm t]; simp)
   rw [if_pos hl, decide_eq_true (by omega), M.a37]; try dsimp only
   rw [if_pos rfl, if_pos (by omega), if_pos hl, if_pos (by omega), if_pos (by omega), hnum, bnd, if_pos (by rw [List.length_append, nums_len]; simp; omega), hs, grams_ok _ (by omega), bnd, ← nums_succ]
   have h2' : M.a1d (x1, q, 0, nums (i + 1), wn x1 q i, (i : Int), Sx x1 i, 3 * (i : Int) + 1, nrm (wins (Sx x1 i)), 0, [m]) = _ := h2
   rw [h2', M.a1d]; try dsimp only
   rw [if_neg (by omega), Fits_ok q _ (by omega) (by omega), bnd]
   have hwn : wn x1 q (i + 1) = wn x1 q i ++ (if (QD 8 q ∧ Rq q) ∧ FT (nrm (wins (Sx x1 i))) q then [3 * (i : Int) + 1] else []) := by
    unfold wn
    by_cases hc : QD 8 q ∧ Rq q
    ·rw [if_pos hc, if_pos hc, nums_succ, List.filter_append, ← Gr_at x1 i]
     congr 1
     by_cases hf : FT (Gr x1 (3 * (i : Int) + 1)) q
     ·rw [if_pos ⟨hc, hf⟩, List.filter_cons_of_pos (by simpa using hf)]; rfl
     ·rw [if_neg (fun h => hf h.2), List.filter_cons_of_neg (by simpa using hf)]; rfl
    ·rw [if_neg hc, if_neg hc, if_neg (fun h => hc h.1)]; rfl
   have hwl : (wn x1 q i).length ≤ i := by
    unfold wn
    split
    ·have := List.length_filter_le (fun v => decide (FT (Gr x1 v) q)) (nums i)
     rw [nums_len] at this
     exact this
    ·simp
   have go : M.a41 (x1, q, 0, nums (i + 1), wn x1 q (i + 1), (i : Int), [m']) = M.a1c (x1, q, 0, nums (i + 1), wn x1 q (i + 1), ((i + 1 : Nat) : Int), [m']) := by
    rw [M.a41]; try dsimp only
    rw [wr_i64 (by omega) (by omega), show (i : Int) + 1 = ((i + 1 : Nat) : Int) by omega]
   have nx := ih (i + 1) m' (by omega) (by omega) h1
   by_cases hc : QD 8 q ∧ Rq q
   ·rw [if_pos hc]; try dsimp only
    by_cases hf : FT (nrm (wins (Sx x1 i))) q
    ·rw [if_pos ⟨hc, hf⟩] at hwn
     rw [decide_eq_true hf, if_pos rfl, decide_eq_true rfl, M.a38]; try dsimp only
     rw [if_pos rfl, if_pos (by simp; omega), ← hwn, go]; exact nx
    ·rw [if_neg (fun h => hf h.2), List.append_nil] at hwn
     rw [decide_eq_false hf, if_neg (by decide), M.a38]; try dsimp only
     rw [if_neg (by decide), ← hwn, go]; exact nx
   ·rw [if_neg (fun h => hc h.1), List.append_nil] at hwn
    rw [if_neg hc]; try dsimp only
    rw [if_neg (by decide), M.a38]; try dsimp only
    rw [if_neg (by decide), ← hwn, go]; exact nx
  ·rw [if_neg hl]; exact fin i m (by omega) hm
theorem glists_law (hw : M.a30 = some true) (x0 : T29) (x1 : List ByteArray) (hf : ∀ e, FQ e x0) : ∃ ps, M.a58 x0 x1 [] = some (true, ps) := by
 obtain ⟨c, b', c1, c2, c3, c4⟩ := qcut_ok 9 (by omega) x0 60 hf (by omega) (by omega)
 have c1' : M.ay (x0, 9, 60) = some (c, b') := c1
 rw [M.a58, hw, bnd, if_pos rfl, c1', bnd, M.a5r, bnd]
 have h0 := lists_acts x1 c (by omega) 12 0 [] rfl (Nat.zero_le _) (fun t => rfl)
 have e : wn x1 c 0 = [] := by unfold wn; split <;> rfl
 rw [e] at h0
 exact h0
end Go.Proofs.YtdccklkdakfnaaaGreat
