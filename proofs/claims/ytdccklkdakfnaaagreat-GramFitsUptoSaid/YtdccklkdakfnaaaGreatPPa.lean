import Derived.Test.YtdccklkdakfnaaaGreatMGf
import Derived.Test.YtdccklkdakfnaaaGreatGS
import Derived.Test.YtdccklkdakfnaaaGreatGR
import Derived.Test.YtdccklkdakfnaaaGreatLM
import Derived.Sort.Walk0
import Derived.Lib.Builder
/-
 Queries and their fits; lists by keys.
-/
set_option linter.unusedVariables false
set_option linter.unusedSimpArgs false
namespace Go.Proofs.YtdccklkdakfnaaaGreat
open Go.Gx
open Classical
def Z4 : List Int := [0, 0, 0, 0]
theorem bnd {α β : Type} (a : α) (f : α → Option β) : (some a >>= f) = f a := rfl
theorem wr_i64 {x : Int} (h0 : -9223372036854775808 ≤ x) (h1 : x ≤ 9223372036854775807) : wr .i64 x = x := by
 simp only [wr, IntKind.wrap, IntKind.signed, IntKind.bits]
 simp
 split <;> omega
theorem gi_mid {α : Type} [Inhabited α] (pre : List α) (r : α) (t : List α) : gi (pre ++ r :: t) (pre.length : Int) = r := by
 simp [gi]
def Dp : Nat → T26 → Prop
 | 0, _ => False
 | d + 1, r => ∀ x ∈ r.L, Dp d x
theorem Dp.mono : ∀ {d e : Nat} {r : T26}, Dp d r → d ≤ e → Dp e r
 | 0, _, _, h, _ => absurd h id
 | d + 1, 0, _, _, he => by omega
 | d + 1, e + 1, r, h, he => fun x hx => (h x hx).mono (by omega)
def SetOk (l : List Int) : Prop := l.length = 4 ∧ ∀ x ∈ l, 0 ≤ x ∧ x < 18446744073709551616
theorem SetOk.Z4 : SetOk Z4 := ⟨rfl, fun x hx => by simp [Go.Proofs.YtdccklkdakfnaaaGreat.Z4] at hx; omega⟩
def Fit : Nat → T26 → Prop
 | 0, _ => True
 | d + 1, r => SetOk r.Set ∧ r.L.length ≤ 9223372036854775807 ∧ ∀ x ∈ r.L, Fit d x
theorem Fit.mono : ∀ {d e : Nat} {r : T26}, Fit d r → e ≤ d → Fit e r
 | _, 0, _, _, _ => trivial
 | 0, e + 1, _, _, he => by omega
 | d + 1, e + 1, r, h, he => ⟨h.1, h.2.1, fun x hx => (h.2.2 x hx).mono (by omega)⟩
def Shp (r : T26) : Prop :=
 (r.Kind = 1 ∧ r.L = [] ∧ r.Min = 0 ∧ r.Max = 0) ∨ ((r.Kind = 2 ∨ r.Kind = 3) ∧ r.Set = Z4 ∧ r.Min = 0 ∧ r.Max = 0) ∨
  (r.Kind = 4 ∧ (∃ x, r.L = [x]) ∧ r.Set = Z4 ∧ 0 ≤ r.Min ∧ r.Min ≤ 64 ∧ (r.Max = -1 ∨ (r.Min ≤ r.Max ∧ r.Max ≤ 64)))
def Rt : Nat → T26 → Prop
 | 0, _ => False
 | d + 1, r => Shp r ∧ SetOk r.Set ∧ ∀ x ∈ r.L, Rt d x
theorem Rt.mono : ∀ {d e : Nat} {r : T26}, Rt d r → d ≤ e → Rt e r
 | 0, _, _, h, _ => absurd h id
 | d + 1, 0, _, _, he => by omega
 | d + 1, e + 1, r, h, he => ⟨h.1, h.2.1, fun x hx => (h.2.2 x hx).mono (by omega)⟩
theorem gi_nat {α : Type} [Inhabited α] (l : List α) (i : Nat) (h : i < l.length) : gi l (i : Int) = l[i] := by
 simp [gi, h]
section
variable (s : ByteArray) (hs : s.size ≤ 100)
include hs
end
abbrev Tl (x : ByteArray) : List UInt8 := x.data.toList
theorem Tl_inj {x y : ByteArray} (h : Tl x = Tl y) : x = y := by
 cases x; cases y
 simpa using Array.toList_inj.1 h
abbrev RzS (l : List ByteArray) : Prop := l.Pairwise fun x y => Tl x < Tl y
def nrm (l : List ByteArray) : List ByteArray := cmpL (srtS l)
theorem srtS_perm' (l : List ByteArray) : (srtS l).Perm l := by
 have h := (List.mergeSort_perm (l.map (·.data.toList)) (fun x y => decide (x ≤ y))).map fun l : List UInt8 => (⟨l.toArray⟩ : ByteArray)
 rw [List.map_map] at h
 have e : ((fun l : List UInt8 => (⟨l.toArray⟩ : ByteArray)) ∘ fun x : ByteArray => x.data.toList) = id := by funext x; rfl
 rw [e, List.map_id] at h
 exact h
theorem srtS_rises (l : List ByteArray) : (srtS l).Pairwise fun x y => Tl x ≤ Tl y := by
 have h := List.pairwise_mergeSort (le := fun x y : List UInt8 => decide (x ≤ y)) (fun a b c h1 h2 => by simp only [decide_eq_true_eq] at *; exact List.le_trans h1 h2) (fun a b => by simp only [Bool.or_eq_true, decide_eq_true_eq]; exact List.le_total a b) (l.map (·.data.toList))
 unfold srtS
 rw [List.pairwise_map]
 exact h.imp fun h => by simpa using h
theorem cmpR_sub {α : Type} [DecidableEq α] : ∀ (p : α) (l : List α), (cmpR p l).Sublist l
 | p, [] => by simp [cmpR]
 | p, y :: ys => by
  simp only [cmpR]
  split
  ·exact (cmpR_sub p ys).cons _
  ·exact (cmpR_sub y ys).cons_cons _
theorem cmpR_rises : ∀ (p : ByteArray) (l : List ByteArray), (p :: l).Pairwise (fun x y => Tl x ≤ Tl y) → (p :: cmpR p l).Pairwise fun x y => Tl x < Tl y
 | p, [], _ => by simp [cmpR]
 | p, y :: ys, h => by
  rw [List.pairwise_cons] at h
  have h2 := List.pairwise_cons.1 h.2
  simp only [cmpR]
  split
  ·rename_i e
   subst e
   exact cmpR_rises y ys h.2
  ·rename_i e
   have ih := cmpR_rises y ys h.2
   refine List.pairwise_cons.2 ⟨fun z hz => ?_, ih⟩
   have hpy : Tl p < Tl y := by
    have := h.1 y (by simp)
    rcases List.le_iff_lt_or_eq.1 this with h | h
    ·exact h
    ·exact absurd (Tl_inj h).symm e
   rcases List.mem_cons.1 hz with rfl | hz
   ·exact hpy
   ·exact List.lt_trans hpy ((List.pairwise_cons.1 ih).1 z hz)
theorem mem_cmpR {α : Type} [DecidableEq α] (v : α) : ∀ (p : α) (l : List α), (v = p ∨ v ∈ cmpR p l) ↔ (v = p ∨ v ∈ l)
 | p, [] => by simp [cmpR]
 | p, y :: ys => by
  simp only [cmpR]
  split
  ·rename_i e
   subst e
   rw [mem_cmpR v y ys, List.mem_cons]
   simp
  ·rw [List.mem_cons, mem_cmpR v y ys, List.mem_cons]
theorem nrm_rises (l : List ByteArray) : RzS (nrm l) := by
 unfold nrm
 have h := srtS_rises l
 cases hs : srtS l with
 | nil => exact List.Pairwise.nil
 | cons x xs => rw [hs] at h; exact cmpR_rises x xs h
theorem mem_nrm {l : List ByteArray} {v : ByteArray} : v ∈ nrm l ↔ v ∈ l := by
 rw [← (srtS_perm' l).mem_iff]
 unfold nrm
 cases hs : srtS l with
 | nil => simp [cmpL]
 | cons x xs => rw [cmpL, List.mem_cons, mem_cmpR, List.mem_cons]
theorem rzS_ext : ∀ {a b : List ByteArray}, RzS a → RzS b → (∀ v, v ∈ a ↔ v ∈ b) → a = b
 | [], [], _, _, _ => rfl
 | [], y :: ys, _, _, h => absurd ((h y).2 (by simp)) (by simp)
 | x :: xs, [], _, _, h => absurd ((h x).1 (by simp)) (by simp)
 | x :: xs, y :: ys, ha, hb, h => by
  have ha' := List.pairwise_cons.1 ha
  have hb' := List.pairwise_cons.1 hb
  have hxy : x = y := by
   rcases List.mem_cons.1 ((h x).1 (by simp)) with e | e
   ·exact e
   ·rcases List.mem_cons.1 ((h y).2 (by simp)) with e' | e'
    ·exact e'.symm
    ·exact absurd (List.lt_trans (ha'.1 y e') (hb'.1 x e)) (List.lt_irrefl _)
  subst hxy
  congr 1
  refine rzS_ext ha'.2 hb'.2 fun v => ⟨fun hv => ?_, fun hv => ?_⟩
  ·rcases List.mem_cons.1 ((h v).1 (by simp [hv])) with rfl | e
   ·exact absurd (ha'.1 v hv) (List.lt_irrefl _)
   ·exact e
  ·rcases List.mem_cons.1 ((h v).2 (by simp [hv])) with rfl | e
   ·exact absurd (hb'.1 v hv) (List.lt_irrefl _)
   ·exact e
theorem nrm_eq {l m : List ByteArray} (hm : RzS m) (h : ∀ v, v ∈ m ↔ v ∈ l) : nrm l = m := rzS_ext (nrm_rises l) hm fun v => by rw [mem_nrm, h]
theorem nrm_len (l : List ByteArray) : (nrm l).length ≤ l.length := by
 have h1 := (srtS_perm' l).length_eq
 unfold nrm
 have : (cmpL (srtS l)).length ≤ (srtS l).length := by
  cases hs : srtS l with
  | nil => exact Nat.le_refl _
  | cons x xs => rw [cmpL, List.length_cons, List.length_cons]; have := (cmpR_sub x xs).length_le; omega
 omega
def wins (s : ByteArray) : List ByteArray := (List.range (s.size - 2)).map fun i : Nat => ss s (i : Int) ((i : Int) + 3)
theorem windows_ok (s : ByteArray) (hs : s.size ≤ 1000000) : M.a2i [] s = some (wins s) := by
 have e0 : wr .i64 (wr .i64 ((s.size : Int) - 3) + 1) = (s.size : Int) - 2 := by
  rw [wr_i64 (x := (s.size : Int) - 3) (by omega) (by omega), wr_i64 (by omega) (by omega)]; omega
 have loop : ∀ (k i : Nat), i + k = s.size - 2 → M.ah ((s.size : Int) - 2, (i : Int), ((List.range i).map fun i : Nat => ss s (i : Int) ((i : Int) + 3)), s) = some (wins s) := by
  intro k
  induction k with
  | zero =>
   intro i hi
   rw [M.ah]; try dsimp only
   rw [if_neg (by omega), show i = s.size - 2 by omega]
   rfl
  | succ k ih =>
   intro i hi
   rw [M.ah]; try dsimp only
   rw [if_pos (by omega), if_pos (by omega), wr_i64 (x := (i : Int) + 3) (by omega) (by omega), if_pos (by omega), if_pos (by omega), M.a57, if_pos (by simp; omega), bnd, wr_i64 (x := (i : Int) + 1) (by omega) (by omega), show (i : Int) + 1 = ((i + 1 : Nat) : Int) by push_cast; rfl]
   have := ih (i + 1) (by omega)
   rw [List.range_succ, List.map_append] at this
   exact this
 rw [M.a2i, e0]
 exact loop (s.size - 2) 0 (by omega)
theorem wins_len (s : ByteArray) : (wins s).length = s.size - 2 := by simp [wins]
theorem srtS_length (l : List ByteArray) : (srtS l).length = l.length := (srtS_perm' l).length_eq
theorem grams_ok (s : ByteArray) (hs : s.size ≤ 1000000) : M.a1g s = some (nrm (wins s)) := by
 have hw := wins_len s
 rw [M.a1g, M.a58, bnd, M.a42, M.a41, M.a40, windows_ok s hs, bnd, bnd, bnd, if_pos (by omega), bnd, if_pos (by rw [srtS_length]; omega)]
 rfl
def TxOk : Option (List ByteArray) → Prop
 | none => True
 | some l => l.length ≤ 256 ∧ ∀ x ∈ l, x.size ≤ 1000
def hb (z : List Int) (b : Nat) : Bool := (M.a5h z (b : Int)).getD false
def eS : ByteArray := ⟨#[]⟩
def TxS : Option (List ByteArray) → Prop
 | none => True
 | some l => l.length ≤ 32 ∧ ∀ x ∈ l, x.size ≤ 32
theorem TxS.ok {t : Option (List ByteArray)} (h : TxS t) : TxOk t := by
 cases t with
 | none => trivial
 | some l => exact ⟨by have := h.1; omega, fun x hx => by have := h.2 x hx; omega⟩
theorem tlS (s : ByteArray) : s.toList = Tl s := Lib.toList_data s
theorem eqS (a b : ByteArray) : (a.toList == b.toList) = decide (a = b) := by
 rw [tlS, tlS]
 by_cases h : a = b
 ·rw [h, decide_eq_true rfl]; simp
 ·rw [decide_eq_false h]
  rw [beq_eq_false_iff_ne]
  exact fun h' => h (Tl_inj h')
theorem lessS (a b : ByteArray) : Op.bytesLess a.toList b.toList = decide (Tl a < Tl b) := by rw [bytesLess_eq, tlS, tlS]
theorem ltS_cases {a b : ByteArray} (h : ¬ Tl a < Tl b) (hn : a ≠ b) : Tl b < Tl a := by
 rcases List.le_iff_lt_or_eq.1 (List.not_lt.1 h) with h' | h'
 ·exact h'
 ·exact absurd (Tl_inj h').symm hn
theorem rround (l : List ByteArray) (hl : l.length ≤ 100000) (i : Nat) (v : ByteArray) (hi : i < l.length) (hv : gi l (i : Int) = v) (A : List ByteArray) (hA : RzS A) (hAl : A.length ≤ 100000) : ∀ (R pre : List ByteArray), A = pre ++ R → (∀ u ∈ pre, Tl u < Tl v) →
  ∃ A', M.a3h (l, A, (i : Int), (pre.length : Int)) = M.ab (l, A', ((i + 1 : Nat) : Int)) ∧ RzS A' ∧ (∀ u, u ∈ A' ↔ u ∈ A ∨ u = v) ∧ A'.length ≤ A.length + 1 := by
 intro R
 -- the text goes in here
 have ins : ∀ (R pre : List ByteArray), A = pre ++ R → (∀ u ∈ pre, Tl u < Tl v) → (∀ u ∈ R, Tl v < Tl u) →
   M.a3i (l, A, (i : Int), (pre.length : Int), false) = M.ab (l, pre ++ (v :: R), ((i + 1 : Nat) : Int)) ∧ RzS (pre ++ (v :: R)) ∧ (∀ u, u ∈ pre ++ (v :: R) ↔ u ∈ A ∨ u = v) ∧ (pre ++ (v :: R)).length ≤ A.length + 1 := by
  intro R pre e hp hR
  have hlen : A.length = pre.length + R.length := by rw [e]; simp
  have es : sl A (pre.length : Int) (A.length : Int) = R := by simp only [sl, Int.toNat_natCast]; rw [List.take_length, e, List.drop_left]
  have et : A.take ((pre.length : Int) : Int).toNat = pre := by rw [e]; simp
  refine ⟨?_, ?_, ?_, ?_⟩
  ·rw [M.a3i]; try dsimp only
   rw [if_neg (by decide), if_pos (by omega), if_pos (by omega), if_pos (by omega), if_pos (by omega), hv, es, if_pos (by simp; omega), et, bnd, if_pos (by simp; omega), wr_i64 (by omega) (by omega), show (i : Int) + 1 = ((i + 1 : Nat) : Int) by push_cast; rfl]
   rfl
  ·rw [e] at hA
   have h := List.pairwise_append.1 hA
   exact List.pairwise_append.2 ⟨h.1, List.pairwise_cons.2 ⟨hR, h.2.1⟩, fun a ha b hb => by
    rcases List.mem_cons.1 hb with rfl | hb
    ·exact hp a ha
    ·exact h.2.2 a ha b hb⟩
  ·intro u
   rw [e]
   simp only [List.mem_append, List.mem_cons]
   constructor
   ·rintro (h | h | h)
    ·exact .inl (.inl h)
    ·exact .inr h
    ·exact .inl (.inr h)
   ·rintro ((h | h) | h)
    ·exact .inl h
    ·exact .inr (.inr h)
    ·exact .inr (.inl h)
  ·simp; omega
 induction R with
 | nil =>
  intro pre e hp
  have hlen : A.length = pre.length := by rw [e]; simp
  rw [M.a3h]; try dsimp only
  rw [if_neg (by omega), M.a4r]; try dsimp only
  rw [if_neg (by decide), if_neg (by omega)]
  exact ⟨_, ins [] pre e hp (by simp)⟩
 | cons x R ih =>
  intro pre e hp
  have hlen : A.length = pre.length + (R.length + 1) := by rw [e]; simp
  have hx : gi A (pre.length : Int) = x := by rw [e]; exact gi_mid pre x R
  rw [M.a3h]; try dsimp only
  rw [if_pos (by omega), if_pos (by omega), if_pos (by omega), if_pos (by omega), hx, hv, lessS, M.a4r]; try dsimp only
  by_cases hlt : Tl x < Tl v
  ·rw [decide_eq_true hlt, if_pos rfl, wr_i64 (by omega) (by omega)]
   have := ih (pre ++ [x]) (by rw [e]; simp) (fun u hu => by
    rcases List.mem_append.1 hu with hu | hu
    ·exact hp u hu
    ·rw [List.mem_singleton.1 hu]; exact hlt)
   rw [show (((pre ++ [x]).length : Nat) : Int) = (pre.length : Int) + 1 by simp] at this
   exact this
  ·rw [decide_eq_false hlt, if_neg (by decide), if_pos (by omega), if_pos (by omega), if_pos (by omega), if_pos (by omega), hx, hv, eqS]
   by_cases he : x = v
   ·rw [decide_eq_true he, M.a3i]; try dsimp only
    rw [if_pos rfl, wr_i64 (by omega) (by omega), show (i : Int) + 1 = ((i + 1 : Nat) : Int) by push_cast; rfl]
    refine ⟨A, rfl, hA, fun u => ⟨.inl, ?_⟩, by omega⟩
    rintro (h | rfl)
    ·exact h
    ·rw [e, ← he]; simp
   ·rw [decide_eq_false he]
    have hvx := ltS_cases hlt he
    refine ⟨_, ins (x :: R) pre e hp fun u hu => ?_⟩
    rcases List.mem_cons.1 hu with rfl | hu
    ·exact hvx
    ·rw [e] at hA
     exact List.lt_trans hvx ((List.pairwise_cons.1 (List.pairwise_append.1 hA).2.1).1 u hu)
theorem rsorted_ok (l : List ByteArray) (hl : l.length ≤ 99999) : M.a4s l = some (nrm l) := by
 have loop : ∀ (R pre A : List ByteArray), l = pre ++ R → RzS A → (∀ u, u ∈ A ↔ u ∈ pre) → A.length ≤ pre.length → M.ab (l, A, (pre.length : Int)) = some (nrm l) := by
  intro R
  induction R with
  | nil =>
   intro pre A e hA hm hal
   rw [M.ab]; try dsimp only
   rw [if_neg (by rw [e]; simp), nrm_eq hA fun v => by rw [hm, e, List.append_nil]]
  | cons x R ih =>
   intro pre A e hA hm hal
   have hlen : l.length = pre.length + (R.length + 1) := by rw [e]; simp
   rw [M.ab]; try dsimp only
   rw [if_pos (by omega)]
   obtain ⟨A', e1, r1, m1, n1⟩ := rround l (by omega) pre.length x (by omega) (by rw [e]; exact gi_mid pre x R) A hA (by omega) A [] rfl (by simp)
   rw [show ((([] : List ByteArray).length : Nat) : Int) = 0 from rfl] at e1
   rw [e1]
   have := ih (pre ++ [x]) A' (by rw [e]; simp) r1 (fun u => by rw [m1, hm]; simp) (by simp; omega)
   rw [show (pre ++ [x]).length = pre.length + 1 by simp] at this
   exact this
 rw [M.a4s]
 exact loop l [] [] rfl List.Pairwise.nil (by simp) (by simp)
theorem rgrams_ok (s : ByteArray) (hs : s.size ≤ 90000) : M.a5z s = some (nrm (wins s)) := by
 have hw := wins_len s
 have loop : ∀ (k i : Nat), i + k = s.size - 2 → M.a3j (s, ((List.range i).map fun i : Nat => ss s (i : Int) ((i : Int) + 3)), (i : Int)) = some (nrm (wins s)) := by
  intro k
  induction k with
  | zero =>
   intro i hi
   rw [M.a3j]; try dsimp only
   rw [wr_i64 (by omega) (by omega), if_neg (by omega), show i = s.size - 2 by omega]
   show (M.a4s (wins s) >>= _) = _
   rw [rsorted_ok _ (by omega), bnd]
  | succ k ih =>
   intro i hi
   rw [M.a3j]; try dsimp only
   rw [wr_i64 (x := (i : Int) + 3) (by omega) (by omega), if_pos (by omega), if_pos (by omega), if_pos (by omega), if_pos (by simp; omega), wr_i64 (x := (i : Int) + 1) (by omega) (by omega), show (i : Int) + 1 = ((i + 1 : Nat) : Int) by push_cast; rfl]
   have := ih (i + 1) (by omega)
   rw [List.range_succ, List.map_append] at this
   exact this
 rw [M.a5z]
 exact loop (s.size - 2) 0 (by omega)
mutual
def qn : T29 → Nat
 | ⟨_, _, L⟩ => 1 + qns L
def qns : List T29 → Nat
 | [] => 0
 | x :: xs => qn x + qns xs
end
theorem qn_eq (q : T29) : qn q = 1 + qns q.L := by cases q; rw [qn]
theorem qn_pos (q : T29) : 1 ≤ qn q := by rw [qn_eq]; omega
theorem qns_len : ∀ L : List T29, L.length ≤ qns L
 | [] => by simp
 | x :: xs => by have := qns_len xs; have := qn_pos x; rw [qns]; simp; omega
theorem qn_mem {x : T29} : ∀ {l : List T29}, x ∈ l → qn x ≤ qns l
 | [], h => by simp at h
 | y :: l, h => by
  rw [qns]
  rcases List.mem_cons.1 h with rfl | h
  ·omega
  ·have := qn_mem h; omega
theorem qns_append : ∀ a b : List T29, qns (a ++ b) = qns a + qns b
 | [], b => by simp [qns]
 | x :: a, b => by rw [List.cons_append, qns, qns, qns_append a b]; omega
mutual
def cv : T29 → T38
 | ⟨o, t, L⟩ => ⟨o, t, cvs L⟩
def cvs : List T29 → List T38
 | [] => []
 | x :: xs => cv x :: cvs xs
end
theorem cvs_eq : ∀ L : List T29, cvs L = L.map cv
 | [] => by rw [cvs]; rfl
 | x :: xs => by rw [cvs, cvs_eq xs]; rfl
theorem cv_op (q : T29) : (cv q).Op = q.Op := by cases q; rw [cv]
theorem cv_text (q : T29) : (cv q).Text = q.Text := by cases q; rw [cv]
theorem cv_L (q : T29) : (cv q).L = q.L.map cv := by cases q; rw [cv, cvs_eq]
theorem gi_map (L : List T29) (i : Nat) (h : i < L.length) : gi (L.map cv) (i : Int) = cv L[i] := by
 rw [gi_nat _ _ (by simpa using h)]; simp
def QD : Nat → T29 → Prop
 | 0, _ => False
 | d + 1, q => ∀ x ∈ q.L, QD d x
theorem QD.mono : ∀ {d e : Nat} {q : T29}, QD d q → d ≤ e → QD e q
 | 0, _, _, h, _ => absurd h id
 | d + 1, 0, _, _, he => by omega
 | d + 1, e + 1, q, h, he => fun x hx => (h x hx).mono (by omega)
mutual
def Rq : T29 → Prop
 | ⟨o, t, L⟩ => ((o = 0 ∨ o = 1) ∧ t = eS ∧ L = []) ∨ (o = 2 ∧ t.size = 3 ∧ L = []) ∨ ((o = 3 ∨ o = 4) ∧ t = eS ∧ Rqs L)
def Rqs : List T29 → Prop
 | [] => True
 | x :: xs => Rq x ∧ Rqs xs
end
theorem Rqs_iff : ∀ {L : List T29}, Rqs L ↔ ∀ x ∈ L, Rq x
 | [] => by simp [Rqs]
 | x :: xs => by rw [Rqs, Rqs_iff (L := xs)]; simp
theorem Rq_eq (q : T29) : Rq q ↔ ((q.Op = 0 ∨ q.Op = 1) ∧ q.Text = eS ∧ q.L = []) ∨ (q.Op = 2 ∧ q.Text.size = 3 ∧ q.L = []) ∨ ((q.Op = 3 ∨ q.Op = 4) ∧ q.Text = eS ∧ ∀ x ∈ q.L, Rq x) := by
 cases q
 rw [Rq, Rqs_iff]
theorem qcount_ok (left : Nat) : left ≤ 100 → ∀ (q : T29) (n : Nat), n + qn q ≤ 4000 → ∃ n' : Nat, M.a4 (q, (left : Int), (n : Int)) = some (decide (QD left q), (n' : Int)) ∧ n' ≤ n + qn q := by
 induction left with
 | zero =>
  intro hl q n hn
  have hp := qn_pos q
  rw [M.a4]; try dsimp only
  rw [if_pos (by rfl), M.at]; try dsimp only
  rw [if_pos rfl, wr_i64 (by omega) (by omega)]
  exact ⟨n + 1, by rw [decide_eq_false (fun h : QD 0 q => h)]; rfl, by omega⟩
 | succ left ih =>
  intro hl q n hn
  have hq := qn_eq q
  have hll := qns_len q.L
  have loop : ∀ (R pre : List T29) (m : Nat), q.L = pre ++ R → m + qns R ≤ 4000 → ∃ n' : Nat, M.ae (((left + 1 : Nat) : Int), q.L, (q.L.length : Int), (pre.length : Int), (m : Int)) = some (decide (∀ x ∈ R, QD left x), (n' : Int)) ∧ n' ≤ m + qns R := by
   intro R
   induction R with
   | nil =>
    intro pre m e hm
    rw [M.ae]; try dsimp only
    rw [if_neg (by rw [e]; simp)]
    exact ⟨m, by rw [decide_eq_true (by simp)], by omega⟩
   | cons x R ihR =>
    intro pre m e hm
    have hlen : q.L.length = pre.length + (R.length + 1) := by rw [e]; simp
    rw [qns] at hm
    obtain ⟨n1, k1, k2⟩ := ih (by omega) x m (by omega)
    rw [M.ae]; try dsimp only
    rw [if_pos (by omega), if_pos (by omega), if_pos (by omega), show gi q.L (pre.length : Int) = x by rw [e]; exact gi_mid pre x R, wr_i64 (x := ((left + 1 : Nat) : Int) - 1) (by omega) (by omega), show ((left + 1 : Nat) : Int) - 1 = (left : Int) by omega, k1, bnd]; try dsimp only
    by_cases hx : QD left x
    ·rw [decide_eq_true hx, if_pos rfl, wr_i64 (x := (pre.length : Int) + 1) (by omega) (by omega)]
     obtain ⟨n2, g1, g2⟩ := ihR (pre ++ [x]) n1 (by rw [e]; simp) (by omega)
     rw [show (((pre ++ [x]).length : Nat) : Int) = (pre.length : Int) + 1 by simp] at g1
     refine ⟨n2, ?_, by rw [qns]; omega⟩
     rw [g1]
     congr 2
     rw [decide_eq_decide]
     simp [hx]
    ·rw [decide_eq_false hx, if_neg (by decide)]
     exact ⟨n1, by rw [decide_eq_false (fun h => hx (h x (by simp)))], by rw [qns]; omega⟩
  rw [M.a4]; try dsimp only
  rw [if_neg (by omega), wr_i64 (by omega) (by omega), decide_eq_false (by omega), M.at]; try dsimp only
  rw [if_neg (by decide)]
  obtain ⟨n', g1, g2⟩ := loop q.L [] (n + 1) rfl (by omega)
  rw [show ((([] : List T29).length : Nat) : Int) = 0 from rfl, show ((n + 1 : Nat) : Int) = (n : Int) + 1 by push_cast; rfl] at g1
  exact ⟨n', by rw [g1]; exact congrArg some (Prod.ext (decide_eq_decide.2 Iff.rfl) rfl), by omega⟩
theorem eq_eS (t : ByteArray) : ((t.toList == (⟨#[]⟩ : ByteArray).toList) = true) ↔ t = eS := by rw [eqS, decide_eq_true_eq]; rfl
theorem qright_ok (n : Nat) : ∀ q : T29, qn q ≤ n → qn q ≤ 100000 → M.af q = some (decide (Rq q)) := by
 induction n with
 | zero => intro q h; have := qn_pos q; omega
 | succ n ih =>
  intro q hn hq
  have hqe := qn_eq q
  have hll := qns_len q.L
  have hL0 : ((q.L.length : Int) = 0) ↔ q.L = [] := by
   constructor
   ·intro h; exact List.eq_nil_of_length_eq_zero (by omega)
   ·intro h; rw [h]; rfl
  have e01 : (if q.Op = 0 then M.a5 (q, q.Op, true) else M.a5 (q, q.Op, decide (q.Op = 1))) = M.a5 (q, q.Op, decide (q.Op = 0 ∨ q.Op = 1)) := by
   by_cases h : q.Op = 0
   ·rw [if_pos h]; simp [h]
   ·rw [if_neg h]; simp [h]
  rw [M.af]; try dsimp only
  rw [e01, M.a5]; try dsimp only
  have hR := Rq_eq q
  by_cases h01 : q.Op = 0 ∨ q.Op = 1
  ·rw [decide_eq_true h01, if_pos rfl]
   by_cases ht : q.Text = eS
   ·rw [if_pos ((eq_eS _).2 ht)]
    congr 1
    rw [decide_eq_decide, hL0, hR]
    constructor
    ·intro h; exact .inl ⟨h01, ht, h⟩
    ·rintro (h | h | h)
     ·exact h.2.2
     ·omega
     ·omega
   ·rw [if_neg (fun h => ht ((eq_eS _).1 h)), decide_eq_false]
    rw [hR]
    rintro (h | h | h)
    ·exact ht h.2.1
    ·omega
    ·omega
  ·rw [decide_eq_false h01, if_neg (by decide)]
   by_cases h2 : q.Op = 2
   ·rw [if_pos h2]
    by_cases ht : (q.Text.size : Int) = 3
    ·rw [if_pos ht]
     congr 1
     rw [decide_eq_decide, hL0, hR]
     constructor
     ·intro h; exact .inr (.inl ⟨h2, by omega, h⟩)
     ·rintro (h | h | h)
      ·omega
      ·exact h.2.2
      ·omega
    ·rw [if_neg ht, decide_eq_false]
     rw [hR]
     rintro (h | h | h)
     ·omega
     ·exact ht (by rw [h.2.1]; rfl)
     ·omega
   ·rw [if_neg h2]
    have e34 : (if q.Op = 3 then M.a6 (q, true) else M.a6 (q, decide (q.Op = 4))) = M.a6 (q, decide (q.Op = 3 ∨ q.Op = 4)) := by
     by_cases h : q.Op = 3
     ·rw [if_pos h]; simp [h]
     ·rw [if_neg h]; simp [h]
    rw [e34, M.a6]; try dsimp only
    by_cases h34 : q.Op = 3 ∨ q.Op = 4
    ·rw [decide_eq_true h34, if_pos rfl]
     by_cases ht : q.Text = eS
     ·rw [if_pos ((eq_eS _).2 ht)]
      have loop : ∀ (R pre : List T29), q.L = pre ++ R → ∃ j : Int, M.ag (q.L, (q.L.length : Int), (pre.length : Int)) = some j ∧ (0 ≤ j ↔ ¬ ∀ x ∈ R, Rq x) := by
       intro R
       induction R with
       | nil =>
        intro pre e
        rw [M.ag]; try dsimp only
        rw [if_neg (by rw [e]; simp)]
        exact ⟨-1, rfl, by simp⟩
       | cons x R ihR =>
        intro pre e
        have hlen : q.L.length = pre.length + (R.length + 1) := by rw [e]; simp
        have hx : x ∈ q.L := by rw [e]; simp
        have hqx := qn_mem hx
        rw [M.ag]; try dsimp only
        rw [if_pos (by omega), if_pos (by omega), if_pos (by omega), show gi q.L (pre.length : Int) = x by rw [e]; exact gi_mid pre x R, M.a2h, ih x (by omega) (by omega), bnd, bnd]
        by_cases hr : Rq x
        ·rw [decide_eq_true hr, if_neg (by decide), wr_i64 (by omega) (by omega)]
         obtain ⟨j, g1, g2⟩ := ihR (pre ++ [x]) (by rw [e]; simp)
         rw [show (((pre ++ [x]).length : Nat) : Int) = (pre.length : Int) + 1 by simp] at g1
         exact ⟨j, g1, by rw [g2]; simp [hr]⟩
        ·rw [decide_eq_false hr, if_pos (by decide)]
         exact ⟨_, rfl, by simp only [List.forall_mem_cons, hr, false_and, not_false_eq_true, iff_true]; omega⟩
      obtain ⟨j, g1, g2⟩ := loop q.L [] rfl
      rw [show ((([] : List T29).length : Nat) : Int) = 0 from rfl] at g1
      rw [M.a2f, M.a2g, g1, bnd, bnd]
      congr 1
      by_cases hall : ∀ x ∈ q.L, Rq x
      ·have hj : ¬ j ≥ 0 := fun h => (g2.1 h) hall
       rw [decide_eq_false hj, decide_eq_true (hR.2 (.inr (.inr ⟨h34, ht, hall⟩)))]
       rfl
      ·have hj : j ≥ 0 := g2.2 hall
       rw [decide_eq_true hj, decide_eq_false]
       ·rfl
       ·rw [hR]
        rintro (h | h | h)
        ·omega
        ·omega
        ·exact hall h.2.2
     ·rw [if_neg (fun h => ht ((eq_eS _).1 h)), decide_eq_false]
      rw [hR]
      rintro (h | h | h)
      ·omega
      ·omega
      ·exact ht h.2.1
    ·rw [decide_eq_false h34, if_neg (by decide), decide_eq_false]
     rw [hR]
     rintro (h | h | h)
     ·exact h01 h.1
     ·exact h2 h.1
     ·exact h34 h.1
theorem qcheck_ok (q : T29) (hq : qn q ≤ 3999) : M.au q = some (if QD 8 q ∧ Rq q then 0 else 2) := by
 obtain ⟨n', k1, k2⟩ := qcount_ok 8 (by omega) q 0 (by omega)
 rw [show ((8 : Nat) : Int) = 8 from rfl, show ((0 : Nat) : Int) = 0 from rfl] at k1
 rw [M.au, k1, bnd]; try dsimp only
 by_cases hd : QD 8 q
 ·rw [decide_eq_true hd, if_pos rfl, qright_ok (qn q) q (Nat.le_refl _) (by omega), bnd]
  by_cases hr : Rq q
  ·rw [decide_eq_true hr, if_pos rfl, if_pos ⟨hd, hr⟩]
  ·rw [decide_eq_false hr, if_neg (by decide), if_neg fun h => hr h.2]
 ·rw [decide_eq_false hd, if_neg (by decide), if_neg fun h => hd h.1]
theorem rdeep_ok (left : Nat) : left ≤ 40 → ∀ q : T29, qn q ≤ 4000 → ∃ d n : Int, M.a23 (cv q, (left : Int)) = some (d, n) ∧
  ((QD (left + 1) q ∧ n = (qn q : Int) ∧ 1 ≤ d ∧ d ≤ (left : Int) + 1 ∧ ∀ k : Nat, QD k q ↔ d ≤ (k : Int)) ∨ (¬ QD (left + 1) q ∧ d = 99 ∧ n = 9999)) := by
 induction left with
 | zero =>
  intro hl q hn
  rw [M.a23]; try dsimp only
  rw [M.a24]; try dsimp only
  rw [cv_L, List.length_map]
  by_cases hL : q.L = []
  ·rw [if_neg (by rw [hL]; simp), M.a25]; try dsimp only
   rw [if_neg (by decide), wr_i64 (by omega) (by omega)]
   refine ⟨0 + 1, 1, rfl, .inl ⟨by simp [QD, hL], by rw [qn_eq, hL, qns]; rfl, by omega, by omega, fun k => ?_⟩⟩
   cases k with
   | zero => simp [QD]
   | succ k => simp only [QD, hL, List.not_mem_nil, false_implies, implies_true, true_iff]; omega
  ·have : 0 < q.L.length := List.length_pos_iff.2 hL
   rw [if_pos (by omega), decide_eq_true (by omega), M.a25]; try dsimp only
   rw [if_pos rfl, if_pos (by rfl)]
   refine ⟨99, 9999, rfl, .inr ⟨?_, rfl, rfl⟩⟩
   intro h
   obtain ⟨x, hx⟩ := List.exists_mem_of_ne_nil _ hL
   exact h x hx
 | succ left ih =>
  intro hl q hn
  rw [qn_eq] at hn
  have loop : ∀ (L pre : List T29) (d : Int), q.L = pre ++ L → 0 ≤ d → d ≤ (left : Int) + 1 → (∀ k : Nat, (∀ x ∈ pre, QD k x) ↔ d ≤ (k : Int)) →
    ∃ d' n' : Int, M.a24 (((left + 1 : Nat) : Int), cv q, d, ((1 + qns pre : Nat) : Int), (pre.length : Int)) = some (d', n') ∧
    ((QD (left + 2) q ∧ n' = (qn q : Int) ∧ 1 ≤ d' ∧ d' ≤ (left : Int) + 2 ∧ ∀ k : Nat, QD k q ↔ d' ≤ (k : Int)) ∨ (¬ QD (left + 2) q ∧ d' = 99 ∧ n' = 9999)) := by
   intro L
   induction L with
   | nil =>
    intro pre d e h0 h1 hk
    rw [List.append_nil] at e
    rw [M.a24]; try dsimp only
    rw [cv_L, List.length_map, if_neg (by rw [e]; simp), M.a25]; try dsimp only
    rw [if_neg (by decide), wr_i64 (by omega) (by omega)]
    refine ⟨d + 1, _, rfl, .inl ⟨?_, by rw [qn_eq, e], by omega, by omega, fun k => ?_⟩⟩
    ·show ∀ x ∈ q.L, QD (left + 1) x
     rw [e]; exact (hk (left + 1)).2 (by omega)
    ·cases k with
     | zero =>
      simp only [QD]
      constructor
      ·exact fun h => h.elim
      ·intro h; omega
     | succ k =>
      show (∀ x ∈ q.L, QD k x) ↔ _
      rw [e, hk k]; omega
   | cons x L ihL =>
    intro pre d e h0 h1 hk
    have hlen : q.L.length = pre.length + (L.length + 1) := by rw [e]; simp
    have hx : x ∈ q.L := by rw [e]; simp
    have hl2 := qns_len q.L
    have hnx := qn_mem hx
    have hsum : qns q.L = qns pre + (qn x + qns L) := by rw [e, qns_append, qns]
    obtain ⟨dx, nx, k1, k2⟩ := ih (by omega) x (by omega)
    rw [M.a24]; try dsimp only
    rw [cv_L, List.length_map, if_pos (by omega), decide_eq_true (by omega), M.a25]; try dsimp only
    rw [cv_L, List.length_map, if_pos rfl, if_neg (by omega), if_pos (by omega), if_pos (by omega), gi_map _ _ (by omega), show q.L[pre.length] = x by simp [e], wr_i64 (x := ((left + 1 : Nat) : Int) - 1) (by omega) (by omega), show ((left + 1 : Nat) : Int) - 1 = (left : Int) by omega, k1, bnd]; try dsimp only
    rcases k2 with ⟨g1, rfl, g3, g4, g5⟩ | ⟨g1, rfl, rfl⟩
    ·rw [wr_i64 (x := ((1 + qns pre : Nat) : Int) + _) (by omega) (by omega), if_neg (by omega)]
     have hmx : 0 ≤ imx d dx ∧ imx d dx ≤ (left : Int) + 1 := by simp only [imx]; split <;> omega
     rw [decide_eq_false (by omega), M.a4o]; try dsimp only
     rw [if_neg (by decide), wr_i64 (x := (pre.length : Int) + 1) (by omega) (by omega)]
     have := ihL (pre ++ [x]) (imx d dx) (by rw [e]; simp) hmx.1 hmx.2 (fun k => by
      have hh : (∀ y ∈ pre ++ [x], QD k y) ↔ (∀ y ∈ pre, QD k y) ∧ QD k x := by
       constructor
       ·intro h; exact ⟨fun y hy => h y (by simp [hy]), h x (by simp)⟩
       ·rintro ⟨h1, h2⟩ y hy
        rcases List.mem_append.1 hy with hy | hy
        ·exact h1 y hy
        ·simp at hy; rw [hy]; exact h2
      rw [hh, hk k, g5 k]
      simp only [imx]
      split <;> omega)
     rw [show (((pre ++ [x]).length : Nat) : Int) = (pre.length : Int) + 1 by simp, show ((1 + qns (pre ++ [x]) : Nat) : Int) = ((1 + qns pre : Nat) : Int) + (qn x : Int) by rw [qns_append, qns, qns]; push_cast; omega] at this
     exact this
    ·rw [wr_i64 (x := ((1 + qns pre : Nat) : Int) + 9999) (by omega) (by omega), if_pos (by omega), M.a4o]; try dsimp only
     rw [if_pos rfl]
     exact ⟨99, 9999, rfl, .inr ⟨fun h => g1 (h x hx), rfl, rfl⟩⟩
  rw [M.a23]; try dsimp only
  obtain ⟨d', n', k1, k2⟩ := loop q.L [] 0 rfl (by omega) (by omega) (fun k => by simp)
  refine ⟨d', n', k1, ?_⟩
  rcases k2 with ⟨a, b, c, d, f⟩ | h
  ·exact .inl ⟨a, b, c, by push_cast; omega, f⟩
  ·exact .inr h
theorem rshape_ok (n : Nat) : ∀ q : T29, qn q ≤ n → qn q ≤ 4000 → M.a3f (cv q) = some (decide (Rq q)) := by
 induction n with
 | zero => intro q h; have := qn_pos q; omega
 | succ n ih =>
  intro q hn hq
  have hqe := qn_eq q
  have hll := qns_len q.L
  have hR := Rq_eq q
  have hL0 : ((q.L.length : Int) = 0) ↔ q.L = [] := by
   constructor
   ·intro h; exact List.eq_nil_of_length_eq_zero (by omega)
   ·intro h; rw [h]; rfl
  have loop : ∀ (R pre : List T29) (b : Bool), q.L = pre ++ R → M.a3g (cv q, b, (pre.length : Int)) = some (decide (b = true ∧ ∀ x ∈ R, Rq x)) := by
   intro R
   induction R with
   | nil =>
    intro pre b e
    rw [M.a3g]; try dsimp only
    rw [cv_L, List.length_map, if_neg (by rw [e]; simp), M.a4p]; try dsimp only
    rw [if_neg (by decide)]
    cases b <;> simp
   | cons x R ihR =>
    intro pre b e
    have hlen : q.L.length = pre.length + (R.length + 1) := by rw [e]; simp
    have hx : x ∈ q.L := by rw [e]; simp
    have hqx := qn_mem hx
    rw [M.a3g]; try dsimp only
    rw [cv_L, List.length_map, if_pos (by omega), M.a4p]; try dsimp only
    cases b with
    | false => rw [if_neg (by decide)]; simp
    | true =>
     rw [cv_L, List.length_map, if_pos rfl, if_pos (by omega), if_pos (by omega), gi_map _ _ (by omega), show q.L[pre.length] = x by simp [e], ih x (by omega) (by omega), bnd, wr_i64 (by omega) (by omega)]
     have := ihR (pre ++ [x]) (decide (Rq x)) (by rw [e]; simp)
     rw [show (((pre ++ [x]).length : Nat) : Int) = (pre.length : Int) + 1 by simp] at this
     rw [this]
     congr 1
     rw [decide_eq_decide]
     simp
  have l1 : ∀ b, M.a14 (cv q, b) = some (decide (b = true ∧ ∀ x ∈ q.L, Rq x)) := by
   intro b
   rw [M.a14]; try dsimp only
   exact loop q.L [] b rfl
  have e01 : (if (cv q).Op = 0 then M.a26 (cv q, (cv q).Op, true) else M.a26 (cv q, (cv q).Op, decide ((cv q).Op = 1))) = M.a26 (cv q, q.Op, decide (q.Op = 0 ∨ q.Op = 1)) := by
   rw [cv_op]
   by_cases h : q.Op = 0
   ·rw [if_pos h]; simp [h]
   ·rw [if_neg h]; simp [h]
  rw [M.a3f]; try dsimp only
  rw [e01, M.a26]; try dsimp only
  rw [cv_text, cv_L, List.length_map]
  by_cases h01 : q.Op = 0 ∨ q.Op = 1
  ·rw [decide_eq_true h01, if_pos rfl]
   by_cases ht : q.Text = eS
   ·rw [if_pos ((eq_eS _).2 ht), l1]
    congr 1
    rw [decide_eq_decide, decide_eq_true_eq, hL0, hR]
    constructor
    ·intro h; exact .inl ⟨h01, ht, h.1⟩
    ·rintro (h | h | h)
     ·exact ⟨h.2.2, by rw [h.2.2]; simp⟩
     ·omega
     ·omega
   ·rw [if_neg (fun h => ht ((eq_eS _).1 h)), l1]
    congr 1
    rw [decide_eq_decide, hR]
    constructor
    ·intro h; cases h.1
    ·rintro (h | h | h)
     ·exact absurd h.2.1 ht
     ·omega
     ·omega
  ·rw [decide_eq_false h01, if_neg (by decide)]
   by_cases h2 : q.Op = 2
   ·rw [if_pos h2]
    by_cases ht : (q.Text.size : Int) = 3
    ·rw [if_pos ht, l1]
     congr 1
     rw [decide_eq_decide, decide_eq_true_eq, hL0, hR]
     constructor
     ·intro h; exact .inr (.inl ⟨h2, by omega, h.1⟩)
     ·rintro (h | h | h)
      ·omega
      ·exact ⟨h.2.2, by rw [h.2.2]; simp⟩
      ·omega
    ·rw [if_neg ht, l1]
     congr 1
     rw [decide_eq_decide, hR]
     constructor
     ·intro h; cases h.1
     ·rintro (h | h | h)
      ·omega
      ·exact absurd (by rw [h.2.1]; rfl) ht
      ·omega
   ·rw [if_neg h2]
    have e34 : (if q.Op = 3 then M.a27 (cv q, true) else M.a27 (cv q, decide (q.Op = 4))) = M.a27 (cv q, decide (q.Op = 3 ∨ q.Op = 4)) := by
     by_cases h : q.Op = 3
     ·rw [if_pos h]; simp [h]
     ·rw [if_neg h]; simp [h]
    rw [e34, M.a27]; try dsimp only
    by_cases h34 : q.Op = 3 ∨ q.Op = 4
    ·rw [decide_eq_true h34, if_pos rfl, cv_text, l1]
     congr 1
     rw [decide_eq_decide, eq_eS, hR]
     constructor
     ·intro h; exact .inr (.inr ⟨h34, h.1, h.2⟩)
     ·rintro (h | h | h)
      ·omega
      ·omega
      ·exact ⟨h.2.1, h.2.2⟩
    ·rw [decide_eq_false h34, if_neg (by decide), decide_eq_false]
     rw [hR]
     rintro (h | h | h)
     ·exact h01 h.1
     ·exact h2 h.1
     ·exact h34 h.1
theorem rqcheck_ok (q : T29) (hq : qn q ≤ 3999) : M.a4q (cv q) = some (if QD 8 q ∧ Rq q then 0 else 2) := by
 obtain ⟨d, n, k1, k2⟩ := rdeep_ok 8 (by omega) q (by omega)
 rw [show ((8 : Nat) : Int) = 8 from rfl] at k1
 rw [M.a4q, k1, bnd]; try dsimp only
 rcases k2 with ⟨g1, rfl, g3, g4, g5⟩ | ⟨g1, rfl, rfl⟩
 ·have h8 := g5 8
  by_cases hd : d > 8
  ·rw [if_pos hd, if_neg fun h => by have := h8.1 h.1; omega]
  ·have hq8 : QD 8 q := h8.2 (by omega)
   rw [if_neg hd, if_neg (by omega), rshape_ok (qn q) q (Nat.le_refl _) (by omega), bnd]
   by_cases hr : Rq q
   ·rw [decide_eq_true hr, if_pos rfl, if_pos ⟨hq8, hr⟩]
   ·rw [decide_eq_false hr, if_neg (by decide), if_neg fun h => hr h.2]
 ·rw [if_pos (by omega), if_neg fun h => g1 (h.1.mono (by omega))]
def FQ : Nat → T29 → Prop
 | 0, _ => True
 | e + 1, q => q.L.length ≤ 9223372036854775807 ∧ ∀ x ∈ q.L, FQ e x
theorem eta29 (q : T29) : (⟨q.Op, q.Text, q.L⟩ : T29) = q := by cases q; rfl
theorem imn_le (n : Nat) : 0 ≤ imn (n : Int) 5 ∧ imn (n : Int) 5 ≤ (n : Int) := by
 unfold imn; split <;> omega
theorem qcut_ok (left : Nat) : left ≤ 130 → ∀ (q : T29) (b : Int), (∀ e, FQ e q) → 1 ≤ b → b ≤ 100 → ∃ (o : T29) (b' : Int), M.a12 (q, (left : Int), b) = some (o, b') ∧ 0 ≤ b' ∧ b' ≤ b - qn o ∧ QD (left + 1) o := by
 induction left with
 | zero =>
  intro hl q b hf h1 h2
  have hi := imn_le q.Text.size
  refine ⟨⟨q.Op, ss q.Text 0 (imn (q.Text.size : Int) 5), []⟩, b - 1, ?_, by omega, by rw [qn_eq, qns]; omega, by simp [QD]⟩
  rw [M.a12]; try dsimp only
  rw [if_pos hi.1, if_pos hi.2, wr_i64 (by omega) (by omega), M.a13]; try dsimp only
  have l1 : M.ak (0, q, ⟨0, ⟨#[]⟩, []⟩, ⟨q.Op, ss q.Text 0 (imn (q.Text.size : Int) 5), []⟩, 0, false, b - 1) = some (⟨q.Op, ss q.Text 0 (imn (q.Text.size : Int) 5), []⟩, b - 1) := by
   rw [M.ak]; try dsimp only
   rw [if_neg (by decide)]
  by_cases hL : (0 : Int) < (q.L.length : Int)
  ·rw [if_pos hL, if_neg (by omega)]; exact l1
  ·rw [if_neg hL]; exact l1
 | succ left ih =>
  intro hl q b hf h1 h2
  have hi := imn_le q.Text.size
  have hlen := (hf 1).1
  have loop : ∀ (R pre : List T29) (acc : T29) (c : Int), q.L = pre ++ R → 0 ≤ c → c + (acc.L.length : Int) ≤ 100 →
    ∃ (ys : List T29) (c' : Int), M.a13 (((left + 1 : Nat) : Int), q, ⟨0, ⟨#[]⟩, []⟩, acc, (pre.length : Int), c) = some (⟨acc.Op, acc.Text, acc.L ++ ys⟩, c') ∧ 0 ≤ c' ∧ c' ≤ c - qns ys ∧ (∀ y ∈ ys, QD (left + 1) y) := by
   intro R
   induction R with
   | nil =>
    intro pre acc c e hc ha
    refine ⟨[], c, ?_, hc, by rw [qns]; omega, by simp⟩
    rw [M.a13]; try dsimp only
    rw [if_neg (by rw [e]; simp), M.ak]; try dsimp only
    rw [if_neg (by decide), List.append_nil, eta29]
   | cons x R ihR =>
    intro pre acc c e hc ha
    have hl2 : q.L.length = pre.length + (R.length + 1) := by rw [e]; simp
    have hx : x ∈ q.L := by rw [e]; simp
    rw [M.a13]; try dsimp only
    rw [if_pos (by omega), if_pos (by omega)]
    by_cases hc0 : c > 0
    ·rw [decide_eq_true hc0, M.ak]; try dsimp only
     obtain ⟨o, c1, k1, k2, k3, k4⟩ := ih (by omega) x c (fun e' => (hf (e' + 1)).2 x hx) (by omega) (by omega)
     have hno := qn_pos o
     rw [if_pos rfl, if_pos (by omega), if_pos (by omega), show gi q.L (pre.length : Int) = x by rw [e]; exact gi_mid pre x R, wr_i64 (x := ((left + 1 : Nat) : Int) - 1) (by omega) (by omega), show ((left + 1 : Nat) : Int) - 1 = (left : Int) by omega, k1, bnd]; try dsimp only
     rw [if_pos (by simp; omega), wr_i64 (by omega) (by omega)]
     obtain ⟨ys, c2, g1, g2, g3, g4⟩ := ihR (pre ++ [x]) ⟨acc.Op, acc.Text, acc.L ++ [o]⟩ c1 (by rw [e]; simp) k2 (by simp; omega)
     rw [show (((pre ++ [x]).length : Nat) : Int) = (pre.length : Int) + 1 by simp] at g1
     refine ⟨o :: ys, c2, ?_, g2, by rw [qns]; omega, fun y hy => ?_⟩
     ·rw [g1]; simp
     ·rcases List.mem_cons.1 hy with rfl | hy
      ·exact k4
      ·exact g4 y hy
    ·rw [decide_eq_false hc0, M.ak]; try dsimp only
     refine ⟨[], c, ?_, hc, by rw [qns]; omega, by simp⟩
     rw [if_neg (by decide), List.append_nil, eta29]
  obtain ⟨ys, c', g1, g2, g3, g4⟩ := loop q.L [] ⟨q.Op, ss q.Text 0 (imn (q.Text.size : Int) 5), []⟩ (b - 1) rfl (by omega) (by simp; omega)
  refine ⟨⟨q.Op, ss q.Text 0 (imn (q.Text.size : Int) 5), ys⟩, c', ?_, g2, by rw [qn_eq]; push_cast; omega, g4⟩
  rw [M.a12]; try dsimp only
  rw [if_pos hi.1, if_pos hi.2, wr_i64 (by omega) (by omega)]
  have g1' : M.a13 (((left + 1 : Nat) : Int), q, ⟨0, ⟨#[]⟩, []⟩, ⟨q.Op, ss q.Text 0 (imn (q.Text.size : Int) 5), []⟩, 0, b - 1) = _ := g1
  rw [g1']
  rfl
theorem plain_ok (left : Nat) : left ≤ 1000 → ∀ q : T29, QD (left + 1) q → qn q ≤ 100000000 → M.aa (q, (left : Int)) = some (cv q) := by
 induction left with
 | zero =>
  intro hl q hq hn
  have hL : q.L = [] := by
   cases h : q.L with
   | nil => rfl
   | cons x t => exact absurd (hq x (by rw [h]; simp)) id
  rw [M.aa]; try dsimp only
  rw [M.a22]; try dsimp only
  rw [hL, if_neg (by simp), M.a3e]; try dsimp only
  rw [if_neg (by decide)]
  congr 1
  cases q
  subst hL
  rw [cv, cvs]
 | succ left ih =>
  intro hl q hq hn
  have hqn := qn_eq q
  have hll := qns_len q.L
  have loop : ∀ (R pre : List T29) (o : Int) (t : ByteArray), q.L = pre ++ R → M.a22 (((left + 1 : Nat) : Int), q, ⟨0, ⟨#[]⟩, []⟩, ⟨o, t, pre.map cv⟩, (pre.length : Int)) = some ⟨o, t, q.L.map cv⟩ := by
   intro R
   induction R with
   | nil =>
    intro pre o t e
    rw [M.a22]; try dsimp only
    rw [if_neg (by rw [e]; simp), M.a3e]; try dsimp only
    rw [if_neg (by decide), e, List.append_nil]
   | cons x R ihR =>
    intro pre o t e
    have hl2 : q.L.length = pre.length + (R.length + 1) := by rw [e]; simp
    have hx : x ∈ q.L := by rw [e]; simp
    have hxn := qn_mem hx
    rw [M.a22]; try dsimp only
    rw [if_pos (by omega), decide_eq_true (by omega), M.a3e]; try dsimp only
    rw [if_pos rfl, if_pos (by omega), if_pos (by omega), show gi q.L (pre.length : Int) = x by rw [e]; exact gi_mid pre x R, wr_i64 (x := ((left + 1 : Nat) : Int) - 1) (by omega) (by omega), show ((left + 1 : Nat) : Int) - 1 = (left : Int) by omega, ih (by omega) x (hq x hx) (by omega), bnd]; try dsimp only
    rw [if_pos (by simp; omega), wr_i64 (by omega) (by omega)]
    have := ihR (pre ++ [x]) o t (by rw [e]; simp)
    rw [show (((pre ++ [x]).length : Nat) : Int) = (pre.length : Int) + 1 by simp, List.map_append] at this
    exact this
  rw [M.aa]; try dsimp only
  have := loop q.L [] q.Op q.Text rfl
  rw [show (([] : List T29).length : Int) = 0 from rfl] at this
  rw [show ([] : List T29).map cv = [] from rfl] at this
  rw [this, ← cvs_eq]
  cases q
  rw [cv]
theorem sless_eq (x y : ByteArray) : M.a5v x y = some (decide (Tl x < Tl y)) := by
 rw [M.a5v, M.a5u, bnd, if_neg (by simp), lessS]
theorem halfS (lo hi : Nat) (h : lo < hi) (hb : hi ≤ 1073741824) : wr .i64 (ishr .u64 (wr .u64 (wr .i64 ((lo : Int) + (hi : Int)))) 1) = (((lo + hi) / 2 : Nat) : Int) := by
 have e1 : wr .i64 ((lo : Int) + (hi : Int)) = (lo : Int) + hi := wr_i64 (by omega) (by omega)
 have e2 : wr .u64 ((lo : Int) + (hi : Int)) = (lo : Int) + hi := by
  simp only [wr, IntKind.wrap, IntKind.signed, IntKind.bits]
  simp
  omega
 rw [e1, e2]
 have : ishr .u64 ((lo : Int) + (hi : Int)) 1 = (((lo + hi) / 2 : Nat) : Int) := by
  show Int.fdiv _ _ = _
  have e : (2 : Int) ^ (min (Int.toNat 1) IntKind.u64.bits) = 2 := by decide
  rw [e, Int.fdiv_eq_ediv_of_nonneg _ (by omega)]
  omega
 rw [this, wr_i64 (by omega) (by omega)]
theorem sltT {a b c : ByteArray} (h : Tl a < Tl b) (k : Tl b < Tl c) : Tl a < Tl c := List.lt_trans h k
theorem sltI (a : ByteArray) : ¬ Tl a < Tl a := List.lt_irrefl _
theorem ssearch_l0 (xs : List ByteArray) (x : ByteArray) (hr : RzS xs) (hl : xs.length ≤ 1073741824) (k : Nat) : ∀ lo hi : Nat, lo ≤ hi → hi ≤ xs.length → hi - lo ≤ k → (∀ i (h : i < xs.length), i < lo → Tl xs[i] < Tl x) → (∀ i (h : i < xs.length), hi ≤ i → ¬ Tl xs[i] < Tl x) →
  ∃ p, M.a1y (xs, x, (xs.length : Int), (lo : Int), (hi : Int)) = some (p, decide (x ∈ xs)) := by
 induction k with
 | zero =>
  intro lo hi h1 h2 h3 h4 h5
  have : hi = lo := by omega
  subst this
  rw [M.a1y]; try dsimp only
  rw [if_neg (by omega)]
  by_cases hlt : hi < xs.length
  ·rw [if_pos (by omega), if_pos (by omega), if_pos (by omega), gi_nat xs hi hlt]
   by_cases h : xs[hi] = x
   ·rw [if_pos (by rw [eqS, decide_eq_true h])]
    exact ⟨_, by rw [decide_eq_true (h ▸ List.getElem_mem hlt)]⟩
   ·rw [if_neg (by rw [eqS, decide_eq_false h]; decide)]
    refine ⟨(hi : Int), ?_⟩
    have hn : x ∉ xs := by
     intro hm
     obtain ⟨i, hi', e⟩ := List.getElem_of_mem hm
     subst e
     by_cases hc : i < hi
     ·exact sltI _ (h4 i hi' hc)
     ·have hne : hi ≠ i := by rintro rfl; exact h rfl
      exact h5 hi hlt (by omega) (List.pairwise_iff_getElem.1 hr hi i hlt hi' (by omega))
    rw [M.a5w, bnd, if_neg (by simp), decide_eq_false hn]
  ·rw [if_neg (by omega)]
   refine ⟨(hi : Int), ?_⟩
   have hn : x ∉ xs := by
    intro hm
    obtain ⟨i, hi', e⟩ := List.getElem_of_mem hm
    subst e
    exact sltI _ (h4 i hi' (by omega))
   rw [decide_eq_false hn]
 | succ k ih =>
  intro lo hi h1 h2 h3 h4 h5
  by_cases hlt : lo < hi
  ·have hm := halfS lo hi hlt (by omega)
   have hmid : (lo + hi) / 2 < xs.length := by omega
   rw [M.a1y]; try dsimp only
   rw [if_pos (by omega), hm, if_pos (by omega), if_pos (by omega), bnd, gi_nat xs _ hmid, sless_eq, bnd]
   by_cases h : Tl xs[(lo + hi) / 2] < Tl x
   ·rw [if_pos (decide_eq_true h), M.a4m]; try dsimp only
    rw [wr_i64 (by omega) (by omega), show (((lo + hi) / 2 : Nat) : Int) + 1 = (((lo + hi) / 2 + 1 : Nat) : Int) by omega]
    refine ih _ _ (by omega) h2 (by omega) (fun i hi' hc => ?_) h5
    by_cases e : i = (lo + hi) / 2
    ·subst e; exact h
    ·exact sltT (List.pairwise_iff_getElem.1 hr i ((lo + hi) / 2) hi' hmid (by omega)) h
   ·rw [if_neg (by rw [decide_eq_false h]; decide), M.a4m]; try dsimp only
    refine ih _ _ (by omega) (by omega) (by omega) h4 (fun i hi' hc => ?_)
    by_cases e : i = (lo + hi) / 2
    ·subst e; exact h
    ·exact fun h6 => h (sltT (List.pairwise_iff_getElem.1 hr ((lo + hi) / 2) i hmid hi' (by omega)) h6)
  ·exact ih lo hi h1 h2 (by omega) h4 h5
theorem ssearch (xs : List ByteArray) (x : ByteArray) (hr : RzS xs) (hl : xs.length ≤ 1073741824) : ∃ p, M.a5x xs x = some (p, decide (x ∈ xs)) := by
 rw [M.a5x]
 exact ssearch_l0 xs x hr hl xs.length 0 xs.length (by omega) (by omega) (by omega) (by intro i _ h; omega) (by intro i h h'; omega)
mutual
def FT (g : List ByteArray) : T29 → Prop
 | ⟨o, t, L⟩ => (o = 2 ∧ t ∈ g) ∨ (o = 3 ∧ FTall g L) ∨ (o = 4 ∧ FTany g L) ∨ o = 0
def FTall (g : List ByteArray) : List T29 → Prop
 | [] => True
 | x :: xs => FT g x ∧ FTall g xs
def FTany (g : List ByteArray) : List T29 → Prop
 | [] => False
 | x :: xs => FT g x ∨ FTany g xs
end
theorem FTall_iff {g : List ByteArray} : ∀ {L : List T29}, FTall g L ↔ ∀ x ∈ L, FT g x
 | [] => by simp [FTall]
 | x :: xs => by rw [FTall, FTall_iff (L := xs)]; simp
theorem FTany_iff {g : List ByteArray} : ∀ {L : List T29}, FTany g L ↔ ∃ x ∈ L, FT g x
 | [] => by simp [FTany]
 | x :: xs => by rw [FTany, FTany_iff (L := xs)]; simp
theorem FT_eq (g : List ByteArray) (q : T29) : FT g q ↔ (q.Op = 2 ∧ q.Text ∈ g) ∨ (q.Op = 3 ∧ ∀ x ∈ q.L, FT g x) ∨ (q.Op = 4 ∧ ∃ x ∈ q.L, FT g x) ∨ q.Op = 0 := by
 cases q
 rw [FT, FTall_iff, FTany_iff]
theorem fits_ok (g : List ByteArray) (hg : RzS g) (hl : g.length ≤ 1073741824) (n : Nat) : ∀ q : T29, qn q ≤ n → qn q ≤ 1000000 → M.a1z (q, g) = some (decide (FT g q)) := by
 induction n with
 | zero => intro q h; have := qn_pos q; omega
 | succ n ih =>
  intro q hn hb
  have hq := qn_eq q
  have hll := qns_len q.L
  have ch : ∀ x ∈ q.L, M.a1z (x, g) = some (decide (FT g x)) := fun x hx => by
   have := qn_mem hx
   exact ih x (by omega) (by omega)
  have all : ∀ (R pre : List T29), q.L = pre ++ R → (∀ x ∈ pre, FT g x) → ∃ j : Int, M.a20 (q.L, (q.L.length : Int), (pre.length : Int), g) = some j ∧ decide (j ≥ 0) = !decide (∀ x ∈ q.L, FT g x) := by
   intro R
   induction R with
   | nil =>
    intro pre e hp
    rw [List.append_nil] at e
    refine ⟨-1, ?_, ?_⟩
    ·rw [M.a20]; try dsimp only
     rw [if_neg (by rw [e]; omega)]
    ·rw [decide_eq_true (e ▸ hp : ∀ x ∈ q.L, FT g x)]; rfl
   | cons x R ihR =>
    intro pre e hp
    have hlen : q.L.length = pre.length + (R.length + 1) := by rw [e]; simp
    have hx : x ∈ q.L := by rw [e]; simp
    rw [M.a20]; try dsimp only
    rw [if_pos (by omega), if_pos (by omega), if_pos (by omega), show gi q.L (pre.length : Int) = x by rw [e]; exact gi_mid pre x R, M.a6u]; try dsimp only
    rw [M.a4n]; try dsimp only
    rw [ch x hx, bnd, bnd, bnd]
    by_cases hf : FT g x
    ·rw [decide_eq_true hf, if_neg (by decide), wr_i64 (by omega) (by omega), show (pre.length : Int) + 1 = (((pre ++ [x]).length : Nat) : Int) by simp]
     exact ihR (pre ++ [x]) (by rw [e]; simp) fun y hy => by
      rcases List.mem_append.1 hy with hy | hy
      ·exact hp y hy
      ·rw [List.mem_singleton.1 hy]; exact hf
    ·rw [decide_eq_false hf, if_pos (by decide)]
     refine ⟨_, rfl, ?_⟩
     rw [decide_eq_true (by omega), decide_eq_false (fun h => hf (h x hx))]; rfl
  have any : ∀ (R pre : List T29), q.L = pre ++ R → (∀ x ∈ pre, ¬ FT g x) → ∃ j : Int, M.a21 (q.L, (q.L.length : Int), (pre.length : Int), g) = some j ∧ decide (j ≥ 0) = decide (∃ x ∈ q.L, FT g x) := by
   intro R
   induction R with
   | nil =>
    intro pre e hp
    rw [List.append_nil] at e
    refine ⟨-1, ?_, ?_⟩
    ·rw [M.a21]; try dsimp only
     rw [if_neg (by rw [e]; omega)]
    ·rw [decide_eq_false (show ¬ ∃ x ∈ q.L, FT g x from fun ⟨x, hx, h⟩ => hp x (e ▸ hx) h)]; rfl
   | cons x R ihR =>
    intro pre e hp
    have hlen : q.L.length = pre.length + (R.length + 1) := by rw [e]; simp
    have hx : x ∈ q.L := by rw [e]; simp
    rw [M.a21]; try dsimp only
    rw [if_pos (by omega), if_pos (by omega), if_pos (by omega), show gi q.L (pre.length : Int) = x by rw [e]; exact gi_mid pre x R, M.a4n]; try dsimp only
    rw [ch x hx, bnd, bnd]
    by_cases hf : FT g x
    ·rw [decide_eq_true hf, if_pos rfl]
     refine ⟨_, rfl, ?_⟩
     rw [decide_eq_true (by omega), decide_eq_true ⟨x, hx, hf⟩]
    ·rw [decide_eq_false hf, if_neg (by decide), wr_i64 (by omega) (by omega), show (pre.length : Int) + 1 = (((pre ++ [x]).length : Nat) : Int) by simp]
     exact ihR (pre ++ [x]) (by rw [e]; simp) fun y hy => by
      rcases List.mem_append.1 hy with hy | hy
      ·exact hp y hy
      ·rw [List.mem_singleton.1 hy]; exact hf
  have fe := FT_eq g q
  rw [M.a1z]; try dsimp only
  by_cases o2 : q.Op = 2
  ·obtain ⟨p, hp⟩ := ssearch g q.Text hg hl
   rw [if_pos o2, hp, bnd]
   have : FT g q ↔ q.Text ∈ g := by rw [fe]; simp [o2]
   simp only [this]
  rw [if_neg o2]
  by_cases o3 : q.Op = 3
  ·obtain ⟨j, hj, he⟩ := all q.L [] rfl (by simp)
   rw [if_pos o3, M.a6r]; try dsimp only
   rw [M.a6t]; try dsimp only
   have hj' : M.a20 (q.L, (q.L.length : Int), 0, g) = some j := hj
   rw [hj', bnd, bnd, he]
   have : FT g q ↔ ∀ x ∈ q.L, FT g x := by rw [fe]; simp [o3]
   simp only [this, Bool.not_not]
  rw [if_neg o3]
  by_cases o4 : q.Op = 4
  ·obtain ⟨j, hj, he⟩ := any q.L [] rfl (by simp)
   rw [if_pos o4, M.a6s]; try dsimp only
   rw [M.a6v]; try dsimp only
   have hj' : M.a21 (q.L, (q.L.length : Int), 0, g) = some j := hj
   rw [hj', bnd, bnd, he]
   have : FT g q ↔ ∃ x ∈ q.L, FT g x := by rw [fe]; simp [o4]
   simp only [this]
  rw [if_neg o4]
  have : FT g q ↔ q.Op = 0 := by rw [fe]; simp [o2, o3, o4]
  simp only [this]
theorem wins_small (s : ByteArray) (hs : s.size ≤ 1000000) : (nrm (wins s)).length ≤ 1073741824 := by
 have := nrm_len (wins s)
 rw [wins_len] at this
 omega
theorem Fits_ok (q : T29) (s : ByteArray) (hq : qn q ≤ 3999) (hs : s.size ≤ 1000000) : M.a5y q s = some (if QD 8 q ∧ Rq q then (decide (FT (nrm (wins s)) q), 0) else (false, 2)) := by
 rw [M.a5y, qcheck_ok q hq, bnd]
 by_cases h : QD 8 q ∧ Rq q
 ·rw [if_pos h, if_pos rfl, grams_ok s hs, bnd, fits_ok _ (nrm_rises _) (wins_small s hs) (qn q) q (Nat.le_refl _) (by omega), bnd, if_pos h]
 ·rw [if_neg h, if_neg (by decide), if_neg h]
theorem ss_size (s : ByteArray) (i j : Nat) (h1 : i ≤ j) (h2 : j ≤ s.size) : (ss s (i : Int) (j : Int)).size = j - i := by
 simp only [ss, ByteArray.size_extract, Int.toNat_natCast]
 omega
theorem gi_natL (xs : List (List Int)) (i : Nat) (h : i < xs.length) : gi xs (i : Int) = xs[i] := by simp [gi, h]
theorem gi_zero (x : Int) (xs : List Int) : gi (x :: xs) 0 = x := rfl
theorem sl_tail {α : Type} (x : α) (xs : List α) : sl (x :: xs) 1 (((x :: xs).length : Nat) : Int) = xs := by
 simp only [sl, Int.toNat_natCast, List.take_length]
 rfl
abbrev Rz (xs : List Int) : Prop := xs.Pairwise (· < ·)
theorem rz_cons {x : Int} {xs : List Int} : Rz (x :: xs) ↔ (∀ z ∈ xs, x < z) ∧ Rz xs := List.pairwise_cons
theorem rz_ext {a : List Int} : ∀ {b : List Int}, Rz a → Rz b → (∀ v, v ∈ a ↔ v ∈ b) → a = b := by
 induction a with
 | nil =>
  intro b _ _ h
  cases b with
  | nil => rfl
  | cons y ys => exact absurd ((h y).2 (by simp)) (by simp)
 | cons x xs ih =>
  intro b ha hb h
  cases b with
  | nil => exact absurd ((h x).1 (by simp)) (by simp)
  | cons y ys =>
   rw [rz_cons] at ha hb
   have hxy : x = y := by
    rcases List.mem_cons.1 ((h x).1 (by simp)) with e | e
    ·exact e
    ·rcases List.mem_cons.1 ((h y).2 (by simp)) with e' | e'
     ·exact e'.symm
     ·have h1 := hb.1 x e
      have h2 := ha.1 y e'
      omega
   subst hxy
   congr 1
   refine ih ha.2 hb.2 fun v => ⟨fun hv => ?_, fun hv => ?_⟩
   ·rcases List.mem_cons.1 ((h v).1 (by simp [hv])) with e | e
    ·have := ha.1 v hv; omega
    ·exact e
   ·rcases List.mem_cons.1 ((h v).2 (by simp [hv])) with e | e
    ·have := hb.1 v hv; omega
    ·exact e
def keep (f : Int → Bool) (m v : Int) : List Int := if f m then [v] else []
def mg (f : Int → Bool) : List Int → List Int → List Int
 | [], [] => []
 | x :: xs, [] => keep f 1 x ++ mg f xs []
 | [], y :: ys => keep f 2 y ++ mg f [] ys
 | x :: xs, y :: ys => if x < y then keep f 1 x ++ mg f xs (y :: ys) else if y < x then keep f 2 y ++ mg f (x :: xs) ys else keep f 3 x ++ mg f xs ys
termination_by a b => a.length + b.length
def mk (a b : List Int) (v : Int) : Int := (if v ∈ a then 1 else 0) + (if v ∈ b then 2 else 0)
theorem mem_keep {f : Int → Bool} {m x v : Int} : v ∈ keep f m x ↔ f m = true ∧ v = x := by unfold keep; split <;> simp_all
theorem mem_mg (f : Int → Bool) (a b : List Int) : Rz a → Rz b → ∀ v, v ∈ mg f a b ↔ (v ∈ a ∨ v ∈ b) ∧ f (mk a b v) = true := by
 fun_induction mg f a b with
 | case1 => intro _ _ v; simp
 | case2 x xs ih =>
  intro ha hb v
  rw [rz_cons] at ha
  rw [List.mem_append, mem_keep, ih ha.2 hb v]
  have hx : x ∉ xs := fun h => absurd (ha.1 x h) (by omega)
  by_cases e : v = x
  ·subst e; simp [mk, hx]
  ·simp [mk, e]
 | case3 y ys ih =>
  intro ha hb v
  rw [rz_cons] at hb
  rw [List.mem_append, mem_keep, ih ha hb.2 v]
  have hy : y ∉ ys := fun h => absurd (hb.1 y h) (by omega)
  by_cases e : v = y
  ·subst e; simp [mk, hy]
  ·simp [mk, e]
 | case4 x xs y ys hlt ih =>
  intro ha hb v
  rw [rz_cons] at ha
  rw [List.mem_append, mem_keep, ih ha.2 hb v]
  rw [rz_cons] at hb
  have hx : x ∉ xs := fun h => absurd (ha.1 x h) (by omega)
  have hx2 : x ∉ ys := fun h => by have := hb.1 x h; omega
  by_cases e : v = x
  ·subst e
   have : v ≠ y := by omega
   simp [mk, hx, hx2, this]
  ·simp [mk, e]
 | case5 x xs y ys hlt hgt ih =>
  intro ha hb v
  rw [rz_cons] at hb
  rw [List.mem_append, mem_keep, ih ha hb.2 v]
  rw [rz_cons] at ha
  have hy : y ∉ ys := fun h => absurd (hb.1 y h) (by omega)
  have hy2 : y ∉ xs := fun h => by have := ha.1 y h; omega
  by_cases e : v = y
  ·subst e
   have : v ≠ x := by omega
   simp [mk, hy, hy2, this]
  ·simp [mk, e]
 | case6 x xs y ys hlt hgt ih =>
  intro ha hb v
  rw [rz_cons] at ha hb
  rw [List.mem_append, mem_keep, ih ha.2 hb.2 v]
  have hxy : x = y := by omega
  subst hxy
  have hx : x ∉ xs := fun h => absurd (ha.1 x h) (by omega)
  have hy : x ∉ ys := fun h => absurd (hb.1 x h) (by omega)
  by_cases e : v = x
  ·subst e; simp [mk, hx, hy]
  ·simp [mk, e]
theorem rz_keep {f : Int → Bool} {m x : Int} {l : List Int} (hl : Rz l) (h : ∀ v ∈ l, x < v) : Rz (keep f m x ++ l) := by
 unfold keep
 split
 ·exact List.pairwise_cons.2 ⟨h, hl⟩
 ·exact hl
theorem rz_mg (f : Int → Bool) (a b : List Int) : Rz a → Rz b → Rz (mg f a b) := by
 fun_induction mg f a b with
 | case1 => intro _ _; exact List.Pairwise.nil
 | case2 x xs ih =>
  intro ha hb
  rw [rz_cons] at ha
  exact rz_keep (ih ha.2 hb) fun v hv => by
   have := ((mem_mg f _ _ ha.2 hb v).1 hv).1
   simp at this; exact ha.1 v this
 | case3 y ys ih =>
  intro ha hb
  rw [rz_cons] at hb
  exact rz_keep (ih ha hb.2) fun v hv => by
   have := ((mem_mg f _ _ ha hb.2 v).1 hv).1
   simp at this; exact hb.1 v this
 | case4 x xs y ys hlt ih =>
  intro ha hb
  rw [rz_cons] at ha
  refine rz_keep (ih ha.2 hb) fun v hv => ?_
  have := ((mem_mg f _ _ ha.2 hb v).1 hv).1
  rw [rz_cons] at hb
  rcases this with h | h
  ·exact ha.1 v h
  ·rcases List.mem_cons.1 h with h | h
   ·omega
   ·have := hb.1 v h; omega
 | case5 x xs y ys hlt hgt ih =>
  intro ha hb
  rw [rz_cons] at hb
  refine rz_keep (ih ha hb.2) fun v hv => ?_
  have := ((mem_mg f _ _ ha hb.2 v).1 hv).1
  rw [rz_cons] at ha
  rcases this with h | h
  ·rcases List.mem_cons.1 h with h | h
   ·omega
   ·have := ha.1 v h; omega
  ·exact hb.1 v h
 | case6 x xs y ys hlt hgt ih =>
  intro ha hb
  rw [rz_cons] at ha hb
  refine rz_keep (ih ha.2 hb.2) fun v hv => ?_
  rcases ((mem_mg f _ _ ha.2 hb.2 v).1 hv).1 with h | h
  ·exact ha.1 v h
  ·have := hb.1 v h; omega
theorem len_keep (f : Int → Bool) (m x : Int) : (keep f m x).length ≤ 1 := by unfold keep; split <;> simp
theorem len_mg (f : Int → Bool) (a b : List Int) : (mg f a b).length ≤ a.length + b.length := by
 fun_induction mg f a b with
 | case1 => simp
 | case2 x xs ih => have := len_keep f 1 x; simp at ih ⊢; omega
 | case3 y ys ih => have := len_keep f 2 y; simp at ih ⊢; omega
 | case4 x xs y ys hlt ih => have := len_keep f 1 x; simp at ih ⊢; omega
 | case5 x xs y ys hlt hgt ih => have := len_keep f 2 y; simp at ih ⊢; omega
 | case6 x xs y ys hlt hgt ih => have := len_keep f 3 x; simp at ih ⊢; omega
def fBoth (m : Int) : Bool := decide (m = 3)
def fOne (m : Int) : Bool := !(decide (m = 0))
theorem mem_both {a b : List Int} (ha : Rz a) (hb : Rz b) (v : Int) : v ∈ mg fBoth a b ↔ v ∈ a ∧ v ∈ b := by
 rw [mem_mg _ _ _ ha hb]; unfold mk fBoth; by_cases h1 : v ∈ a <;> by_cases h2 : v ∈ b <;> simp [h1, h2]
theorem mem_one {a b : List Int} (ha : Rz a) (hb : Rz b) (v : Int) : v ∈ mg fOne a b ↔ v ∈ a ∨ v ∈ b := by
 rw [mem_mg _ _ _ ha hb]; unfold mk fOne; by_cases h1 : v ∈ a <;> by_cases h2 : v ∈ b <;> simp [h1, h2]
theorem o01 : ior .i64 0 1 = 1 := by decide +kernel
theorem o02 : ior .i64 0 2 = 2 := by decide +kernel
theorem o12 : ior .i64 1 2 = 3 := by decide +kernel
theorem a12 : iand .i64 1 2 = 0 := by decide +kernel
theorem a22 : iand .i64 2 2 = 2 := by decide +kernel
theorem a32 : iand .i64 3 2 = 2 := by decide +kernel
theorem a11 : iand .i64 1 1 = 1 := by decide +kernel
theorem a21 : iand .i64 2 1 = 0 := by decide +kernel
theorem a31 : iand .i64 3 1 = 1 := by decide +kernel
theorem thoser_one (acc a b : List Int) (v m : Int) (h : acc.length ≤ 1073741824) : M.a63 acc a b v m = some (acc ++ keep fOne m v) := by
 have e : M.a6x m = some (fOne m) := rfl
 simp only [M.a63, e, Option.bind_eq_bind, Option.bind_some, keep]
 cases fOne m
 ·simp
 ·rw [if_pos rfl, if_pos (by simp; omega), if_pos rfl]
theorem merge_one (n : Nat) : ∀ (a b acc : List Int), a.length + b.length ≤ n → acc.length + n ≤ 1073741824 → M.ac (acc, a, b) = some (acc ++ mg fOne a b, [], []) := by
 have z0 : (([] : List Int).length : Int) = 0 := rfl
 induction n with
 | zero =>
  intro a b acc hn hl
  obtain rfl : a = [] := List.eq_nil_of_length_eq_zero (by omega)
  obtain rfl : b = [] := List.eq_nil_of_length_eq_zero (by omega)
  rw [M.ac]; try dsimp only
  rw [if_neg (by omega), decide_eq_false (by omega), M.a16]; try dsimp only
  rw [if_neg Bool.false_ne_true, mg, List.append_nil]
 | succ n ih =>
  intro a b acc hn hl
  match a, b with
  | [], [] =>
   rw [M.ac]; try dsimp only
   rw [if_neg (by omega), decide_eq_false (by omega), M.a16]; try dsimp only
   rw [if_neg Bool.false_ne_true, mg, List.append_nil]
  | x :: xs, [] =>
   have hk := len_keep fOne 1 x
   have lx : ((x :: xs).length : Int) = (xs.length : Int) + 1 := by simp
   have ex := sl_tail x xs
   simp only [List.length_cons, List.length_nil] at hn
   have go := ih xs [] (acc ++ keep fOne 1 x) (by simp only [List.length_nil]; omega) (by simp only [List.length_append]; omega)
   rw [M.ac]; try dsimp only
   rw [if_pos (by omega)]
   rw [M.a16]; try dsimp only
   rw [if_pos rfl, if_pos (by omega)]
   rw [M.ao]; try dsimp only
   rw [if_pos rfl, o01]
   rw [M.a17]; try dsimp only
   rw [if_neg (by omega), if_neg (by omega)]
   rw [M.ap]; try dsimp only
   rw [if_neg Bool.false_ne_true]
   rw [M.a18]; try dsimp only
   rw [a12, if_pos rfl]
   rw [M.a19]; try dsimp only
   rw [a11, if_neg (by decide), if_pos (by omega), if_pos (by omega), ex, gi_zero]
   rw [M.a1a]; try dsimp only
   rw [thoser_one _ _ _ _ _ (by omega)]
   simp only [Option.bind_eq_bind, Option.bind_some]
   rw [go, mg, List.append_assoc]
  | [], y :: ys =>
   have hk := len_keep fOne 2 y
   have ly : ((y :: ys).length : Int) = (ys.length : Int) + 1 := by simp
   have ey := sl_tail y ys
   simp only [List.length_cons, List.length_nil] at hn
   have go := ih [] ys (acc ++ keep fOne 2 y) (by simp only [List.length_nil]; omega) (by simp only [List.length_append]; omega)
   rw [M.ac]; try dsimp only
   rw [if_neg (by omega), decide_eq_true (by omega)]
   rw [M.a16]; try dsimp only
   rw [if_pos rfl, if_neg (by omega), if_neg (by omega)]
   rw [M.ao]; try dsimp only
   rw [if_neg Bool.false_ne_true]
   rw [M.a17]; try dsimp only
   rw [if_pos (by omega)]
   rw [M.ap]; try dsimp only
   rw [if_pos rfl, o02]
   rw [M.a18]; try dsimp only
   rw [a22, if_neg (by decide), if_pos (by omega), if_pos (by omega), ey, gi_zero]
   rw [M.a19]; try dsimp only
   rw [a21, if_pos rfl]
   rw [M.a1a]; try dsimp only
   rw [thoser_one _ _ _ _ _ (by omega)]
   simp only [Option.bind_eq_bind, Option.bind_some]
   rw [go, mg, List.append_assoc]
  | x :: xs, y :: ys =>
   have lx : ((x :: xs).length : Int) = (xs.length : Int) + 1 := by simp
   have ly : ((y :: ys).length : Int) = (ys.length : Int) + 1 := by simp
   have ex := sl_tail x xs
   have ey := sl_tail y ys
   simp only [List.length_cons] at hn
   rw [M.ac]; try dsimp only
   rw [if_pos (by omega)]
   rw [M.a16]; try dsimp only
   rw [if_pos rfl, if_neg (by omega), if_pos (by omega), if_pos (by omega), if_pos (by omega), gi_zero, gi_zero]
   rcases Int.lt_trichotomy x y with hlt | heq | hgt
   ·have hk := len_keep fOne 1 x
    have go := ih xs (y :: ys) (acc ++ keep fOne 1 x) (by simp only [List.length_cons]; omega) (by simp only [List.length_append]; omega)
    rw [decide_eq_true (show x ≤ y by omega)]
    rw [M.ao]; try dsimp only
    rw [if_pos rfl, o01]
    rw [M.a17]; try dsimp only
    rw [if_neg (by omega), if_pos (by omega), if_pos (by omega), if_pos (by omega), gi_zero, gi_zero, decide_eq_false (show ¬ y ≤ x by omega)]
    rw [M.ap]; try dsimp only
    rw [if_neg Bool.false_ne_true]
    rw [M.a18]; try dsimp only
    rw [a12, if_pos rfl]
    rw [M.a19]; try dsimp only
    rw [a11, if_neg (by decide), if_pos (by omega), if_pos (by omega), ex, gi_zero]
    rw [M.a1a]; try dsimp only
    rw [thoser_one _ _ _ _ _ (by omega)]
    simp only [Option.bind_eq_bind, Option.bind_some]
    rw [go, mg, if_pos hlt, List.append_assoc]
   ·subst heq
    have hk := len_keep fOne 3 x
    have go := ih xs ys (acc ++ keep fOne 3 x) (by omega) (by simp only [List.length_append]; omega)
    rw [decide_eq_true (show x ≤ x by omega)]
    rw [M.ao]; try dsimp only
    rw [if_pos rfl, o01]
    rw [M.a17]; try dsimp only
    rw [if_neg (by omega), if_pos (by omega), if_pos (by omega), if_pos (by omega), gi_zero, gi_zero, decide_eq_true (show x ≤ x by omega)]
    rw [M.ap]; try dsimp only
    rw [if_pos rfl, o12]
    rw [M.a18]; try dsimp only
    rw [a32, if_neg (by decide), if_pos (by omega), if_pos (by omega), ey]
    rw [M.a19]; try dsimp only
    rw [a31, if_neg (by decide), if_pos (by omega), if_pos (by omega), ex, gi_zero]
    rw [M.a1a]; try dsimp only
    rw [thoser_one _ _ _ _ _ (by omega)]
    simp only [Option.bind_eq_bind, Option.bind_some]
    rw [go, mg, if_neg (Int.lt_irrefl x), if_neg (Int.lt_irrefl x), List.append_assoc]
   ·have hk := len_keep fOne 2 y
    have go := ih (x :: xs) ys (acc ++ keep fOne 2 y) (by simp only [List.length_cons]; omega) (by simp only [List.length_append]; omega)
    rw [decide_eq_false (show ¬ x ≤ y by omega)]
    rw [M.ao]; try dsimp only
    rw [if_neg Bool.false_ne_true]
    rw [M.a17]; try dsimp only
    rw [if_neg (by omega), if_pos (by omega), if_pos (by omega), if_pos (by omega), gi_zero, gi_zero, decide_eq_true (show y ≤ x by omega)]
    rw [M.ap]; try dsimp only
    rw [if_pos rfl, o02]
    rw [M.a18]; try dsimp only
    rw [a22, if_neg (by decide), if_pos (by omega), if_pos (by omega), ey, gi_zero]
    rw [M.a19]; try dsimp only
    rw [a21, if_pos rfl]
    rw [M.a1a]; try dsimp only
    rw [thoser_one _ _ _ _ _ (by omega)]
    simp only [Option.bind_eq_bind, Option.bind_some]
    rw [go, mg, if_neg (by omega), if_pos (by omega), List.append_assoc]
theorem those_one (a b : List Int) (h : a.length + b.length ≤ 1073741824) : M.a64 a b = some (mg fOne a b) := by
 simp only [M.a64, M.a4t, M.a6y, Option.bind_eq_bind, Option.bind_some]
 rw [merge_one (a.length + b.length) a b [] (Nat.le_refl _) (by simp; omega)]
 rfl
theorem thoser_both (acc a b : List Int) (v m : Int) (h : acc.length ≤ 1073741824) : M.a6a acc a b v m = some (acc ++ keep fBoth m v) := by
 have e : M.a70 m = some (fBoth m) := rfl
 simp only [M.a6a, e, Option.bind_eq_bind, Option.bind_some, keep]
 cases fBoth m
 ·simp
 ·rw [if_pos rfl, if_pos (by simp; omega), if_pos rfl]
theorem merge_both (n : Nat) : ∀ (a b acc : List Int), a.length + b.length ≤ n → acc.length + n ≤ 1073741824 → M.ad (acc, a, b) = some (acc ++ mg fBoth a b, [], []) := by
 have z0 : (([] : List Int).length : Int) = 0 := rfl
 induction n with
 | zero =>
  intro a b acc hn hl
  obtain rfl : a = [] := List.eq_nil_of_length_eq_zero (by omega)
  obtain rfl : b = [] := List.eq_nil_of_length_eq_zero (by omega)
  rw [M.ad]; try dsimp only
  rw [if_neg (by omega), decide_eq_false (by omega), M.a1b]; try dsimp only
  rw [if_neg Bool.false_ne_true, mg, List.append_nil]
 | succ n ih =>
  intro a b acc hn hl
  match a, b with
  | [], [] =>
   rw [M.ad]; try dsimp only
   rw [if_neg (by omega), decide_eq_false (by omega), M.a1b]; try dsimp only
   rw [if_neg Bool.false_ne_true, mg, List.append_nil]
  | x :: xs, [] =>
   have hk := len_keep fBoth 1 x
   have lx : ((x :: xs).length : Int) = (xs.length : Int) + 1 := by simp
   have ex := sl_tail x xs
   simp only [List.length_cons, List.length_nil] at hn
   have go := ih xs [] (acc ++ keep fBoth 1 x) (by simp only [List.length_nil]; omega) (by simp only [List.length_append]; omega)
   rw [M.ad]; try dsimp only
   rw [if_pos (by omega)]
   rw [M.a1b]; try dsimp only
   rw [if_pos rfl, if_pos (by omega)]
   rw [M.aq]; try dsimp only
   rw [if_pos rfl, o01]
   rw [M.a1c]; try dsimp only
   rw [if_neg (by omega), if_neg (by omega)]
   rw [M.ar]; try dsimp only
   rw [if_neg Bool.false_ne_true]
   rw [M.a1d]; try dsimp only
   rw [a12, if_pos rfl]
   rw [M.a1e]; try dsimp only
   rw [a11, if_neg (by decide), if_pos (by omega), if_pos (by omega), ex, gi_zero]
   rw [M.a1f]; try dsimp only
   rw [thoser_both _ _ _ _ _ (by omega)]
   simp only [Option.bind_eq_bind, Option.bind_some]
   rw [go, mg, List.append_assoc]
  | [], y :: ys =>
   have hk := len_keep fBoth 2 y
   have ly : ((y :: ys).length : Int) = (ys.length : Int) + 1 := by simp
   have ey := sl_tail y ys
   simp only [List.length_cons, List.length_nil] at hn
   have go := ih [] ys (acc ++ keep fBoth 2 y) (by simp only [List.length_nil]; omega) (by simp only [List.length_append]; omega)
   rw [M.ad]; try dsimp only
   rw [if_neg (by omega), decide_eq_true (by omega)]
   rw [M.a1b]; try dsimp only
   rw [if_pos rfl, if_neg (by omega), if_neg (by omega)]
   rw [M.aq]; try dsimp only
   rw [if_neg Bool.false_ne_true]
   rw [M.a1c]; try dsimp only
   rw [if_pos (by omega)]
   rw [M.ar]; try dsimp only
   rw [if_pos rfl, o02]
   rw [M.a1d]; try dsimp only
   rw [a22, if_neg (by decide), if_pos (by omega), if_pos (by omega), ey, gi_zero]
   rw [M.a1e]; try dsimp only
   rw [a21, if_pos rfl]
   rw [M.a1f]; try dsimp only
   rw [thoser_both _ _ _ _ _ (by omega)]
   simp only [Option.bind_eq_bind, Option.bind_some]
   rw [go, mg, List.append_assoc]
  | x :: xs, y :: ys =>
   have lx : ((x :: xs).length : Int) = (xs.length : Int) + 1 := by simp
   have ly : ((y :: ys).length : Int) = (ys.length : Int) + 1 := by simp
   have ex := sl_tail x xs
   have ey := sl_tail y ys
   simp only [List.length_cons] at hn
   rw [M.ad]; try dsimp only
   rw [if_pos (by omega)]
   rw [M.a1b]; try dsimp only
   rw [if_pos rfl, if_neg (by omega), if_pos (by omega), if_pos (by omega), if_pos (by omega), gi_zero, gi_zero]
   rcases Int.lt_trichotomy x y with hlt | heq | hgt
   ·have hk := len_keep fBoth 1 x
    have go := ih xs (y :: ys) (acc ++ keep fBoth 1 x) (by simp only [List.length_cons]; omega) (by simp only [List.length_append]; omega)
    rw [decide_eq_true (show x ≤ y by omega)]
    rw [M.aq]; try dsimp only
    rw [if_pos rfl, o01]
    rw [M.a1c]; try dsimp only
    rw [if_neg (by omega), if_pos (by omega), if_pos (by omega), if_pos (by omega), gi_zero, gi_zero, decide_eq_false (show ¬ y ≤ x by omega)]
    rw [M.ar]; try dsimp only
    rw [if_neg Bool.false_ne_true]
    rw [M.a1d]; try dsimp only
    rw [a12, if_pos rfl]
    rw [M.a1e]; try dsimp only
    rw [a11, if_neg (by decide), if_pos (by omega), if_pos (by omega), ex, gi_zero]
    rw [M.a1f]; try dsimp only
    rw [thoser_both _ _ _ _ _ (by omega)]
    simp only [Option.bind_eq_bind, Option.bind_some]
    rw [go, mg, if_pos hlt, List.append_assoc]
   ·subst heq
    have hk := len_keep fBoth 3 x
    have go := ih xs ys (acc ++ keep fBoth 3 x) (by omega) (by simp only [List.length_append]; omega)
    rw [decide_eq_true (show x ≤ x by omega)]
    rw [M.aq]; try dsimp only
    rw [if_pos rfl, o01]
    rw [M.a1c]; try dsimp only
    rw [if_neg (by omega), if_pos (by omega), if_pos (by omega), if_pos (by omega), gi_zero, gi_zero, decide_eq_true (show x ≤ x by omega)]
    rw [M.ar]; try dsimp only
    rw [if_pos rfl, o12]
    rw [M.a1d]; try dsimp only
    rw [a32, if_neg (by decide), if_pos (by omega), if_pos (by omega), ey]
    rw [M.a1e]; try dsimp only
    rw [a31, if_neg (by decide), if_pos (by omega), if_pos (by omega), ex, gi_zero]
    rw [M.a1f]; try dsimp only
    rw [thoser_both _ _ _ _ _ (by omega)]
    simp only [Option.bind_eq_bind, Option.bind_some]
    rw [go, mg, if_neg (Int.lt_irrefl x), if_neg (Int.lt_irrefl x), List.append_assoc]
   ·have hk := len_keep fBoth 2 y
    have go := ih (x :: xs) ys (acc ++ keep fBoth 2 y) (by simp only [List.length_cons]; omega) (by simp only [List.length_append]; omega)
    rw [decide_eq_false (show ¬ x ≤ y by omega)]
    rw [M.aq]; try dsimp only
    rw [if_neg Bool.false_ne_true]
    rw [M.a1c]; try dsimp only
    rw [if_neg (by omega), if_pos (by omega), if_pos (by omega), if_pos (by omega), gi_zero, gi_zero, decide_eq_true (show y ≤ x by omega)]
    rw [M.ar]; try dsimp only
    rw [if_pos rfl, o02]
    rw [M.a1d]; try dsimp only
    rw [a22, if_neg (by decide), if_pos (by omega), if_pos (by omega), ey, gi_zero]
    rw [M.a1e]; try dsimp only
    rw [a21, if_pos rfl]
    rw [M.a1f]; try dsimp only
    rw [thoser_both _ _ _ _ _ (by omega)]
    simp only [Option.bind_eq_bind, Option.bind_some]
    rw [go, mg, if_neg (by omega), if_pos (by omega), List.append_assoc]
theorem those_both (a b : List Int) (h : a.length + b.length ≤ 1073741824) : M.a6b a b = some (mg fBoth a b) := by
 simp only [M.a6b, M.a4t, M.a71, Option.bind_eq_bind, Option.bind_some]
 rw [merge_both (a.length + b.length) a b [] (Nat.le_refl _) (by simp; omega)]
 rfl
theorem rises_l0 (xs : List Int) (hr : Rz xs) (hl : xs.length ≤ 1073741824) (k : Nat) : ∀ i : Nat, 1 ≤ i → xs.length ≤ i + k → M.am (xs, (i : Int)) = some true := by
 induction k with
 | zero =>
  intro i h1 hk
  rw [M.am]; try dsimp only
  rw [if_neg (by omega)]
 | succ k ih =>
  intro i h1 hk
  rw [M.am]; try dsimp only
  by_cases hi : i < xs.length
  ·rw [if_pos (by omega), wr_i64 (by omega) (by omega), if_pos (by omega), if_pos (by omega), if_pos (by omega)]
   have e1 : gi xs ((i : Int) - 1) = xs[i - 1] := by rw [show (i : Int) - 1 = ((i - 1 : Nat) : Int) by omega]; exact gi_nat xs _ (by omega)
   rw [e1, gi_nat xs i hi]
   have hlt := List.pairwise_iff_getElem.1 hr (i - 1) i (by omega) hi (by omega)
   rw [if_neg (by omega), wr_i64 (by omega) (by omega)]
   exact ih (i + 1) (by omega) (by omega)
  ·rw [if_neg (by omega)]
theorem check (xs : List Int) (hr : Rz xs) (hl : xs.length ≤ 1073741824) : M.a15 xs = some 0 := by
 rw [M.a15, M.a62, show (1 : Int) = ((1 : Nat) : Int) from rfl, rises_l0 xs hr hl xs.length 1 (by omega) (by omega)]
 rfl
theorem clone (xs : List Int) (hl : xs.length ≤ 1073741824) : M.an xs = some xs := by rw [M.an, if_pos (by omega)]
def tot (l : List (List Int)) : Nat := (l.map List.length).sum
theorem le_tot {x : List Int} {l : List (List Int)} (h : x ∈ l) : x.length ≤ tot l := by
 induction l with
 | nil => cases h
 | cons y l ih =>
  simp only [tot, List.map_cons, List.sum_cons] at ih ⊢
  rcases List.mem_cons.1 h with rfl | h
  ·omega
  ·have := ih h; omega
theorem fold_one_l1 (l : List (List Int)) (hl : l.length ≤ 4096) (k : Nat) : ∀ (i : Nat) (acc : List Int), i + k = l.length → acc.length + tot (l.drop i) ≤ 1073741824 → M.a3n (acc, l, (l.length : Int), (i : Int)) = some ((l.drop i).foldl (mg fOne) acc, 0) := by
 induction k with
 | zero =>
  intro i acc hi hb
  rw [M.a3n]; try dsimp only
  rw [if_neg (by omega), List.drop_eq_nil_of_le (by omega)]
  rfl
 | succ k ih =>
  intro i acc hi hb
  have hlt : i < l.length := by omega
  rw [M.a3n]; try dsimp only
  rw [if_pos (by omega), if_pos (by omega), if_pos (by omega), gi_natL l i hlt]
  rw [List.drop_eq_getElem_cons hlt] at hb ⊢
  simp only [tot, List.map_cons, List.sum_cons] at hb
  have hm := len_mg fOne acc l[i]
  rw [those_one acc l[i] (by omega)]
  simp only [Option.bind_eq_bind, Option.bind_some]
  rw [wr_i64 (by omega) (by omega), show (i : Int) + 1 = ((i + 1 : Nat) : Int) by omega, ih (i + 1) _ (by omega) (by unfold tot; omega)]
  rfl
theorem fold_one_l0 (l : List (List Int)) (hd : List Int) (tl : List (List Int)) (he : l = hd :: tl) (hl : l.length ≤ 4096) (hr : ∀ x ∈ l, Rz x) (hb : tot l ≤ 1073741824) (k : Nat) : ∀ i : Nat, i + k = l.length → M.a3o (l, l, (l.length : Int), (i : Int)) = some (tl.foldl (mg fOne) hd, 0) := by
 induction k with
 | zero =>
  intro i hi
  have h1 : ((l.length : Nat) : Int) = (tl.length : Int) + 1 := by rw [he]; simp
  rw [M.a3o]; try dsimp only
  rw [if_neg (by omega), if_neg (by omega), if_pos (by omega)]
  have e0 : gi l 0 = hd := by rw [he]; rfl
  have e1 : sl l 1 (l.length : Int) = tl := by rw [he]; exact sl_tail hd tl
  have hhd := le_tot (show hd ∈ l by rw [he]; simp)
  rw [e0, clone hd (by omega)]
  simp only [Option.bind_eq_bind, Option.bind_some]
  rw [if_pos (by omega), e1]
  have := fold_one_l1 tl (by omega) tl.length 0 hd (by omega) (by rw [he] at hb; simpa [tot] using hb)
  rw [List.drop_zero] at this
  exact this
 | succ k ih =>
  intro i hi
  have hlt : i < l.length := by omega
  rw [M.a3o]; try dsimp only
  rw [if_pos (by omega), if_pos (by omega), if_pos (by omega), gi_natL l i hlt, check l[i] (hr _ (List.getElem_mem hlt)) (by have := le_tot (List.getElem_mem hlt); omega)]
  simp only [Option.bind_eq_bind, Option.bind_some, if_true]
  rw [wr_i64 (by omega) (by omega), show (i : Int) + 1 = ((i + 1 : Nat) : Int) by omega]
  exact ih (i + 1) (by omega)
theorem fold_one (hd : List Int) (tl : List (List Int)) (hl : tl.length ≤ 4095) (hr : ∀ x ∈ hd :: tl, Rz x) (hb : tot (hd :: tl) ≤ 1073741824) : M.a65 (hd :: tl) = some (tl.foldl (mg fOne) hd, 0) := by
 have h1 : (((hd :: tl).length : Nat) : Int) = (tl.length : Int) + 1 := by simp
 rw [M.a65, if_neg (by omega)]
 exact fold_one_l0 (hd :: tl) hd tl rfl (by simp; omega) hr hb (hd :: tl).length 0 (by omega)
theorem fold_both_l1 (l : List (List Int)) (hl : l.length ≤ 4096) (k : Nat) : ∀ (i : Nat) (acc : List Int), i + k = l.length → acc.length + tot (l.drop i) ≤ 1073741824 → M.a3u (acc, l, (l.length : Int), (i : Int)) = some ((l.drop i).foldl (mg fBoth) acc, 0) := by
 induction k with
 | zero =>
  intro i acc hi hb
  rw [M.a3u]; try dsimp only
  rw [if_neg (by omega), List.drop_eq_nil_of_le (by omega)]
  rfl
 | succ k ih =>
  intro i acc hi hb
  have hlt : i < l.length := by omega
  rw [M.a3u]; try dsimp only
  rw [if_pos (by omega), if_pos (by omega), if_pos (by omega), gi_natL l i hlt]
  rw [List.drop_eq_getElem_cons hlt] at hb ⊢
  simp only [tot, List.map_cons, List.sum_cons] at hb
  have hm := len_mg fBoth acc l[i]
  rw [those_both acc l[i] (by omega)]
  simp only [Option.bind_eq_bind, Option.bind_some]
  rw [wr_i64 (by omega) (by omega), show (i : Int) + 1 = ((i + 1 : Nat) : Int) by omega, ih (i + 1) _ (by omega) (by unfold tot; omega)]
  rfl
theorem fold_both_l0 (l : List (List Int)) (hd : List Int) (tl : List (List Int)) (he : l = hd :: tl) (hl : l.length ≤ 4096) (hr : ∀ x ∈ l, Rz x) (hb : tot l ≤ 1073741824) (k : Nat) : ∀ i : Nat, i + k = l.length → M.a3v (l, l, (l.length : Int), (i : Int)) = some (tl.foldl (mg fBoth) hd, 0) := by
 induction k with
 | zero =>
  intro i hi
  have h1 : ((l.length : Nat) : Int) = (tl.length : Int) + 1 := by rw [he]; simp
  rw [M.a3v]; try dsimp only
  rw [if_neg (by omega), if_neg (by omega), if_pos (by omega)]
  have e0 : gi l 0 = hd := by rw [he]; rfl
  have e1 : sl l 1 (l.length : Int) = tl := by rw [he]; exact sl_tail hd tl
  have hhd := le_tot (show hd ∈ l by rw [he]; simp)
  rw [e0, clone hd (by omega)]
  simp only [Option.bind_eq_bind, Option.bind_some]
  rw [if_pos (by omega), e1]
  have := fold_both_l1 tl (by omega) tl.length 0 hd (by omega) (by rw [he] at hb; simpa [tot] using hb)
  rw [List.drop_zero] at this
  exact this
 | succ k ih =>
  intro i hi
  have hlt : i < l.length := by omega
  rw [M.a3v]; try dsimp only
  rw [if_pos (by omega), if_pos (by omega), if_pos (by omega), gi_natL l i hlt, check l[i] (hr _ (List.getElem_mem hlt)) (by have := le_tot (List.getElem_mem hlt); omega)]
  simp only [Option.bind_eq_bind, Option.bind_some, if_true]
  rw [wr_i64 (by omega) (by omega), show (i : Int) + 1 = ((i + 1 : Nat) : Int) by omega]
  exact ih (i + 1) (by omega)
theorem fold_both (hd : List Int) (tl : List (List Int)) (hl : tl.length ≤ 4095) (hr : ∀ x ∈ hd :: tl, Rz x) (hb : tot (hd :: tl) ≤ 1073741824) : M.a6c (hd :: tl) = some (tl.foldl (mg fBoth) hd, 0) := by
 have h1 : (((hd :: tl).length : Nat) : Int) = (tl.length : Int) + 1 := by simp
 rw [M.a6c, if_neg (by omega)]
 exact fold_both_l0 (hd :: tl) hd tl rfl (by simp; omega) hr hb (hd :: tl).length 0 (by omega)
theorem and_eq (hd : List Int) (tl : List (List Int)) (hl : tl.length ≤ 4095) (hr : ∀ x ∈ hd :: tl, Rz x) (hb : tot (hd :: tl) ≤ 1073741824) : M.a6d (hd :: tl) = some (tl.foldl (mg fBoth) hd, 0) := by rw [M.a6d, fold_both hd tl hl hr hb]; rfl
theorem or_eq (hd : List Int) (tl : List (List Int)) (hl : tl.length ≤ 4095) (hr : ∀ x ∈ hd :: tl, Rz x) (hb : tot (hd :: tl) ≤ 1073741824) : M.a4u (hd :: tl) = some (tl.foldl (mg fOne) hd, 0) := by rw [M.a4u, fold_one hd tl hl hr hb]; rfl
theorem rz_cons2 {x y : Int} {l : List Int} : Rz (x :: y :: l) ↔ x < y ∧ Rz (y :: l) := by
 constructor
 ·intro h
  rw [rz_cons] at h
  exact ⟨h.1 y (by simp), h.2⟩
 ·rintro ⟨h1, h2⟩
  rw [rz_cons]
  refine ⟨fun z hz => ?_, h2⟩
  rcases List.mem_cons.1 hz with rfl | hz
  ·exact h1
  ·have := (rz_cons.1 h2).1 z hz; omega
theorem rz_one (l : List Int) (h : l.length ≤ 1) : Rz l := by
 match l, h with
 | [], _ => exact List.Pairwise.nil
 | [x], _ => exact List.pairwise_singleton _ _
theorem rz_drop_step (xs : List Int) (i : Nat) (h1 : 1 ≤ i) (hi : i < xs.length) : Rz (xs.drop (i - 1)) ↔ xs[i - 1] < xs[i] ∧ Rz (xs.drop i) := by
 have e1 : xs.drop (i - 1) = xs[i - 1] :: xs.drop i := by
  rw [List.drop_eq_getElem_cons (by omega)]
  congr 2
  omega
 have e2 : xs.drop i = xs[i] :: xs.drop (i + 1) := List.drop_eq_getElem_cons hi
 rw [e1, e2, rz_cons2]
theorem rises_any (xs : List Int) (hl : xs.length ≤ 1073741824) (k : Nat) : ∀ i : Nat, 1 ≤ i → xs.length ≤ i + k → M.am (xs, (i : Int)) = some (decide (Rz (xs.drop (i - 1)))) := by
 induction k with
 | zero =>
  intro i h1 hk
  rw [M.am]; try dsimp only
  rw [if_neg (by omega), decide_eq_true (rz_one _ (by simp; omega))]
 | succ k ih =>
  intro i h1 hk
  rw [M.am]; try dsimp only
  by_cases hi : i < xs.length
  ·rw [if_pos (by omega), wr_i64 (by omega) (by omega), if_pos (by omega), if_pos (by omega), if_pos (by omega)]
   have e1 : gi xs ((i : Int) - 1) = xs[i - 1] := by rw [show (i : Int) - 1 = ((i - 1 : Nat) : Int) by omega]; exact gi_nat xs _ (by omega)
   rw [e1, gi_nat xs i hi]
   have hst := rz_drop_step xs i h1 hi
   split
   ·rw [decide_eq_false (by rw [hst]; intro h; omega)]
   ·rw [wr_i64 (by omega) (by omega), show (i : Int) + 1 = ((i + 1 : Nat) : Int) by omega, ih (i + 1) (by omega) (by omega)]
    congr 1
    rw [decide_eq_decide, hst]
    simp only [Nat.add_sub_cancel]
    constructor
    ·intro h; exact ⟨by omega, h⟩
    ·exact fun h => h.2
  ·rw [if_neg (by omega), decide_eq_true (rz_one _ (by simp; omega))]
def chk (xs : List Int) : Int := if Rz xs then 0 else 2
theorem check_any (xs : List Int) (hl : xs.length ≤ 1073741824) : M.a15 xs = some (chk xs) := by
 rw [M.a15, M.a62, show (1 : Int) = ((1 : Nat) : Int) from rfl, rises_any xs hl xs.length 1 (by omega) (by omega)]
 simp only [Nat.sub_self, List.drop_zero, Option.bind_eq_bind, Option.bind_some, decide_eq_true_eq]
 unfold chk
 split <;> rfl
theorem rcheck_l0 (xs : List Int) (hl : xs.length ≤ 1073741824) (k : Nat) : ∀ i : Nat, 1 ≤ i → xs.length ≤ i + k → M.a3q (xs, (i : Int)) = some (chk (xs.drop (i - 1))) := by
 induction k with
 | zero =>
  intro i h1 hk
  rw [M.a3q]; try dsimp only
  rw [if_neg (by omega), chk, if_pos (rz_one _ (by simp; omega))]
 | succ k ih =>
  intro i h1 hk
  rw [M.a3q]; try dsimp only
  by_cases hi : i < xs.length
  ·rw [if_pos (by omega), wr_i64 (by omega) (by omega), if_pos (by omega), if_pos (by omega), if_pos (by omega)]
   have e1 : gi xs ((i : Int) - 1) = xs[i - 1] := by rw [show (i : Int) - 1 = ((i - 1 : Nat) : Int) by omega]; exact gi_nat xs _ (by omega)
   rw [e1, gi_nat xs i hi]
   have hst := rz_drop_step xs i h1 hi
   split
   ·rw [chk, if_neg (by rw [hst]; intro h; omega)]
   ·rw [wr_i64 (by omega) (by omega), show (i : Int) + 1 = ((i + 1 : Nat) : Int) by omega, ih (i + 1) (by omega) (by omega)]
    simp only [Nat.add_sub_cancel, chk, hst]
    have : xs[i - 1] < xs[i] := by omega
    simp only [this, true_and]
  ·rw [if_neg (by omega), chk, if_pos (rz_one _ (by simp; omega))]
theorem rcheck_any (xs : List Int) (hl : xs.length ≤ 1073741824) : M.a3r xs = some (chk xs) := by
 rw [M.a3r, show (1 : Int) = ((1 : Nat) : Int) from rfl, rcheck_l0 xs hl xs.length 1 (by omega) (by omega)]
 rfl
theorem in_l0 (xs : List Int) (n : Int) (hl : xs.length ≤ 1073741824) (k : Nat) : ∀ i : Nat, i + k = xs.length → M.a3x (xs, n, (i : Int)) = some (decide (n ∈ xs.drop i)) := by
 induction k with
 | zero =>
  intro i hi
  rw [M.a3x]; try dsimp only
  rw [if_neg (by omega), List.drop_eq_nil_of_le (by omega)]
  simp
 | succ k ih =>
  intro i hi
  have hlt : i < xs.length := by omega
  rw [M.a3x]; try dsimp only
  rw [if_pos (by omega), if_pos (by omega), gi_nat xs i hlt, List.drop_eq_getElem_cons hlt]
  split
  ·rename_i h
   rw [decide_eq_true (by simp [h])]
  ·rename_i h
   rw [wr_i64 (by omega) (by omega), show (i : Int) + 1 = ((i + 1 : Nat) : Int) by omega, ih (i + 1) (by omega)]
   congr 1
   rw [decide_eq_decide, List.mem_cons]
   constructor
   ·exact .inr
   ·rintro (h' | h')
    ·exact absurd h'.symm h
    ·exact h'
theorem in_eq (xs : List Int) (n : Int) (hl : xs.length ≤ 1073741824) : M.a6f xs n = some (decide (n ∈ xs)) := by
 rw [M.a6f]
 exact in_l0 xs n hl xs.length 0 (by omega)
def ins (n : Int) : Bool → List Int → List Int
 | d, [] => if d then [] else [n]
 | d, y :: ys => (if !d && decide (y ≥ n) then [n] else []) ++ (if y = n then [] else [y]) ++ ins n (d || decide (y ≥ n)) ys
theorem len_ins (n : Int) : ∀ (d : Bool) (xs : List Int), (ins n d xs).length ≤ xs.length + (if d then 0 else 1)
 | d, [] => by cases d <;> simp [ins]
 | d, y :: ys => by
  have := len_ins n (d || decide (y ≥ n)) ys
  cases d
  ·by_cases h : y ≥ n
   ·by_cases h2 : y = n <;> simp [ins, h, h2] at this ⊢ <;> omega
   ·by_cases h2 : y = n <;> simp [ins, h, h2] at this ⊢ <;> omega
  ·by_cases h2 : y = n <;> simp [ins, h2] at this ⊢ <;> omega
theorem radd_l0 (xs : List Int) (n : Int) (hl : xs.length ≤ 1073741000) (k : Nat) : ∀ (i : Nat) (acc : List Int) (d : Bool), i + k = xs.length → acc.length ≤ i + (if d then 1 else 0) →
  M.a29 (xs, n, acc, d, (i : Int)) = some (acc ++ ins n d (xs.drop i), 0) := by
 induction k with
 | zero =>
  intro i acc d hi ha
  rw [M.a29]; try dsimp only
  rw [if_neg (by omega), List.drop_eq_nil_of_le (by omega)]
  cases d
  ·simp only [Bool.false_eq_true, if_false, Nat.add_zero] at ha
   rw [if_neg (by decide), if_pos (by simp; omega)]
   simp [ins]
  ·rw [if_pos rfl]
   simp [ins]
 | succ k ih =>
  intro i acc d hi ha
  have hlt : i < xs.length := by omega
  have key : ∀ (acc2 : List Int) (d2 : Bool), acc2.length ≤ i + (if d2 then 1 else 0) → M.a4x (xs, n, acc2, d2, (i : Int)) = some (acc2 ++ (if xs[i] = n then [] else [xs[i]]) ++ ins n d2 (xs.drop (i + 1)), 0) := by
   intro acc2 d2 h2
   have h3 : acc2.length ≤ i + 1 := by split at h2 <;> omega
   rw [M.a4x]; try dsimp only
   rw [if_pos (by omega), if_pos (by omega), gi_nat xs i hlt]
   split
   ·rw [M.a4y]; try dsimp only
    rw [wr_i64 (by omega) (by omega), show (i : Int) + 1 = ((i + 1 : Nat) : Int) by omega, ih (i + 1) _ _ (by omega) (by omega)]
    simp
   ·rw [if_pos (by simp; omega), M.a4y]; try dsimp only
    rw [wr_i64 (by omega) (by omega), show (i : Int) + 1 = ((i + 1 : Nat) : Int) by omega, ih (i + 1) _ _ (by omega) (by simp; split at h2 <;> simp_all <;> omega)]
  rw [M.a29]; try dsimp only
  rw [if_pos (by omega), List.drop_eq_getElem_cons hlt]
  cases d
  ·simp only [Bool.false_eq_true, if_false, Nat.add_zero] at ha
   rw [if_neg (by decide), if_pos (by omega), gi_nat xs i hlt, M.a4w]; try dsimp only
   by_cases hge : xs[i] ≥ n
   ·rw [decide_eq_true hge, if_pos rfl, if_pos (by simp; omega), key _ true (by simp; omega)]
    simp [ins, hge]
   ·rw [decide_eq_false hge, if_neg (by decide), key _ false (by simp; omega)]
    simp [ins, hge]
  ·rw [if_pos rfl, M.a4w]; try dsimp only
   rw [if_neg (by decide), key _ true ha]
   simp [ins]
theorem mem_ins (n v : Int) : ∀ (d : Bool) (xs : List Int), v ∈ ins n d xs ↔ (v ∈ xs ∧ v ≠ n) ∨ (d = false ∧ v = n)
 | d, [] => by cases d <;> simp [ins]
 | d, y :: ys => by
  have := mem_ins n v (d || decide (y ≥ n)) ys
  simp only [ins, List.mem_append, this]
  cases d <;> by_cases h : y ≥ n <;> by_cases h2 : y = n <;> by_cases h3 : v = n <;> by_cases h4 : v = y <;> simp_all
theorem rz_ins (n : Int) : ∀ (d : Bool) (xs : List Int), Rz xs → (d = true → ∀ v ∈ xs, n ≤ v) → Rz (ins n d xs)
 | d, [], _, _ => by cases d <;> simp [ins]
 | d, y :: ys, hr, hd => by
  rw [rz_cons] at hr
  have ih := rz_ins n (d || decide (y ≥ n)) ys hr.2 (by
   intro h v hv
   have h1 := hr.1 v hv
   cases d
   ·simp at h; omega
   ·have := hd rfl v (List.mem_cons_of_mem _ hv); exact this)
  have hm : ∀ v ∈ ins n (d || decide (y ≥ n)) ys, (v ∈ ys ∧ v ≠ n) ∨ ((d || decide (y ≥ n)) = false ∧ v = n) := fun v hv => (mem_ins n v _ ys).1 hv
  have hy : Rz ((if y = n then [] else [y]) ++ ins n (d || decide (y ≥ n)) ys) := by
   split
   ·exact ih
   ·rename_i hne
    refine rz_cons.2 ⟨fun v hv => ?_, ih⟩
    rcases hm v hv with ⟨h1, h2⟩ | ⟨h1, rfl⟩
    ·exact hr.1 v h1
    ·simp at h1; omega
  simp only [ins, List.append_assoc]
  split
  ·rename_i h
   simp at h
   refine (rz_cons (x := n) (xs := (if y = n then [] else [y]) ++ ins n (d || decide (y ≥ n)) ys)).2 ⟨fun v hv => ?_, hy⟩
   rcases List.mem_append.1 hv with h1 | h1
   ·split at h1
    ·cases h1
    ·simp at h1; omega
   ·rcases hm v h1 with ⟨h2, h3⟩ | ⟨h2, rfl⟩
    ·have := hr.1 v h2; omega
    ·simp at h2; omega
  ·exact hy
theorem radd_eq (xs : List Int) (n : Int) (hr : Rz xs) (hl : xs.length ≤ 1073741000) : M.a3s xs n = some (ins n false xs, 0) := by
 rw [M.a3s, rcheck_any xs (by omega), chk, if_pos hr]
 simp only [Option.bind_eq_bind, Option.bind_some, if_true]
 exact radd_l0 xs n hl xs.length 0 [] false (by omega) (by simp)
theorem add_ok (a : List Int) (n : Int) (hr : Rz a) (ha : a.length ≤ 1000000) : ∃ X, M.a66 a n = some (X, 0) ∧ M.a3s a n = some (X, 0) ∧ X.length ≤ a.length + 1 ∧ Rz X := by
 have rn : Rz [n] := List.pairwise_singleton _ _
 have e : mg fOne a [n] = ins n false a := rz_ext (rz_mg _ _ _ hr rn) (rz_ins n false a hr (by simp)) fun v => by
  rw [mem_one hr rn, mem_ins]
  by_cases h : v = n <;> simp [h]
 have hlen := len_ins n false a
 simp at hlen
 refine ⟨_, ?_, radd_eq a n hr (by omega), hlen, rz_ins n false a hr (by simp)⟩
 rw [M.a66, or_eq a [[n]] (by simp) (by simp [hr]) (by simp [tot]; omega)]
 simp only [Option.bind_eq_bind, Option.bind_some, List.foldl_cons, List.foldl_nil, e]
theorem tl_bl (s : ByteArray) : s.toList = bl s := Lib.toList_data s
theorem tl_eq (a b : ByteArray) : ((a.toList == b.toList) = true) ↔ a = b := by
 rw [tl_bl, tl_bl, beq_iff_eq]
 exact ⟨bl_inj, fun h => by rw [h]⟩
theorem less_bl (a b : ByteArray) : Op.bytesLess a.toList b.toList = decide (bl a < bl b) := by rw [bytesLess_eq, tl_bl, tl_bl]
abbrev So (y : List T165) : Prop := y.Pairwise (fun a b => bl a.Key < bl b.Key)
def prs (y : List T165) : List (ByteArray × List Int) := y.map fun t => (t.Key, t.L)
theorem lt_tr {a b c : List UInt8} (h : a < b) (k : b < c) : a < c := List.lt_trans h k
theorem lt_ir (a : List UInt8) : ¬ a < a := List.lt_irrefl a
theorem lt_cases {a b : List UInt8} (h : ¬ a < b) (hn : a ≠ b) : b < a := by
 rcases List.le_iff_lt_or_eq.1 (List.not_lt.1 h) with h | h
 ·exact h
 ·exact absurd h.symm hn
theorem prs_keys {y : List T165} (h : So y) : Keys (prs y) := by
 unfold Keys prs
 rw [List.map_map]
 refine (List.pairwise_map.2 (h.imp fun {a b} hab => ?_))
 intro e
 simp only [Function.comp] at e
 rw [e] at hab
 exact lt_ir _ hab
theorem gi_T (y : List T165) (i : Nat) (h : i < y.length) : gi y (i : Int) = y[i] := by simp [gi, h]
def rget (y : List T165) (k : ByteArray) : List Int := (mget (prs y) k).getD []
theorem rget_cons (e : T165) (y : List T165) (k : ByteArray) : rget (e :: y) k = if k = e.Key then e.L else rget y k := by
 simp only [rget, prs, List.map_cons, mget]
 by_cases h : k = e.Key
 ·subst h; simp
 ·have : (k == e.Key) = false := by simpa using h
  simp [this, h]
theorem rlist_l0 (y : List T165) (k : ByteArray) (hl : y.length ≤ 1073741824) (hb : ∀ t ∈ y, t.L.length ≤ 1073741824) (n : Nat) : ∀ i : Nat, i + n = y.length → M.a3p (k, (i : Int), y) = some (rget (y.drop i) k) := by
 induction n with
 | zero =>
  intro i hi
  rw [M.a3p]; try dsimp only
  rw [if_neg (by omega), List.drop_eq_nil_of_le (by omega)]; rfl
 | succ n ih =>
  intro i hi
  have hlt : i < y.length := by omega
  rw [M.a3p]; try dsimp only
  rw [if_pos (by omega), if_pos (by omega), gi_T y i hlt, List.drop_eq_getElem_cons hlt, rget_cons]
  by_cases h : y[i].Key = k
  ·rw [if_pos ((tl_eq _ _).2 h), if_pos (by have := hb _ (List.getElem_mem hlt); omega), if_pos h.symm]
  ·rw [if_neg (fun h' => h ((tl_eq _ _).1 h')), if_neg (fun h' => h h'.symm), wr_i64 (by omega) (by omega), show (i : Int) + 1 = ((i + 1 : Nat) : Int) by omega, ih (i + 1) (by omega)]
theorem rlist_eq (y : List T165) (k : ByteArray) (hl : y.length ≤ 1073741824) (hb : ∀ t ∈ y, t.L.length ≤ 1073741824) : M.a68 y k = some (rget y k) := by
 rw [M.a68]
 exact rlist_l0 y k hl hb y.length 0 (by omega)
def setp (k : ByteArray) (l : List Int) : Bool → List T165 → List T165
 | d, [] => if d then [] else [⟨k, l⟩]
 | d, e :: es => (if d = true ∨ bl e.Key < bl k then [] else [⟨k, l⟩]) ++ ((if e.Key = k then [] else [e]) ++ setp k l (if d = true ∨ bl e.Key < bl k then d else true) es)
theorem setp_len (k : ByteArray) (l : List Int) : ∀ (y : List T165) (d : Bool), (setp k l d y).length ≤ y.length + (if d then 0 else 1)
 | [], d => by cases d <;> simp [setp]
 | e :: es, d => by
  have h1 := setp_len k l es d
  have h2 := setp_len k l es true
  simp only [setp, List.length_append]
  cases d
  ·simp only [Bool.false_eq_true, false_or, if_false] at h1 h2 ⊢
   split <;> split <;> simp at h1 h2 ⊢ <;> omega
  ·simp only [true_or, if_true] at h1 h2 ⊢
   split <;> simp at h1 h2 ⊢ <;> omega
theorem rset_l0 (y : List T165) (k : ByteArray) (l : List Int) (hl : y.length ≤ 1000000) (n : Nat) : ∀ (i : Nat) (acc : List T165) (d : Bool), i + n = y.length → acc.length ≤ 2 * i → M.a2a (k, l, acc, d, (i : Int), y) = some (acc ++ setp k l d (y.drop i)) := by
 induction n with
 | zero =>
  intro i acc d hi ha
  rw [M.a2a]; try dsimp only
  rw [if_neg (by omega), List.drop_eq_nil_of_le (by omega)]
  cases d
  ·rw [if_neg (by decide), if_pos (by simp; omega)]; simp [setp]
  ·rw [if_pos rfl]; simp [setp]
 | succ n ih =>
  intro i acc d hi ha
  have hlt : i < y.length := by omega
  have l3 : ∀ (acc : List T165) (d : Bool), acc.length ≤ 2 * (i + 1) → M.a50 (k, l, acc, d, (i : Int), y) = some (acc ++ setp k l d (y.drop (i + 1))) := fun acc d ha => by
   rw [M.a50]; try dsimp only
   rw [wr_i64 (by omega) (by omega), show (i : Int) + 1 = ((i + 1 : Nat) : Int) by omega, ih (i + 1) acc d (by omega) (by omega)]
  have l2 : ∀ (acc : List T165) (d : Bool), acc.length ≤ 2 * i + 1 → M.a4z (k, l, acc, d, (i : Int), y) = some (acc ++ ((if y[i].Key = k then [] else [y[i]]) ++ setp k l d (y.drop (i + 1)))) := fun acc d ha => by
   rw [M.a4z]; try dsimp only
   rw [if_pos (by omega), if_pos (by omega), gi_T y i hlt]
   by_cases h : y[i].Key = k
   ·rw [if_pos ((tl_eq _ _).2 h), if_pos h, l3 acc d (by omega)]; simp
   ·rw [if_neg (fun h' => h ((tl_eq _ _).1 h')), if_neg h, if_pos (by simp; omega), l3 _ d (by simp; omega)]; simp
  rw [M.a2a]; try dsimp only
  rw [if_pos (by omega), List.drop_eq_getElem_cons hlt, setp]
  cases d
  ·rw [if_neg (by decide), if_pos (by omega), gi_T y i hlt, less_bl]
   by_cases h : bl y[i].Key < bl k
   ·rw [decide_eq_true h, M.a3t]; try dsimp only
    rw [Bool.not_true, if_neg (by decide), l2 acc false (by omega)]
    simp [h]
   ·rw [decide_eq_false h, M.a3t]; try dsimp only
    rw [Bool.not_false, if_pos rfl, if_pos (by simp; omega), l2 _ true (by simp; omega)]
    simp [h]
  ·rw [if_pos rfl, M.a3t]; try dsimp only
   rw [if_neg (by decide), l2 acc true (by omega)]
   simp
theorem rset_eq (y : List T165) (k : ByteArray) (l : List Int) (hl : y.length ≤ 1000000) : M.a51 y k l = some (setp k l (decide ((l.length : Int) = 0)) y) := by
 rw [M.a51]
 exact rset_l0 y k l hl y.length 0 [] _ (by omega) (by simp)
theorem setp_perm (k : ByteArray) (l : List Int) : ∀ (y : List T165) (d : Bool), (setp k l d y).Perm ((if d then [] else [⟨k, l⟩]) ++ y.filter (fun t => !(k == t.Key)))
 | [], d => by cases d <;> simp [setp]
 | e :: es, d => by
  have h1 := setp_perm k l es d
  have h2 := setp_perm k l es true
  have hf : (e :: es).filter (fun t => !(k == t.Key)) = (if e.Key = k then [] else [e]) ++ es.filter (fun t => !(k == t.Key)) := by
   rw [List.filter_cons]
   by_cases h : e.Key = k
   ·subst h; simp
   ·have : (k == e.Key) = false := by rw [beq_eq_false_iff_ne]; exact fun h' => h h'.symm
    rw [this, if_neg h]; simp
  rw [hf, setp]
  by_cases h : d = true ∨ bl e.Key < bl k
  ·rw [if_pos h, if_pos h, List.nil_append]
   refine (h1.append_left _).trans ?_
   rw [← List.append_assoc, ← List.append_assoc]
   exact List.perm_append_comm.append_right _
  ·rw [if_neg h, if_neg h]
   have hd : d = false := by
    cases d
    ·rfl
    ·exact absurd (.inl rfl) h
   subst hd
   exact (h2.append_left _).append_left _
theorem setp_mem {k : ByteArray} {l : List Int} {d : Bool} {y : List T165} {t : T165} (h : t ∈ setp k l d y) : (d = false ∧ t = ⟨k, l⟩) ∨ (t ∈ y ∧ t.Key ≠ k) := by
 have := (setp_perm k l y d).mem_iff.1 h
 rw [List.mem_append, List.mem_filter] at this
 rcases this with h | ⟨h, h'⟩
 ·cases d
  ·exact .inl ⟨rfl, by simpa using h⟩
  ·simp at h
 ·refine .inr ⟨h, ?_⟩
  rintro rfl
  simp at h'
theorem setp_so (k : ByteArray) (l : List Int) : ∀ (y : List T165) (d : Bool), So y → So (setp k l d y)
 | [], d, _ => by cases d <;> simp [setp]
 | e :: es, d, h => by
  rw [So, List.pairwise_cons] at h
  have h1 := setp_so k l es d h.2
  have h2 := setp_so k l es true h.2
  rw [setp]
  by_cases hc : d = true ∨ bl e.Key < bl k
  ·rw [if_pos hc, if_pos hc, List.nil_append]
   by_cases he : e.Key = k
   ·rw [if_pos he]; exact h1
   ·rw [if_neg he, List.singleton_append, So, List.pairwise_cons]
    refine ⟨fun t ht => ?_, h1⟩
    rcases setp_mem ht with ⟨hd, rfl⟩ | ⟨ht, _⟩
    ·rcases hc with hc | hc
     ·rw [hd] at hc; cases hc
     ·exact hc
    ·exact h.1 t ht
  ·rw [if_neg hc, if_neg hc, List.singleton_append, So, List.pairwise_cons]
   have hlt : ¬ bl e.Key < bl k := fun h' => hc (.inr h')
   have hes : ∀ t ∈ es, bl k < bl t.Key := fun t ht => by
    by_cases he : bl e.Key = bl k
    ·rw [← he]; exact h.1 t ht
    ·exact lt_tr (lt_cases hlt he) (h.1 t ht)
   refine ⟨fun t ht => ?_, ?_⟩
   ·rcases List.mem_append.1 ht with ht | ht
    ·split at ht
     ·cases ht
     ·rename_i he
      rw [List.mem_singleton] at ht
      subst ht
      exact lt_cases hlt fun h' => he (bl_inj h')
    ·rcases setp_mem ht with ⟨hd, _⟩ | ⟨ht, _⟩
     ·cases hd
     ·exact hes t ht
   ·split
    ·exact h2
    ·rw [List.singleton_append, List.pairwise_cons]
     refine ⟨fun t ht => ?_, h2⟩
     rcases setp_mem ht with ⟨hd, _⟩ | ⟨ht, _⟩
     ·cases hd
     ·exact h.1 t ht
structure Ri (B : Nat) (m : List (ByteArray × List Int)) (y : List T165) : Prop where
 pe : m.Perm (prs y)
 so : So y
 ok : ∀ t ∈ y, Rz t.L ∧ t.L.length ≤ B
 ln : y.length ≤ B
theorem Ri.keys {B m y} (h : Ri B m y) : Keys m := ((h.pe.map _).nodup_iff).2 (prs_keys h.so)
theorem Ri.get {B m y} (h : Ri B m y) (k : ByteArray) : (mget m k).getD [] = rget y k := by rw [mget_perm h.pe h.keys]; rfl
theorem Ri.rget_ok {B m y} (h : Ri B m y) (k : ByteArray) : Rz (rget y k) ∧ (rget y k).length ≤ B := by
 unfold rget
 cases hm : mget (prs y) k with
 | none => exact ⟨List.Pairwise.nil, Nat.zero_le _⟩
 | some v =>
  obtain ⟨t, ht, e⟩ := List.mem_map.1 (mget_mem hm)
  cases e
  exact h.ok t ht
theorem Ri.set {B m y} (h : Ri B m y) (k : ByteArray) (X : List Int) (hX : Rz X) (hl : X.length ≤ B + 1) : Ri (B + 1) (if X.length = 0 then mdel m k else mset m k X) (setp k X (decide ((X.length : Int) = 0)) y) := by
 have hf : (m.filter fun e => !(k == e.1)).Perm (prs (y.filter fun t => !(k == t.Key))) := by
  have e : prs (y.filter fun t => !(k == t.Key)) = (prs y).filter fun e => !(k == e.1) := by unfold prs; rw [List.filter_map]; rfl
  rw [e]; exact h.pe.filter _
 refine ⟨?_, setp_so k X y _ h.so, fun t ht => ?_, ?_⟩
 ·by_cases h0 : X.length = 0
  ·rw [if_pos h0, decide_eq_true (by omega), mdel_eq h.keys]
   refine hf.trans ?_
   have := (setp_perm k X y true).symm.map fun t => (t.Key, t.L)
   simpa [prs] using this
  ·rw [if_neg h0, decide_eq_false (by omega)]
   refine (mset_perm h.keys k X).trans ((hf.cons _).trans ?_)
   have := (setp_perm k X y false).symm.map fun t => (t.Key, t.L)
   simpa [prs] using this
 ·rcases setp_mem ht with ⟨_, rfl⟩ | ⟨ht, _⟩
  ·exact ⟨hX, hl⟩
  ·obtain ⟨a, b⟩ := h.ok t ht; exact ⟨a, by omega⟩
 ·have := setp_len k X y (decide ((X.length : Int) = 0))
  have := h.ln
  split at * <;> omega
theorem set_eq (m : List (ByteArray × List Int)) (k : ByteArray) (X : List Int) : M.a4v 0 k X [m] = some [if X.length = 0 then mdel m k else mset m k X] := by
 rw [M.a4v]
 by_cases h : X.length = 0
 ·rw [if_pos (by omega), if_pos h]; rfl
 ·rw [if_neg (by omega), if_neg h]; rfl
theorem putx_ok {B m y} (h : Ri B m y) (hB : B ≤ 1000) (k : ByteArray) (n : Int) : ∃ m' y', M.a67 0 k n [m] = some (0, [m']) ∧ M.a69 y k n = some y' ∧ Ri (B + 1) m' y' := by
 obtain ⟨r1, r2⟩ := h.rget_ok k
 obtain ⟨X, a1, a2, a3, a4⟩ := add_ok (rget y k) n r1 (by omega)
 refine ⟨_, _, ?_, ?_, h.set k X a4 (by omega)⟩
 ·rw [M.a67]
  simp only [M.a28, Option.bind_eq_bind, Option.bind_some, show gn [m] 0 = m from rfl, h.get k, a1]
  show (M.a4v 0 k X [m] >>= fun y15 => _) = _
  rw [set_eq]; rfl
 ·rw [M.a69, rlist_eq y k (by have := h.ln; omega) (fun t ht => by have := (h.ok t ht).2; omega)]
  show (M.a3s (rget y k) n >>= fun y7 => _) = _
  rw [a2]
  show (M.a51 y k X >>= fun y11 => _) = _
  rw [rset_eq y k X (by have := h.ln; omega)]; rfl
theorem list_eq {B m y} (h : Ri B m y) (hB : B ≤ 1000) (k : ByteArray) : M.a52 0 k [m] = some (rget y k) := by
 have := (h.rget_ok k).2
 rw [M.a52]
 simp only [M.a28, Option.bind_eq_bind, Option.bind_some, show gn [m] 0 = m from rfl, h.get k]
 rw [clone _ (by omega)]; rfl
end Go.Proofs.YtdccklkdakfnaaaGreat
/-
 The numbers that fit a query, by lists of numbers. Pure.
-/
set_option linter.unusedVariables false
set_option linter.unusedSimpArgs false
namespace Go.Proofs.YtdccklkdakfnaaaGreat
open Go.Gx
open Classical
theorem rz_filter {a : List Int} (h : Rz a) (p : Int → Bool) : Rz (a.filter p) := h.sublist List.filter_sublist
theorem eval_gen {m : List (ByteArray × List Int)} {L : ByteArray → List Int} (hl : ∀ t, M.a52 0 t [m] = some (L t)) (hL : ∀ t, Rz (L t) ∧ (L t).length ≤ 1000) {D : Int → Prop} {G : Int → List ByteArray} (hG : ∀ v t, D v → (t ∈ G v ↔ v ∈ L t)) (n : Nat) :
  ∀ (q : T29) (a : List Int), qn q ≤ n → qn q ≤ 1000000 → Rq q → Rz a → a.length ≤ 1000 → (∀ v ∈ a, D v) →
  M.as (q, 0, a, [m]) = some (a.filter fun v => decide (FT (G v) q)) := by
 induction n with
 | zero => intro q a hq; have := qn_pos q; omega
 | succ n ih =>
  intro q a hn hb hr ha hal hD
  have hq := qn_eq q
  have hll := qns_len q.L
  have hrq := (Rq_eq q).1 hr
  have fe := fun v => FT_eq (G v) q
  have hcl : ∀ b : List Int, b.length ≤ 1000 → M.an b = some b := fun b hb => clone b (by omega)
  have ch : (∀ x ∈ q.L, Rq x) → ∀ x ∈ q.L, ∀ b, Rz b → b.length ≤ 1000 → (∀ v ∈ b, D v) → M.as (x, 0, b, [m]) = some (b.filter fun v => decide (FT (G v) x)) := fun hc x hx b hb1 hb2 hb3 => by
   have := qn_mem hx
   exact ih x b (by omega) (by omega) (hc x hx) hb1 hb2 hb3
  rw [M.as]; try dsimp only
  rcases hrq with ⟨h0 | h1, _, _⟩ | ⟨h2, _, _⟩ | ⟨h34, _, hc⟩
  ·rw [if_pos h0, hcl a hal, bnd]
   congr 1
   exact (List.filter_eq_self.2 fun v _ => decide_eq_true ((fe v).2 (.inr (.inr (.inr h0))))).symm
  ·rw [if_neg (by omega), if_neg (by omega), if_neg (by omega), if_neg (by omega)]
   congr 1
   exact (List.filter_eq_nil_iff.2 fun v _ => by rw [decide_eq_true_eq, fe]; omega).symm
  ·have hr2 := hL q.Text
   rw [if_neg (by omega), if_pos h2, hl q.Text, bnd, and_eq a [L q.Text] (by simp) (fun x hx => by
    rcases List.mem_cons.1 hx with rfl | hx
    ·exact ha
    ·rw [List.mem_singleton.1 hx]; exact hr2.1) (by simp [tot]; omega), bnd]
   congr 1
   refine rz_ext (rz_mg _ _ _ ha hr2.1) (rz_filter ha _) fun v => ?_
   show v ∈ mg fBoth a (L q.Text) ↔ _
   rw [mem_both ha hr2.1, List.mem_filter, decide_eq_true_eq, fe v]
   refine and_congr_right fun hv => ?_
   rw [← hG v q.Text (hD v hv)]
   simp [h2]
  ·have hch := ch hc
   rcases h34 with h3 | h4
   ·have loop : ∀ (R pre : List T29), q.L = pre ++ R → M.a3w (a.filter (fun v => decide (∀ x ∈ pre, FT (G v) x)), q.L, (q.L.length : Int), (pre.length : Int), 0, [m]) = some (a.filter fun v => decide (∀ x ∈ q.L, FT (G v) x)) := by
     intro R
     induction R with
     | nil =>
      intro pre e
      rw [List.append_nil] at e
      rw [M.a3w]; try dsimp only
      rw [if_neg (by rw [e]; omega), e]
     | cons x R ihR =>
      intro pre e
      have hlen : q.L.length = pre.length + (R.length + 1) := by rw [e]; simp
      have hx : x ∈ q.L := by rw [e]; simp
      have hfl : (a.filter (fun v => decide (∀ x ∈ pre, FT (G v) x))).length ≤ a.length := List.length_filter_le _ _
      rw [M.a3w]; try dsimp only
      rw [if_pos (by omega), if_pos (by omega), if_pos (by omega), show gi q.L (pre.length : Int) = x by rw [e]; exact gi_mid pre x R, hch x hx _ (rz_filter ha _) (by omega) (fun v hv => hD v ((List.mem_filter.1 hv).1)), bnd, wr_i64 (by omega) (by omega), show (pre.length : Int) + 1 = (((pre ++ [x]).length : Nat) : Int) by simp]
      have e2 : (a.filter (fun v => decide (∀ x ∈ pre, FT (G v) x))).filter (fun v => decide (FT (G v) x)) = a.filter (fun v => decide (∀ z ∈ pre ++ [x], FT (G v) z)) := by
       rw [List.filter_filter]
       refine List.filter_congr fun v _ => ?_
       rw [Bool.eq_iff_iff]
       simp only [Bool.and_eq_true, decide_eq_true_eq, List.mem_append, List.mem_singleton]
       exact ⟨fun ⟨p1, p2⟩ z hz => hz.elim (p2 z) (fun e => e ▸ p1), fun p => ⟨p x (.inr rfl), fun z hz => p z (.inl hz)⟩⟩
      rw [e2]
      exact ihR (pre ++ [x]) (by rw [e]; simp)
    have h0 := loop q.L [] rfl
    have e0 : a.filter (fun v => decide (∀ x ∈ ([] : List T29), FT (G v) x)) = a := List.filter_eq_self.2 fun v _ => by simp
    rw [e0] at h0
    rw [if_neg (by omega), if_neg (by omega), if_pos h3, hcl a hal, bnd]
    refine Eq.trans h0 ?_
    congr 1
    exact List.filter_congr fun v _ => by rw [decide_eq_decide, fe v]; simp [h3]
   ·have loop : ∀ (R pre : List T29), q.L = pre ++ R → M.a2b (a, a.filter (fun v => decide (∃ x ∈ pre, FT (G v) x)), q.L, (q.L.length : Int), (pre.length : Int), 0, [m]) = some (a.filter fun v => decide (∃ x ∈ q.L, FT (G v) x)) := by
     intro R
     induction R with
     | nil =>
      intro pre e
      rw [List.append_nil] at e
      rw [M.a2b]; try dsimp only
      rw [if_neg (by rw [e]; omega), e]
     | cons x R ihR =>
      intro pre e
      have hlen : q.L.length = pre.length + (R.length + 1) := by rw [e]; simp
      have hx : x ∈ q.L := by rw [e]; simp
      have hf1 : (a.filter (fun v => decide (∃ x ∈ pre, FT (G v) x))).length ≤ a.length := List.length_filter_le _ _
      have hf2 : (a.filter (fun v => decide (FT (G v) x))).length ≤ a.length := List.length_filter_le _ _
      have r1 := rz_filter ha (fun v => decide (∃ x ∈ pre, FT (G v) x))
      have r2 := rz_filter ha (fun v => decide (FT (G v) x))
      rw [M.a2b]; try dsimp only
      rw [if_pos (by omega), if_pos (by omega), if_pos (by omega), show gi q.L (pre.length : Int) = x by rw [e]; exact gi_mid pre x R, hch x hx _ ha hal hD, bnd, or_eq _ [_] (by simp) (fun z hz => by
       rcases List.mem_cons.1 hz with rfl | hz
       ·exact r1
       ·rw [List.mem_singleton.1 hz]; exact r2) (by simp [tot]; omega), bnd, wr_i64 (by omega) (by omega), show (pre.length : Int) + 1 = (((pre ++ [x]).length : Nat) : Int) by simp]
      have e2 : mg fOne (a.filter (fun v => decide (∃ x ∈ pre, FT (G v) x))) (a.filter (fun v => decide (FT (G v) x))) = a.filter (fun v => decide (∃ z ∈ pre ++ [x], FT (G v) z)) := by
       refine rz_ext (rz_mg _ _ _ r1 r2) (rz_filter ha _) fun v => ?_
       rw [mem_one r1 r2, List.mem_filter, List.mem_filter, List.mem_filter]
       simp only [decide_eq_true_eq, List.mem_append, List.mem_singleton]
       constructor
       ·rintro (⟨hv, z, hz, hf⟩ | ⟨hv, hf⟩)
        ·exact ⟨hv, z, .inl hz, hf⟩
        ·exact ⟨hv, x, .inr rfl, hf⟩
       ·rintro ⟨hv, z, hz | rfl, hf⟩
        ·exact .inl ⟨hv, z, hz, hf⟩
        ·exact .inr ⟨hv, hf⟩
      show M.a2b (a, mg fOne _ _, _) = _
      rw [e2]
      exact ihR (pre ++ [x]) (by rw [e]; simp)
    have h0 := loop q.L [] rfl
    have e0 : a.filter (fun v => decide (∃ x ∈ ([] : List T29), FT (G v) x)) = [] := List.filter_eq_nil_iff.2 fun v _ => by simp
    rw [e0] at h0
    rw [if_neg (by omega), if_neg (by omega), if_neg (by omega), if_pos h4]
    refine Eq.trans h0 ?_
    congr 1
    exact List.filter_congr fun v _ => by rw [decide_eq_decide, fe v]; simp [h4]
end Go.Proofs.YtdccklkdakfnaaaGreat
/-
 The law GramFits but for its told examples. Pure.
-/
set_option linter.unusedVariables false
set_option linter.unusedSimpArgs false
namespace Go.Proofs.YtdccklkdakfnaaaGreat
open Go.Gx
open Classical
/-! ### The document's way -/
theorem rhas_l0 (g : List ByteArray) (t : ByteArray) (hl : g.length ≤ 1000000) (k : Nat) : ∀ i : Nat, i + k = g.length → M.a3k (g, t, (i : Int)) = some (decide (t ∈ g.drop i)) := by
 induction k with
 | zero =>
  intro i hi
  rw [M.a3k]; try dsimp only
  rw [if_neg (by omega), List.drop_of_length_le (by omega), decide_eq_false (by simp)]
 | succ k ih =>
  intro i hi
  have hlt : i < g.length := by omega
  rw [M.a3k]; try dsimp only
  rw [if_pos (by omega), if_pos (by omega), gi_nat g i hlt, List.drop_eq_getElem_cons hlt]
  by_cases h : g[i] = t
  ·rw [if_pos (by rw [eqS, decide_eq_true h]), decide_eq_true (by rw [h]; simp)]
  ·rw [if_neg (by rw [eqS, decide_eq_false h]; decide), wr_i64 (by omega) (by omega), show (i : Int) + 1 = ((i + 1 : Nat) : Int) by omega, ih (i + 1) (by omega), show decide (t ∈ g.drop (i + 1)) = decide (t ∈ g[i] :: g.drop (i + 1)) from by
    rw [decide_eq_decide, List.mem_cons]
    exact ⟨.inr, fun hh => hh.resolve_left fun e => h e.symm⟩]
theorem rhas_ok (g : List ByteArray) (t : ByteArray) (hl : g.length ≤ 1000000) : M.a60 g t = some (decide (t ∈ g)) := by
 rw [M.a60]
 exact (rhas_l0 g t hl g.length 0 (by omega)).trans (by rw [List.drop_zero])
theorem gi_cv (L : List T29) (pre : List T29) (x : T29) (R : List T29) (e : L = pre ++ x :: R) : gi (L.map cv) (pre.length : Int) = cv x := by
 rw [e, List.map_append, List.map_cons]
 have := gi_mid (pre.map cv) (cv x) (R.map cv)
 rwa [List.length_map] at this
theorem rfits_ok (g : List ByteArray) (hl : g.length ≤ 1000000) (n : Nat) : ∀ q : T29, qn q ≤ n → qn q ≤ 1000000 → Rq q → M.al (cv q, g) = some (decide (FT g q)) := by
 induction n with
 | zero => intro q h; have := qn_pos q; omega
 | succ n ih =>
  intro q hn hb hr
  have hq := qn_eq q
  have hll := qns_len q.L
  have hrq := (Rq_eq q).1 hr
  have fe := FT_eq g q
  have ch : (∀ x ∈ q.L, Rq x) → ∀ x ∈ q.L, M.al (cv x, g) = some (decide (FT g x)) := fun hc x hx => by
   have := qn_mem hx
   exact ih x (by omega) (by omega) (hc x hx)
  rw [M.al]; try dsimp only
  rw [cv_op]
  rcases hrq with ⟨h | h, _, _⟩ | ⟨h, _, _⟩ | ⟨h, _, hc⟩
  ·rw [if_neg (by omega), if_neg (by omega), if_neg (by omega), if_neg (by omega), decide_eq_true (fe.2 (.inr (.inr (.inr h))))]
  ·rw [if_pos h, decide_eq_false (by rw [fe]; omega)]
  ·rw [if_neg (by omega), if_pos h, cv_text, rhas_ok g _ hl, bnd]
   have : FT g q ↔ q.Text ∈ g := by rw [fe]; simp [h]
   simp only [this]
  ·have hch := ch hc
   rcases h with h | h
   ·have all : ∀ (R pre : List T29), q.L = pre ++ R → (∀ x ∈ pre, FT g x) → M.a3l (g, cv q, (pre.length : Int)) = some (decide (∀ x ∈ q.L, FT g x)) := by
     intro R
     induction R with
     | nil =>
      intro pre e hp
      rw [List.append_nil] at e
      rw [M.a3l]; try dsimp only
      rw [cv_L, List.length_map, if_neg (by rw [e]; omega), decide_eq_true (e ▸ hp : ∀ x ∈ q.L, FT g x)]
     | cons x R ihR =>
      intro pre e hp
      have hlen : q.L.length = pre.length + (R.length + 1) := by rw [e]; simp
      have hx : x ∈ q.L := by rw [e]; simp
      rw [M.a3l]; try dsimp only
      rw [cv_L, List.length_map, if_pos (by omega), if_pos (by omega), gi_cv q.L pre x R e, hch x hx, bnd]
      by_cases hf : FT g x
      ·rw [decide_eq_true hf, if_pos rfl, wr_i64 (by omega) (by omega), show (pre.length : Int) + 1 = (((pre ++ [x]).length : Nat) : Int) by simp]
       exact ihR (pre ++ [x]) (by rw [e]; simp) fun y hy => by
        rcases List.mem_append.1 hy with hy | hy
        ·exact hp y hy
        ·rw [List.mem_singleton.1 hy]; exact hf
      ·rw [decide_eq_false hf, if_neg (by decide), decide_eq_false (fun h => hf (h x hx))]
    rw [if_neg (by omega), if_neg (by omega), if_pos h]
    have := all q.L [] rfl (by simp)
    refine this.trans ?_
    have : FT g q ↔ ∀ x ∈ q.L, FT g x := by rw [fe]; simp [h]
    simp only [this]
   ·have any : ∀ (R pre : List T29), q.L = pre ++ R → (∀ x ∈ pre, ¬ FT g x) → M.a3m (g, cv q, (pre.length : Int)) = some (decide (∃ x ∈ q.L, FT g x)) := by
     intro R
     induction R with
     | nil =>
      intro pre e hp
      rw [List.append_nil] at e
      rw [M.a3m]; try dsimp only
      rw [cv_L, List.length_map, if_neg (by rw [e]; omega), decide_eq_false (show ¬ ∃ x ∈ q.L, FT g x from fun ⟨x, hx, h⟩ => hp x (e ▸ hx) h)]
     | cons x R ihR =>
      intro pre e hp
      have hlen : q.L.length = pre.length + (R.length + 1) := by rw [e]; simp
      have hx : x ∈ q.L := by rw [e]; simp
      rw [M.a3m]; try dsimp only
      rw [cv_L, List.length_map, if_pos (by omega), if_pos (by omega), gi_cv q.L pre x R e, hch x hx, bnd]
      by_cases hf : FT g x
      ·rw [decide_eq_true hf, if_pos rfl, decide_eq_true ⟨x, hx, hf⟩]
      ·rw [decide_eq_false hf, if_neg (by decide), wr_i64 (by omega) (by omega), show (pre.length : Int) + 1 = (((pre ++ [x]).length : Nat) : Int) by simp]
       exact ihR (pre ++ [x]) (by rw [e]; simp) fun y hy => by
        rcases List.mem_append.1 hy with hy | hy
        ·exact hp y hy
        ·rw [List.mem_singleton.1 hy]; exact hf
    rw [if_neg (by omega), if_neg (by omega), if_neg (by omega), if_pos h]
    have := any q.L [] rfl (by simp)
    refine this.trans ?_
    have : FT g q ↔ ∃ x ∈ q.L, FT g x := by rw [fe]; simp [h]
    simp only [this]
theorem rFits_ok (q : T29) (s : ByteArray) (hq : qn q ≤ 3999) (hs : s.size ≤ 90000) : M.a61 (cv q) s = some (if QD 8 q ∧ Rq q then (decide (FT (nrm (wins s)) q), 0) else (false, 2)) := by
 have hw := nrm_len (wins s)
 rw [wins_len] at hw
 rw [M.a61, rqcheck_ok q hq, bnd]
 by_cases h : QD 8 q ∧ Rq q
 ·rw [if_pos h, if_pos rfl, rgrams_ok s hs, bnd, rfits_ok _ (by omega) (qn q) q (Nat.le_refl _) (by omega) h.2, bnd, if_pos h]
 ·rw [if_neg h, if_neg (by decide), if_neg h]
/-! ### Numbers that fit -/
def G (y : List T165) (n : Int) : List ByteArray := (y.filter fun t => decide (n ∈ t.L)).map (·.Key)
theorem mem_G {B m y} (h : Ri B m y) (n : Int) (t : ByteArray) : t ∈ G y n ↔ n ∈ rget y t := by
 unfold G
 rw [List.mem_map]
 have hr : ∀ x ∈ y, rget y x.Key = x.L := fun x hx => by
  unfold rget
  rw [mget_of_mem (prs_keys h.so) (k := x.Key) (v := x.L) (List.mem_map.2 ⟨x, hx, rfl⟩)]; rfl
 constructor
 ·rintro ⟨x, hx, rfl⟩
  rw [List.mem_filter] at hx
  rw [hr x hx.1]
  simpa using hx.2
 ·intro hn
  unfold rget at hn
  cases hm : mget (prs y) t with
  | none => rw [hm] at hn; cases hn
  | some v =>
   rw [hm] at hn
   obtain ⟨x, hx, e⟩ := List.mem_map.1 (mget_mem hm)
   cases e
   exact ⟨x, List.mem_filter.2 ⟨hx, by simpa using hn⟩, rfl⟩
theorem eval_ok {B m y} (h : Ri B m y) (hB : B ≤ 1000) (q : T29) (a : List Int) (hn : qn q ≤ 1000000) (hr : Rq q) (ha : Rz a) (hal : a.length ≤ 1000) : M.as (q, 0, a, [m]) = some (a.filter fun v => decide (FT (G y v) q)) :=
 eval_gen (L := rget y) (D := fun _ => True) (fun t => list_eq h hB t) (fun t => ⟨(h.rget_ok t).1, by have := (h.rget_ok t).2; omega⟩) (fun v t _ => mem_G h v t) (qn q) q a (Nat.le_refl _) hn hr ha hal fun _ _ => trivial
theorem Eval_ok {B m y} (h : Ri B m y) (hB : B ≤ 1000) (q : T29) (a : List Int) (hq : qn q ≤ 3999) (hal : a.length ≤ 1000) :
  M.a6e q 0 a [m] = some (if (QD 8 q ∧ Rq q) ∧ Rz a then (a.filter fun v => decide (FT (G y v) q), 0) else ([], 2)) := by
 rw [M.a6e, qcheck_ok q hq, bnd]
 by_cases hc : QD 8 q ∧ Rq q
 ·rw [if_pos hc, if_pos rfl, check_any a (by omega), bnd, chk, M.a53]; try dsimp only
  by_cases hr : Rz a
  ·rw [if_pos hr, if_neg (by decide), M.a6z, M.a28, bnd, bnd, eval_ok h hB q a (by omega) hc.2 hr hal, bnd, if_pos ⟨hc, hr⟩]
  ·rw [if_neg hr, if_pos (by decide), if_neg fun h => hr h.2]
 ·rw [if_neg hc, if_neg (by decide), M.a53]; try dsimp only
  rw [if_pos rfl, if_neg fun h => hc h.1]
/-! ### The document's numbers -/
theorem rEval_l2 {B m y} (h : Ri B m y) (hB : B ≤ 1000) (q : T29) (a acc : List Int) (i : Nat) (hi : i < a.length) (k : Nat) : ∀ (j : Nat) (g : List ByteArray), j + k = y.length → g.length ≤ j →
  M.a2d (a, cv q, acc, (i : Int), g, (j : Int), y) = M.a2d (a, cv q, acc, (i : Int), g ++ ((y.drop j).filter fun t => decide (a[i] ∈ t.L)).map (·.Key), (y.length : Int), y) := by
 have hyl := h.ln
 induction k with
 | zero =>
  intro j g hj hg
  have : j = y.length := by omega
  subst this
  rw [List.drop_of_length_le (Nat.le_refl _)]; simp
 | succ k ih =>
  intro j g hj hg
  have hlt : j < y.length := by omega
  have hok := h.ok y[j] (List.getElem_mem hlt)
  conv => lhs; rw [M.a2d]
  try dsimp only
  rw [if_pos (by omega), if_pos (by omega), if_pos (by omega), if_pos (by omega), gi_nat y j hlt, gi_nat a i hi, M.a72, rcheck_any _ (by omega), chk, if_pos hok.1, bnd, if_pos rfl, in_eq _ _ (by omega), bnd, bnd, List.drop_eq_getElem_cons hlt]
  try dsimp only
  by_cases hm : a[i] ∈ y[j].L
  ·rw [decide_eq_true hm, if_pos rfl, if_pos (by simp; omega), M.a54]; try dsimp only
   rw [wr_i64 (by omega) (by omega), show (j : Int) + 1 = ((j + 1 : Nat) : Int) by omega, ih (j + 1) _ (by omega) (by simp; omega), List.filter_cons_of_pos (by simpa using hm), List.map_cons, List.append_assoc]; rfl
  ·rw [decide_eq_false hm, if_neg (by decide), M.a54]; try dsimp only
   rw [wr_i64 (by omega) (by omega), show (j : Int) + 1 = ((j + 1 : Nat) : Int) by omega, ih (j + 1) _ (by omega) (by omega), List.filter_cons_of_neg (by simpa using hm)]
theorem rEval_l1 {B m y} (h : Ri B m y) (hB : B ≤ 1000) (q : T29) (hq : qn q ≤ 3999) (hr : Rq q) (a : List Int) (ha : a.length ≤ 1000) (k : Nat) : ∀ (i : Nat) (acc : List Int), i + k = a.length → acc.length ≤ i →
  M.a2c (a, cv q, acc, (i : Int), y) = some (acc ++ (a.drop i).filter (fun v => decide (FT (G y v) q)), 0) := by
 have hyl := h.ln
 induction k with
 | zero =>
  intro i acc hi hacc
  rw [M.a2c]; try dsimp only
  rw [if_neg (by omega), List.drop_of_length_le (by omega)]; simp
 | succ k ih =>
  intro i acc hi hacc
  have hlt : i < a.length := by omega
  rw [M.a2c]; try dsimp only
  have e2 := rEval_l2 h hB q a acc i hlt y.length 0 [] (by omega) (by simp)
  rw [List.drop_zero, List.nil_append] at e2
  rw [if_pos (by omega)]
  refine Eq.trans e2 ?_
  have hg : ((y.filter fun t => decide (a[i] ∈ t.L)).map (·.Key)).length ≤ 1000000 := by
   have := List.length_filter_le (fun t => decide (a[i] ∈ t.L)) y
   rw [List.length_map]; omega
  rw [M.a2d]; try dsimp only
  rw [if_neg (by omega), rfits_ok _ hg (qn q) q (Nat.le_refl _) (by omega) hr, bnd, List.drop_eq_getElem_cons hlt]
  have hG : (y.filter fun t => decide (a[i] ∈ t.L)).map (·.Key) = G y a[i] := rfl
  rw [hG]
  by_cases hf : FT (G y a[i]) q
  ·rw [decide_eq_true hf, if_pos rfl, if_pos (by omega), if_pos (by omega), gi_nat a i hlt, if_pos (by simp; omega), M.a55]; try dsimp only
   rw [wr_i64 (by omega) (by omega), show (i : Int) + 1 = ((i + 1 : Nat) : Int) by omega, ih (i + 1) _ (by omega) (by simp; omega), List.filter_cons_of_pos (by simpa using hf), List.append_assoc]; rfl
  ·rw [decide_eq_false hf, if_neg (by decide), M.a55]; try dsimp only
   rw [wr_i64 (by omega) (by omega), show (i : Int) + 1 = ((i + 1 : Nat) : Int) by omega, ih (i + 1) _ (by omega) (by omega), List.filter_cons_of_neg (by simpa using hf)]
theorem rEval_ok {B m y} (h : Ri B m y) (hB : B ≤ 1000) (q : T29) (a : List Int) (hq : qn q ≤ 3999) (hal : a.length ≤ 1000) :
  M.a6g (cv q) y a = some (if (QD 8 q ∧ Rq q) ∧ Rz a then (a.filter fun v => decide (FT (G y v) q), 0) else ([], 2)) := by
 rw [M.a6g, rqcheck_ok q hq, bnd]
 by_cases hc : QD 8 q ∧ Rq q
 ·rw [if_pos hc, if_pos rfl, rcheck_any a (by omega), bnd, chk, M.a56]; try dsimp only
  by_cases hr : Rz a
  ·rw [if_pos hr, if_neg (by decide), if_pos ⟨hc, hr⟩]
   have := rEval_l1 h hB q hq hc.2 a hal a.length 0 [] (by omega) (by simp)
   rw [List.drop_zero, List.nil_append] at this
   exact this
  ·rw [if_neg hr, if_pos (by decide), if_neg fun h => hr h.2]
 ·rw [if_neg hc, if_neg (by decide), M.a56]; try dsimp only
  rw [if_pos rfl, if_neg fun h => hc h.1]
/-! ### The law -/
theorem same_end (hw : M.a11 = some true) (X : List Int) (p : List (List (ByteArray × List Int))) (hX : X.length ≤ 1000) (k : Nat) : ∀ i : Nat, i + k = X.length → M.a3y (X, X, (i : Int), p) = some (true, p) := by
 induction k with
 | zero =>
  intro i hi
  rw [M.a3y]; try dsimp only
  rw [if_neg (by omega), hw, bnd]
 | succ k ih =>
  intro i hi
  rw [M.a3y]; try dsimp only
  rw [if_pos (by omega), if_pos (by omega), if_pos (by omega), if_pos rfl, wr_i64 (by omega) (by omega), show (i : Int) + 1 = ((i + 1 : Nat) : Int) by omega]
  exact ih (i + 1) (by omega)
theorem fits_acts (hw : M.a11 = some true) (l : List T69) (a : List Int) (ha : a.length ≤ 30) (q : T29) (hq : qn q ≤ 60) (hd : QD 10 q) (n : Nat) : ∀ (i : Nat) (m : List (ByteArray × List Int)) (y : List T165), i + n = 30 → Ri i m y →
  ∃ ps, M.a2e (l, a, q, 0, y, (i : Int), [m]) = some (true, ps) := by
 have fin : ∀ (i : Nat) (m : List (ByteArray × List Int)) (y : List T165), i ≤ 30 → Ri i m y → ∃ ps, M.a3z (l, a, q, 0, y, (i : Int), false, [m]) = some (true, ps) := by
  intro i m y hi h
  refine ⟨[m], ?_⟩
  have p1 : M.aa (q, 20) = some (cv q) := plain_ok 20 (by omega) q (hd.mono (by omega)) (by omega)
  rw [M.a3z]; try dsimp only
  rw [if_neg (by decide), if_pos (by omega), Eval_ok h (by omega) q a (by omega) (by omega), bnd, p1, bnd, rEval_ok h (by omega) q a (by omega) (by omega), bnd, if_pos rfl, decide_eq_true rfl, M.a6i]; try dsimp only
  rw [if_neg (by decide)]
  refine same_end hw _ _ ?_ _ 0 (Nat.zero_add _)
  split
  ·have := List.length_filter_le (fun v => decide (FT (G y v) q)) a
   show (List.filter _ a).length ≤ 1000
   omega
  ·simp
 induction n with
 | zero =>
  intro i m y hi h
  rw [M.a2e]; try dsimp only
  have := fin i m y (by omega) h
  split
  ·rw [decide_eq_false (by omega)]; exact this
  ·exact this
 | succ n ih =>
  intro i m y hi h
  rw [M.a2e]; try dsimp only
  by_cases hl : (i : Int) < (l.length : Int)
  ·obtain ⟨m', y', h1, h2, h3⟩ := putx_ok h (by omega) (gi l (i : Int)).Key (gi l (i : Int)).N
   rw [if_pos hl, decide_eq_true (by omega), M.a3z]; try dsimp only
   rw [if_pos rfl, if_pos (by omega), if_pos hl, h1, bnd, h2, bnd, wr_i64 (by omega) (by omega), show (i : Int) + 1 = ((i + 1 : Nat) : Int) by omega]
   exact ih (i + 1) m' y' (by omega) h3
  ·rw [if_neg hl]; exact fin i m y (by omega) h
theorem gfits_law (hw : M.a11 = some true) (x0 : T29) (x1 : ByteArray) (x2 : List T69) (x3 : List Int) (hf : ∀ e, FQ e x0) : ∃ ps, M.a6k x0 x1 x2 x3 [] = some (true, ps) := by
 obtain ⟨k, hk, k1, k2⟩ : ∃ k : Nat, imn (x1.size : Int) 60 = (k : Int) ∧ k ≤ 60 ∧ k ≤ x1.size := by
  refine ⟨min x1.size 60, ?_, by omega, by omega⟩
  simp only [imn]
  split <;> omega
 obtain ⟨k', hk', k1', k2'⟩ : ∃ k : Nat, imn (x3.length : Int) 30 = (k : Int) ∧ k ≤ 30 ∧ k ≤ x3.length := by
  refine ⟨min x3.length 30, ?_, by omega, by omega⟩
  simp only [imn]
  split <;> omega
 obtain ⟨c, b', c1, c2, c3, c4⟩ := qcut_ok 9 (by omega) x0 60 hf (by omega) (by omega)
 have c1' : M.a12 (x0, 9, 60) = some (c, b') := c1
 have hz' : (ss x1 0 (k : Int)).size = k := ss_size x1 0 k (Nat.zero_le _) k2
 have ha : (sl x3 0 (k' : Int)).length ≤ 30 := by unfold sl; simp; omega
 have p1 : M.aa (c, 20) = some (cv c) := plain_ok 20 (by omega) c (c4.mono (by omega)) (by omega)
 rw [M.a6k, hk, hk', if_pos (by omega), if_pos (by omega), if_pos (by omega), if_pos (by omega), c1', bnd]
 try dsimp only
 rw [Fits_ok c _ (by omega) (by omega), bnd, p1, bnd, rFits_ok c _ (by omega) (by omega), bnd, if_pos (by simp), decide_eq_true rfl, M.a6j]; try dsimp only
 rw [if_neg (by decide), M.a6w, bnd]
 exact fits_acts hw x2 _ ha c (by omega) c4 30 0 [] [] rfl ⟨List.Perm.refl _, List.Pairwise.nil, by simp, by simp⟩
end Go.Proofs.YtdccklkdakfnaaaGreat
