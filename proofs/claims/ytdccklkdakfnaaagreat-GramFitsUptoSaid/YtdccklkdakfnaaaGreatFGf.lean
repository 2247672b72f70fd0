/-
  Twins of pure functions that the kernel computes, and what the fixed examples' answer is. Printed by mkfuel.py.
-/
import Derived.Test.YtdccklkdakfnaaaGreatMGf
import Derived.Test.YtdccklkdakfnaaaGreatGY
set_option linter.unusedVariables false
set_option linter.unusedSimpArgs false
set_option maxRecDepth 100000
namespace Go.Gx
def LeO {α : Type} (a b : Option α) : Prop := ∀ y, a = some y → b = some y
theorem LeO.refl {α : Type} (a : Option α) : LeO a a := fun _ h => h
theorem LeO.zero {α : Type} (a : Option α) : LeO none a := fun _ h => by cases h
theorem LeO.ite {α : Type} {c : Prop} [Decidable c] {a b a' b' : Option α} (h : LeO a a') (k : LeO b b') : LeO (if c then a else b) (if c then a' else b') := by split <;> assumption
theorem LeO.bind {α β : Type} {a a' : Option α} {f f' : α → Option β} (h : LeO a a') (k : ∀ v, LeO (f v) (f' v)) : LeO (a >>= f) (a' >>= f') := by
  cases a with
  | none => exact LeO.zero _
  | some v =>
    rw [h v rfl]
    exact k v
mutual
def Fx0 : Nat → T29 × Int × Int → Option (Bool × Int)
 | 0, _ => none
 | n + 1, ⟨x0, x1, x2v_0⟩ =>
  if x1 = 0 then
  Fx1 n (x1, x0, true, wr .i64 (x2v_0 + 1))
  else
  Fx1 n (x1, x0, decide (wr .i64 (x2v_0 + 1) > 4096), wr .i64 (x2v_0 + 1))
 termination_by structural n => n
def Fx1 : Nat → Int × T29 × Bool × Int → Option (Bool × Int)
 | 0, _ => none
 | n + 1, ⟨x1, x3v, x21, e0v_0⟩ =>
  if x21 = true then
  some (false, e0v_0)
  else
  Fx2 n (x1, x3v.L, (x3v.L.length : Int), 0, e0v_0)
 termination_by structural n => n
def Fx2 : Nat → Int × (List T29) × Int × Int × Int → Option (Bool × Int)
 | 0, _ => none
 | n + 1, ⟨x1, x23, x24, x25, e0v_0⟩ =>
  if x25 < x24 then
  if 0 ≤ x25 then
  if x25 < (x23.length : Int) then
  Fx0 n (gi x23 x25, wr .i64 (x1 - 1), e0v_0) >>= fun y19 =>
  if y19.1 = true then
  Fx2 n (x1, x23, x24, wr .i64 (x25 + 1), y19.2)
  else
  some (false, y19.2)
  else
  none
  else
  none
  else
  some (true, e0v_0)
 termination_by structural n => n
end
theorem Fz0 (n : Nat) : (∀ x, LeO (Fx0 n x) (M.a4 x)) ∧ (∀ x, LeO (Fx1 n x) (M.at x)) ∧ (∀ x, LeO (Fx2 n x) (M.ae x)) := by
 induction n with
 | zero => exact ⟨fun _ => LeO.zero _, fun _ => LeO.zero _, fun _ => LeO.zero _⟩
 | succ n ih =>
  obtain ⟨h0, h1, h2⟩ := ih
  refine ⟨fun ⟨x0, x1, x2v_0⟩ => ?_, fun ⟨x1, x3v, x21, e0v_0⟩ => ?_, fun ⟨x1, x23, x24, x25, e0v_0⟩ => ?_⟩
  · rw [Fx0, M.a4]
    exact (LeO.ite (h1 _) (h1 _))
  · rw [Fx1, M.at]
    exact (LeO.ite (LeO.refl _) (h2 _))
  · rw [Fx2, M.ae]
    exact (LeO.ite (LeO.ite (LeO.ite (LeO.bind (h0 _) fun y19 => (LeO.ite (h2 _) (LeO.refl _))) (LeO.refl _)) (LeO.refl _)) (LeO.refl _))
theorem Fy0 (n : Nat) : ∀ x, LeO (Fx0 n x) (M.a4 x) := (Fz0 n).1
theorem Fy1 (n : Nat) : ∀ x, LeO (Fx1 n x) (M.at x) := (Fz0 n).2.1
theorem Fy2 (n : Nat) : ∀ x, LeO (Fx2 n x) (M.ae x) := (Fz0 n).2.2
mutual
def Fx3 : Nat → T29 → Option Bool
 | 0, _ => none
 | n + 1, x0 =>
  if x0.Op = 0 then
  Fx4 n (x0, x0.Op, true)
  else
  Fx4 n (x0, x0.Op, decide (x0.Op = 1))
 termination_by structural n => n
def Fx4 : Nat → T29 × Int × Bool → Option Bool
 | 0, _ => none
 | n + 1, ⟨x1v, x4, x5⟩ =>
  if x5 = true then
  if (x1v.Text.toList == (⟨#[]⟩ : ByteArray).toList) = true then
  some (decide ((x1v.L.length : Int) = 0))
  else
  some false
  else
  if x4 = 2 then
  if (x1v.Text.size : Int) = 3 then
  some (decide ((x1v.L.length : Int) = 0))
  else
  some false
  else
  if x4 = 3 then
  Fx5 n (x1v, true)
  else
  Fx5 n (x1v, decide (x4 = 4))
 termination_by structural n => n
def Fx5 : Nat → T29 × Bool → Option Bool
 | 0, _ => none
 | n + 1, ⟨x1v, x29⟩ =>
  if x29 = true then
  if (x1v.Text.toList == (⟨#[]⟩ : ByteArray).toList) = true then
  Fx6 n x1v.L >>= fun y13 =>
  some (!y13)
  else
  some false
  else
  some false
 termination_by structural n => n
def Fx6 : Nat → (List T29) → Option Bool
 | 0, _ => none
 | n + 1, x0 =>
  Fx7 n x0 >>= fun y1 =>
  some (decide (y1 ≥ 0))
 termination_by structural n => n
def Fx7 : Nat → (List T29) → Option Int
 | 0, _ => none
 | n + 1, x0 =>
  Fx8 n (x0, (x0.length : Int), 0)
 termination_by structural n => n
def Fx8 : Nat → (List T29) × Int × Int → Option Int
 | 0, _ => none
 | n + 1, ⟨x0, x7, x8⟩ =>
  if x8 < x7 then
  if 0 ≤ x8 then
  if x8 < (x0.length : Int) then
  Fx9 n (gi x0 x8) >>= fun y11 =>
  if y11 = true then
  some x8
  else
  Fx8 n (x0, x7, wr .i64 (x8 + 1))
  else
  none
  else
  none
  else
  some (-1)
 termination_by structural n => n
def Fx9 : Nat → T29 → Option Bool
 | 0, _ => none
 | n + 1, x0 =>
  Fx3 n x0 >>= fun y3 =>
  some (!y3)
 termination_by structural n => n
end
theorem Fz3 (n : Nat) : (∀ x, LeO (Fx3 n x) (M.af x)) ∧ (∀ x, LeO (Fx4 n x) (M.a5 x)) ∧ (∀ x, LeO (Fx5 n x) (M.a6 x)) ∧ (∀ x, LeO (Fx6 n x) (M.a2f x)) ∧ (∀ x, LeO (Fx7 n x) (M.a2g x)) ∧ (∀ x, LeO (Fx8 n x) (M.ag x)) ∧ (∀ x, LeO (Fx9 n x) (M.a2h x)) := by
 induction n with
 | zero => exact ⟨fun _ => LeO.zero _, fun _ => LeO.zero _, fun _ => LeO.zero _, fun _ => LeO.zero _, fun _ => LeO.zero _, fun _ => LeO.zero _, fun _ => LeO.zero _⟩
 | succ n ih =>
  obtain ⟨h0, h1, h2, h3, h4, h5, h6⟩ := ih
  refine ⟨fun x0 => ?_, fun ⟨x1v, x4, x5⟩ => ?_, fun ⟨x1v, x29⟩ => ?_, fun x0 => ?_, fun x0 => ?_, fun ⟨x0, x7, x8⟩ => ?_, fun x0 => ?_⟩
  · rw [Fx3, M.af]
    exact (LeO.ite (h1 _) (h1 _))
  · rw [Fx4, M.a5]
    exact (LeO.ite (LeO.ite (LeO.refl _) (LeO.refl _)) (LeO.ite (LeO.ite (LeO.refl _) (LeO.refl _)) (LeO.ite (h2 _) (h2 _))))
  · rw [Fx5, M.a6]
    exact (LeO.ite (LeO.ite (LeO.bind (h3 _) fun y13 => (LeO.refl _)) (LeO.refl _)) (LeO.refl _))
  · rw [Fx6, M.a2f]
    exact (LeO.bind (h4 _) fun y1 => (LeO.refl _))
  · rw [Fx7, M.a2g]
    exact (h5 _)
  · rw [Fx8, M.ag]
    exact (LeO.ite (LeO.ite (LeO.ite (LeO.bind (h6 _) fun y11 => (LeO.ite (LeO.refl _) (h5 _))) (LeO.refl _)) (LeO.refl _)) (LeO.refl _))
  · rw [Fx9, M.a2h]
    exact (LeO.bind (h0 _) fun y3 => (LeO.refl _))
theorem Fy3 (n : Nat) : ∀ x, LeO (Fx3 n x) (M.af x) := (Fz3 n).1
theorem Fy4 (n : Nat) : ∀ x, LeO (Fx4 n x) (M.a5 x) := (Fz3 n).2.1
theorem Fy5 (n : Nat) : ∀ x, LeO (Fx5 n x) (M.a6 x) := (Fz3 n).2.2.1
theorem Fy6 (n : Nat) : ∀ x, LeO (Fx6 n x) (M.a2f x) := (Fz3 n).2.2.2.1
theorem Fy7 (n : Nat) : ∀ x, LeO (Fx7 n x) (M.a2g x) := (Fz3 n).2.2.2.2.1
theorem Fy8 (n : Nat) : ∀ x, LeO (Fx8 n x) (M.ag x) := (Fz3 n).2.2.2.2.2.1
theorem Fy9 (n : Nat) : ∀ x, LeO (Fx9 n x) (M.a2h x) := (Fz3 n).2.2.2.2.2.2
def Fx10 (n : Nat) (x0 : T29) : Option Int :=
 Fx0 n (x0, 8, 0) >>= fun y5 =>
 if y5.1 = true then
 Fx3 n x0 >>= fun y8 =>
 if y8 = true then
 some 0
 else
 some 2
 else
 some 2
theorem Fy10 (n : Nat) : ∀ x0, LeO (Fx10 n x0) (M.au x0) := by
 intro x0
 rw [Fx10, M.au]
 exact (LeO.bind (Fy0 n _) fun y5 => (LeO.ite (LeO.bind (Fy3 n _) fun y8 => (LeO.ite (LeO.refl _) (LeO.refl _))) (LeO.refl _)))
def Fx11 : Nat → Int × Int × (List ByteArray) × ByteArray → Option (List ByteArray)
 | 0, _ => none
 | n + 1, ⟨x7, x8, e1v_0, x0q6b0v_0⟩ =>
  if x8 < x7 then
  if 0 ≤ x8 then
  if x8 ≤ wr .i64 (x8 + 3) then
  if wr .i64 (x8 + 3) ≤ (x0q6b0v_0.size : Int) then
  M.a57 e1v_0 x0q6b0v_0 (ss x0q6b0v_0 x8 (wr .i64 (x8 + 3))) >>= fun y10 =>
  Fx11 n (x7, wr .i64 (x8 + 1), y10, x0q6b0v_0)
  else
  none
  else
  none
  else
  none
  else
  some e1v_0
 termination_by structural n => n
theorem Fz11 (n : Nat) : (∀ x, LeO (Fx11 n x) (M.ah x)) := by
 induction n with
 | zero => exact fun _ => LeO.zero _
 | succ n ih =>
  have h0 := ih
  refine fun ⟨x7, x8, e1v_0, x0q6b0v_0⟩ => ?_
  · rw [Fx11, M.ah]
    exact (LeO.ite (LeO.ite (LeO.ite (LeO.ite (LeO.bind (LeO.refl _) fun y10 => (h0 _)) (LeO.refl _)) (LeO.refl _)) (LeO.refl _)) (LeO.refl _))
theorem Fy11 (n : Nat) : ∀ x, LeO (Fx11 n x) (M.ah x) := (Fz11 n)
def Fx12 (n : Nat) (x0q2v_0 : List ByteArray) (x0q6b0v_0 : ByteArray) : Option (List ByteArray) :=
 Fx11 n (wr .i64 ((wr .i64 ((x0q6b0v_0.size : Int) - 3)) + 1), 0, x0q2v_0, x0q6b0v_0)
theorem Fy12 (n : Nat) : ∀ x0q2v_0 x0q6b0v_0, LeO (Fx12 n x0q2v_0 x0q6b0v_0) (M.a2i x0q2v_0 x0q6b0v_0) := by
 intro x0q2v_0 x0q6b0v_0
 rw [Fx12, M.a2i]
 exact (Fy11 n _)
def Fx13 (n : Nat) (x1b0v_0 : ByteArray) : Option (List ByteArray) :=
 Fx12 n ([] : List ByteArray) x1b0v_0 >>= fun y10 =>
 some y10
theorem Fy13 (n : Nat) : ∀ x1b0v_0, LeO (Fx13 n x1b0v_0) (M.a40 x1b0v_0) := by
 intro x1b0v_0
 rw [Fx13, M.a40]
 exact (LeO.bind (Fy12 n _ _) fun y10 => (LeO.refl _))
def Fx14 (n : Nat) (x0b0v_0 : ByteArray) : Option (List ByteArray) :=
 Fx13 n x0b0v_0 >>= fun y2 =>
 some y2
theorem Fy14 (n : Nat) : ∀ x0b0v_0, LeO (Fx14 n x0b0v_0) (M.a41 x0b0v_0) := by
 intro x0b0v_0
 rw [Fx14, M.a41]
 exact (LeO.bind (Fy13 n _) fun y2 => (LeO.refl _))
def Fx15 (n : Nat) (x0b0v_0 : ByteArray) : Option (List ByteArray) :=
 Fx14 n x0b0v_0 >>= fun y2 =>
 if (y2.length : Int) ≤ 1099511627776 then
 some (srtSc y2)
 else
 none
theorem Fy15 (n : Nat) : ∀ x0b0v_0, LeO (Fx15 n x0b0v_0) (M.a42 x0b0v_0) := by
 intro x0b0v_0
 rw [Fx15, M.a42]; try rw [srtS_f]
 exact (LeO.bind (Fy14 n _) fun y2 => (LeO.ite (LeO.refl _) (LeO.refl _)))
def Fx16 (n : Nat) (x0 : ByteArray) : Option (List ByteArray) :=
 M.a58 x0 >>= fun y1 =>
 Fx15 n y1 >>= fun y4 =>
 if (y4.length : Int) ≤ 1099511627776 then
 some (cmpL y4)
 else
 none
theorem Fy16 (n : Nat) : ∀ x0, LeO (Fx16 n x0) (M.a1g x0) := by
 intro x0
 rw [Fx16, M.a1g]
 exact (LeO.bind (LeO.refl _) fun y1 => (LeO.bind (Fy15 n _) fun y4 => (LeO.ite (LeO.refl _) (LeO.refl _))))
def Fx17 : Nat → (List Int) × (List Int) × Int → Option (List Int)
 | 0, _ => none
 | n + 1, ⟨x1, x2v_0, x4⟩ =>
  if x4 < 4 then
  if 0 ≤ x4 then
  some (si x1 x4 (ixor .u64 18446744073709551615 (gi x1 x4))) >>= fun v13 =>
  Fx17 n (v13, x2v_0, wr .i64 (x4 + 1))
  else
  none
  else
  some x1
 termination_by structural n => n
theorem Fz17 (n : Nat) : (∀ x, LeO (Fx17 n x) (M.a2j x)) := by
 induction n with
 | zero => exact fun _ => LeO.zero _
 | succ n ih =>
  have h0 := ih
  refine fun ⟨x1, x2v_0, x4⟩ => ?_
  · rw [Fx17, M.a2j]
    exact (LeO.ite (LeO.ite (LeO.bind (LeO.refl _) fun v13 => (h0 _)) (LeO.refl _)) (LeO.refl _))
theorem Fy17 (n : Nat) : ∀ x, LeO (Fx17 n x) (M.a2j x) := (Fz17 n)
def Fx18 (n : Nat) (x0 : List Int) : Option (List Int) :=
 Fx17 n (x0, [0, 0, 0, 0], 0)
theorem Fy18 (n : Nat) : ∀ x0, LeO (Fx18 n x0) (M.av x0) := by
 intro x0
 rw [Fx18, M.av]
 exact (Fy17 n _)
def Fx19 : Nat → Int × (List Int) × (List Int) × Int → Option (List Int)
 | 0, _ => none
 | n + 1, ⟨x1, x4v_0, x5, x6⟩ =>
  if x6 ≤ wr .i64 x1 then
  if 0 ≤ iquo .i64 x6 64 then
  if iquo .i64 x6 64 < 4 then
  if 0 ≤ irem .i64 x6 64 then
  some (si x5 (iquo .i64 x6 64) (ior .u64 (gi x5 (iquo .i64 x6 64)) (ishl .u64 1 (irem .i64 x6 64)))) >>= fun v18 =>
  Fx19 n (x1, x4v_0, v18, wr .i64 (x6 + 1))
  else
  none
  else
  none
  else
  none
  else
  some x5
 termination_by structural n => n
theorem Fz19 (n : Nat) : (∀ x, LeO (Fx19 n x) (M.a2k x)) := by
 induction n with
 | zero => exact fun _ => LeO.zero _
 | succ n ih =>
  have h0 := ih
  refine fun ⟨x1, x4v_0, x5, x6⟩ => ?_
  · rw [Fx19, M.a2k]
    exact (LeO.ite (LeO.ite (LeO.ite (LeO.ite (LeO.bind (LeO.refl _) fun v18 => (h0 _)) (LeO.refl _)) (LeO.refl _)) (LeO.refl _)) (LeO.refl _))
theorem Fy19 (n : Nat) : ∀ x, LeO (Fx19 n x) (M.a2k x) := (Fz19 n)
def Fx20 (n : Nat) (x0 : Int) (x1 : Int) : Option (List Int) :=
 Fx19 n (x1, [0, 0, 0, 0], [0, 0, 0, 0], wr .i64 x0)
theorem Fy20 (n : Nat) : ∀ x0 x1, LeO (Fx20 n x0 x1) (M.a7 x0 x1) := by
 intro x0 x1
 rw [Fx20, M.a7]
 exact (Fy19 n _)
mutual
def Fx21 : Nat → (List Int) × (List Int) × (List (List Int)) × Int × Int → Option (List Int)
 | 0, _ => none
 | n + 1, ⟨x2v_0, x3, x7, x8, x9⟩ =>
  if x9 < x8 then
  if 0 ≤ x9 then
  if x9 < (x7.length : Int) then
  Fx22 n (x2v_0, x3, (gi x7 x9), x7, x8, x9, 0)
  else
  none
  else
  none
  else
  some x3
 termination_by structural n => n
def Fx22 : Nat → (List Int) × (List Int) × (List Int) × (List (List Int)) × Int × Int × Int → Option (List Int)
 | 0, _ => none
 | n + 1, ⟨x2v_0, x3, x5, x7, x8, x9, x13⟩ =>
  if x13 < 4 then
  if 0 ≤ x13 then
  some (si x3 x13 (ior .u64 (gi x3 x13) (gi x5 x13))) >>= fun v34 =>
  Fx22 n (x2v_0, v34, x5, x7, x8, x9, wr .i64 (x13 + 1))
  else
  none
  else
  Fx21 n (x2v_0, x3, x7, x8, wr .i64 (x9 + 1))
 termination_by structural n => n
end
theorem Fz21 (n : Nat) : (∀ x, LeO (Fx21 n x) (M.a1h x)) ∧ (∀ x, LeO (Fx22 n x) (M.a2l x)) := by
 induction n with
 | zero => exact ⟨fun _ => LeO.zero _, fun _ => LeO.zero _⟩
 | succ n ih =>
  obtain ⟨h0, h1⟩ := ih
  refine ⟨fun ⟨x2v_0, x3, x7, x8, x9⟩ => ?_, fun ⟨x2v_0, x3, x5, x7, x8, x9, x13⟩ => ?_⟩
  · rw [Fx21, M.a1h]
    exact (LeO.ite (LeO.ite (LeO.ite (h1 _) (LeO.refl _)) (LeO.refl _)) (LeO.refl _))
  · rw [Fx22, M.a2l]
    exact (LeO.ite (LeO.ite (LeO.bind (LeO.refl _) fun v34 => (h1 _)) (LeO.refl _)) (h0 _))
theorem Fy21 (n : Nat) : ∀ x, LeO (Fx21 n x) (M.a1h x) := (Fz21 n).1
theorem Fy22 (n : Nat) : ∀ x, LeO (Fx22 n x) (M.a2l x) := (Fz21 n).2
def Fx23 (n : Nat) (x0 : List (List Int)) : Option (List Int) :=
 Fx21 n ([0, 0, 0, 0], [0, 0, 0, 0], x0, (x0.length : Int), 0)
theorem Fy23 (n : Nat) : ∀ x0, LeO (Fx23 n x0) (M.aw x0) := by
 intro x0
 rw [Fx23, M.aw]
 exact (Fy21 n _)
def Fx24 (n : Nat) (x0 : Int) : Option ((List Int) × Bool) :=
 if ior .u8 x0 32 = 119 then
 Fx20 n 97 122 >>= fun y6 =>
 Fx20 n 65 90 >>= fun y8 =>
 M.a8 95 >>= fun y10 =>
 Fx23 n [[0, 0, 0, 0], y6, y8, y10] >>= fun y19 =>
 Fx20 n 48 57 >>= fun y22 =>
 Fx23 n [y19, y22] >>= fun y30 =>
 if iand .u8 x0 32 = 0 then
 Fx18 n y30 >>= fun y33 =>
 some (y33, true)
 else
 some (y30, true)
 else
 if ior .u8 x0 32 = 100 then
 Fx20 n 48 57 >>= fun y38 =>
 Fx23 n [[0, 0, 0, 0], y38] >>= fun y45 =>
 if iand .u8 x0 32 = 0 then
 Fx18 n y45 >>= fun y49 =>
 some (y49, true)
 else
 some (y45, true)
 else
 if ior .u8 x0 32 = 115 then
 Fx20 n 9 10 >>= fun y54 =>
 Fx20 n 12 13 >>= fun y56 =>
 M.a8 32 >>= fun y58 =>
 Fx23 n [y54, y56, y58] >>= fun y67 =>
 if iand .u8 x0 32 = 0 then
 Fx18 n y67 >>= fun y71 =>
 some (y71, true)
 else
 some (y67, true)
 else
 some ([0, 0, 0, 0], false)
theorem Fy24 (n : Nat) : ∀ x0, LeO (Fx24 n x0) (M.a59 x0) := by
 intro x0
 rw [Fx24, M.a59]
 exact (LeO.ite (LeO.bind (Fy20 n _ _) fun y6 => (LeO.bind (Fy20 n _ _) fun y8 => (LeO.bind (LeO.refl _) fun y10 => (LeO.bind (Fy23 n _) fun y19 => (LeO.bind (Fy20 n _ _) fun y22 => (LeO.bind (Fy23 n _) fun y30 => (LeO.ite (LeO.bind (Fy18 n _) fun y33 => (LeO.refl _)) (LeO.refl _)))))))) (LeO.ite (LeO.bind (Fy20 n _ _) fun y38 => (LeO.bind (Fy23 n _) fun y45 => (LeO.ite (LeO.bind (Fy18 n _) fun y49 => (LeO.refl _)) (LeO.refl _)))) (LeO.ite (LeO.bind (Fy20 n _ _) fun y54 => (LeO.bind (Fy20 n _ _) fun y56 => (LeO.bind (LeO.refl _) fun y58 => (LeO.bind (Fy23 n _) fun y67 => (LeO.ite (LeO.bind (Fy18 n _) fun y71 => (LeO.refl _)) (LeO.refl _)))))) (LeO.refl _))))
def Fx25 (n : Nat) (x0v : T134) : Option (T370 × T134) :=
 M.a2 x0v >>= fun y4 =>
 Fx24 n y4.1 >>= fun y6 =>
 if y6.2 = true then
 some ((⟨y6.1, 0, false⟩ : T370), (⟨y4.2.s, wr .i64 (y4.2.at_ + 1), y4.2.deep, y4.2.bad⟩ : T134))
 else
 if y4.1 = 120 then
 M.a43 (⟨y4.2.s, wr .i64 (y4.2.at_ + 1), y4.2.deep, y4.2.bad⟩ : T134) >>= fun y14 =>
 M.a43 y14.2 >>= fun y16 =>
 M.ai (ior .u8 (ishl .u8 y14.1 4) y16.1) >>= fun y18 =>
 some (y18, y16.2)
 else
 if y4.1 = 110 then
 M.ai 10 >>= fun y21 =>
 some (y21, (⟨y4.2.s, wr .i64 (y4.2.at_ + 1), y4.2.deep, y4.2.bad⟩ : T134))
 else
 if y4.1 = 116 then
 M.ai 9 >>= fun y24 =>
 some (y24, (⟨y4.2.s, wr .i64 (y4.2.at_ + 1), y4.2.deep, y4.2.bad⟩ : T134))
 else
 if y4.1 = 0 then
 M.a44 ((⟨[0, 0, 0, 0], 0, false⟩ : T370), y4.1, true, y4.2)
 else
 M.ax (⟨#[92, 46, 91, 93, 40, 41, 42, 43, 63, 123, 125, 94, 36, 45, 47, 124]⟩ : ByteArray) y4.1 >>= fun y28 =>
 M.a44 ((⟨[0, 0, 0, 0], 0, false⟩ : T370), y4.1, decide (y28 < 0), y4.2)
theorem Fy25 (n : Nat) : ∀ x0v, LeO (Fx25 n x0v) (M.a45 x0v) := by
 intro x0v
 rw [Fx25, M.a45]
 exact (LeO.bind (LeO.refl _) fun y4 => (LeO.bind (Fy24 n _) fun y6 => (LeO.ite (LeO.refl _) (LeO.ite (LeO.bind (LeO.refl _) fun y14 => (LeO.bind (LeO.refl _) fun y16 => (LeO.bind (LeO.refl _) fun y18 => (LeO.refl _)))) (LeO.ite (LeO.bind (LeO.refl _) fun y21 => (LeO.refl _)) (LeO.ite (LeO.bind (LeO.refl _) fun y24 => (LeO.refl _)) (LeO.ite (LeO.refl _) (LeO.bind (LeO.refl _) fun y28 => (LeO.refl _)))))))))
def Fx26 (n : Nat) (x0v : T134) : Option (T370 × T134) :=
 M.a2 x0v >>= fun y4 =>
 M.a0 y4.2 92 >>= fun y6 =>
 if y6.1 = true then
 Fx25 n y6.2 >>= fun y9 =>
 some (y9.1, y9.2)
 else
 if y4.1 < 32 then
 M.a1i ((⟨[0, 0, 0, 0], 0, false⟩ : T370), y4.1, true, y6.2)
 else
 if y4.1 > 126 then
 M.a1i ((⟨[0, 0, 0, 0], 0, false⟩ : T370), y4.1, true, y6.2)
 else
 M.ax (⟨#[93, 91, 45]⟩ : ByteArray) y4.1 >>= fun y14 =>
 M.a1i ((⟨[0, 0, 0, 0], 0, false⟩ : T370), y4.1, decide (y14 ≥ 0), y6.2)
theorem Fy26 (n : Nat) : ∀ x0v, LeO (Fx26 n x0v) (M.a46 x0v) := by
 intro x0v
 rw [Fx26, M.a46]
 exact (LeO.bind (LeO.refl _) fun y4 => (LeO.bind (LeO.refl _) fun y6 => (LeO.ite (LeO.bind (Fy25 n _) fun y9 => (LeO.refl _)) (LeO.ite (LeO.refl _) (LeO.ite (LeO.refl _) (LeO.bind (LeO.refl _) fun y14 => (LeO.refl _)))))))
def Fx27 (n : Nat) : (List Int) × Int × T370 × Int × T370 × Bool × T134 → Option ((List Int) × T134) := fun ⟨x2v_0, x3, x4v, x5, x6v, x47, e0v⟩ =>
 if x47 = true then
 some (x4v.set_, e0v)
 else
 if x6v.single = true then
 if x4v.b > x6v.b then
 M.a1 e0v x3 >>= fun y31 =>
 some (x4v.set_, y31.2)
 else
 Fx20 n x4v.b x6v.b >>= fun y33 =>
 some (y33, e0v)
 else
 M.a1 e0v (wr .i64 (x5 + 1)) >>= fun y36 =>
 some (x4v.set_, y36.2)
theorem Fy27 (n : Nat) : ∀ x, LeO (Fx27 n x) (M.a47 x) := fun ⟨x2v_0, x3, x4v, x5, x6v, x47, e0v⟩ => by
 rw [Fx27, M.a47]
 exact (LeO.ite (LeO.refl _) (LeO.ite (LeO.ite (LeO.bind (LeO.refl _) fun y31 => (LeO.refl _)) (LeO.bind (Fy20 n _ _) fun y33 => (LeO.refl _))) (LeO.bind (LeO.refl _) fun y36 => (LeO.refl _))))
def Fx28 (n : Nat) (x0v : T134) : Option ((List Int) × T134) :=
 Fx26 n x0v >>= fun y4 =>
 M.a2 y4.2 >>= fun y8 =>
 if y8.1 = 45 then
 if y4.1.single = true then
 Fx26 n (⟨y8.2.s, wr .i64 (y8.2.at_ + 1), y8.2.deep, y8.2.bad⟩ : T134) >>= fun y12 =>
 some (y12.2.bad) >>= fun v25 =>
 (match v25 with
 | none =>
  Fx27 n ([0, 0, 0, 0], x0v.at_, (⟨y4.1.set_, y4.1.b, true⟩ : T370), wr .i64 (y8.2.at_ + 1), y12.1, false, (⟨y12.2.s, y12.2.at_, y12.2.deep, none⟩ : T134))
 | some y17 =>
  Fx27 n ([0, 0, 0, 0], x0v.at_, (⟨y4.1.set_, y4.1.b, true⟩ : T370), wr .i64 (y8.2.at_ + 1), y12.1, true, (⟨y12.2.s, y12.2.at_, y12.2.deep, (some y17)⟩ : T134)))
 else
 M.a1 y8.2 y8.2.at_ >>= fun y26 =>
 some (y4.1.set_, y26.2)
 else
 some (y4.1.set_, y8.2)
theorem Fy28 (n : Nat) : ∀ x0v, LeO (Fx28 n x0v) (M.a5a x0v) := by
 intro x0v
 rw [Fx28, M.a5a]
 exact (LeO.bind (Fy26 n _) fun y4 => (LeO.bind (LeO.refl _) fun y8 => (LeO.ite (LeO.ite (LeO.bind (Fy26 n _) fun y12 => (LeO.bind (LeO.refl _) fun v25 => (by cases v25 with | none => exact (Fy27 n _) | some y17 => exact (Fy27 n _)))) (LeO.bind (LeO.refl _) fun y26 => (LeO.refl _))) (LeO.refl _))))
def Fx29 (n : Nat) (kq2v : T26) (kq3 : Bool) (kq4 : List Int) (kq9b0v_0v : T134) (a0 : List Int) : Option (List Int) :=
 Fx23 n [kq4, a0] >>= fun y16 =>
 some y16
theorem Fy29 (n : Nat) : ∀ kq2v kq3 kq4 kq9b0v_0v a0, LeO (Fx29 n kq2v kq3 kq4 kq9b0v_0v a0) (M.a5b kq2v kq3 kq4 kq9b0v_0v a0) := by
 intro kq2v kq3 kq4 kq9b0v_0v a0
 rw [Fx29, M.a5b]
 exact (LeO.bind (Fy23 n _) fun y16 => (LeO.refl _))
mutual
def Fx30 : Nat → Bool × (List Int) × T134 × T26 × Bool → Option ((List Int) × T134)
 | 0, _ => none
 | n + 1, ⟨x3, e2, e4v, x0q2v, x0q3⟩ =>
  some (e4v.bad) >>= fun v17 =>
  (match v17 with
  | none =>
   if x3 = true then
   Fx31 n (true, e2, (⟨e4v.s, e4v.at_, e4v.deep, none⟩ : T134), x0q2v, x0q3)
   else
   M.a0 (⟨e4v.s, e4v.at_, e4v.deep, none⟩ : T134) 93 >>= fun y15 =>
   Fx31 n (!y15.1, e2, y15.2, x0q2v, x0q3)
  | some y9 =>
   Fx31 n (false, e2, (⟨e4v.s, e4v.at_, e4v.deep, (some y9)⟩ : T134), x0q2v, x0q3))
 termination_by structural n => n
def Fx31 : Nat → Bool × (List Int) × T134 × T26 × Bool → Option ((List Int) × T134)
 | 0, _ => none
 | n + 1, ⟨x16, e2, e4v, x0q2v, x0q3⟩ =>
  if x16 = true then
  Fx28 n e4v >>= fun y19 =>
  Fx29 n x0q2v x0q3 e2 y19.2 y19.1 >>= fun y21 =>
  Fx30 n (false, y21, y19.2, x0q2v, x0q3)
  else
  some (e2, e4v)
 termination_by structural n => n
end
theorem Fz30 (n : Nat) : (∀ x, LeO (Fx30 n x) (M.a1j x)) ∧ (∀ x, LeO (Fx31 n x) (M.a1k x)) := by
 induction n with
 | zero => exact ⟨fun _ => LeO.zero _, fun _ => LeO.zero _⟩
 | succ n ih =>
  obtain ⟨h0, h1⟩ := ih
  refine ⟨fun ⟨x3, e2, e4v, x0q2v, x0q3⟩ => ?_, fun ⟨x16, e2, e4v, x0q2v, x0q3⟩ => ?_⟩
  · rw [Fx30, M.a1j]
    exact (LeO.bind (LeO.refl _) fun v17 => (by cases v17 with | none => exact (LeO.ite (h1 _) (LeO.bind (LeO.refl _) fun y15 => (h1 _))) | some y9 => exact (h1 _)))
  · rw [Fx31, M.a1k]
    exact (LeO.ite (LeO.bind (Fy28 n _) fun y19 => (LeO.bind (Fy29 n _ _ _ _ _) fun y21 => (h0 _))) (LeO.refl _))
theorem Fy30 (n : Nat) : ∀ x, LeO (Fx30 n x) (M.a1j x) := (Fz30 n).1
theorem Fy31 (n : Nat) : ∀ x, LeO (Fx31 n x) (M.a1k x) := (Fz30 n).2
def Fx32 (n : Nat) (x0q2v : T26) (x0q3 : Bool) (x0q4v_0 : List Int) (x0q9b0v_0v : T134) : Option ((List Int) × T134) :=
 Fx30 n (true, x0q4v_0, x0q9b0v_0v, x0q2v, x0q3)
theorem Fy32 (n : Nat) : ∀ x0q2v x0q3 x0q4v_0 x0q9b0v_0v, LeO (Fx32 n x0q2v x0q3 x0q4v_0 x0q9b0v_0v) (M.a5c x0q2v x0q3 x0q4v_0 x0q9b0v_0v) := by
 intro x0q2v x0q3 x0q4v_0 x0q9b0v_0v
 rw [Fx32, M.a5c]
 exact (Fy30 n _)
def Fx33 (n : Nat) (x0v : T134) : Option (T26 × T134) :=
 M.a0 x0v 94 >>= fun y4 =>
 M.a6l y4.2 >>= fun y8 =>
 Fx32 n (⟨0, [0, 0, 0, 0], ([] : List T26), 0, 0⟩ : T26) y4.1 [0, 0, 0, 0] y4.2 >>= fun y17 =>
 if y4.1 = true then
 Fx18 n y17.1 >>= fun y20 =>
 some ((⟨1, y20, ([] : List T26), 0, 0⟩ : T26), y17.2)
 else
 some ((⟨1, y17.1, ([] : List T26), 0, 0⟩ : T26), y17.2)
theorem Fy33 (n : Nat) : ∀ x0v, LeO (Fx33 n x0v) (M.a5d x0v) := by
 intro x0v
 rw [Fx33, M.a5d]
 exact (LeO.bind (LeO.refl _) fun y4 => (LeO.bind (LeO.refl _) fun y8 => (LeO.bind (Fy32 n _ _ _ _) fun y17 => (LeO.ite (LeO.bind (Fy18 n _) fun y20 => (LeO.refl _)) (LeO.refl _)))))
mutual
def Fx34 : Nat → T134 → Option (T26 × T134)
 | 0, _ => none
 | n + 1, x0v =>
  Fx35 n x0v >>= fun y4 =>
  Fx44 n ((⟨0, [0, 0, 0, 0], ([] : List T26), 0, 0⟩ : T26), [y4.1], y4.2)
 termination_by structural n => n
def Fx35 : Nat → T134 → Option (T26 × T134)
 | 0, _ => none
 | n + 1, x0v =>
  Fx36 n ((⟨0, [0, 0, 0, 0], ([] : List T26), 0, 0⟩ : T26), ([] : List T26), x0v)
 termination_by structural n => n
def Fx36 : Nat → T26 × (List T26) × T134 → Option (T26 × T134)
 | 0, _ => none
 | n + 1, ⟨x2v, x3, e0v⟩ =>
  some (e0v.bad) >>= fun v24 =>
  (match v24 with
  | none =>
   if e0v.at_ < (e0v.s.size : Int) then
   M.a2 (⟨e0v.s, e0v.at_, e0v.deep, none⟩ : T134) >>= fun y16 =>
   if y16.1 = 124 then
   Fx37 n (x2v, x3, false, y16.2)
   else
   M.a2 y16.2 >>= fun y22 =>
   Fx37 n (x2v, x3, !(decide (y22.1 = 41)), y22.2)
   else
   Fx37 n (x2v, x3, false, (⟨e0v.s, e0v.at_, e0v.deep, none⟩ : T134))
  | some y10 =>
   Fx37 n (x2v, x3, false, (⟨e0v.s, e0v.at_, e0v.deep, (some y10)⟩ : T134)))
 termination_by structural n => n
def Fx37 : Nat → T26 × (List T26) × Bool × T134 → Option (T26 × T134)
 | 0, _ => none
 | n + 1, ⟨x2v, x3, x30, e0v⟩ =>
  if x30 = true then
  Fx38 n e0v >>= fun y26 =>
  if ((x3 ++ [y26.1]).length : Int) ≤ 1099511627776 then
  Fx36 n (x2v, (x3 ++ [y26.1]), y26.2)
  else
  none
  else
  M.a48 2 x3 >>= fun y40 =>
  some (y40, e0v)
 termination_by structural n => n
def Fx38 : Nat → T134 → Option (T26 × T134)
 | 0, _ => none
 | n + 1, x0v =>
  Fx39 n x0v >>= fun y4 =>
  M.a0 y4.2 42 >>= fun y8 =>
  if y8.1 = true then
  some ((⟨4, [0, 0, 0, 0], [y4.1], 0, (-1)⟩ : T26), y8.2)
  else
  M.a0 y8.2 43 >>= fun y15 =>
  if y15.1 = true then
  some ((⟨4, [0, 0, 0, 0], [y4.1], 1, (-1)⟩ : T26), y15.2)
  else
  M.a0 y15.2 63 >>= fun y22 =>
  if y22.1 = true then
  some ((⟨4, [0, 0, 0, 0], [y4.1], 0, 1⟩ : T26), y22.2)
  else
  M.a0 y22.2 123 >>= fun y29 =>
  if y29.1 = true then
  M.a6m y29.2 y4.2.at_ >>= fun y32 =>
  some ((⟨4, [0, 0, 0, 0], [y4.1], y32.1, y32.2.1⟩ : T26), y32.2.2)
  else
  some (y4.1, y29.2)
 termination_by structural n => n
def Fx39 : Nat → T134 → Option (T26 × T134)
 | 0, _ => none
 | n + 1, x0v =>
  M.a2 x0v >>= fun y4 =>
  if y4.1 < 32 then
  Fx40 n ((⟨0, [0, 0, 0, 0], ([] : List T26), 0, 0⟩ : T26), y4.1, true, y4.2)
  else
  if y4.1 > 126 then
  Fx40 n ((⟨0, [0, 0, 0, 0], ([] : List T26), 0, 0⟩ : T26), y4.1, true, y4.2)
  else
  M.ax (⟨#[93, 41, 42, 43, 63, 123, 125, 94, 36, 124]⟩ : ByteArray) y4.1 >>= fun y12 =>
  Fx40 n ((⟨0, [0, 0, 0, 0], ([] : List T26), 0, 0⟩ : T26), y4.1, decide (y12 ≥ 0), y4.2)
 termination_by structural n => n
def Fx40 : Nat → T26 × Int × Bool × T134 → Option (T26 × T134)
 | 0, _ => none
 | n + 1, ⟨x2v, x3, x6, e0v⟩ =>
  if x6 = true then
  M.a1 e0v e0v.at_ >>= fun y16 =>
  some (y16.1, y16.2)
  else
  if x3 = 40 then
  Fx41 n (x2v, x3, decide (e0v.deep = 32), e0v)
  else
  Fx41 n (x2v, x3, false, e0v)
 termination_by structural n => n
def Fx41 : Nat → T26 × Int × Bool × T134 → Option (T26 × T134)
 | 0, _ => none
 | n + 1, ⟨x2v, x3, x24, e0v⟩ =>
  if x24 = true then
  M.a1 e0v e0v.at_ >>= fun y22 =>
  some (y22.1, y22.2)
  else
  M.a0 e0v 46 >>= fun y24 =>
  if y24.1 = true then
  M.a8 10 >>= fun y27 =>
  Fx18 n y27 >>= fun y29 =>
  some ((⟨1, y29, ([] : List T26), 0, 0⟩ : T26), y24.2)
  else
  M.a0 y24.2 91 >>= fun y32 =>
  if y32.1 = true then
  Fx33 n y32.2 >>= fun y35 =>
  some (y35.1, y35.2)
  else
  M.a0 y32.2 40 >>= fun y37 =>
  if y37.1 = true then
  Fx42 n y37.2 >>= fun y40 =>
  some (y40.1, y40.2)
  else
  M.a0 y37.2 92 >>= fun y42 =>
  if y42.1 = true then
  Fx25 n y42.2 >>= fun y45 =>
  some ((⟨1, y45.1.set_, ([] : List T26), 0, 0⟩ : T26), y45.2)
  else
  M.a8 x3 >>= fun y47 =>
  some ((⟨1, y47, ([] : List T26), 0, 0⟩ : T26), (⟨y42.2.s, wr .i64 (y42.2.at_ + 1), y42.2.deep, y42.2.bad⟩ : T134))
 termination_by structural n => n
def Fx42 : Nat → T134 → Option (T26 × T134)
 | 0, _ => none
 | n + 1, x0v =>
  M.a0 x0v 63 >>= fun y4 =>
  if y4.1 = true then
  M.a2m y4.2 58 >>= fun y7 =>
  Fx43 n ((⟨0, [0, 0, 0, 0], ([] : List T26), 0, 0⟩ : T26), y7)
  else
  Fx43 n ((⟨0, [0, 0, 0, 0], ([] : List T26), 0, 0⟩ : T26), y4.2)
 termination_by structural n => n
def Fx43 : Nat → T26 × T134 → Option (T26 × T134)
 | 0, _ => none
 | n + 1, ⟨x2v, e0v⟩ =>
  Fx34 n (⟨e0v.s, e0v.at_, wr .i64 (e0v.deep + 1), e0v.bad⟩ : T134) >>= fun y13 =>
  M.a2m (⟨y13.2.s, y13.2.at_, wr .i64 (y13.2.deep - 1), y13.2.bad⟩ : T134) 41 >>= fun y17 =>
  some (y13.1, y17)
 termination_by structural n => n
def Fx44 : Nat → T26 × (List T26) × T134 → Option (T26 × T134)
 | 0, _ => none
 | n + 1, ⟨x2v, x3, e0v⟩ =>
  M.a0 e0v 124 >>= fun y13 =>
  if y13.1 = true then
  Fx35 n y13.2 >>= fun y16 =>
  if ((x3 ++ [y16.1]).length : Int) ≤ 1099511627776 then
  Fx44 n (x2v, (x3 ++ [y16.1]), y16.2)
  else
  none
  else
  M.a48 3 x3 >>= fun y30 =>
  some (y30, y13.2)
 termination_by structural n => n
end
theorem Fz34 (n : Nat) : (∀ x, LeO (Fx34 n x) (M.a1l x)) ∧ (∀ x, LeO (Fx35 n x) (M.a2n x)) ∧ (∀ x, LeO (Fx36 n x) (M.a2o x)) ∧ (∀ x, LeO (Fx37 n x) (M.ay x)) ∧ (∀ x, LeO (Fx38 n x) (M.a49 x)) ∧ (∀ x, LeO (Fx39 n x) (M.a4a x)) ∧ (∀ x, LeO (Fx40 n x) (M.a1m x)) ∧ (∀ x, LeO (Fx41 n x) (M.a2p x)) ∧ (∀ x, LeO (Fx42 n x) (M.a4b x)) ∧ (∀ x, LeO (Fx43 n x) (M.a2q x)) ∧ (∀ x, LeO (Fx44 n x) (M.a2r x)) := by
 induction n with
 | zero => exact ⟨fun _ => LeO.zero _, fun _ => LeO.zero _, fun _ => LeO.zero _, fun _ => LeO.zero _, fun _ => LeO.zero _, fun _ => LeO.zero _, fun _ => LeO.zero _, fun _ => LeO.zero _, fun _ => LeO.zero _, fun _ => LeO.zero _, fun _ => LeO.zero _⟩
 | succ n ih =>
  obtain ⟨h0, h1, h2, h3, h4, h5, h6, h7, h8, h9, h10⟩ := ih
  refine ⟨fun x0v => ?_, fun x0v => ?_, fun ⟨x2v, x3, e0v⟩ => ?_, fun ⟨x2v, x3, x30, e0v⟩ => ?_, fun x0v => ?_, fun x0v => ?_, fun ⟨x2v, x3, x6, e0v⟩ => ?_, fun ⟨x2v, x3, x24, e0v⟩ => ?_, fun x0v => ?_, fun ⟨x2v, e0v⟩ => ?_, fun ⟨x2v, x3, e0v⟩ => ?_⟩
  · rw [Fx34, M.a1l]
    exact (LeO.bind (h1 _) fun y4 => (h10 _))
  · rw [Fx35, M.a2n]
    exact (h2 _)
  · rw [Fx36, M.a2o]
    exact (LeO.bind (LeO.refl _) fun v24 => (by cases v24 with | none => exact (LeO.ite (LeO.bind (LeO.refl _) fun y16 => (LeO.ite (h3 _) (LeO.bind (LeO.refl _) fun y22 => (h3 _)))) (h3 _)) | some y10 => exact (h3 _)))
  · rw [Fx37, M.ay]
    exact (LeO.ite (LeO.bind (h4 _) fun y26 => (LeO.ite (h2 _) (LeO.refl _))) (LeO.bind (LeO.refl _) fun y40 => (LeO.refl _)))
  · rw [Fx38, M.a49]
    exact (LeO.bind (h5 _) fun y4 => (LeO.bind (LeO.refl _) fun y8 => (LeO.ite (LeO.refl _) (LeO.bind (LeO.refl _) fun y15 => (LeO.ite (LeO.refl _) (LeO.bind (LeO.refl _) fun y22 => (LeO.ite (LeO.refl _) (LeO.bind (LeO.refl _) fun y29 => (LeO.ite (LeO.bind (LeO.refl _) fun y32 => (LeO.refl _)) (LeO.refl _))))))))))
  · rw [Fx39, M.a4a]
    exact (LeO.bind (LeO.refl _) fun y4 => (LeO.ite (h6 _) (LeO.ite (h6 _) (LeO.bind (LeO.refl _) fun y12 => (h6 _)))))
  · rw [Fx40, M.a1m]
    exact (LeO.ite (LeO.bind (LeO.refl _) fun y16 => (LeO.refl _)) (LeO.ite (h7 _) (h7 _)))
  · rw [Fx41, M.a2p]
    exact (LeO.ite (LeO.bind (LeO.refl _) fun y22 => (LeO.refl _)) (LeO.bind (LeO.refl _) fun y24 => (LeO.ite (LeO.bind (LeO.refl _) fun y27 => (LeO.bind (Fy18 n _) fun y29 => (LeO.refl _))) (LeO.bind (LeO.refl _) fun y32 => (LeO.ite (LeO.bind (Fy33 n _) fun y35 => (LeO.refl _)) (LeO.bind (LeO.refl _) fun y37 => (LeO.ite (LeO.bind (h8 _) fun y40 => (LeO.refl _)) (LeO.bind (LeO.refl _) fun y42 => (LeO.ite (LeO.bind (Fy25 n _) fun y45 => (LeO.refl _)) (LeO.bind (LeO.refl _) fun y47 => (LeO.refl _)))))))))))
  · rw [Fx42, M.a4b]
    exact (LeO.bind (LeO.refl _) fun y4 => (LeO.ite (LeO.bind (LeO.refl _) fun y7 => (h9 _)) (h9 _)))
  · rw [Fx43, M.a2q]
    exact (LeO.bind (h0 _) fun y13 => (LeO.bind (LeO.refl _) fun y17 => (LeO.refl _)))
  · rw [Fx44, M.a2r]
    exact (LeO.bind (LeO.refl _) fun y13 => (LeO.ite (LeO.bind (h1 _) fun y16 => (LeO.ite (h10 _) (LeO.refl _))) (LeO.bind (LeO.refl _) fun y30 => (LeO.refl _))))
theorem Fy34 (n : Nat) : ∀ x, LeO (Fx34 n x) (M.a1l x) := (Fz34 n).1
theorem Fy35 (n : Nat) : ∀ x, LeO (Fx35 n x) (M.a2n x) := (Fz34 n).2.1
theorem Fy36 (n : Nat) : ∀ x, LeO (Fx36 n x) (M.a2o x) := (Fz34 n).2.2.1
theorem Fy37 (n : Nat) : ∀ x, LeO (Fx37 n x) (M.ay x) := (Fz34 n).2.2.2.1
theorem Fy38 (n : Nat) : ∀ x, LeO (Fx38 n x) (M.a49 x) := (Fz34 n).2.2.2.2.1
theorem Fy39 (n : Nat) : ∀ x, LeO (Fx39 n x) (M.a4a x) := (Fz34 n).2.2.2.2.2.1
theorem Fy40 (n : Nat) : ∀ x, LeO (Fx40 n x) (M.a1m x) := (Fz34 n).2.2.2.2.2.2.1
theorem Fy41 (n : Nat) : ∀ x, LeO (Fx41 n x) (M.a2p x) := (Fz34 n).2.2.2.2.2.2.2.1
theorem Fy42 (n : Nat) : ∀ x, LeO (Fx42 n x) (M.a4b x) := (Fz34 n).2.2.2.2.2.2.2.2.1
theorem Fy43 (n : Nat) : ∀ x, LeO (Fx43 n x) (M.a2q x) := (Fz34 n).2.2.2.2.2.2.2.2.2.1
theorem Fy44 (n : Nat) : ∀ x, LeO (Fx44 n x) (M.a2r x) := (Fz34 n).2.2.2.2.2.2.2.2.2.2
def Fx45 (n : Nat) (x0 : ByteArray) : Option (T26 × Int × Int) :=
 if (x0.size : Int) > 256 then
 some ((⟨0, [0, 0, 0, 0], ([] : List T26), 0, 0⟩ : T26), 0, 3)
 else
 Fx34 n (⟨x0, 0, 0, none⟩ : T134) >>= fun y6 =>
 some (y6.2.bad) >>= fun v22 =>
 (match v22 with
 | none =>
  M.a4c ((⟨0, [0, 0, 0, 0], ([] : List T26), 0, 0⟩ : T26), (⟨y6.2.s, y6.2.at_, y6.2.deep, none⟩ : T134), y6.1, decide (y6.2.at_ < (x0.size : Int)))
 | some y11 =>
  M.a4c ((⟨0, [0, 0, 0, 0], ([] : List T26), 0, 0⟩ : T26), (⟨y6.2.s, y6.2.at_, y6.2.deep, (some y11)⟩ : T134), y6.1, false))
theorem Fy45 (n : Nat) : ∀ x0, LeO (Fx45 n x0) (M.a5e x0) := by
 intro x0
 rw [Fx45, M.a5e]
 exact (LeO.ite (LeO.refl _) (LeO.bind (Fy34 n _) fun y6 => (LeO.bind (LeO.refl _) fun v22 => (by cases v22 with | none => exact (LeO.refl _) | some y11 => exact (LeO.refl _)))))
mutual
def Fx46 : Nat → T26 × Int × Int → Option (Bool × Int)
 | 0, _ => none
 | n + 1, ⟨x0, x1, x2v_0⟩ =>
  if x1 = 0 then
  Fx47 n (x1, x0, true, wr .i64 (x2v_0 + 1))
  else
  Fx47 n (x1, x0, decide (wr .i64 (x2v_0 + 1) > 4096), wr .i64 (x2v_0 + 1))
 termination_by structural n => n
def Fx47 : Nat → Int × T26 × Bool × Int → Option (Bool × Int)
 | 0, _ => none
 | n + 1, ⟨x1, x3v, x21, e0v_0⟩ =>
  if x21 = true then
  some (false, e0v_0)
  else
  Fx48 n (x1, x3v.L, (x3v.L.length : Int), 0, e0v_0)
 termination_by structural n => n
def Fx48 : Nat → Int × (List T26) × Int × Int × Int → Option (Bool × Int)
 | 0, _ => none
 | n + 1, ⟨x1, x23, x24, x25, e0v_0⟩ =>
  if x25 < x24 then
  if 0 ≤ x25 then
  if x25 < (x23.length : Int) then
  Fx46 n ((⟨(gi x23 x25).Kind, ((gi x23 x25).Set), (gi x23 x25).L, (gi x23 x25).Min, (gi x23 x25).Max⟩ : T26), wr .i64 (x1 - 1), e0v_0) >>= fun y21 =>
  if y21.1 = true then
  Fx48 n (x1, x23, x24, wr .i64 (x25 + 1), y21.2)
  else
  some (false, y21.2)
  else
  none
  else
  none
  else
  some (true, e0v_0)
 termination_by structural n => n
end
theorem Fz46 (n : Nat) : (∀ x, LeO (Fx46 n x) (M.a1n x)) ∧ (∀ x, LeO (Fx47 n x) (M.a2s x)) ∧ (∀ x, LeO (Fx48 n x) (M.a2t x)) := by
 induction n with
 | zero => exact ⟨fun _ => LeO.zero _, fun _ => LeO.zero _, fun _ => LeO.zero _⟩
 | succ n ih =>
  obtain ⟨h0, h1, h2⟩ := ih
  refine ⟨fun ⟨x0, x1, x2v_0⟩ => ?_, fun ⟨x1, x3v, x21, e0v_0⟩ => ?_, fun ⟨x1, x23, x24, x25, e0v_0⟩ => ?_⟩
  · rw [Fx46, M.a1n]
    exact (LeO.ite (h1 _) (h1 _))
  · rw [Fx47, M.a2s]
    exact (LeO.ite (LeO.refl _) (h2 _))
  · rw [Fx48, M.a2t]
    exact (LeO.ite (LeO.ite (LeO.ite (LeO.bind (h0 _) fun y21 => (LeO.ite (h2 _) (LeO.refl _))) (LeO.refl _)) (LeO.refl _)) (LeO.refl _))
theorem Fy46 (n : Nat) : ∀ x, LeO (Fx46 n x) (M.a1n x) := (Fz46 n).1
theorem Fy47 (n : Nat) : ∀ x, LeO (Fx47 n x) (M.a2s x) := (Fz46 n).2.1
theorem Fy48 (n : Nat) : ∀ x, LeO (Fx48 n x) (M.a2t x) := (Fz46 n).2.2
mutual
def Fx49 : Nat → T26 → Option Bool
 | 0, _ => none
 | n + 1, x0 =>
  Fx50 n (x0, x0.L, (x0.L.length : Int), 0)
 termination_by structural n => n
def Fx50 : Nat → T26 × (List T26) × Int × Int → Option Bool
 | 0, _ => none
 | n + 1, ⟨x1v, x6, x7, x8⟩ =>
  if x8 < x7 then
  if 0 ≤ x8 then
  if x8 < (x6.length : Int) then
  Fx49 n (⟨(gi x6 x8).Kind, ((gi x6 x8).Set), (gi x6 x8).L, (gi x6 x8).Min, (gi x6 x8).Max⟩ : T26) >>= fun y18 =>
  if y18 = true then
  Fx50 n (x1v, x6, x7, wr .i64 (x8 + 1))
  else
  some false
  else
  none
  else
  none
  else
  M.a6n x1v >>= fun y21 =>
  some y21
 termination_by structural n => n
end
theorem Fz49 (n : Nat) : (∀ x, LeO (Fx49 n x) (M.a1o x)) ∧ (∀ x, LeO (Fx50 n x) (M.a2u x)) := by
 induction n with
 | zero => exact ⟨fun _ => LeO.zero _, fun _ => LeO.zero _⟩
 | succ n ih =>
  obtain ⟨h0, h1⟩ := ih
  refine ⟨fun x0 => ?_, fun ⟨x1v, x6, x7, x8⟩ => ?_⟩
  · rw [Fx49, M.a1o]
    exact (h1 _)
  · rw [Fx50, M.a2u]
    exact (LeO.ite (LeO.ite (LeO.ite (LeO.bind (h0 _) fun y18 => (LeO.ite (h1 _) (LeO.refl _))) (LeO.refl _)) (LeO.refl _)) (LeO.bind (LeO.refl _) fun y21 => (LeO.refl _)))
theorem Fy49 (n : Nat) : ∀ x, LeO (Fx49 n x) (M.a1o x) := (Fz49 n).1
theorem Fy50 (n : Nat) : ∀ x, LeO (Fx50 n x) (M.a2u x) := (Fz49 n).2
def Fx51 (n : Nat) (x0 : T26) : Option Int :=
 Fx46 n (x0, 128, 0) >>= fun y5 =>
 if y5.1 = true then
 Fx49 n x0 >>= fun y8 =>
 if y8 = true then
 some y5.2
 else
 some 0
 else
 some 0
theorem Fy51 (n : Nat) : ∀ x0, LeO (Fx51 n x0) (M.a5f x0) := by
 intro x0
 rw [Fx51, M.a5f]
 exact (LeO.bind (Fy46 n _) fun y5 => (LeO.ite (LeO.bind (Fy49 n _) fun y8 => (LeO.ite (LeO.refl _) (LeO.refl _))) (LeO.refl _)))
def Fx52 (n : Nat) (x0 : T26) : Option Bool :=
 Fx51 n x0 >>= fun y3 =>
 some (decide (y3 > 0))
theorem Fy52 (n : Nat) : ∀ x0, LeO (Fx52 n x0) (M.a5g x0) := by
 intro x0
 rw [Fx52, M.a5g]
 exact (LeO.bind (Fy51 n _) fun y3 => (LeO.refl _))
mutual
def Fx53 : Nat → (List Int) × T218 × (List ByteArray) × Int → Option T218
 | 0, _ => none
 | n + 1, ⟨x1, x2v, x3, x5⟩ =>
  if x5 < 256 then
  M.a5h x1 (wr .u8 x5) >>= fun y12 =>
  if y12 = true then
  if ((x3 ++ [b2s [wr .u8 x5]]).length : Int) ≤ 1099511627776 then
  Fx54 n (x1, x2v, (x3 ++ [b2s [wr .u8 x5]]), x5)
  else
  none
  else
  Fx54 n (x1, x2v, x3, x5)
  else
  if (x3.length : Int) > 8 then
  M.a3 >>= fun y35 =>
  some y35
  else
  some (⟨x3, true⟩ : T218)
 termination_by structural n => n
def Fx54 : Nat → (List Int) × T218 × (List ByteArray) × Int → Option T218
 | 0, _ => none
 | n + 1, ⟨x1, x2v, x3, x5⟩ =>
  Fx53 n (x1, x2v, x3, wr .i64 (x5 + 1))
 termination_by structural n => n
end
theorem Fz53 (n : Nat) : (∀ x, LeO (Fx53 n x) (M.a1p x)) ∧ (∀ x, LeO (Fx54 n x) (M.a2v x)) := by
 induction n with
 | zero => exact ⟨fun _ => LeO.zero _, fun _ => LeO.zero _⟩
 | succ n ih =>
  obtain ⟨h0, h1⟩ := ih
  refine ⟨fun ⟨x1, x2v, x3, x5⟩ => ?_, fun ⟨x1, x2v, x3, x5⟩ => ?_⟩
  · rw [Fx53, M.a1p]
    exact (LeO.ite (LeO.bind (LeO.refl _) fun y12 => (LeO.ite (LeO.ite (h1 _) (LeO.refl _)) (h1 _))) (LeO.ite (LeO.bind (LeO.refl _) fun y35 => (LeO.refl _)) (LeO.refl _)))
  · rw [Fx54, M.a2v]
    exact (h0 _)
theorem Fy53 (n : Nat) : ∀ x, LeO (Fx53 n x) (M.a1p x) := (Fz53 n).1
theorem Fy54 (n : Nat) : ∀ x, LeO (Fx54 n x) (M.a2v x) := (Fz53 n).2
def Fx55 (n : Nat) (x0 : List Int) : Option T218 :=
 Fx53 n (x0, (⟨([] : List ByteArray), false⟩ : T218), ([] : List ByteArray), 0)
theorem Fy55 (n : Nat) : ∀ x0, LeO (Fx55 n x0) (M.a5i x0) := by
 intro x0
 rw [Fx55, M.a5i]
 exact (Fy53 n _)
def Fx56 (n : Nat) (x0 : List ByteArray) : Option T218 :=
 if (x0.length : Int) ≤ 1099511627776 then
 if ((cmpL (srtSc x0)).length : Int) > 32 then
 M.a3 >>= fun y10 =>
 some y10
 else
 some (⟨(cmpL (srtSc x0)), true⟩ : T218)
 else
 none
theorem Fy56 (n : Nat) : ∀ x0, LeO (Fx56 n x0) (M.a2w x0) := by
 intro x0
 rw [Fx56, M.a2w]; try rw [srtS_f]
 exact (LeO.ite (LeO.ite (LeO.bind (LeO.refl _) fun y10 => (LeO.refl _)) (LeO.refl _)) (LeO.refl _))
mutual
def Fx57 : Nat → T218 × T218 × (List ByteArray) × (List ByteArray) × Int × Int → Option T218
 | 0, _ => none
 | n + 1, ⟨x3v, x4v, x5, x20, x21, x22⟩ =>
  if x22 < x21 then
  if 0 ≤ x22 then
  if x22 < (x20.length : Int) then
  Fx58 n (x3v, x4v, x5, gi x20 x22, x20, x21, x22, x3v.l, (x3v.l.length : Int), 0)
  else
  none
  else
  none
  else
  Fx56 n x5 >>= fun y32 =>
  some y32
 termination_by structural n => n
def Fx58 : Nat → T218 × T218 × (List ByteArray) × ByteArray × (List ByteArray) × Int × Int × (List ByteArray) × Int × Int → Option T218
 | 0, _ => none
 | n + 1, ⟨x3v, x4v, x5, x7, x20, x21, x22, x27, x28, x29⟩ =>
  if x29 < x28 then
  if 0 ≤ x29 then
  if x29 < (x27.length : Int) then
  if wr .i64 ((x7.size : Int) + ((gi x27 x29).size : Int)) > 32 then
  M.a3 >>= fun y41 =>
  some y41
  else
  if (x7.size : Int) + ((gi x27 x29).size : Int) ≤ 1099511627776 then
  if ((x5 ++ [x7 ++ (gi x27 x29)]).length : Int) ≤ 1099511627776 then
  Fx58 n (x3v, x4v, (x5 ++ [x7 ++ (gi x27 x29)]), x7, x20, x21, x22, x27, x28, wr .i64 (x29 + 1))
  else
  none
  else
  none
  else
  none
  else
  none
  else
  Fx57 n (x3v, x4v, x5, x20, x21, wr .i64 (x22 + 1))
 termination_by structural n => n
end
theorem Fz57 (n : Nat) : (∀ x, LeO (Fx57 n x) (M.a1q x)) ∧ (∀ x, LeO (Fx58 n x) (M.a2x x)) := by
 induction n with
 | zero => exact ⟨fun _ => LeO.zero _, fun _ => LeO.zero _⟩
 | succ n ih =>
  obtain ⟨h0, h1⟩ := ih
  refine ⟨fun ⟨x3v, x4v, x5, x20, x21, x22⟩ => ?_, fun ⟨x3v, x4v, x5, x7, x20, x21, x22, x27, x28, x29⟩ => ?_⟩
  · rw [Fx57, M.a1q]
    exact (LeO.ite (LeO.ite (LeO.ite (h1 _) (LeO.refl _)) (LeO.refl _)) (LeO.bind (Fy56 n _) fun y32 => (LeO.refl _)))
  · rw [Fx58, M.a2x]
    exact (LeO.ite (LeO.ite (LeO.ite (LeO.ite (LeO.bind (LeO.refl _) fun y41 => (LeO.refl _)) (LeO.ite (LeO.ite (h1 _) (LeO.refl _)) (LeO.refl _))) (LeO.refl _)) (LeO.refl _)) (h0 _))
theorem Fy57 (n : Nat) : ∀ x, LeO (Fx57 n x) (M.a1q x) := (Fz57 n).1
theorem Fy58 (n : Nat) : ∀ x, LeO (Fx58 n x) (M.a2x x) := (Fz57 n).2
def Fx59 (n : Nat) : T218 × T218 × T218 × Bool → Option T218 := fun ⟨x2v, x3v, x4v, x17⟩ =>
 if x17 = true then
 M.a3 >>= fun y15 =>
 some y15
 else
 Fx57 n (x3v, x4v, ([] : List ByteArray), x2v.l, (x2v.l.length : Int), 0)
theorem Fy59 (n : Nat) : ∀ x, LeO (Fx59 n x) (M.a4d x) := fun ⟨x2v, x3v, x4v, x17⟩ => by
 rw [Fx59, M.a4d]
 exact (LeO.ite (LeO.bind (LeO.refl _) fun y15 => (LeO.refl _)) (Fy57 n _))
def Fx60 (n : Nat) (x0 : T218) (x1 : T218) : Option T218 :=
 if x0.known = true then
 Fx59 n ((⟨x0.l, true⟩ : T218), x1, (⟨([] : List ByteArray), false⟩ : T218), !x1.known)
 else
 Fx59 n ((⟨x0.l, false⟩ : T218), x1, (⟨([] : List ByteArray), false⟩ : T218), true)
theorem Fy60 (n : Nat) : ∀ x0 x1, LeO (Fx60 n x0 x1) (M.a4e x0 x1) := by
 intro x0 x1
 rw [Fx60, M.a4e]
 exact (LeO.ite (Fy59 n _) (Fy59 n _))
def Fx61 (n : Nat) : Option T218 :=
 if (0 : Int) ≤ 1099511627776 then
 if ((cmpL (srtSc ([] : List ByteArray))).length : Int) > 32 then
 M.a3 >>= fun y10 =>
 some y10
 else
 some (⟨(cmpL (srtSc ([] : List ByteArray))), true⟩ : T218)
 else
 none
theorem Fy61 (n : Nat) : LeO (Fx61 n) M.a5j := by
 rw [Fx61, M.a5j]; try rw [srtS_f]
 exact (LeO.ite (LeO.ite (LeO.bind (LeO.refl _) fun y10 => (LeO.refl _)) (LeO.refl _)) (LeO.refl _))
def Fx62 : Nat → (List ByteArray) × (List (List ByteArray)) × Int × Int → Option (List ByteArray)
 | 0, _ => none
 | n + 1, ⟨x6, x25, x26, x27⟩ =>
  if x27 < x26 then
  if 0 ≤ x27 then
  if x27 < (x25.length : Int) then
  if ((x6 ++ gi x25 x27).length : Int) ≤ 1099511627776 then
  Fx62 n ((x6 ++ gi x25 x27), x25, x26, wr .i64 (x27 + 1))
  else
  none
  else
  none
  else
  none
  else
  some x6
 termination_by structural n => n
theorem Fz62 (n : Nat) : (∀ x, LeO (Fx62 n x) (M.a2y x)) := by
 induction n with
 | zero => exact fun _ => LeO.zero _
 | succ n ih =>
  have h0 := ih
  refine fun ⟨x6, x25, x26, x27⟩ => ?_
  · rw [Fx62, M.a2y]
    exact (LeO.ite (LeO.ite (LeO.ite (LeO.ite (h0 _) (LeO.refl _)) (LeO.refl _)) (LeO.refl _)) (LeO.refl _))
theorem Fy62 (n : Nat) : ∀ x, LeO (Fx62 n x) (M.a2y x) := (Fz62 n)
mutual
def Fx63 : Nat → (List (List ByteArray)) × Int × (List (List ByteArray)) × Int × Int → Option (List ByteArray)
 | 0, _ => none
 | n + 1, ⟨x0, x3, x9, x10, x11⟩ =>
  if x11 < x10 then
  if 0 ≤ x11 then
  if x11 < (x9.length : Int) then
  if wr .i64 (x3 + ((gi x9 x11).length : Int)) < 0 then
  none
  else
  Fx64 n (x0, wr .i64 (x3 + ((gi x9 x11).length : Int)), x9, x10, x11)
  else
  none
  else
  none
  else
  M.a6o x3 >>= fun y11 =>
  Fx62 n (y11, x0, (x0.length : Int), 0)
 termination_by structural n => n
def Fx64 : Nat → (List (List ByteArray)) × Int × (List (List ByteArray)) × Int × Int → Option (List ByteArray)
 | 0, _ => none
 | n + 1, ⟨x0, x3, x9, x10, x11⟩ =>
  Fx63 n (x0, x3, x9, x10, wr .i64 (x11 + 1))
 termination_by structural n => n
end
theorem Fz63 (n : Nat) : (∀ x, LeO (Fx63 n x) (M.a1r x)) ∧ (∀ x, LeO (Fx64 n x) (M.a4f x)) := by
 induction n with
 | zero => exact ⟨fun _ => LeO.zero _, fun _ => LeO.zero _⟩
 | succ n ih =>
  obtain ⟨h0, h1⟩ := ih
  refine ⟨fun ⟨x0, x3, x9, x10, x11⟩ => ?_, fun ⟨x0, x3, x9, x10, x11⟩ => ?_⟩
  · rw [Fx63, M.a1r]
    exact (LeO.ite (LeO.ite (LeO.ite (LeO.ite (LeO.refl _) (h1 _)) (LeO.refl _)) (LeO.refl _)) (LeO.bind (LeO.refl _) fun y11 => (Fy62 n _)))
  · rw [Fx64, M.a4f]
    exact (h0 _)
theorem Fy63 (n : Nat) : ∀ x, LeO (Fx63 n x) (M.a1r x) := (Fz63 n).1
theorem Fy64 (n : Nat) : ∀ x, LeO (Fx64 n x) (M.a4f x) := (Fz63 n).2
def Fx65 (n : Nat) (x0 : List (List ByteArray)) : Option (List ByteArray) :=
 Fx63 n (x0, 0, x0, (x0.length : Int), 0)
theorem Fy65 (n : Nat) : ∀ x0, LeO (Fx65 n x0) (M.a5k x0) := by
 intro x0
 rw [Fx65, M.a5k]
 exact (Fy63 n _)
def Fx66 : Nat → (List T26) × Int → Option (List T26)
 | 0, _ => none
 | n + 1, ⟨x7, x8⟩ =>
  if x8 < (x7.length : Int) then
  if 0 ≤ x8 then
  if x8 ≤ (x7.length : Int) then
  some (cpy x7 ((x8 : Int).toNat) (((x7.length : Int) : Int).toNat - (x8 : Int).toNat) (sl x7 0 x8)) >>= fun v27 =>
  Fx66 n (v27, wr .i64 (x8 + ((min ((x8 : Int).toNat - (0 : Int).toNat) (((x7.length : Int) : Int).toNat - (x8 : Int).toNat) : Nat) : Int)))
  else
  none
  else
  none
  else
  some x7
 termination_by structural n => n
theorem Fz66 (n : Nat) : (∀ x, LeO (Fx66 n x) (M.a2z x)) := by
 induction n with
 | zero => exact fun _ => LeO.zero _
 | succ n ih =>
  have h0 := ih
  refine fun ⟨x7, x8⟩ => ?_
  · rw [Fx66, M.a2z]
    exact (LeO.ite (LeO.ite (LeO.ite (LeO.bind (LeO.refl _) fun v27 => (h0 _)) (LeO.refl _)) (LeO.refl _)) (LeO.refl _))
theorem Fy66 (n : Nat) : ∀ x, LeO (Fx66 n x) (M.a2z x) := (Fz66 n)
def Fx67 (n : Nat) : (List T26) × Int → Option (List T26) := fun ⟨x0, x6⟩ =>
 if 0 ≤ wr .i64 x6 then
 if wr .i64 x6 ≤ 1099511627776 then
 some (List.replicate (wr .i64 x6 : Int).toNat (⟨0, [0, 0, 0, 0], ([] : List T26), 0, 0⟩ : T26)) >>= fun v8 =>
 Fx66 n ((cpy v8 0 v8.length x0), ((min x0.length v8.length : Nat) : Int))
 else
 none
 else
 none
theorem Fy67 (n : Nat) : ∀ x, LeO (Fx67 n x) (M.a5l x) := fun ⟨x0, x6⟩ => by
 rw [Fx67, M.a5l]
 exact (LeO.ite (LeO.ite (LeO.bind (LeO.refl _) fun v8 => (Fy66 n _)) (LeO.refl _)) (LeO.refl _))
def Fx68 (n : Nat) : (List T26) × Int × Bool → Option (List T26) := fun ⟨x0, x6, x26⟩ =>
 if x26 = true then
 none
 else
 Fx67 n (x0, x6)
theorem Fy68 (n : Nat) : ∀ x, LeO (Fx68 n x) (M.a4g x) := fun ⟨x0, x6, x26⟩ => by
 rw [Fx68, M.a4g]
 exact (LeO.ite (LeO.refl _) (Fy67 n _))
def Fx69 (n : Nat) : (List T26) × Int → Option (List T26) := fun ⟨x0, x1⟩ =>
 M.a6p (wr .u64 (x0.length : Int)) (wr .u64 x1) >>= fun y2 =>
 if y2.1 > 0 then
 Fx68 n (x0, y2.2, true)
 else
 Fx68 n (x0, y2.2, decide (y2.2 > 9223372036854775807))
theorem Fy69 (n : Nat) : ∀ x, LeO (Fx69 n x) (M.a5m x) := fun ⟨x0, x1⟩ => by
 rw [Fx69, M.a5m]
 exact (LeO.bind (LeO.refl _) fun y2 => (LeO.ite (Fy68 n _) (Fy68 n _)))
def Fx70 (n : Nat) (x0 : List T26) (x1 : Int) : Option (List T26) :=
 if x1 < 0 then
 none
 else
 Fx69 n (x0, x1)
theorem Fy70 (n : Nat) : ∀ x0 x1, LeO (Fx70 n x0 x1) (M.a5n x0 x1) := by
 intro x0 x1
 rw [Fx70, M.a5n]
 exact (LeO.ite (LeO.refl _) (Fy69 n _))
mutual
def Fx71 : Nat → T26 → Option T218
 | 0, _ => none
 | n + 1, x0 =>
  if x0.Kind = 1 then
  Fx55 n x0.Set >>= fun y6 =>
  some y6
  else
  if x0.Kind = 2 then
  Fx72 n x0.L >>= fun y9 =>
  some y9
  else
  if x0.Kind = 3 then
  Fx61 n >>= fun y12 =>
  Fx74 n ((⟨([] : List ByteArray), false⟩ : T218), y12, x0.L, (x0.L.length : Int), 0)
  else
  if x0.Min = x0.Max then
  Fx70 n x0.L x0.Min >>= fun y21 =>
  Fx72 n y21 >>= fun y25 =>
  some y25
  else
  M.a3 >>= fun y27 =>
  some y27
 termination_by structural n => n
def Fx72 : Nat → (List T26) → Option T218
 | 0, _ => none
 | n + 1, x0 =>
  Fx56 n [(⟨#[]⟩ : ByteArray)] >>= fun y6 =>
  Fx73 n ((⟨([] : List ByteArray), false⟩ : T218), y6, x0, (x0.length : Int), 0)
 termination_by structural n => n
def Fx73 : Nat → T218 × T218 × (List T26) × Int × Int → Option T218
 | 0, _ => none
 | n + 1, ⟨x2v, x3v, x8, x9, x10⟩ =>
  if x10 < x9 then
  if 0 ≤ x10 then
  if x10 < (x8.length : Int) then
  Fx71 n (⟨(gi x8 x10).Kind, ((gi x8 x10).Set), (gi x8 x10).L, (gi x8 x10).Min, (gi x8 x10).Max⟩ : T26) >>= fun y28 =>
  Fx60 n x3v y28 >>= fun y30 =>
  if y30.known = true then
  Fx73 n (x2v, (⟨y30.l, true⟩ : T218), x8, x9, wr .i64 (x10 + 1))
  else
  some (⟨y30.l, false⟩ : T218)
  else
  none
  else
  none
  else
  some x3v
 termination_by structural n => n
def Fx74 : Nat → T218 × T218 × (List T26) × Int × Int → Option T218
 | 0, _ => none
 | n + 1, ⟨x2v, x3v, x23, x24, x25⟩ =>
  if x25 < x24 then
  if 0 ≤ x25 then
  if x25 < (x23.length : Int) then
  Fx71 n (⟨(gi x23 x25).Kind, ((gi x23 x25).Set), (gi x23 x25).L, (gi x23 x25).Min, (gi x23 x25).Max⟩ : T26) >>= fun y43 =>
  if y43.known = true then
  Fx75 n (x2v, x3v, (⟨y43.l, true⟩ : T218), x23, x24, x25, !x3v.known)
  else
  Fx75 n (x2v, x3v, (⟨y43.l, false⟩ : T218), x23, x24, x25, true)
  else
  none
  else
  none
  else
  some x3v
 termination_by structural n => n
def Fx75 : Nat → T218 × T218 × T218 × (List T26) × Int × Int × Bool → Option T218
 | 0, _ => none
 | n + 1, ⟨x2v, x3v, x6v, x23, x24, x25, x38⟩ =>
  if x38 = true then
  M.a3 >>= fun y53 =>
  some y53
  else
  Fx65 n [x3v.l, x6v.l] >>= fun y59 =>
  Fx56 n y59 >>= fun y62 =>
  Fx74 n (x2v, y62, x23, x24, wr .i64 (x25 + 1))
 termination_by structural n => n
end
theorem Fz71 (n : Nat) : (∀ x, LeO (Fx71 n x) (M.a9 x)) ∧ (∀ x, LeO (Fx72 n x) (M.a30 x)) ∧ (∀ x, LeO (Fx73 n x) (M.a31 x)) ∧ (∀ x, LeO (Fx74 n x) (M.a32 x)) ∧ (∀ x, LeO (Fx75 n x) (M.a33 x)) := by
 induction n with
 | zero => exact ⟨fun _ => LeO.zero _, fun _ => LeO.zero _, fun _ => LeO.zero _, fun _ => LeO.zero _, fun _ => LeO.zero _⟩
 | succ n ih =>
  obtain ⟨h0, h1, h2, h3, h4⟩ := ih
  refine ⟨fun x0 => ?_, fun x0 => ?_, fun ⟨x2v, x3v, x8, x9, x10⟩ => ?_, fun ⟨x2v, x3v, x23, x24, x25⟩ => ?_, fun ⟨x2v, x3v, x6v, x23, x24, x25, x38⟩ => ?_⟩
  · rw [Fx71, M.a9]
    exact (LeO.ite (LeO.bind (Fy55 n _) fun y6 => (LeO.refl _)) (LeO.ite (LeO.bind (h1 _) fun y9 => (LeO.refl _)) (LeO.ite (LeO.bind (Fy61 n) fun y12 => (h3 _)) (LeO.ite (LeO.bind (Fy70 n _ _) fun y21 => (LeO.bind (h1 _) fun y25 => (LeO.refl _))) (LeO.bind (LeO.refl _) fun y27 => (LeO.refl _))))))
  · rw [Fx72, M.a30]
    exact (LeO.bind (Fy56 n _) fun y6 => (h2 _))
  · rw [Fx73, M.a31]
    exact (LeO.ite (LeO.ite (LeO.ite (LeO.bind (h0 _) fun y28 => (LeO.bind (Fy60 n _ _) fun y30 => (LeO.ite (h2 _) (LeO.refl _)))) (LeO.refl _)) (LeO.refl _)) (LeO.refl _))
  · rw [Fx74, M.a32]
    exact (LeO.ite (LeO.ite (LeO.ite (LeO.bind (h0 _) fun y43 => (LeO.ite (h4 _) (h4 _))) (LeO.refl _)) (LeO.refl _)) (LeO.refl _))
  · rw [Fx75, M.a33]
    exact (LeO.ite (LeO.bind (LeO.refl _) fun y53 => (LeO.refl _)) (LeO.bind (Fy65 n _) fun y59 => (LeO.bind (Fy56 n _) fun y62 => (h3 _))))
theorem Fy71 (n : Nat) : ∀ x, LeO (Fx71 n x) (M.a9 x) := (Fz71 n).1
theorem Fy72 (n : Nat) : ∀ x, LeO (Fx72 n x) (M.a30 x) := (Fz71 n).2.1
theorem Fy73 (n : Nat) : ∀ x, LeO (Fx73 n x) (M.a31 x) := (Fz71 n).2.2.1
theorem Fy74 (n : Nat) : ∀ x, LeO (Fx74 n x) (M.a32 x) := (Fz71 n).2.2.2.1
theorem Fy75 (n : Nat) : ∀ x, LeO (Fx75 n x) (M.a33 x) := (Fz71 n).2.2.2.2
mutual
def Fx76 : Nat → T29 × T29 → Option Bool
 | 0, _ => none
 | n + 1, ⟨x0, x1⟩ =>
  if x0.Op = x1.Op then
  if (x0.Text.toList == x1.Text.toList) = true then
  Fx77 n (x0.L, x1.L) >>= fun y7 =>
  some y7
  else
  some false
  else
  some false
 termination_by structural n => n
def Fx77 : Nat → (List T29) × (List T29) → Option Bool
 | 0, _ => none
 | n + 1, ⟨x0, x1⟩ =>
  if (x0.length : Int) = (x1.length : Int) then
  Fx78 n (x1, x0, (x0.length : Int), 0)
  else
  some false
 termination_by structural n => n
def Fx78 : Nat → (List T29) × (List T29) × Int × Int → Option Bool
 | 0, _ => none
 | n + 1, ⟨x1, x15, x16, x17⟩ =>
  if x17 < x16 then
  if 0 ≤ x17 then
  if x17 < (x15.length : Int) then
  if x17 < (x1.length : Int) then
  Fx76 n (gi x15 x17, gi x1 x17) >>= fun y24 =>
  if y24 = true then
  Fx78 n (x1, x15, x16, wr .i64 (x17 + 1))
  else
  some false
  else
  none
  else
  none
  else
  none
  else
  some true
 termination_by structural n => n
end
theorem Fz76 (n : Nat) : (∀ x, LeO (Fx76 n x) (M.a1s x)) ∧ (∀ x, LeO (Fx77 n x) (M.a4h x)) ∧ (∀ x, LeO (Fx78 n x) (M.a34 x)) := by
 induction n with
 | zero => exact ⟨fun _ => LeO.zero _, fun _ => LeO.zero _, fun _ => LeO.zero _⟩
 | succ n ih =>
  obtain ⟨h0, h1, h2⟩ := ih
  refine ⟨fun ⟨x0, x1⟩ => ?_, fun ⟨x0, x1⟩ => ?_, fun ⟨x1, x15, x16, x17⟩ => ?_⟩
  · rw [Fx76, M.a1s]
    exact (LeO.ite (LeO.ite (LeO.bind (h1 _) fun y7 => (LeO.refl _)) (LeO.refl _)) (LeO.refl _))
  · rw [Fx77, M.a4h]
    exact (LeO.ite (h2 _) (LeO.refl _))
  · rw [Fx78, M.a34]
    exact (LeO.ite (LeO.ite (LeO.ite (LeO.ite (LeO.bind (h0 _) fun y24 => (LeO.ite (h2 _) (LeO.refl _))) (LeO.refl _)) (LeO.refl _)) (LeO.refl _)) (LeO.refl _))
theorem Fy76 (n : Nat) : ∀ x, LeO (Fx76 n x) (M.a1s x) := (Fz76 n).1
theorem Fy77 (n : Nat) : ∀ x, LeO (Fx77 n x) (M.a4h x) := (Fz76 n).2.1
theorem Fy78 (n : Nat) : ∀ x, LeO (Fx78 n x) (M.a34 x) := (Fz76 n).2.2
def Fx79 (n : Nat) (x0 : T29) (x2v : T29) : Option Bool :=
 Fx76 n (x2v, x0) >>= fun y5 =>
 some y5
theorem Fy79 (n : Nat) : ∀ x0 x2v, LeO (Fx79 n x0 x2v) (M.a5o x0 x2v) := by
 intro x0 x2v
 rw [Fx79, M.a5o]
 exact (LeO.bind (Fy76 n _) fun y5 => (LeO.refl _))
def Fx80 : Nat → (List T29) × Int × Int × T29 → Option Int
 | 0, _ => none
 | n + 1, ⟨x0, x7, x8, x1b1v⟩ =>
  if x8 < x7 then
  if 0 ≤ x8 then
  if x8 < (x0.length : Int) then
  Fx79 n (gi x0 x8) x1b1v >>= fun y13 =>
  if y13 = true then
  some x8
  else
  Fx80 n (x0, x7, wr .i64 (x8 + 1), x1b1v)
  else
  none
  else
  none
  else
  some (-1)
 termination_by structural n => n
theorem Fz80 (n : Nat) : (∀ x, LeO (Fx80 n x) (M.a35 x)) := by
 induction n with
 | zero => exact fun _ => LeO.zero _
 | succ n ih =>
  have h0 := ih
  refine fun ⟨x0, x7, x8, x1b1v⟩ => ?_
  · rw [Fx80, M.a35]
    exact (LeO.ite (LeO.ite (LeO.ite (LeO.bind (Fy79 n _ _) fun y13 => (LeO.ite (LeO.refl _) (h0 _))) (LeO.refl _)) (LeO.refl _)) (LeO.refl _))
theorem Fy80 (n : Nat) : ∀ x, LeO (Fx80 n x) (M.a35 x) := (Fz80 n)
def Fx81 (n : Nat) (x0 : List T29) (x1b1v : T29) : Option Int :=
 Fx80 n (x0, (x0.length : Int), 0, x1b1v)
theorem Fy81 (n : Nat) : ∀ x0 x1b1v, LeO (Fx81 n x0 x1b1v) (M.a5p x0 x1b1v) := by
 intro x0 x1b1v
 rw [Fx81, M.a5p]
 exact (Fy80 n _)
def Fx82 (n : Nat) (x0 : List T29) (x1b1v : T29) : Option Bool :=
 Fx81 n x0 x1b1v >>= fun y3 =>
 some (decide (y3 ≥ 0))
theorem Fy82 (n : Nat) : ∀ x0 x1b1v, LeO (Fx82 n x0 x1b1v) (M.a5q x0 x1b1v) := by
 intro x0 x1b1v
 rw [Fx82, M.a5q]
 exact (LeO.bind (Fy81 n _ _) fun y3 => (LeO.refl _))
mutual
def Fx83 : Nat → (List T29) × (List T29) × Int × Int → Option (List T29)
 | 0, _ => none
 | n + 1, ⟨x5, x8, x9, x10⟩ =>
  if x10 < x9 then
  if 0 ≤ x10 then
  if x10 < (x8.length : Int) then
  Fx82 n x5 (gi x8 x10) >>= fun y19 =>
  if y19 = true then
  Fx84 n (x5, x8, x9, x10)
  else
  if ((x5 ++ [gi x8 x10]).length : Int) ≤ 1099511627776 then
  Fx84 n ((x5 ++ [gi x8 x10]), x8, x9, x10)
  else
  none
  else
  none
  else
  none
  else
  some x5
 termination_by structural n => n
def Fx84 : Nat → (List T29) × (List T29) × Int × Int → Option (List T29)
 | 0, _ => none
 | n + 1, ⟨x5, x8, x9, x10⟩ =>
  Fx83 n (x5, x8, x9, wr .i64 (x10 + 1))
 termination_by structural n => n
end
theorem Fz83 (n : Nat) : (∀ x, LeO (Fx83 n x) (M.a1t x)) ∧ (∀ x, LeO (Fx84 n x) (M.a36 x)) := by
 induction n with
 | zero => exact ⟨fun _ => LeO.zero _, fun _ => LeO.zero _⟩
 | succ n ih =>
  obtain ⟨h0, h1⟩ := ih
  refine ⟨fun ⟨x5, x8, x9, x10⟩ => ?_, fun ⟨x5, x8, x9, x10⟩ => ?_⟩
  · rw [Fx83, M.a1t]
    exact (LeO.ite (LeO.ite (LeO.ite (LeO.bind (Fy82 n _ _) fun y19 => (LeO.ite (h1 _) (LeO.ite (h1 _) (LeO.refl _)))) (LeO.refl _)) (LeO.refl _)) (LeO.refl _))
  · rw [Fx84, M.a36]
    exact (h0 _)
theorem Fy83 (n : Nat) : ∀ x, LeO (Fx83 n x) (M.a1t x) := (Fz83 n).1
theorem Fy84 (n : Nat) : ∀ x, LeO (Fx84 n x) (M.a36 x) := (Fz83 n).2
def Fx85 (n : Nat) (x0 : List T29) : Option (List T29) :=
 Fx83 n (([] : List T29), x0, (x0.length : Int), 0)
theorem Fy85 (n : Nat) : ∀ x0, LeO (Fx85 n x0) (M.a5r x0) := by
 intro x0
 rw [Fx85, M.a5r]
 exact (Fy83 n _)
mutual
def Fx86 : Nat → Int × T29 × Int × Int × (List T29) × (List T29) × Int × Int → Option T29
 | 0, _ => none
 | n + 1, ⟨x0, x4v, x5, x6, x7, x15, x16, x17⟩ =>
  if x17 < x16 then
  if 0 ≤ x17 then
  if x17 < (x15.length : Int) then
  if (gi x15 x17).Op = x0 then
  if ((x7 ++ (gi x15 x17).L).length : Int) ≤ 1099511627776 then
  Fx87 n (x0, x4v, x5, x6, (x7 ++ (gi x15 x17).L), x15, x16, x17)
  else
  none
  else
  if (gi x15 x17).Op = x6 then
  some (⟨x6, (⟨#[]⟩ : ByteArray), ([] : List T29)⟩ : T29)
  else
  if (gi x15 x17).Op = x5 then
  Fx87 n (x0, x4v, x5, x6, x7, x15, x16, x17)
  else
  if ((x7 ++ [gi x15 x17]).length : Int) ≤ 1099511627776 then
  Fx87 n (x0, x4v, x5, x6, (x7 ++ [gi x15 x17]), x15, x16, x17)
  else
  none
  else
  none
  else
  none
  else
  Fx85 n x7 >>= fun y48 =>
  if (y48.length : Int) = 0 then
  some (⟨x5, (⟨#[]⟩ : ByteArray), ([] : List T29)⟩ : T29)
  else
  if (y48.length : Int) = 1 then
  if 0 < (y48.length : Int) then
  some (gi y48 0)
  else
  none
  else
  some (⟨x0, (⟨#[]⟩ : ByteArray), y48⟩ : T29)
 termination_by structural n => n
def Fx87 : Nat → Int × T29 × Int × Int × (List T29) × (List T29) × Int × Int → Option T29
 | 0, _ => none
 | n + 1, ⟨x0, x4v, x5, x6, x7, x15, x16, x17⟩ =>
  Fx86 n (x0, x4v, x5, x6, x7, x15, x16, wr .i64 (x17 + 1))
 termination_by structural n => n
end
theorem Fz86 (n : Nat) : (∀ x, LeO (Fx86 n x) (M.a1u x)) ∧ (∀ x, LeO (Fx87 n x) (M.a1v x)) := by
 induction n with
 | zero => exact ⟨fun _ => LeO.zero _, fun _ => LeO.zero _⟩
 | succ n ih =>
  obtain ⟨h0, h1⟩ := ih
  refine ⟨fun ⟨x0, x4v, x5, x6, x7, x15, x16, x17⟩ => ?_, fun ⟨x0, x4v, x5, x6, x7, x15, x16, x17⟩ => ?_⟩
  · rw [Fx86, M.a1u]
    exact (LeO.ite (LeO.ite (LeO.ite (LeO.ite (LeO.ite (h1 _) (LeO.refl _)) (LeO.ite (LeO.refl _) (LeO.ite (h1 _) (LeO.ite (h1 _) (LeO.refl _))))) (LeO.refl _)) (LeO.refl _)) (LeO.bind (Fy85 n _) fun y48 => (LeO.ite (LeO.refl _) (LeO.ite (LeO.ite (LeO.refl _) (LeO.refl _)) (LeO.refl _)))))
  · rw [Fx87, M.a1v]
    exact (h0 _)
theorem Fy86 (n : Nat) : ∀ x, LeO (Fx86 n x) (M.a1u x) := (Fz86 n).1
theorem Fy87 (n : Nat) : ∀ x, LeO (Fx87 n x) (M.a1v x) := (Fz86 n).2
def Fx88 (n : Nat) (x0 : Int) (x1 : List T29) : Option T29 :=
 M.a6q x0 >>= fun y3 =>
 Fx86 n (x0, (⟨0, (⟨#[]⟩ : ByteArray), ([] : List T29)⟩ : T29), y3.1, y3.2, ([] : List T29), x1, (x1.length : Int), 0)
theorem Fy88 (n : Nat) : ∀ x0 x1, LeO (Fx88 n x0 x1) (M.az x0 x1) := by
 intro x0 x1
 rw [Fx88, M.az]
 exact (LeO.bind (LeO.refl _) fun y3 => (Fy86 n _))
mutual
def Fx89 : Nat → T29 × (List T29) × (List ByteArray) × Int × Int → Option T29
 | 0, _ => none
 | n + 1, ⟨x2v, x3, x10, x11, x12⟩ =>
  if x12 < x11 then
  if 0 ≤ x12 then
  if x12 < (x10.length : Int) then
  Fx16 n (gi x10 x12) >>= fun y16 =>
  Fx90 n (x2v, x3, x10, x11, x12, y16, (y16.length : Int), 0)
  else
  none
  else
  none
  else
  Fx88 n 4 x3 >>= fun y24 =>
  some y24
 termination_by structural n => n
def Fx90 : Nat → T29 × (List T29) × (List ByteArray) × Int × Int × (List ByteArray) × Int × Int → Option T29
 | 0, _ => none
 | n + 1, ⟨x2v, x3, x10, x11, x12, x17, x18, x19⟩ =>
  if x19 < x18 then
  if 0 ≤ x19 then
  if x19 < (x17.length : Int) then
  if ([(⟨2, gi x17 x19, ([] : List T29)⟩ : T29)].length : Int) ≤ 1099511627776 then
  Fx91 n (x2v, x3, [(⟨2, gi x17 x19, ([] : List T29)⟩ : T29)], x10, x11, x12, x17, x18, wr .i64 (x19 + 1))
  else
  none
  else
  none
  else
  none
  else
  Fx88 n 3 ([] : List T29) >>= fun y50 =>
  if ((x3 ++ [y50]).length : Int) ≤ 1099511627776 then
  Fx89 n (x2v, (x3 ++ [y50]), x10, x11, wr .i64 (x12 + 1))
  else
  none
 termination_by structural n => n
def Fx91 : Nat → T29 × (List T29) × (List T29) × (List ByteArray) × Int × Int × (List ByteArray) × Int × Int → Option T29
 | 0, _ => none
 | n + 1, ⟨x2v, x3, x6, x10, x11, x12, x17, x18, x19⟩ =>
  if x19 < x18 then
  if 0 ≤ x19 then
  if x19 < (x17.length : Int) then
  some (x6 ++ [(⟨2, gi x17 x19, ([] : List T29)⟩ : T29)]) >>= fun v76 =>
  if (v76.length : Int) ≤ 1099511627776 then
  Fx91 n (x2v, x3, v76, x10, x11, x12, x17, x18, wr .i64 (x19 + 1))
  else
  none
  else
  none
  else
  none
  else
  Fx88 n 3 x6 >>= fun y84 =>
  if ((x3 ++ [y84]).length : Int) ≤ 1099511627776 then
  Fx89 n (x2v, (x3 ++ [y84]), x10, x11, wr .i64 (x12 + 1))
  else
  none
 termination_by structural n => n
end
theorem Fz89 (n : Nat) : (∀ x, LeO (Fx89 n x) (M.a10 x)) ∧ (∀ x, LeO (Fx90 n x) (M.a4i x)) ∧ (∀ x, LeO (Fx91 n x) (M.a37 x)) := by
 induction n with
 | zero => exact ⟨fun _ => LeO.zero _, fun _ => LeO.zero _, fun _ => LeO.zero _⟩
 | succ n ih =>
  obtain ⟨h0, h1, h2⟩ := ih
  refine ⟨fun ⟨x2v, x3, x10, x11, x12⟩ => ?_, fun ⟨x2v, x3, x10, x11, x12, x17, x18, x19⟩ => ?_, fun ⟨x2v, x3, x6, x10, x11, x12, x17, x18, x19⟩ => ?_⟩
  · rw [Fx89, M.a10]
    exact (LeO.ite (LeO.ite (LeO.ite (LeO.bind (Fy16 n _) fun y16 => (h1 _)) (LeO.refl _)) (LeO.refl _)) (LeO.bind (Fy88 n _ _) fun y24 => (LeO.refl _)))
  · rw [Fx90, M.a4i]
    exact (LeO.ite (LeO.ite (LeO.ite (LeO.ite (h2 _) (LeO.refl _)) (LeO.refl _)) (LeO.refl _)) (LeO.bind (Fy88 n _ _) fun y50 => (LeO.ite (h0 _) (LeO.refl _))))
  · rw [Fx91, M.a37]
    exact (LeO.ite (LeO.ite (LeO.ite (LeO.bind (LeO.refl _) fun v76 => (LeO.ite (h2 _) (LeO.refl _))) (LeO.refl _)) (LeO.refl _)) (LeO.bind (Fy88 n _ _) fun y84 => (LeO.ite (h0 _) (LeO.refl _))))
theorem Fy89 (n : Nat) : ∀ x, LeO (Fx89 n x) (M.a10 x) := (Fz89 n).1
theorem Fy90 (n : Nat) : ∀ x, LeO (Fx90 n x) (M.a4i x) := (Fz89 n).2.1
theorem Fy91 (n : Nat) : ∀ x, LeO (Fx91 n x) (M.a37 x) := (Fz89 n).2.2
def Fx92 (n : Nat) (x0 : T218) : Option T29 :=
 Fx89 n ((⟨0, (⟨#[]⟩ : ByteArray), ([] : List T29)⟩ : T29), ([] : List T29), x0.l, (x0.l.length : Int), 0)
theorem Fy92 (n : Nat) : ∀ x0, LeO (Fx92 n x0) (M.a4j x0) := by
 intro x0
 rw [Fx92, M.a4j]
 exact (Fy89 n _)
mutual
def Fx93 : Nat → (List T26) × T218 × T218 × Int → Option (T218 × Int)
 | 0, _ => none
 | n + 1, ⟨x0, x2v, x4v, x5⟩ =>
  if x4v.known = true then
  Fx94 n (x0, x2v, (⟨x4v.l, true⟩ : T218), x5, decide (x5 < (x0.length : Int)))
  else
  Fx94 n (x0, x2v, (⟨x4v.l, false⟩ : T218), x5, false)
 termination_by structural n => n
def Fx94 : Nat → (List T26) × T218 × T218 × Int × Bool → Option (T218 × Int)
 | 0, _ => none
 | n + 1, ⟨x0, x2v, x4v, x5, x18⟩ =>
  if x18 = true then
  if 0 ≤ x5 then
  if x5 < (x0.length : Int) then
  Fx71 n (⟨(gi x0 x5).Kind, ((gi x0 x5).Set), (gi x0 x5).L, (gi x0 x5).Min, (gi x0 x5).Max⟩ : T26) >>= fun y37 =>
  Fx60 n x4v y37 >>= fun y39 =>
  Fx95 n (x0, x2v, x4v, x5, y39)
  else
  none
  else
  none
  else
  some (x4v, x5)
 termination_by structural n => n
def Fx95 : Nat → (List T26) × T218 × T218 × Int × T218 → Option (T218 × Int)
 | 0, _ => none
 | n + 1, ⟨x0, x2v, x4v, x5, x6v⟩ =>
  if x6v.known = true then
  Fx93 n (x0, x2v, (⟨x6v.l, true⟩ : T218), wr .i64 (x5 + 1))
  else
  some (x4v, x5)
 termination_by structural n => n
end
theorem Fz93 (n : Nat) : (∀ x, LeO (Fx93 n x) (M.a1w x)) ∧ (∀ x, LeO (Fx94 n x) (M.a38 x)) ∧ (∀ x, LeO (Fx95 n x) (M.a4k x)) := by
 induction n with
 | zero => exact ⟨fun _ => LeO.zero _, fun _ => LeO.zero _, fun _ => LeO.zero _⟩
 | succ n ih =>
  obtain ⟨h0, h1, h2⟩ := ih
  refine ⟨fun ⟨x0, x2v, x4v, x5⟩ => ?_, fun ⟨x0, x2v, x4v, x5, x18⟩ => ?_, fun ⟨x0, x2v, x4v, x5, x6v⟩ => ?_⟩
  · rw [Fx93, M.a1w]
    exact (LeO.ite (h1 _) (h1 _))
  · rw [Fx94, M.a38]
    exact (LeO.ite (LeO.ite (LeO.ite (LeO.bind (Fy71 n _) fun y37 => (LeO.bind (Fy60 n _ _) fun y39 => (h2 _))) (LeO.refl _)) (LeO.refl _)) (LeO.refl _))
  · rw [Fx95, M.a4k]
    exact (LeO.ite (h0 _) (LeO.refl _))
theorem Fy93 (n : Nat) : ∀ x, LeO (Fx93 n x) (M.a1w x) := (Fz93 n).1
theorem Fy94 (n : Nat) : ∀ x, LeO (Fx94 n x) (M.a38 x) := (Fz93 n).2.1
theorem Fy95 (n : Nat) : ∀ x, LeO (Fx95 n x) (M.a4k x) := (Fz93 n).2.2
def Fx96 (n : Nat) (x0 : List T26) : Option (T218 × Int) :=
 if 0 < (x0.length : Int) then
 Fx71 n (⟨(gi x0 0).Kind, ((gi x0 0).Set), (gi x0 0).L, (gi x0 0).Min, (gi x0 0).Max⟩ : T26) >>= fun y13 =>
 Fx93 n (x0, (⟨([] : List ByteArray), false⟩ : T218), y13, 1)
 else
 none
theorem Fy96 (n : Nat) : ∀ x0, LeO (Fx96 n x0) (M.a5s x0) := by
 intro x0
 rw [Fx96, M.a5s]
 exact (LeO.ite (LeO.bind (Fy71 n _) fun y13 => (Fy93 n _)) (LeO.refl _))
mutual
def Fx97 : Nat → T26 → Option T29
 | 0, _ => none
 | n + 1, x0 =>
  Fx71 n x0 >>= fun y5 =>
  if y5.known = true then
  Fx92 n (⟨y5.l, true⟩ : T218) >>= fun y10 =>
  some y10
  else
  if x0.Kind = 2 then
  Fx98 n x0.L >>= fun y13 =>
  some y13
  else
  if x0.Kind = 3 then
  Fx101 n ((⟨0, (⟨#[]⟩ : ByteArray), ([] : List T29)⟩ : T29), ([] : List T29), x0.L, (x0.L.length : Int), 0)
  else
  if x0.Kind = 4 then
  if x0.Min > 0 then
  if 0 < (x0.L.length : Int) then
  Fx97 n (⟨(gi x0.L 0).Kind, ((gi x0.L 0).Set), (gi x0.L 0).L, (gi x0.L 0).Min, (gi x0.L 0).Max⟩ : T26) >>= fun y33 =>
  some y33
  else
  none
  else
  some (⟨0, (⟨#[]⟩ : ByteArray), ([] : List T29)⟩ : T29)
  else
  some (⟨0, (⟨#[]⟩ : ByteArray), ([] : List T29)⟩ : T29)
 termination_by structural n => n
def Fx98 : Nat → (List T26) → Option T29
 | 0, _ => none
 | n + 1, x0 =>
  Fx99 n (x0, (⟨0, (⟨#[]⟩ : ByteArray), ([] : List T29)⟩ : T29), ([] : List T29))
 termination_by structural n => n
def Fx99 : Nat → (List T26) × T29 × (List T29) → Option T29
 | 0, _ => none
 | n + 1, ⟨x0, x2v, x3⟩ =>
  if (x0.length : Int) > 0 then
  Fx96 n x0 >>= fun y9 =>
  if y9.1.known = true then
  Fx92 n (⟨y9.1.l, true⟩ : T218) >>= fun y14 =>
  if ((x3 ++ [y14]).length : Int) ≤ 1099511627776 then
  Fx100 n (x0, x2v, (x3 ++ [y14]), y9.2)
  else
  none
  else
  if 0 < (x0.length : Int) then
  Fx97 n (⟨(gi x0 0).Kind, ((gi x0 0).Set), (gi x0 0).L, (gi x0 0).Min, (gi x0 0).Max⟩ : T26) >>= fun y40 =>
  if ((x3 ++ [y40]).length : Int) ≤ 1099511627776 then
  Fx100 n (x0, x2v, (x3 ++ [y40]), y9.2)
  else
  none
  else
  none
  else
  Fx88 n 3 x3 >>= fun y54 =>
  some y54
 termination_by structural n => n
def Fx100 : Nat → (List T26) × T29 × (List T29) × Int → Option T29
 | 0, _ => none
 | n + 1, ⟨x0, x2v, x3, x5⟩ =>
  if 0 ≤ x5 then
  if x5 ≤ (x0.length : Int) then
  Fx99 n ((sl x0 x5 (x0.length : Int)), x2v, x3)
  else
  none
  else
  none
 termination_by structural n => n
def Fx101 : Nat → T29 × (List T29) × (List T26) × Int × Int → Option T29
 | 0, _ => none
 | n + 1, ⟨x2v, x4, x23, x24, x25⟩ =>
  if x25 < x24 then
  if 0 ≤ x25 then
  if x25 < (x23.length : Int) then
  Fx97 n (⟨(gi x23 x25).Kind, ((gi x23 x25).Set), (gi x23 x25).L, (gi x23 x25).Min, (gi x23 x25).Max⟩ : T26) >>= fun y49 =>
  if ((x4 ++ [y49]).length : Int) ≤ 1099511627776 then
  Fx101 n (x2v, (x4 ++ [y49]), x23, x24, wr .i64 (x25 + 1))
  else
  none
  else
  none
  else
  none
  else
  Fx88 n 4 x4 >>= fun y63 =>
  some y63
 termination_by structural n => n
end
theorem Fz97 (n : Nat) : (∀ x, LeO (Fx97 n x) (M.aj x)) ∧ (∀ x, LeO (Fx98 n x) (M.a4l x)) ∧ (∀ x, LeO (Fx99 n x) (M.a39 x)) ∧ (∀ x, LeO (Fx100 n x) (M.a3a x)) ∧ (∀ x, LeO (Fx101 n x) (M.a3b x)) := by
 induction n with
 | zero => exact ⟨fun _ => LeO.zero _, fun _ => LeO.zero _, fun _ => LeO.zero _, fun _ => LeO.zero _, fun _ => LeO.zero _⟩
 | succ n ih =>
  obtain ⟨h0, h1, h2, h3, h4⟩ := ih
  refine ⟨fun x0 => ?_, fun x0 => ?_, fun ⟨x0, x2v, x3⟩ => ?_, fun ⟨x0, x2v, x3, x5⟩ => ?_, fun ⟨x2v, x4, x23, x24, x25⟩ => ?_⟩
  · rw [Fx97, M.aj]
    exact (LeO.bind (Fy71 n _) fun y5 => (LeO.ite (LeO.bind (Fy92 n _) fun y10 => (LeO.refl _)) (LeO.ite (LeO.bind (h1 _) fun y13 => (LeO.refl _)) (LeO.ite (h4 _) (LeO.ite (LeO.ite (LeO.ite (LeO.bind (h0 _) fun y33 => (LeO.refl _)) (LeO.refl _)) (LeO.refl _)) (LeO.refl _))))))
  · rw [Fx98, M.a4l]
    exact (h2 _)
  · rw [Fx99, M.a39]
    exact (LeO.ite (LeO.bind (Fy96 n _) fun y9 => (LeO.ite (LeO.bind (Fy92 n _) fun y14 => (LeO.ite (h3 _) (LeO.refl _))) (LeO.ite (LeO.bind (h0 _) fun y40 => (LeO.ite (h3 _) (LeO.refl _))) (LeO.refl _)))) (LeO.bind (Fy88 n _ _) fun y54 => (LeO.refl _)))
  · rw [Fx100, M.a3a]
    exact (LeO.ite (LeO.ite (h2 _) (LeO.refl _)) (LeO.refl _))
  · rw [Fx101, M.a3b]
    exact (LeO.ite (LeO.ite (LeO.ite (LeO.bind (h0 _) fun y49 => (LeO.ite (h4 _) (LeO.refl _))) (LeO.refl _)) (LeO.refl _)) (LeO.bind (Fy88 n _ _) fun y63 => (LeO.refl _)))
theorem Fy97 (n : Nat) : ∀ x, LeO (Fx97 n x) (M.aj x) := (Fz97 n).1
theorem Fy98 (n : Nat) : ∀ x, LeO (Fx98 n x) (M.a4l x) := (Fz97 n).2.1
theorem Fy99 (n : Nat) : ∀ x, LeO (Fx99 n x) (M.a39 x) := (Fz97 n).2.2.1
theorem Fy100 (n : Nat) : ∀ x, LeO (Fx100 n x) (M.a3a x) := (Fz97 n).2.2.2.1
theorem Fy101 (n : Nat) : ∀ x, LeO (Fx101 n x) (M.a3b x) := (Fz97 n).2.2.2.2
def Fx102 (n : Nat) (x0 : T26) : Option (T29 × Int) :=
 Fx52 n x0 >>= fun y5 =>
 if y5 = true then
 Fx97 n x0 >>= fun y8 =>
 some (y8, 0)
 else
 some ((⟨0, (⟨#[]⟩ : ByteArray), ([] : List T29)⟩ : T29), 2)
theorem Fy102 (n : Nat) : ∀ x0, LeO (Fx102 n x0) (M.a5t x0) := by
 intro x0
 rw [Fx102, M.a5t]
 exact (LeO.bind (Fy52 n _) fun y5 => (LeO.ite (LeO.bind (Fy97 n _) fun y8 => (LeO.refl _)) (LeO.refl _)))
mutual
def Fx103 : Nat → T29 → Option ByteArray
 | 0, _ => none
 | n + 1, x0 =>
  Fx10 n x0 >>= fun y3 =>
  if y3 = 0 then
  Fx104 n (x0, ([] : List ByteArray), x0.L, (x0.L.length : Int), 0)
  else
  some (⟨#[]⟩ : ByteArray)
 termination_by structural n => n
def Fx104 : Nat → T29 × (List ByteArray) × (List T29) × Int × Int → Option ByteArray
 | 0, _ => none
 | n + 1, ⟨x1v, x3, x11, x12, x13⟩ =>
  if x13 < x12 then
  if 0 ≤ x13 then
  if x13 < (x11.length : Int) then
  Fx103 n (gi x11 x13) >>= fun y21 =>
  if ((x3 ++ [y21]).length : Int) ≤ 1099511627776 then
  Fx104 n (x1v, (x3 ++ [y21]), x11, x12, wr .i64 (x13 + 1))
  else
  none
  else
  none
  else
  none
  else
  if (x3.length : Int) ≤ 140737488355328 then
  if ((joinB x3 (⟨#[32]⟩ : ByteArray)).size : Int) ≤ 140737488355328 then
  if x1v.Op = 1 then
  some (⟨#[45]⟩ : ByteArray)
  else
  if x1v.Op = 2 then
  if ((⟨#[124]⟩ : ByteArray).size : Int) + (x1v.Text.size : Int) ≤ 1099511627776 then
  if (((⟨#[124]⟩ : ByteArray) ++ x1v.Text).size : Int) + ((⟨#[124]⟩ : ByteArray).size : Int) ≤ 1099511627776 then
  some (((⟨#[124]⟩ : ByteArray) ++ x1v.Text) ++ (⟨#[124]⟩ : ByteArray)) >>= fun v41 =>
  some v41
  else
  none
  else
  none
  else
  if x1v.Op = 3 then
  if ((⟨#[40]⟩ : ByteArray).size : Int) + ((joinB x3 (⟨#[32]⟩ : ByteArray)).size : Int) ≤ 1099511627776 then
  some ((⟨#[40]⟩ : ByteArray) ++ (joinB x3 (⟨#[32]⟩ : ByteArray))) >>= fun v45 =>
  if (v45.size : Int) + ((⟨#[41]⟩ : ByteArray).size : Int) ≤ 1099511627776 then
  some (v45 ++ (⟨#[41]⟩ : ByteArray))
  else
  none
  else
  none
  else
  if x1v.Op = 4 then
  if ((⟨#[91]⟩ : ByteArray).size : Int) + ((joinB x3 (⟨#[32]⟩ : ByteArray)).size : Int) ≤ 1099511627776 then
  some ((⟨#[91]⟩ : ByteArray) ++ (joinB x3 (⟨#[32]⟩ : ByteArray))) >>= fun v50 =>
  if (v50.size : Int) + ((⟨#[93]⟩ : ByteArray).size : Int) ≤ 1099511627776 then
  some (v50 ++ (⟨#[93]⟩ : ByteArray))
  else
  none
  else
  none
  else
  some (⟨#[42]⟩ : ByteArray)
  else
  none
  else
  none
 termination_by structural n => n
end
theorem Fz103 (n : Nat) : (∀ x, LeO (Fx103 n x) (M.a1x x)) ∧ (∀ x, LeO (Fx104 n x) (M.a3c x)) := by
 induction n with
 | zero => exact ⟨fun _ => LeO.zero _, fun _ => LeO.zero _⟩
 | succ n ih =>
  obtain ⟨h0, h1⟩ := ih
  refine ⟨fun x0 => ?_, fun ⟨x1v, x3, x11, x12, x13⟩ => ?_⟩
  · rw [Fx103, M.a1x]
    exact (LeO.bind (Fy10 n _) fun y3 => (LeO.ite (h1 _) (LeO.refl _)))
  · rw [Fx104, M.a3c]
    exact (LeO.ite (LeO.ite (LeO.ite (LeO.bind (h0 _) fun y21 => (LeO.ite (h1 _) (LeO.refl _))) (LeO.refl _)) (LeO.refl _)) (LeO.ite (LeO.ite (LeO.ite (LeO.refl _) (LeO.ite (LeO.ite (LeO.ite (LeO.bind (LeO.refl _) fun v41 => (LeO.refl _)) (LeO.refl _)) (LeO.refl _)) (LeO.ite (LeO.ite (LeO.bind (LeO.refl _) fun v45 => (LeO.ite (LeO.refl _) (LeO.refl _))) (LeO.refl _)) (LeO.ite (LeO.ite (LeO.bind (LeO.refl _) fun v50 => (LeO.ite (LeO.refl _) (LeO.refl _))) (LeO.refl _)) (LeO.refl _))))) (LeO.refl _)) (LeO.refl _)))
theorem Fy103 (n : Nat) : ∀ x, LeO (Fx103 n x) (M.a1x x) := (Fz103 n).1
theorem Fy104 (n : Nat) : ∀ x, LeO (Fx104 n x) (M.a3c x) := (Fz103 n).2
def Fx105 (n : Nat) (x0 : ByteArray) : Option ByteArray :=
 Fx45 n x0 >>= fun y1 =>
 Fx102 n y1.1 >>= fun y5 =>
 Fx103 n y5.1 >>= fun y9 =>
 some y9
theorem Fy105 (n : Nat) : ∀ x0, LeO (Fx105 n x0) (M.a3d x0) := by
 intro x0
 rw [Fx105, M.a3d]
 exact (LeO.bind (Fy45 n _) fun y1 => (LeO.bind (Fy102 n _) fun y5 => (LeO.bind (Fy103 n _) fun y9 => (LeO.refl _))))
def Fx106 (n : Nat) : Option Bool :=
 Fx105 n (⟨#[97, 98, 99, 100, 124, 120, 121, 122]⟩ : ByteArray) >>= fun y1 =>
 if (y1.toList == (⟨#[91, 40, 124, 97, 98, 99, 124, 32, 124, 98, 99, 100, 124, 41, 32, 124, 120, 121, 122, 124, 93]⟩ : ByteArray).toList) = true then
 Fx105 n (⟨#[97, 98, 42]⟩ : ByteArray) >>= fun y4 =>
 if (y4.toList == (⟨#[42]⟩ : ByteArray).toList) = true then
 Fx105 n (⟨#[40, 97, 124, 98, 41, 99, 100, 46, 101, 102, 103]⟩ : ByteArray) >>= fun y7 =>
 some (y7.toList == (⟨#[40, 91, 124, 97, 99, 100, 124, 32, 124, 98, 99, 100, 124, 93, 32, 124, 101, 102, 103, 124, 41]⟩ : ByteArray).toList)
 else
 some false
 else
 some false
theorem Fy106 (n : Nat) : LeO (Fx106 n) M.a11 := by
 rw [Fx106, M.a11]
 exact (LeO.bind (Fy105 n _) fun y1 => (LeO.ite (LeO.bind (Fy105 n _) fun y4 => (LeO.ite (LeO.bind (Fy105 n _) fun y7 => (LeO.refl _)) (LeO.refl _))) (LeO.refl _)))
theorem tidepolelaw14_works_eval : M.a11 = some true := Fy106 700 true (by decide +kernel)
end Go.Gx
