/-
  Twins of pure functions that the kernel computes, and what the fixed examples' answer is. Printed by mkfuel.py.
-/
import Derived.Test.YtbclkjbkebebeaaGreatMIv
import Derived.Test.YtbclkjbkebebeaaGreatGY
set_option linter.unusedVariables false
set_option linter.unusedSimpArgs false
set_option maxRecDepth 100000
namespace Go.Gx
def LeO {α : Type} (a b : Option α) : Prop := ∀ y, a = some y → b = some y
theorem LeO.refl {α : Type} (a : Option α) : LeO a a := fun _ h => h
theorem LeO.zero {α : Type} (a : Option α) : LeO none a := fun _ h => by cases h
theorem LeO.ite {α : Type} {c : Prop} [Decidable c] {a b a' b' : Option α} (h : LeO a a') (k : LeO b b') : LeO (if c then a else b) (if c then a' else b') := by split <;> assumption
theorem LeO.bind {α β : Type} {a a' : Option α} {f f' : α → Option β} (h : LeO a a') (k : ∀ v, LeO (f v) (f' v)) : LeO (a >>= f) (a' >>= f') := by
  cases a with
  | none => exact LeO.zero _
  | some v =>
    rw [h v rfl]
    exact k v
def Fx0 : Nat → ByteArray × Int × Int → Option Bool
 | 0, _ => none
 | n + 1, ⟨x0, x5, x6⟩ =>
  if x6 < x5 then
  if 0 ≤ x6 then
  if x6 < (x0.size : Int) then
  M.a5c (bt x0 x6) (decide (x6 = 0)) >>= fun y4 =>
  if y4 = true then
  Fx0 n (x0, x5, wr .i64 (x6 + 1))
  else
  some false
  else
  none
  else
  none
  else
  if (x0.toList == (⟨#[]⟩ : ByteArray).toList) = true then
  some false
  else
  some (decide ((x0.size : Int) ≤ 64))
 termination_by structural n => n
theorem Fz0 (n : Nat) : (∀ x, LeO (Fx0 n x) (M.a1y x)) := by
 induction n with
 | zero => exact fun _ => LeO.zero _
 | succ n ih =>
  have h0 := ih
  refine fun ⟨x0, x5, x6⟩ => ?_
  · rw [Fx0, M.a1y]
    exact (LeO.ite (LeO.ite (LeO.ite (LeO.bind (LeO.refl _) fun y4 => (LeO.ite (h0 _) (LeO.refl _))) (LeO.refl _)) (LeO.refl _)) (LeO.ite (LeO.refl _) (LeO.refl _)))
theorem Fy0 (n : Nat) : ∀ x, LeO (Fx0 n x) (M.a1y x) := (Fz0 n)
def Fx1 (n : Nat) (x0 : ByteArray) : Option Bool :=
 Fx0 n (x0, (x0.size : Int), 0)
theorem Fy1 (n : Nat) : ∀ x0, LeO (Fx1 n x0) (M.a3u x0) := by
 intro x0
 rw [Fx1, M.a3u]
 exact (Fy0 n _)
mutual
def Fx2 : Nat → ByteArray × (List T55) × Int × Int → Option Int
 | 0, _ => none
 | n + 1, ⟨x3, x14, x15, x16⟩ =>
  if x16 < x15 then
  if 0 ≤ x16 then
  if x16 < (x14.length : Int) then
  Fx1 n ((gi x14 x16).Name) >>= fun y11 =>
  if y11 = true then
  if (Op.bytesLess ((gi x14 x16).Name).toList x3.toList || ((gi x14 x16).Name).toList == x3.toList) = true then
  Fx3 n (gi x14 x16, x14, x15, x16, true)
  else
  if (((gi x14 x16).Value).toList == (⟨#[]⟩ : ByteArray).toList) = true then
  Fx3 n (gi x14 x16, x14, x15, x16, true)
  else
  Fx3 n (gi x14 x16, x14, x15, x16, decide ((((gi x14 x16).Value).size : Int) > 256))
  else
  Fx3 n (gi x14 x16, x14, x15, x16, true)
  else
  none
  else
  none
  else
  some 0
 termination_by structural n => n
def Fx3 : Nat → T55 × (List T55) × Int × Int × Bool → Option Int
 | 0, _ => none
 | n + 1, ⟨x5v, x14, x15, x16, x40⟩ =>
  if x40 = true then
  some 40
  else
  Fx2 n (x5v.Name, x14, x15, wr .i64 (x16 + 1))
 termination_by structural n => n
end
theorem Fz2 (n : Nat) : (∀ x, LeO (Fx2 n x) (M.a1q x)) ∧ (∀ x, LeO (Fx3 n x) (M.a14 x)) := by
 induction n with
 | zero => exact ⟨fun _ => LeO.zero _, fun _ => LeO.zero _⟩
 | succ n ih =>
  obtain ⟨h0, h1⟩ := ih
  refine ⟨fun ⟨x3, x14, x15, x16⟩ => ?_, fun ⟨x5v, x14, x15, x16, x40⟩ => ?_⟩
  · rw [Fx2, M.a1q]
    exact (LeO.ite (LeO.ite (LeO.ite (LeO.bind (Fy1 n _) fun y11 => (LeO.ite (LeO.ite (h1 _) (LeO.ite (h1 _) (h1 _))) (h1 _))) (LeO.refl _)) (LeO.refl _)) (LeO.refl _))
  · rw [Fx3, M.a14]
    exact (LeO.ite (LeO.refl _) (h0 _))
theorem Fy2 (n : Nat) : ∀ x, LeO (Fx2 n x) (M.a1q x) := (Fz2 n).1
theorem Fy3 (n : Nat) : ∀ x, LeO (Fx3 n x) (M.a14 x) := (Fz2 n).2
def Fx4 (n : Nat) : (List T55) × Bool → Option Int := fun ⟨x0, x13⟩ =>
 if x13 = true then
 some 40
 else
 Fx2 n ((⟨#[]⟩ : ByteArray), x0, (x0.length : Int), 0)
theorem Fy4 (n : Nat) : ∀ x, LeO (Fx4 n x) (M.a2x x) := fun ⟨x0, x13⟩ => by
 rw [Fx4, M.a2x]
 exact (LeO.ite (LeO.refl _) (Fy2 n _))
def Fx5 (n : Nat) (x0 : List T55) : Option Int :=
 if (x0.length : Int) = 0 then
 Fx4 n (x0, true)
 else
 Fx4 n (x0, decide ((x0.length : Int) > 16))
theorem Fy5 (n : Nat) : ∀ x0, LeO (Fx5 n x0) (M.a3v x0) := by
 intro x0
 rw [Fx5, M.a3v]
 exact (LeO.ite (Fy4 n _) (Fy4 n _))
def Fx6 : Nat → (List Int) × Int → Option (List Int)
 | 0, _ => none
 | n + 1, ⟨x7, x8⟩ =>
  if x8 > 127 then
  if ((x7 ++ [ior .u8 (wr .u8 x8) 128]).length : Int) ≤ 1099511627776 then
  Fx6 n ((x7 ++ [ior .u8 (wr .u8 x8) 128]), ishr .u64 x8 7)
  else
  none
  else
  if ((x7 ++ [wr .u8 x8]).length : Int) ≤ 1099511627776 then
  some (x7 ++ [wr .u8 x8])
  else
  none
 termination_by structural n => n
theorem Fz6 (n : Nat) : (∀ x, LeO (Fx6 n x) (M.a1z x)) := by
 induction n with
 | zero => exact fun _ => LeO.zero _
 | succ n ih =>
  have h0 := ih
  refine fun ⟨x7, x8⟩ => ?_
  · rw [Fx6, M.a1z]
    exact (LeO.ite (LeO.ite (h0 _) (LeO.refl _)) (LeO.ite (LeO.refl _) (LeO.refl _)))
theorem Fy6 (n : Nat) : ∀ x, LeO (Fx6 n x) (M.a1z x) := (Fz6 n)
def Fx7 (n : Nat) (x0 : List Int) (x1 : Int) : Option (List Int) :=
 if 0 ≤ wr .i64 ((x0.length : Int) + 10) then
 if wr .i64 ((x0.length : Int) + 10) ≤ 1099511627776 then
 if (x0.length : Int) ≤ 1099511627776 then
 M.a5d x1 >>= fun y15 =>
 Fx6 n (x0, y15)
 else
 none
 else
 none
 else
 none
theorem Fy7 (n : Nat) : ∀ x0 x1, LeO (Fx7 n x0 x1) (M.a3w x0 x1) := by
 intro x0 x1
 rw [Fx7, M.a3w]
 exact (LeO.ite (LeO.ite (LeO.ite (LeO.bind (LeO.refl _) fun y15 => (Fy6 n _)) (LeO.refl _)) (LeO.refl _)) (LeO.refl _))
def Fx8 (n : Nat) (x0 : List Int) (x1 : Int) : Option (List Int) :=
 Fx7 n x0 x1 >>= fun y1 =>
 some y1
theorem Fy8 (n : Nat) : ∀ x0 x1, LeO (Fx8 n x0 x1) (M.a2y x0 x1) := by
 intro x0 x1
 rw [Fx8, M.a2y]
 exact (LeO.bind (Fy7 n _ _) fun y1 => (LeO.refl _))
def Fx9 (n : Nat) (x0 : List Int) (x1 : List Int) : Option ((List Int) × Int) :=
 if (x1.length : Int) > 65536 then
 some (([] : List Int), 3)
 else
 Fx8 n x0 (wr .u64 (x1.length : Int)) >>= fun y3 =>
 if ((y3 ++ x1).length : Int) ≤ 1099511627776 then
 some ((y3 ++ x1), 0)
 else
 none
theorem Fy9 (n : Nat) : ∀ x0 x1, LeO (Fx9 n x0 x1) (M.a2z x0 x1) := by
 intro x0 x1
 rw [Fx9, M.a2z]
 exact (LeO.ite (LeO.refl _) (LeO.bind (Fy8 n _ _) fun y3 => (LeO.ite (LeO.refl _) (LeO.refl _))))
def Fx10 : Nat → (List Int) × (List T55) × Int × Int → Option ((List Int) × Int)
 | 0, _ => none
 | n + 1, ⟨x7, x20, x21, x22⟩ =>
  if x22 < x21 then
  if 0 ≤ x22 then
  if x22 < (x20.length : Int) then
  Fx9 n x7 (s2b ((gi x20 x22).Name)) >>= fun y21 =>
  Fx9 n y21.1 (s2b ((gi x20 x22).Value)) >>= fun y28 =>
  Fx10 n (y28.1, x20, x21, wr .i64 (x22 + 1))
  else
  none
  else
  none
  else
  some (x7, 0)
 termination_by structural n => n
theorem Fz10 (n : Nat) : (∀ x, LeO (Fx10 n x) (M.a20 x)) := by
 induction n with
 | zero => exact fun _ => LeO.zero _
 | succ n ih =>
  have h0 := ih
  refine fun ⟨x7, x20, x21, x22⟩ => ?_
  · rw [Fx10, M.a20]
    exact (LeO.ite (LeO.ite (LeO.ite (LeO.bind (Fy9 n _ _) fun y21 => (LeO.bind (Fy9 n _ _) fun y28 => (h0 _))) (LeO.refl _)) (LeO.refl _)) (LeO.refl _))
theorem Fy10 (n : Nat) : ∀ x, LeO (Fx10 n x) (M.a20 x) := (Fz10 n)
def Fx11 (n : Nat) (x0 : List Int) (x1 : List T55) : Option ((List Int) × Int) :=
 Fx5 n x1 >>= fun y1 =>
 if y1 = 0 then
 Fx8 n x0 (wr .u64 (x1.length : Int)) >>= fun y4 =>
 Fx10 n (y4, x1, (x1.length : Int), 0)
 else
 some (([] : List Int), y1)
theorem Fy11 (n : Nat) : ∀ x0 x1, LeO (Fx11 n x0 x1) (M.a3x x0 x1) := by
 intro x0 x1
 rw [Fx11, M.a3x]
 exact (LeO.bind (Fy5 n _) fun y1 => (LeO.ite (LeO.bind (Fy8 n _ _) fun y4 => (Fy10 n _)) (LeO.refl _)))
def Fx12 (n : Nat) (x0 : List T55) : Option (ByteArray × Int) :=
 Fx11 n ([] : List Int) x0 >>= fun y1 =>
 some (b2s y1.1, y1.2)
theorem Fy12 (n : Nat) : ∀ x0, LeO (Fx12 n x0) (M.a21 x0) := by
 intro x0
 rw [Fx12, M.a21]
 exact (LeO.bind (Fy11 n _ _) fun y1 => (LeO.refl _))
def Fx13 : Nat → Int × Int × (List ByteArray) × ByteArray → Option (List ByteArray)
 | 0, _ => none
 | n + 1, ⟨x7, x8, e1v_0, x0q6b0v_0⟩ =>
  if x8 < x7 then
  if 0 ≤ x8 then
  if x8 ≤ wr .i64 (x8 + 3) then
  if wr .i64 (x8 + 3) ≤ (x0q6b0v_0.size : Int) then
  M.a5e e1v_0 x0q6b0v_0 (ss x0q6b0v_0 x8 (wr .i64 (x8 + 3))) >>= fun y10 =>
  Fx13 n (x7, wr .i64 (x8 + 1), y10, x0q6b0v_0)
  else
  none
  else
  none
  else
  none
  else
  some e1v_0
 termination_by structural n => n
theorem Fz13 (n : Nat) : (∀ x, LeO (Fx13 n x) (M.a22 x)) := by
 induction n with
 | zero => exact fun _ => LeO.zero _
 | succ n ih =>
  have h0 := ih
  refine fun ⟨x7, x8, e1v_0, x0q6b0v_0⟩ => ?_
  · rw [Fx13, M.a22]
    exact (LeO.ite (LeO.ite (LeO.ite (LeO.ite (LeO.bind (LeO.refl _) fun y10 => (h0 _)) (LeO.refl _)) (LeO.refl _)) (LeO.refl _)) (LeO.refl _))
theorem Fy13 (n : Nat) : ∀ x, LeO (Fx13 n x) (M.a22 x) := (Fz13 n)
def Fx14 (n : Nat) (x0q2v_0 : List ByteArray) (x0q6b0v_0 : ByteArray) : Option (List ByteArray) :=
 Fx13 n (wr .i64 ((wr .i64 ((x0q6b0v_0.size : Int) - 3)) + 1), 0, x0q2v_0, x0q6b0v_0)
theorem Fy14 (n : Nat) : ∀ x0q2v_0 x0q6b0v_0, LeO (Fx14 n x0q2v_0 x0q6b0v_0) (M.a3y x0q2v_0 x0q6b0v_0) := by
 intro x0q2v_0 x0q6b0v_0
 rw [Fx14, M.a3y]
 exact (Fy13 n _)
def Fx15 (n : Nat) (x1b0v_0 : ByteArray) : Option (List ByteArray) :=
 Fx14 n ([] : List ByteArray) x1b0v_0 >>= fun y10 =>
 some y10
theorem Fy15 (n : Nat) : ∀ x1b0v_0, LeO (Fx15 n x1b0v_0) (M.a3z x1b0v_0) := by
 intro x1b0v_0
 rw [Fx15, M.a3z]
 exact (LeO.bind (Fy14 n _ _) fun y10 => (LeO.refl _))
def Fx16 (n : Nat) (x0b0v_0 : ByteArray) : Option (List ByteArray) :=
 Fx15 n x0b0v_0 >>= fun y2 =>
 some y2
theorem Fy16 (n : Nat) : ∀ x0b0v_0, LeO (Fx16 n x0b0v_0) (M.a40 x0b0v_0) := by
 intro x0b0v_0
 rw [Fx16, M.a40]
 exact (LeO.bind (Fy15 n _) fun y2 => (LeO.refl _))
def Fx17 (n : Nat) (x0b0v_0 : ByteArray) : Option (List ByteArray) :=
 Fx16 n x0b0v_0 >>= fun y2 =>
 if (y2.length : Int) ≤ 1099511627776 then
 some (srtSc y2)
 else
 none
theorem Fy17 (n : Nat) : ∀ x0b0v_0, LeO (Fx17 n x0b0v_0) (M.a41 x0b0v_0) := by
 intro x0b0v_0
 rw [Fx17, M.a41]; try rw [srtS_f]
 exact (LeO.bind (Fy16 n _) fun y2 => (LeO.ite (LeO.refl _) (LeO.refl _)))
def Fx18 (n : Nat) (x0 : ByteArray) : Option (List ByteArray) :=
 M.a5f x0 >>= fun y1 =>
 Fx17 n y1 >>= fun y4 =>
 if (y4.length : Int) ≤ 1099511627776 then
 some (cmpL y4)
 else
 none
theorem Fy18 (n : Nat) : ∀ x0, LeO (Fx18 n x0) (M.a30 x0) := by
 intro x0
 rw [Fx18, M.a30]
 exact (LeO.bind (LeO.refl _) fun y1 => (LeO.bind (Fy17 n _) fun y4 => (LeO.ite (LeO.refl _) (LeO.refl _))))
def Fx19 : Nat → (List Int) × Int → Option Bool
 | 0, _ => none
 | n + 1, ⟨x0, x3⟩ =>
  if x3 < (x0.length : Int) then
  if 0 ≤ wr .i64 (x3 - 1) then
  if wr .i64 (x3 - 1) < (x0.length : Int) then
  if 0 ≤ x3 then
  if gi x0 (wr .i64 (x3 - 1)) ≥ gi x0 x3 then
  some false
  else
  Fx19 n (x0, wr .i64 (x3 + 1))
  else
  none
  else
  none
  else
  none
  else
  some true
 termination_by structural n => n
theorem Fz19 (n : Nat) : (∀ x, LeO (Fx19 n x) (M.a23 x)) := by
 induction n with
 | zero => exact fun _ => LeO.zero _
 | succ n ih =>
  have h0 := ih
  refine fun ⟨x0, x3⟩ => ?_
  · rw [Fx19, M.a23]
    exact (LeO.ite (LeO.ite (LeO.ite (LeO.ite (LeO.ite (LeO.refl _) (h0 _)) (LeO.refl _)) (LeO.refl _)) (LeO.refl _)) (LeO.refl _))
theorem Fy19 (n : Nat) : ∀ x, LeO (Fx19 n x) (M.a23 x) := (Fz19 n)
def Fx20 (n : Nat) (x0 : List Int) : Option Bool :=
 Fx19 n (x0, 1)
theorem Fy20 (n : Nat) : ∀ x0, LeO (Fx20 n x0) (M.a42 x0) := by
 intro x0
 rw [Fx20, M.a42]
 exact (Fy19 n _)
def Fx21 (n : Nat) (x0 : List Int) : Option Int :=
 Fx20 n x0 >>= fun y1 =>
 if y1 = true then
 some 0
 else
 some 2
theorem Fy21 (n : Nat) : ∀ x0, LeO (Fx21 n x0) (M.a1r x0) := by
 intro x0
 rw [Fx21, M.a1r]
 exact (LeO.bind (Fy20 n _) fun y1 => (LeO.ite (LeO.refl _) (LeO.refl _)))
mutual
def Fx22 : Nat → (List Int) × (List Int) × (List Int) → Option ((List Int) × (List Int) × (List Int))
 | 0, _ => none
 | n + 1, ⟨e2v_0, e3v_0, e4v_0⟩ =>
  if (e3v_0.length : Int) > 0 then
  Fx23 n (true, e2v_0, e3v_0, e4v_0)
  else
  Fx23 n (decide ((e4v_0.length : Int) > 0), e2v_0, e3v_0, e4v_0)
 termination_by structural n => n
def Fx23 : Nat → Bool × (List Int) × (List Int) × (List Int) → Option ((List Int) × (List Int) × (List Int))
 | 0, _ => none
 | n + 1, ⟨x13, e2v_0, e3v_0, e4v_0⟩ =>
  if x13 = true then
  if (e4v_0.length : Int) = 0 then
  Fx24 n (0, true, e2v_0, e3v_0, e4v_0)
  else
  if (e3v_0.length : Int) > 0 then
  if 0 < (e3v_0.length : Int) then
  if 0 < (e4v_0.length : Int) then
  Fx24 n (0, decide (gi e3v_0 0 ≤ gi e4v_0 0), e2v_0, e3v_0, e4v_0)
  else
  none
  else
  none
  else
  Fx24 n (0, false, e2v_0, e3v_0, e4v_0)
  else
  some (e2v_0, e3v_0, e4v_0)
 termination_by structural n => n
def Fx24 : Nat → Int × Bool × (List Int) × (List Int) × (List Int) → Option ((List Int) × (List Int) × (List Int))
 | 0, _ => none
 | n + 1, ⟨x4, x30, e2v_0, e3v_0, e4v_0⟩ =>
  if x30 = true then
  Fx25 n (ior .i64 x4 1, e2v_0, e3v_0, e4v_0)
  else
  Fx25 n (x4, e2v_0, e3v_0, e4v_0)
 termination_by structural n => n
def Fx25 : Nat → Int × (List Int) × (List Int) × (List Int) → Option ((List Int) × (List Int) × (List Int))
 | 0, _ => none
 | n + 1, ⟨x4, e2v_0, e3v_0, e4v_0⟩ =>
  if (e3v_0.length : Int) = 0 then
  Fx26 n (x4, true, e2v_0, e3v_0, e4v_0)
  else
  if (e4v_0.length : Int) > 0 then
  if 0 < (e4v_0.length : Int) then
  if 0 < (e3v_0.length : Int) then
  Fx26 n (x4, decide (gi e4v_0 0 ≤ gi e3v_0 0), e2v_0, e3v_0, e4v_0)
  else
  none
  else
  none
  else
  Fx26 n (x4, false, e2v_0, e3v_0, e4v_0)
 termination_by structural n => n
def Fx26 : Nat → Int × Bool × (List Int) × (List Int) × (List Int) → Option ((List Int) × (List Int) × (List Int))
 | 0, _ => none
 | n + 1, ⟨x4, x49, e2v_0, e3v_0, e4v_0⟩ =>
  if x49 = true then
  Fx27 n (ior .i64 x4 2, e2v_0, e3v_0, e4v_0)
  else
  Fx27 n (x4, e2v_0, e3v_0, e4v_0)
 termination_by structural n => n
def Fx27 : Nat → Int × (List Int) × (List Int) × (List Int) → Option ((List Int) × (List Int) × (List Int))
 | 0, _ => none
 | n + 1, ⟨x4, e2v_0, e3v_0, e4v_0⟩ =>
  if iand .i64 x4 2 = 0 then
  Fx28 n (x4, 0, e2v_0, e3v_0, e4v_0)
  else
  if 0 < (e4v_0.length : Int) then
  if 1 ≤ (e4v_0.length : Int) then
  Fx28 n (x4, gi e4v_0 0, e2v_0, e3v_0, (sl e4v_0 1 (e4v_0.length : Int)))
  else
  none
  else
  none
 termination_by structural n => n
def Fx28 : Nat → Int × Int × (List Int) × (List Int) × (List Int) → Option ((List Int) × (List Int) × (List Int))
 | 0, _ => none
 | n + 1, ⟨x4, x5, e2v_0, e3v_0, e4v_0⟩ =>
  if iand .i64 x4 1 = 0 then
  Fx29 n (x4, x5, e2v_0, e3v_0, e4v_0)
  else
  if 0 < (e3v_0.length : Int) then
  if 1 ≤ (e3v_0.length : Int) then
  Fx29 n (x4, gi e3v_0 0, e2v_0, (sl e3v_0 1 (e3v_0.length : Int)), e4v_0)
  else
  none
  else
  none
 termination_by structural n => n
def Fx29 : Nat → Int × Int × (List Int) × (List Int) × (List Int) → Option ((List Int) × (List Int) × (List Int))
 | 0, _ => none
 | n + 1, ⟨x4, x5, e2v_0, e3v_0, e4v_0⟩ =>
  M.a5g e2v_0 e3v_0 e4v_0 x5 x4 >>= fun y57 =>
  Fx22 n (y57, e3v_0, e4v_0)
 termination_by structural n => n
end
theorem Fz22 (n : Nat) : (∀ x, LeO (Fx22 n x) (M.a1s x)) ∧ (∀ x, LeO (Fx23 n x) (M.a24 x)) ∧ (∀ x, LeO (Fx24 n x) (M.a1t x)) ∧ (∀ x, LeO (Fx25 n x) (M.a25 x)) ∧ (∀ x, LeO (Fx26 n x) (M.a1u x)) ∧ (∀ x, LeO (Fx27 n x) (M.a26 x)) ∧ (∀ x, LeO (Fx28 n x) (M.a27 x)) ∧ (∀ x, LeO (Fx29 n x) (M.a28 x)) := by
 induction n with
 | zero => exact ⟨fun _ => LeO.zero _, fun _ => LeO.zero _, fun _ => LeO.zero _, fun _ => LeO.zero _, fun _ => LeO.zero _, fun _ => LeO.zero _, fun _ => LeO.zero _, fun _ => LeO.zero _⟩
 | succ n ih =>
  obtain ⟨h0, h1, h2, h3, h4, h5, h6, h7⟩ := ih
  refine ⟨fun ⟨e2v_0, e3v_0, e4v_0⟩ => ?_, fun ⟨x13, e2v_0, e3v_0, e4v_0⟩ => ?_, fun ⟨x4, x30, e2v_0, e3v_0, e4v_0⟩ => ?_, fun ⟨x4, e2v_0, e3v_0, e4v_0⟩ => ?_, fun ⟨x4, x49, e2v_0, e3v_0, e4v_0⟩ => ?_, fun ⟨x4, e2v_0, e3v_0, e4v_0⟩ => ?_, fun ⟨x4, x5, e2v_0, e3v_0, e4v_0⟩ => ?_, fun ⟨x4, x5, e2v_0, e3v_0, e4v_0⟩ => ?_⟩
  · rw [Fx22, M.a1s]
    exact (LeO.ite (h1 _) (h1 _))
  · rw [Fx23, M.a24]
    exact (LeO.ite (LeO.ite (h2 _) (LeO.ite (LeO.ite (LeO.ite (h2 _) (LeO.refl _)) (LeO.refl _)) (h2 _))) (LeO.refl _))
  · rw [Fx24, M.a1t]
    exact (LeO.ite (h3 _) (h3 _))
  · rw [Fx25, M.a25]
    exact (LeO.ite (h4 _) (LeO.ite (LeO.ite (LeO.ite (h4 _) (LeO.refl _)) (LeO.refl _)) (h4 _)))
  · rw [Fx26, M.a1u]
    exact (LeO.ite (h5 _) (h5 _))
  · rw [Fx27, M.a26]
    exact (LeO.ite (h6 _) (LeO.ite (LeO.ite (h6 _) (LeO.refl _)) (LeO.refl _)))
  · rw [Fx28, M.a27]
    exact (LeO.ite (h7 _) (LeO.ite (LeO.ite (h7 _) (LeO.refl _)) (LeO.refl _)))
  · rw [Fx29, M.a28]
    exact (LeO.bind (LeO.refl _) fun y57 => (h0 _))
theorem Fy22 (n : Nat) : ∀ x, LeO (Fx22 n x) (M.a1s x) := (Fz22 n).1
theorem Fy23 (n : Nat) : ∀ x, LeO (Fx23 n x) (M.a24 x) := (Fz22 n).2.1
theorem Fy24 (n : Nat) : ∀ x, LeO (Fx24 n x) (M.a1t x) := (Fz22 n).2.2.1
theorem Fy25 (n : Nat) : ∀ x, LeO (Fx25 n x) (M.a25 x) := (Fz22 n).2.2.2.1
theorem Fy26 (n : Nat) : ∀ x, LeO (Fx26 n x) (M.a1u x) := (Fz22 n).2.2.2.2.1
theorem Fy27 (n : Nat) : ∀ x, LeO (Fx27 n x) (M.a26 x) := (Fz22 n).2.2.2.2.2.1
theorem Fy28 (n : Nat) : ∀ x, LeO (Fx28 n x) (M.a27 x) := (Fz22 n).2.2.2.2.2.2.1
theorem Fy29 (n : Nat) : ∀ x, LeO (Fx29 n x) (M.a28 x) := (Fz22 n).2.2.2.2.2.2.2
def Fx30 (n : Nat) (x0q7v_0 : List Int) (x0q12b0v_0 : List Int) (x0q12b1v_0 : List Int) : Option ((List Int) × (List Int) × (List Int)) :=
 Fx22 n (x0q7v_0, x0q12b0v_0, x0q12b1v_0)
theorem Fy30 (n : Nat) : ∀ x0q7v_0 x0q12b0v_0 x0q12b1v_0, LeO (Fx30 n x0q7v_0 x0q12b0v_0 x0q12b1v_0) (M.a43 x0q7v_0 x0q12b0v_0 x0q12b1v_0) := by
 intro x0q7v_0 x0q12b0v_0 x0q12b1v_0
 rw [Fx30, M.a43]
 exact (Fy22 n _)
def Fx31 (n : Nat) (x0 : List Int) (x1 : List Int) : Option (List Int) :=
 M.a31 x0 x1 >>= fun y5 =>
 Fx30 n ([] : List Int) y5.1 y5.2 >>= fun y15 =>
 some y15.1
theorem Fy31 (n : Nat) : ∀ x0 x1, LeO (Fx31 n x0 x1) (M.a44 x0 x1) := by
 intro x0 x1
 rw [Fx31, M.a44]
 exact (LeO.bind (LeO.refl _) fun y5 => (LeO.bind (Fy30 n _ _ _) fun y15 => (LeO.refl _)))
def Fx32 : Nat → (List Int) × (List (List Int)) × Int × Int → Option ((List Int) × Int)
 | 0, _ => none
 | n + 1, ⟨x9, x35, x36, x37⟩ =>
  if x37 < x36 then
  if 0 ≤ x37 then
  if x37 < (x35.length : Int) then
  Fx31 n x9 (gi x35 x37) >>= fun y43 =>
  Fx32 n (y43, x35, x36, wr .i64 (x37 + 1))
  else
  none
  else
  none
  else
  some (x9, 0)
 termination_by structural n => n
theorem Fz32 (n : Nat) : (∀ x, LeO (Fx32 n x) (M.a29 x)) := by
 induction n with
 | zero => exact fun _ => LeO.zero _
 | succ n ih =>
  have h0 := ih
  refine fun ⟨x9, x35, x36, x37⟩ => ?_
  · rw [Fx32, M.a29]
    exact (LeO.ite (LeO.ite (LeO.ite (LeO.bind (Fy31 n _ _) fun y43 => (h0 _)) (LeO.refl _)) (LeO.refl _)) (LeO.refl _))
theorem Fy32 (n : Nat) : ∀ x, LeO (Fx32 n x) (M.a29 x) := (Fz32 n)
def Fx33 : Nat → (List (List Int)) × (List (List Int)) × Int × Int → Option ((List Int) × Int)
 | 0, _ => none
 | n + 1, ⟨x0, x15, x16, x17⟩ =>
  if x17 < x16 then
  if 0 ≤ x17 then
  if x17 < (x15.length : Int) then
  Fx21 n (gi x15 x17) >>= fun y12 =>
  if y12 = 0 then
  Fx33 n (x0, x15, x16, wr .i64 (x17 + 1))
  else
  some (([] : List Int), y12)
  else
  none
  else
  none
  else
  if (x0.length : Int) = 0 then
  some (([] : List Int), 0)
  else
  if 0 < (x0.length : Int) then
  M.ap (gi x0 0) >>= fun y25 =>
  if 1 ≤ (x0.length : Int) then
  Fx32 n (y25, (sl x0 1 (x0.length : Int)), ((sl x0 1 (x0.length : Int)).length : Int), 0)
  else
  none
  else
  none
 termination_by structural n => n
theorem Fz33 (n : Nat) : (∀ x, LeO (Fx33 n x) (M.a2a x)) := by
 induction n with
 | zero => exact fun _ => LeO.zero _
 | succ n ih =>
  have h0 := ih
  refine fun ⟨x0, x15, x16, x17⟩ => ?_
  · rw [Fx33, M.a2a]
    exact (LeO.ite (LeO.ite (LeO.ite (LeO.bind (Fy21 n _) fun y12 => (LeO.ite (h0 _) (LeO.refl _))) (LeO.refl _)) (LeO.refl _)) (LeO.ite (LeO.refl _) (LeO.ite (LeO.bind (LeO.refl _) fun y25 => (LeO.ite (Fy32 n _) (LeO.refl _))) (LeO.refl _))))
theorem Fy33 (n : Nat) : ∀ x, LeO (Fx33 n x) (M.a2a x) := (Fz33 n)
def Fx34 (n : Nat) (x0 : List (List Int)) : Option ((List Int) × Int) :=
 if (x0.length : Int) > 4096 then
 some (([] : List Int), 3)
 else
 Fx33 n (x0, x0, (x0.length : Int), 0)
theorem Fy34 (n : Nat) : ∀ x0, LeO (Fx34 n x0) (M.a45 x0) := by
 intro x0
 rw [Fx34, M.a45]
 exact (LeO.ite (LeO.refl _) (Fy33 n _))
def Fx35 (n : Nat) (x0 : List (List Int)) : Option ((List Int) × Int) :=
 Fx34 n x0 >>= fun y1 =>
 some (y1.1, y1.2)
theorem Fy35 (n : Nat) : ∀ x0, LeO (Fx35 n x0) (M.a32 x0) := by
 intro x0
 rw [Fx35, M.a32]
 exact (LeO.bind (Fy34 n _) fun y1 => (LeO.refl _))
def Fx36 (n : Nat) (x0 : List Int) (x1 : Int) : Option ((List Int) × Int) :=
 Fx35 n [x0, [x1]] >>= fun y9 =>
 some (y9.1, y9.2)
theorem Fy36 (n : Nat) : ∀ x0 x1, LeO (Fx36 n x0 x1) (M.a33 x0 x1) := by
 intro x0 x1
 rw [Fx36, M.a33]
 exact (LeO.bind (Fy35 n _) fun y9 => (LeO.refl _))
def Fx37 (n : Nat) (x0 : Option Nat) (x1 : ByteArray) (x2 : Int) (pl : Z) : Option (Int × Z) :=
 M.a2b x0 pl >>= fun y1 =>
 if y1 = true then
 some (x0) >>= fun v40 =>
 (match v40 with
 | none =>
  none
 | some y5 =>
  some (((gn pl.zj y5).l).at_) >>= fun v39 =>
  (match v39 with
  | none =>
   Fx36 n ([] : List Int) x2 >>= fun y20 =>
   M.a1v y5 x1 y20.1 pl >>= fun y24 =>
   some (y20.2, y24)
  | some y17 =>
   some ((mget (gn pl.zi y17) x1).getD ([] : List Int)) >>= fun v26 =>
   Fx36 n v26 x2 >>= fun y33 =>
   M.a1v y5 x1 y33.1 pl >>= fun y37 =>
   some (y33.2, y37)))
 else
 some (1, pl)
theorem Fy37 (n : Nat) : ∀ x0 x1 x2 pl, LeO (Fx37 n x0 x1 x2 pl) (M.a46 x0 x1 x2 pl) := by
 intro x0 x1 x2 pl
 rw [Fx37, M.a46]
 exact (LeO.bind (LeO.refl _) fun y1 => (LeO.ite (LeO.bind (LeO.refl _) fun v40 => (by cases v40 with | none => exact (LeO.refl _) | some y5 => exact (LeO.bind (LeO.refl _) fun v39 => (by cases v39 with | none => exact (LeO.bind (Fy36 n _ _) fun y20 => (LeO.bind (LeO.refl _) fun y24 => (LeO.refl _))) | some y17 => exact (LeO.bind (LeO.refl _) fun v26 => (LeO.bind (Fy36 n _ _) fun y33 => (LeO.bind (LeO.refl _) fun y37 => (LeO.refl _)))))))) (LeO.refl _)))
def Fx38 : Nat → Nat × Int × Nat × (List ByteArray) × Int × Int × Z → Option Z
 | 0, _ => none
 | n + 1, ⟨x0, x2, x6, x54, x55, x56, e0⟩ =>
  if x56 < x55 then
  if 0 ≤ x56 then
  if x56 < (x54.length : Int) then
  Fx37 n ((gn e0.zh x0).grams) (gi x54 x56) ((gn e0.zh x0).next) e0 >>= fun y237 =>
  Fx38 n (x0, x2, x6, x54, x55, wr .i64 (x56 + 1), y237.2)
  else
  none
  else
  none
  else
  M.a34 (x0, x2, (some x6), e0)
 termination_by structural n => n
theorem Fz38 (n : Nat) : (∀ x, LeO (Fx38 n x) (M.a2c x)) := by
 induction n with
 | zero => exact fun _ => LeO.zero _
 | succ n ih =>
  have h0 := ih
  refine fun ⟨x0, x2, x6, x54, x55, x56, e0⟩ => ?_
  · rw [Fx38, M.a2c]
    exact (LeO.ite (LeO.ite (LeO.ite (LeO.bind (Fy37 n _ _ _ _) fun y237 => (h0 _)) (LeO.refl _)) (LeO.refl _)) (LeO.refl _))
theorem Fy38 (n : Nat) : ∀ x, LeO (Fx38 n x) (M.a2c x) := (Fz38 n)
def Fx39 (n : Nat) : Nat × ByteArray × Int × Nat × Z → Option Z := fun ⟨x0, x1, x2, x6, e0⟩ =>
 Fx18 n x1 >>= fun y209 =>
 Fx38 n (x0, x2, x6, y209, (y209.length : Int), 0, e0)
theorem Fy39 (n : Nat) : ∀ x, LeO (Fx39 n x) (M.a47 x) := fun ⟨x0, x1, x2, x6, e0⟩ => by
 rw [Fx39, M.a47]
 exact (LeO.bind (Fy18 n _) fun y209 => (Fy38 n _))
def Fx40 (n : Nat) : Nat × ByteArray × Int × Nat × Z → Option Z := fun ⟨x0, x1, x2, x6, e0⟩ =>
 some (sn e0.zh x0 (⟨(gn e0.zh x0).values, (gn e0.zh x0).numbers, (gn e0.zh x0).texts, (gn e0.zh x0).grams, wr .u64 (((gn e0.zh x0).next) + 1), (gn e0.zh x0).size⟩ : T126)) >>= fun v104 =>
 some ((gn v104 x0).numbers) >>= fun v160 =>
 (match v160 with
 | none =>
  none
 | some y126 =>
  some (sn e0.zb y126 (mset (gn e0.zb y126) x1 ((mget (gn e0.zb y126) x1).getD 0))) >>= fun v129 =>
  some (sn v129 y126 (mset (gn v129 y126) x1 ((gn v104 x0).next))) >>= fun v137 =>
  some ((gn v104 x0).texts) >>= fun v159 =>
  (match v159 with
  | none =>
   none
  | some y142 =>
   some ((mget (gn e0.zg y142) ((gn v104 x0).next)).getD (⟨#[]⟩ : ByteArray)) >>= fun v145 =>
   some (sn e0.zg y142 (mset (gn e0.zg y142) ((gn v104 x0).next) v145)) >>= fun v147 =>
   some (sn v147 y142 (mset (gn v147 y142) ((gn v104 x0).next) x1)) >>= fun v155 =>
   Fx39 n (x0, x1, x2, x6, {e0 with zb := v137, zg := v155, zh := v104})))
theorem Fy40 (n : Nat) : ∀ x, LeO (Fx40 n x) (M.a48 x) := fun ⟨x0, x1, x2, x6, e0⟩ => by
 rw [Fx40, M.a48]
 exact (LeO.bind (LeO.refl _) fun v104 => (LeO.bind (LeO.refl _) fun v160 => (by cases v160 with | none => exact (LeO.refl _) | some y126 => exact (LeO.bind (LeO.refl _) fun v129 => (LeO.bind (LeO.refl _) fun v137 => (LeO.bind (LeO.refl _) fun v159 => (by cases v159 with | none => exact (LeO.refl _) | some y142 => exact (LeO.bind (LeO.refl _) fun v145 => (LeO.bind (LeO.refl _) fun v147 => (LeO.bind (LeO.refl _) fun v155 => (Fy39 n _)))))))))))
def Fx41 (n : Nat) : Nat × ByteArray × Int × (Option Nat) × Bool × Z → Option Z := fun ⟨x0, x1, x2, x6, x16, e0⟩ =>
 if x16 = true then
 some ((gn e0.zh x0).values) >>= fun v69 =>
 (match v69 with
 | none =>
  none
 | some y61 =>
  some (sn e0.ze y61 (mset (gn e0.ze y61) x1 (some e0.zf.length))) >>= fun v64 =>
  Fx40 n (x0, x1, x2, e0.zf.length, {e0 with ze := v64, zf := (e0.zf ++ [[]])}))
 else
 M.a34 (x0, x2, x6, e0)
theorem Fy41 (n : Nat) : ∀ x, LeO (Fx41 n x) (M.a35 x) := fun ⟨x0, x1, x2, x6, x16, e0⟩ => by
 rw [Fx41, M.a35]
 exact (LeO.ite (LeO.bind (LeO.refl _) fun v69 => (by cases v69 with | none => exact (LeO.refl _) | some y61 => exact (LeO.bind (LeO.refl _) fun v64 => (Fy40 n _)))) (LeO.refl _))
def Fx42 (n : Nat) : Nat × ByteArray × Int × (Option Nat) × Z → Option Z := fun ⟨x0, x1, x2, x6, e0⟩ =>
 some (x6) >>= fun v37 =>
 (match v37 with
 | none =>
  Fx41 n (x0, x1, x2, none, true, e0)
 | some y34 =>
  Fx41 n (x0, x1, x2, (some y34), false, e0))
theorem Fy42 (n : Nat) : ∀ x, LeO (Fx42 n x) (M.a36 x) := fun ⟨x0, x1, x2, x6, e0⟩ => by
 rw [Fx42, M.a36]
 exact (LeO.bind (LeO.refl _) fun v37 => (by cases v37 with | none => exact (Fy41 n _) | some y34 => exact (Fy41 n _)))
def Fx43 (n : Nat) (x0 : Option Nat) (x1 : ByteArray) (x2 : Int) (pl : Z) : Option Z :=
 some (x0) >>= fun v32 =>
 (match v32 with
 | none =>
  none
 | some y2 =>
  some ((gn pl.zh y2).values) >>= fun v31 =>
  (match v31 with
  | none =>
   Fx42 n (y2, x1, x2, none, pl)
  | some y23 =>
   some ((mget (gn pl.ze y23) x1).getD (none : Option Nat)) >>= fun v26 =>
   Fx42 n (y2, x1, x2, v26, pl)))
theorem Fy43 (n : Nat) : ∀ x0 x1 x2 pl, LeO (Fx43 n x0 x1 x2 pl) (M.a49 x0 x1 x2 pl) := by
 intro x0 x1 x2 pl
 rw [Fx43, M.a49]
 exact (LeO.bind (LeO.refl _) fun v32 => (by cases v32 with | none => exact (LeO.refl _) | some y2 => exact (LeO.bind (LeO.refl _) fun v31 => (by cases v31 with | none => exact (Fy42 n _) | some y23 => exact (LeO.bind (LeO.refl _) fun v26 => (Fy42 n _))))))
mutual
def Fx44 : Nat → Nat × Int × Int × (List T55) × Int × Int × Z → Option (Int × Z)
 | 0, _ => none
 | n + 1, ⟨x0, x1, x8, x74, x75, x76, e0⟩ =>
  if x76 < x75 then
  if 0 ≤ x76 then
  if x76 < (x74.length : Int) then
  some ((gn e0.zd x0).columns) >>= fun v161 =>
  (match v161 with
  | none =>
   Fx45 n (x0, x1, x8, gi x74 x76, none, x74, x75, x76, e0)
  | some y152 =>
   some ((mget (gn e0.zc y152) ((gi x74 x76).Name)).getD (none : Option Nat)) >>= fun v156 =>
   Fx45 n (x0, x1, x8, gi x74 x76, v156, x74, x75, x76, e0))
  else
  none
  else
  none
  else
  some (x8, e0)
 termination_by structural n => n
def Fx45 : Nat → Nat × Int × Int × T55 × (Option Nat) × (List T55) × Int × Int × Z → Option (Int × Z)
 | 0, _ => none
 | n + 1, ⟨x0, x1, x8, x14v, x15, x74, x75, x76, e0⟩ =>
  some (x15) >>= fun v167 =>
  (match v167 with
  | none =>
   Fx46 n (x0, x1, x8, x14v, none, x74, x75, x76, true, e0)
  | some y163 =>
   Fx46 n (x0, x1, x8, x14v, (some y163), x74, x75, x76, false, e0))
 termination_by structural n => n
def Fx46 : Nat → Nat × Int × Int × T55 × (Option Nat) × (List T55) × Int × Int × Bool × Z → Option (Int × Z)
 | 0, _ => none
 | n + 1, ⟨x0, x1, x8, x14v, x15, x74, x75, x76, x88, e0⟩ =>
  if x88 = true then
  M.a15 e0 >>= fun y169 =>
  some ((gn y169.2.zd x0).columns) >>= fun v195 =>
  (match v195 with
  | none =>
   none
  | some y186 =>
   some (sn y169.2.zc y186 (mset (gn y169.2.zc y186) x14v.Name (some y169.1))) >>= fun v189 =>
   Fx47 n (x0, x1, x8, x14v, (some y169.1), x74, x75, x76, {y169.2 with zc := v189}))
  else
  Fx47 n (x0, x1, x8, x14v, x15, x74, x75, x76, e0)
 termination_by structural n => n
def Fx47 : Nat → Nat × Int × Int × T55 × (Option Nat) × (List T55) × Int × Int × Z → Option (Int × Z)
 | 0, _ => none
 | n + 1, ⟨x0, x1, x8, x14v, x15, x74, x75, x76, e0⟩ =>
  Fx43 n x15 x14v.Value x1 e0 >>= fun y196 =>
  Fx44 n (x0, x1, x8, x74, x75, wr .i64 (x76 + 1), y196)
 termination_by structural n => n
end
theorem Fz44 (n : Nat) : (∀ x, LeO (Fx44 n x) (M.a1w x)) ∧ (∀ x, LeO (Fx45 n x) (M.a2d x)) ∧ (∀ x, LeO (Fx46 n x) (M.a2e x)) ∧ (∀ x, LeO (Fx47 n x) (M.a2f x)) := by
 induction n with
 | zero => exact ⟨fun _ => LeO.zero _, fun _ => LeO.zero _, fun _ => LeO.zero _, fun _ => LeO.zero _⟩
 | succ n ih =>
  obtain ⟨h0, h1, h2, h3⟩ := ih
  refine ⟨fun ⟨x0, x1, x8, x74, x75, x76, e0⟩ => ?_, fun ⟨x0, x1, x8, x14v, x15, x74, x75, x76, e0⟩ => ?_, fun ⟨x0, x1, x8, x14v, x15, x74, x75, x76, x88, e0⟩ => ?_, fun ⟨x0, x1, x8, x14v, x15, x74, x75, x76, e0⟩ => ?_⟩
  · rw [Fx44, M.a1w]
    exact (LeO.ite (LeO.ite (LeO.ite (LeO.bind (LeO.refl _) fun v161 => (by cases v161 with | none => exact (h1 _) | some y152 => exact (LeO.bind (LeO.refl _) fun v156 => (h1 _)))) (LeO.refl _)) (LeO.refl _)) (LeO.refl _))
  · rw [Fx45, M.a2d]
    exact (LeO.bind (LeO.refl _) fun v167 => (by cases v167 with | none => exact (h2 _) | some y163 => exact (h2 _)))
  · rw [Fx46, M.a2e]
    exact (LeO.ite (LeO.bind (LeO.refl _) fun y169 => (LeO.bind (LeO.refl _) fun v195 => (by cases v195 with | none => exact (LeO.refl _) | some y186 => exact (LeO.bind (LeO.refl _) fun v189 => (h3 _))))) (h3 _))
  · rw [Fx47, M.a2f]
    exact (LeO.bind (Fy43 n _ _ _ _) fun y196 => (h0 _))
theorem Fy44 (n : Nat) : ∀ x, LeO (Fx44 n x) (M.a1w x) := (Fz44 n).1
theorem Fy45 (n : Nat) : ∀ x, LeO (Fx45 n x) (M.a2d x) := (Fz44 n).2.1
theorem Fy46 (n : Nat) : ∀ x, LeO (Fx46 n x) (M.a2e x) := (Fz44 n).2.2.1
theorem Fy47 (n : Nat) : ∀ x, LeO (Fx47 n x) (M.a2f x) := (Fz44 n).2.2.2
def Fx48 (n : Nat) : Nat × Int × (List T55) × Int × Z → Option (Int × Z) := fun ⟨x0, x1, x2, x8, e0⟩ =>
 Fx44 n (x0, x1, x8, x2, (x2.length : Int), 0, e0)
theorem Fy48 (n : Nat) : ∀ x, LeO (Fx48 n x) (M.a4a x) := fun ⟨x0, x1, x2, x8, e0⟩ => by
 rw [Fx48, M.a4a]
 exact (Fy44 n _)
def Fx49 (n : Nat) : Nat × Int × (List T55) × ByteArray × Int × Bool × Z → Option (Int × Z) := fun ⟨x0, x1, x2, x7, x8, x50, e0⟩ =>
 if x50 = true then
 some (4, e0)
 else
 M.a5h x2 >>= fun y90 =>
 some ((gn e0.zd x0).series) >>= fun v128 =>
 (match v128 with
 | none =>
  none
 | some y94 =>
  some ((mget (gn e0.za y94) x1).getD ([] : List T55)) >>= fun v97 =>
  some (sn (sn e0.za y94 (mset (gn e0.za y94) x1 v97)) y94 (mset (gn (sn e0.za y94 (mset (gn e0.za y94) x1 v97)) y94) x1 y90)) >>= fun v109 =>
  some ((gn e0.zd x0).ids) >>= fun v127 =>
  (match v127 with
  | none =>
   none
  | some y114 =>
   some (sn e0.zb y114 (mset (gn e0.zb y114) x7 ((mget (gn e0.zb y114) x7).getD 0))) >>= fun v117 =>
   Fx48 n (x0, x1, x2, x8, {e0 with za := v109, zb := (sn v117 y114 (mset (gn v117 y114) x7 x1))})))
theorem Fy49 (n : Nat) : ∀ x, LeO (Fx49 n x) (M.a37 x) := fun ⟨x0, x1, x2, x7, x8, x50, e0⟩ => by
 rw [Fx49, M.a37]
 exact (LeO.ite (LeO.refl _) (LeO.bind (LeO.refl _) fun y90 => (LeO.bind (LeO.refl _) fun v128 => (by cases v128 with | none => exact (LeO.refl _) | some y94 => exact (LeO.bind (LeO.refl _) fun v97 => (LeO.bind (LeO.refl _) fun v109 => (LeO.bind (LeO.refl _) fun v127 => (by cases v127 with | none => exact (LeO.refl _) | some y114 => exact (LeO.bind (LeO.refl _) fun v117 => (Fy48 n _))))))))))
def Fx50 (n : Nat) : Nat × Int × (List T55) × ByteArray × Int × Bool × Z → Option (Int × Z) := fun ⟨x0, x1, x2, x7, x8, x45, e0⟩ =>
 if x45 = true then
 some (6, e0)
 else
 some ((gn e0.zd x0).series) >>= fun v74 =>
 (match v74 with
 | none =>
  Fx49 n (x0, x1, x2, x7, x8, false, e0)
 | some y71 =>
  Fx49 n (x0, x1, x2, x7, x8, decide (((gn e0.za y71).length : Int) = 65536), e0))
theorem Fy50 (n : Nat) : ∀ x, LeO (Fx50 n x) (M.a38 x) := fun ⟨x0, x1, x2, x7, x8, x45, e0⟩ => by
 rw [Fx50, M.a38]
 exact (LeO.ite (LeO.refl _) (LeO.bind (LeO.refl _) fun v74 => (by cases v74 with | none => exact (Fy49 n _) | some y71 => exact (Fy49 n _))))
def Fx51 (n : Nat) : Nat × Int × (List T55) × ByteArray × Int × Bool × Bool × Z → Option (Int × Z) := fun ⟨x0, x1, x2, x7, x8, x10, x12, e0⟩ =>
 if x10 = true then
 Fx50 n (x0, x1, x2, x7, x8, true, e0)
 else
 Fx50 n (x0, x1, x2, x7, x8, x12, e0)
theorem Fy51 (n : Nat) : ∀ x, LeO (Fx51 n x) (M.a39 x) := fun ⟨x0, x1, x2, x7, x8, x10, x12, e0⟩ => by
 rw [Fx51, M.a39]
 exact (LeO.ite (Fy50 n _) (Fy50 n _))
def Fx52 (n : Nat) : Nat × Int × (List T55) × ByteArray × Int × Bool × Z → Option (Int × Z) := fun ⟨x0, x1, x2, x7, x8, x10, e0⟩ =>
 some ((gn e0.zd x0).ids) >>= fun v53 =>
 (match v53 with
 | none =>
  Fx51 n (x0, x1, x2, x7, x8, x10, false, e0)
 | some y48 =>
  Fx51 n (x0, x1, x2, x7, x8, x10, (mget (gn e0.zb y48) x7).isSome, e0))
theorem Fy52 (n : Nat) : ∀ x, LeO (Fx52 n x) (M.a3a x) := fun ⟨x0, x1, x2, x7, x8, x10, e0⟩ => by
 rw [Fx52, M.a3a]
 exact (LeO.bind (LeO.refl _) fun v53 => (by cases v53 with | none => exact (Fy51 n _) | some y48 => exact (Fy51 n _)))
def Fx53 (n : Nat) (x0 : Nat) (x1 : Int) (x2 : List T55) (pl : Z) : Option (Int × Z) :=
 M.a7 x0 pl >>= fun y1 =>
 if y1 = true then
 Fx12 n x2 >>= fun y4 =>
 if y4.2 = 0 then
 some ((gn pl.zd x0).series) >>= fun v32 =>
 (match v32 with
 | none =>
  Fx52 n (x0, x1, x2, y4.1, y4.2, false, pl)
 | some y22 =>
  some ((mget (gn pl.za y22) x1).getD ([] : List T55)) >>= fun v25 =>
  Fx52 n (x0, x1, x2, y4.1, y4.2, (mget (gn pl.za y22) x1).isSome, pl))
 else
 some (y4.2, pl)
 else
 some (1, pl)
theorem Fy53 (n : Nat) : ∀ x0 x1 x2 pl, LeO (Fx53 n x0 x1 x2 pl) (M.a16 x0 x1 x2 pl) := by
 intro x0 x1 x2 pl
 rw [Fx53, M.a16]
 exact (LeO.bind (LeO.refl _) fun y1 => (LeO.ite (LeO.bind (Fy12 n _) fun y4 => (LeO.ite (LeO.bind (LeO.refl _) fun v32 => (by cases v32 with | none => exact (Fy52 n _) | some y22 => exact (LeO.bind (LeO.refl _) fun v25 => (Fy52 n _)))) (LeO.refl _))) (LeO.refl _)))
mutual
def Fx54 : Nat → Int × Int × Int × (List Int) → Option (List Int)
 | 0, _ => none
 | n + 1, ⟨x1, x2, x6, e0⟩ =>
  if x6 < x2 then
  Fx55 n (x1, x2, x6, x6, e0)
  else
  some e0
 termination_by structural n => n
def Fx55 : Nat → Int × Int × Int × Int × (List Int) → Option (List Int)
 | 0, _ => none
 | n + 1, ⟨x1, x2, x6, x7, e0⟩ =>
  if x7 > x1 then
  if 0 ≤ x7 then
  if x7 < (e0.length : Int) then
  if 0 ≤ wr .i64 (x7 - 1) then
  if wr .i64 (x7 - 1) < (e0.length : Int) then
  M.a0 (gi e0 x7) (gi e0 (wr .i64 (x7 - 1))) >>= fun y18 =>
  Fx56 n (x1, x2, x6, x7, y18, e0)
  else
  none
  else
  none
  else
  none
  else
  none
  else
  Fx56 n (x1, x2, x6, x7, false, e0)
 termination_by structural n => n
def Fx56 : Nat → Int × Int × Int × Int × Bool × (List Int) → Option (List Int)
 | 0, _ => none
 | n + 1, ⟨x1, x2, x6, x7, x30, e0⟩ =>
  if x30 = true then
  if 0 ≤ wr .i64 (x7 - 1) then
  if wr .i64 (x7 - 1) < (e0.length : Int) then
  if 0 ≤ x7 then
  if x7 < (e0.length : Int) then
  some (gi (si e0 x7 (gi e0 (wr .i64 (x7 - 1)))) (wr .i64 (x7 - 1))) >>= fun v46 =>
  some (si (si e0 x7 (gi e0 (wr .i64 (x7 - 1)))) (wr .i64 (x7 - 1)) (gi e0 x7)) >>= fun v50 =>
  Fx55 n (x1, x2, x6, wr .i64 (x7 - 1), v50)
  else
  none
  else
  none
  else
  none
  else
  none
  else
  Fx54 n (x1, x2, wr .i64 (x6 + 1), e0)
 termination_by structural n => n
end
theorem Fz54 (n : Nat) : (∀ x, LeO (Fx54 n x) (M.af x)) ∧ (∀ x, LeO (Fx55 n x) (M.aq x)) ∧ (∀ x, LeO (Fx56 n x) (M.ar x)) := by
 induction n with
 | zero => exact ⟨fun _ => LeO.zero _, fun _ => LeO.zero _, fun _ => LeO.zero _⟩
 | succ n ih =>
  obtain ⟨h0, h1, h2⟩ := ih
  refine ⟨fun ⟨x1, x2, x6, e0⟩ => ?_, fun ⟨x1, x2, x6, x7, e0⟩ => ?_, fun ⟨x1, x2, x6, x7, x30, e0⟩ => ?_⟩
  · rw [Fx54, M.af]
    exact (LeO.ite (h1 _) (LeO.refl _))
  · rw [Fx55, M.aq]
    exact (LeO.ite (LeO.ite (LeO.ite (LeO.ite (LeO.ite (LeO.bind (LeO.refl _) fun y18 => (h2 _)) (LeO.refl _)) (LeO.refl _)) (LeO.refl _)) (LeO.refl _)) (h2 _))
  · rw [Fx56, M.ar]
    exact (LeO.ite (LeO.ite (LeO.ite (LeO.ite (LeO.ite (LeO.bind (LeO.refl _) fun v46 => (LeO.bind (LeO.refl _) fun v50 => (h1 _))) (LeO.refl _)) (LeO.refl _)) (LeO.refl _)) (LeO.refl _)) (h0 _))
theorem Fy54 (n : Nat) : ∀ x, LeO (Fx54 n x) (M.af x) := (Fz54 n).1
theorem Fy55 (n : Nat) : ∀ x, LeO (Fx55 n x) (M.aq x) := (Fz54 n).2.1
theorem Fy56 (n : Nat) : ∀ x, LeO (Fx56 n x) (M.ar x) := (Fz54 n).2.2
def Fx57 (n : Nat) (x0 : List Int) (x1 : Int) (x2 : Int) : Option (List Int) :=
 Fx54 n (x1, x2, wr .i64 (x1 + 1), x0)
theorem Fy57 (n : Nat) : ∀ x0 x1 x2, LeO (Fx57 n x0 x1 x2) (M.a2g x0 x1 x2) := by
 intro x0 x1 x2
 rw [Fx57, M.a2g]
 exact (Fy54 n _)
mutual
def Fx58 : Nat → Int × Int × Int × (List Int) → Option (List Int)
 | 0, _ => none
 | n + 1, ⟨x2, x3, x8, e0⟩ =>
  if wr .i64 ((wr .i64 (2 * x8)) + 1) ≥ x2 then
  some e0
  else
  if wr .i64 ((wr .i64 ((wr .i64 (2 * x8)) + 1)) + 1) < x2 then
  if 0 ≤ wr .i64 (x3 + (wr .i64 ((wr .i64 (2 * x8)) + 1))) then
  if wr .i64 (x3 + (wr .i64 ((wr .i64 (2 * x8)) + 1))) < (e0.length : Int) then
  some (gi e0 (wr .i64 (x3 + (wr .i64 ((wr .i64 (2 * x8)) + 1))))) >>= fun v9 =>
  if 0 ≤ wr .i64 ((wr .i64 (x3 + (wr .i64 ((wr .i64 (2 * x8)) + 1)))) + 1) then
  if wr .i64 ((wr .i64 (x3 + (wr .i64 ((wr .i64 (2 * x8)) + 1)))) + 1) < (e0.length : Int) then
  some (gi e0 (wr .i64 ((wr .i64 (x3 + (wr .i64 ((wr .i64 (2 * x8)) + 1)))) + 1))) >>= fun v18 =>
  M.a0 v9 v18 >>= fun y22 =>
  Fx59 n (x2, x3, x8, wr .i64 ((wr .i64 (2 * x8)) + 1), y22, e0)
  else
  none
  else
  none
  else
  none
  else
  none
  else
  Fx59 n (x2, x3, x8, wr .i64 ((wr .i64 (2 * x8)) + 1), false, e0)
 termination_by structural n => n
def Fx59 : Nat → Int × Int × Int × Int × Bool × (List Int) → Option (List Int)
 | 0, _ => none
 | n + 1, ⟨x2, x3, x8, x9, x36, e0⟩ =>
  if x36 = true then
  Fx60 n (x2, x3, x8, wr .i64 (x9 + 1), e0)
  else
  Fx60 n (x2, x3, x8, x9, e0)
 termination_by structural n => n
def Fx60 : Nat → Int × Int × Int × Int × (List Int) → Option (List Int)
 | 0, _ => none
 | n + 1, ⟨x2, x3, x8, x9, e0⟩ =>
  if 0 ≤ wr .i64 (x3 + x8) then
  if wr .i64 (x3 + x8) < (e0.length : Int) then
  if 0 ≤ wr .i64 (x3 + x9) then
  if wr .i64 (x3 + x9) < (e0.length : Int) then
  M.a0 (gi e0 (wr .i64 (x3 + x8))) (gi e0 (wr .i64 (x3 + x9))) >>= fun y39 =>
  if y39 = true then
  some (si e0 (wr .i64 (x3 + x8)) (gi e0 (wr .i64 (x3 + x9)))) >>= fun v57 =>
  some (si v57 (wr .i64 (x3 + x9)) (gi e0 (wr .i64 (x3 + x8)))) >>= fun v67 =>
  Fx58 n (x2, x3, x9, v67)
  else
  some e0
  else
  none
  else
  none
  else
  none
  else
  none
 termination_by structural n => n
end
theorem Fz58 (n : Nat) : (∀ x, LeO (Fx58 n x) (M.ag x)) ∧ (∀ x, LeO (Fx59 n x) (M.a17 x)) ∧ (∀ x, LeO (Fx60 n x) (M.a18 x)) := by
 induction n with
 | zero => exact ⟨fun _ => LeO.zero _, fun _ => LeO.zero _, fun _ => LeO.zero _⟩
 | succ n ih =>
  obtain ⟨h0, h1, h2⟩ := ih
  refine ⟨fun ⟨x2, x3, x8, e0⟩ => ?_, fun ⟨x2, x3, x8, x9, x36, e0⟩ => ?_, fun ⟨x2, x3, x8, x9, e0⟩ => ?_⟩
  · rw [Fx58, M.ag]
    exact (LeO.ite (LeO.refl _) (LeO.ite (LeO.ite (LeO.ite (LeO.bind (LeO.refl _) fun v9 => (LeO.ite (LeO.ite (LeO.bind (LeO.refl _) fun v18 => (LeO.bind (LeO.refl _) fun y22 => (h1 _))) (LeO.refl _)) (LeO.refl _))) (LeO.refl _)) (LeO.refl _)) (h1 _)))
  · rw [Fx59, M.a17]
    exact (LeO.ite (h2 _) (h2 _))
  · rw [Fx60, M.a18]
    exact (LeO.ite (LeO.ite (LeO.ite (LeO.ite (LeO.bind (LeO.refl _) fun y39 => (LeO.ite (LeO.bind (LeO.refl _) fun v57 => (LeO.bind (LeO.refl _) fun v67 => (h0 _))) (LeO.refl _))) (LeO.refl _)) (LeO.refl _)) (LeO.refl _)) (LeO.refl _))
theorem Fy58 (n : Nat) : ∀ x, LeO (Fx58 n x) (M.ag x) := (Fz58 n).1
theorem Fy59 (n : Nat) : ∀ x, LeO (Fx59 n x) (M.a17 x) := (Fz58 n).2.1
theorem Fy60 (n : Nat) : ∀ x, LeO (Fx60 n x) (M.a18 x) := (Fz58 n).2.2
def Fx61 (n : Nat) (x0 : List Int) (x1 : Int) (x2 : Int) (x3 : Int) : Option (List Int) :=
 Fx58 n (x2, x3, x1, x0)
theorem Fy61 (n : Nat) : ∀ x0 x1 x2 x3, LeO (Fx61 n x0 x1 x2 x3) (M.a2h x0 x1 x2 x3) := by
 intro x0 x1 x2 x3
 rw [Fx61, M.a2h]
 exact (Fy58 n _)
def Fx62 : Nat → Int × Int × Int × (List Int) → Option (List Int)
 | 0, _ => none
 | n + 1, ⟨x6, x7, x10, e0⟩ =>
  if x10 ≥ 0 then
  if 0 ≤ wr .i64 (x6 + x10) then
  if wr .i64 (x6 + x10) < (e0.length : Int) then
  if 0 ≤ x6 then
  if x6 < (e0.length : Int) then
  some (gi (si e0 x6 (gi e0 (wr .i64 (x6 + x10)))) (wr .i64 (x6 + x10))) >>= fun v31 =>
  some (si (si e0 x6 (gi e0 (wr .i64 (x6 + x10)))) (wr .i64 (x6 + x10)) (gi e0 x6)) >>= fun v35 =>
  Fx61 n v35 x7 x10 x6 >>= fun y40 =>
  Fx62 n (x6, x7, wr .i64 (x10 - 1), y40)
  else
  none
  else
  none
  else
  none
  else
  none
  else
  some e0
 termination_by structural n => n
theorem Fz62 (n : Nat) : (∀ x, LeO (Fx62 n x) (M.as x)) := by
 induction n with
 | zero => exact fun _ => LeO.zero _
 | succ n ih =>
  have h0 := ih
  refine fun ⟨x6, x7, x10, e0⟩ => ?_
  · rw [Fx62, M.as]
    exact (LeO.ite (LeO.ite (LeO.ite (LeO.ite (LeO.ite (LeO.bind (LeO.refl _) fun v31 => (LeO.bind (LeO.refl _) fun v35 => (LeO.bind (Fy61 n _ _ _ _) fun y40 => (h0 _)))) (LeO.refl _)) (LeO.refl _)) (LeO.refl _)) (LeO.refl _)) (LeO.refl _))
theorem Fy62 (n : Nat) : ∀ x, LeO (Fx62 n x) (M.as x) := (Fz62 n)
def Fx63 : Nat → Int × Int × Int × Int × (List Int) → Option (List Int)
 | 0, _ => none
 | n + 1, ⟨x6, x7, x8, x9, e0⟩ =>
  if x9 ≥ 0 then
  Fx61 n e0 x9 x8 x6 >>= fun y3 =>
  Fx63 n (x6, x7, x8, wr .i64 (x9 - 1), y3)
  else
  Fx62 n (x6, x7, wr .i64 (x8 - 1), e0)
 termination_by structural n => n
theorem Fz63 (n : Nat) : (∀ x, LeO (Fx63 n x) (M.at x)) := by
 induction n with
 | zero => exact fun _ => LeO.zero _
 | succ n ih =>
  have h0 := ih
  refine fun ⟨x6, x7, x8, x9, e0⟩ => ?_
  · rw [Fx63, M.at]
    exact (LeO.ite (LeO.bind (Fy61 n _ _ _ _) fun y3 => (h0 _)) (Fy62 n _))
theorem Fy63 (n : Nat) : ∀ x, LeO (Fx63 n x) (M.at x) := (Fz63 n)
def Fx64 (n : Nat) (x0 : List Int) (x1 : Int) (x2 : Int) : Option (List Int) :=
 Fx63 n (x1, 0, wr .i64 (x2 - x1), iquo .i64 (wr .i64 ((wr .i64 (x2 - x1)) - 1)) 2, x0)
theorem Fy64 (n : Nat) : ∀ x0 x1 x2, LeO (Fx64 n x0 x1 x2) (M.a2i x0 x1 x2) := by
 intro x0 x1 x2
 rw [Fx64, M.a2i]
 exact (Fy63 n _)
def Fx65 : Nat → Int × Int × (List Int) → Option (List Int)
 | 0, _ => none
 | n + 1, ⟨x6, x7, e0⟩ =>
  if x6 < x7 then
  if 0 ≤ x7 then
  if x7 < (e0.length : Int) then
  if 0 ≤ x6 then
  if x6 < (e0.length : Int) then
  Fx65 n (wr .i64 (x6 + 1), wr .i64 (x7 - 1), (si (si e0 x6 (gi e0 x7)) x7 (gi e0 x6)))
  else
  none
  else
  none
  else
  none
  else
  none
  else
  some e0
 termination_by structural n => n
theorem Fz65 (n : Nat) : (∀ x, LeO (Fx65 n x) (M.a19 x)) := by
 induction n with
 | zero => exact fun _ => LeO.zero _
 | succ n ih =>
  have h0 := ih
  refine fun ⟨x6, x7, e0⟩ => ?_
  · rw [Fx65, M.a19]
    exact (LeO.ite (LeO.ite (LeO.ite (LeO.ite (LeO.ite (h0 _) (LeO.refl _)) (LeO.refl _)) (LeO.refl _)) (LeO.refl _)) (LeO.refl _))
theorem Fy65 (n : Nat) : ∀ x, LeO (Fx65 n x) (M.a19 x) := (Fz65 n)
def Fx66 (n : Nat) (x0 : List Int) (x1 : Int) (x2 : Int) : Option (List Int) :=
 Fx65 n (x1, wr .i64 (x2 - 1), x0)
theorem Fy66 (n : Nat) : ∀ x0 x1 x2, LeO (Fx66 n x0 x1 x2) (M.a2j x0 x1 x2) := by
 intro x0 x1 x2
 rw [Fx66, M.a2j]
 exact (Fy65 n _)
mutual
def Fx67 : Nat → Int × Int × Int × Int × (List Int) → Option (Bool × (List Int))
 | 0, _ => none
 | n + 1, ⟨x1, x2, x7, x8, e0⟩ =>
  if x8 < 5 then
  Fx68 n (x1, x2, x7, x8, e0)
  else
  some (false, e0)
 termination_by structural n => n
def Fx68 : Nat → Int × Int × Int × Int × (List Int) → Option (Bool × (List Int))
 | 0, _ => none
 | n + 1, ⟨x1, x2, x7, x8, e0⟩ =>
  if x7 < x2 then
  if 0 ≤ x7 then
  if x7 < (e0.length : Int) then
  if 0 ≤ wr .i64 (x7 - 1) then
  if wr .i64 (x7 - 1) < (e0.length : Int) then
  M.a0 (gi e0 x7) (gi e0 (wr .i64 (x7 - 1))) >>= fun y18 =>
  Fx69 n (x1, x2, x7, x8, !y18, e0)
  else
  none
  else
  none
  else
  none
  else
  none
  else
  Fx69 n (x1, x2, x7, x8, false, e0)
 termination_by structural n => n
def Fx69 : Nat → Int × Int × Int × Int × Bool × (List Int) → Option (Bool × (List Int))
 | 0, _ => none
 | n + 1, ⟨x1, x2, x7, x8, x32, e0⟩ =>
  if x32 = true then
  Fx68 n (x1, x2, wr .i64 (x7 + 1), x8, e0)
  else
  if x7 = x2 then
  some (true, e0)
  else
  if wr .i64 (x2 - x1) < 50 then
  some (false, e0)
  else
  if 0 ≤ wr .i64 (x7 - 1) then
  if wr .i64 (x7 - 1) < (e0.length : Int) then
  if 0 ≤ x7 then
  if x7 < (e0.length : Int) then
  some (gi (si e0 x7 (gi e0 (wr .i64 (x7 - 1)))) (wr .i64 (x7 - 1))) >>= fun v48 =>
  some (si (si e0 x7 (gi e0 (wr .i64 (x7 - 1)))) (wr .i64 (x7 - 1)) (gi e0 x7)) >>= fun v52 =>
  if wr .i64 (x7 - x1) ≥ 2 then
  Fx70 n (x1, x2, x7, x8, wr .i64 (x7 - 1), v52)
  else
  Fx71 n (x1, x2, x7, x8, v52)
  else
  none
  else
  none
  else
  none
  else
  none
 termination_by structural n => n
def Fx70 : Nat → Int × Int × Int × Int × Int × (List Int) → Option (Bool × (List Int))
 | 0, _ => none
 | n + 1, ⟨x1, x2, x7, x8, x9, e0⟩ =>
  if x9 ≥ 1 then
  if 0 ≤ x9 then
  if x9 < (e0.length : Int) then
  if 0 ≤ wr .i64 (x9 - 1) then
  if wr .i64 (x9 - 1) < (e0.length : Int) then
  M.a0 (gi e0 x9) (gi e0 (wr .i64 (x9 - 1))) >>= fun y73 =>
  if y73 = true then
  some (gi (si e0 x9 (gi e0 (wr .i64 (x9 - 1)))) (wr .i64 (x9 - 1))) >>= fun v97 =>
  some (si (si e0 x9 (gi e0 (wr .i64 (x9 - 1)))) (wr .i64 (x9 - 1)) (gi e0 x9)) >>= fun v101 =>
  Fx70 n (x1, x2, x7, x8, wr .i64 (x9 - 1), v101)
  else
  Fx71 n (x1, x2, x7, x8, e0)
  else
  none
  else
  none
  else
  none
  else
  none
  else
  Fx71 n (x1, x2, x7, x8, e0)
 termination_by structural n => n
def Fx71 : Nat → Int × Int × Int × Int × (List Int) → Option (Bool × (List Int))
 | 0, _ => none
 | n + 1, ⟨x1, x2, x7, x8, e0⟩ =>
  if wr .i64 (x2 - x7) ≥ 2 then
  Fx72 n (x1, x2, x7, x8, wr .i64 (x7 + 1), e0)
  else
  Fx73 n (x1, x2, x7, x8, e0)
 termination_by structural n => n
def Fx72 : Nat → Int × Int × Int × Int × Int × (List Int) → Option (Bool × (List Int))
 | 0, _ => none
 | n + 1, ⟨x1, x2, x7, x8, x10, e0⟩ =>
  if x10 < x2 then
  if 0 ≤ x10 then
  if x10 < (e0.length : Int) then
  if 0 ≤ wr .i64 (x10 - 1) then
  if wr .i64 (x10 - 1) < (e0.length : Int) then
  M.a0 (gi e0 x10) (gi e0 (wr .i64 (x10 - 1))) >>= fun y122 =>
  if y122 = true then
  some (gi (si e0 x10 (gi e0 (wr .i64 (x10 - 1)))) (wr .i64 (x10 - 1))) >>= fun v146 =>
  some (si (si e0 x10 (gi e0 (wr .i64 (x10 - 1)))) (wr .i64 (x10 - 1)) (gi e0 x10)) >>= fun v150 =>
  Fx72 n (x1, x2, x7, x8, wr .i64 (x10 + 1), v150)
  else
  Fx73 n (x1, x2, x7, x8, e0)
  else
  none
  else
  none
  else
  none
  else
  none
  else
  Fx73 n (x1, x2, x7, x8, e0)
 termination_by structural n => n
def Fx73 : Nat → Int × Int × Int × Int × (List Int) → Option (Bool × (List Int))
 | 0, _ => none
 | n + 1, ⟨x1, x2, x7, x8, e0⟩ =>
  Fx67 n (x1, x2, x7, wr .i64 (x8 + 1), e0)
 termination_by structural n => n
end
theorem Fz67 (n : Nat) : (∀ x, LeO (Fx67 n x) (M.ah x)) ∧ (∀ x, LeO (Fx68 n x) (M.a1a x)) ∧ (∀ x, LeO (Fx69 n x) (M.au x)) ∧ (∀ x, LeO (Fx70 n x) (M.av x)) ∧ (∀ x, LeO (Fx71 n x) (M.ai x)) ∧ (∀ x, LeO (Fx72 n x) (M.a1b x)) ∧ (∀ x, LeO (Fx73 n x) (M.aj x)) := by
 induction n with
 | zero => exact ⟨fun _ => LeO.zero _, fun _ => LeO.zero _, fun _ => LeO.zero _, fun _ => LeO.zero _, fun _ => LeO.zero _, fun _ => LeO.zero _, fun _ => LeO.zero _⟩
 | succ n ih =>
  obtain ⟨h0, h1, h2, h3, h4, h5, h6⟩ := ih
  refine ⟨fun ⟨x1, x2, x7, x8, e0⟩ => ?_, fun ⟨x1, x2, x7, x8, e0⟩ => ?_, fun ⟨x1, x2, x7, x8, x32, e0⟩ => ?_, fun ⟨x1, x2, x7, x8, x9, e0⟩ => ?_, fun ⟨x1, x2, x7, x8, e0⟩ => ?_, fun ⟨x1, x2, x7, x8, x10, e0⟩ => ?_, fun ⟨x1, x2, x7, x8, e0⟩ => ?_⟩
  · rw [Fx67, M.ah]
    exact (LeO.ite (h1 _) (LeO.refl _))
  · rw [Fx68, M.a1a]
    exact (LeO.ite (LeO.ite (LeO.ite (LeO.ite (LeO.ite (LeO.bind (LeO.refl _) fun y18 => (h2 _)) (LeO.refl _)) (LeO.refl _)) (LeO.refl _)) (LeO.refl _)) (h2 _))
  · rw [Fx69, M.au]
    exact (LeO.ite (h1 _) (LeO.ite (LeO.refl _) (LeO.ite (LeO.refl _) (LeO.ite (LeO.ite (LeO.ite (LeO.ite (LeO.bind (LeO.refl _) fun v48 => (LeO.bind (LeO.refl _) fun v52 => (LeO.ite (h3 _) (h4 _)))) (LeO.refl _)) (LeO.refl _)) (LeO.refl _)) (LeO.refl _)))))
  · rw [Fx70, M.av]
    exact (LeO.ite (LeO.ite (LeO.ite (LeO.ite (LeO.ite (LeO.bind (LeO.refl _) fun y73 => (LeO.ite (LeO.bind (LeO.refl _) fun v97 => (LeO.bind (LeO.refl _) fun v101 => (h3 _))) (h4 _))) (LeO.refl _)) (LeO.refl _)) (LeO.refl _)) (LeO.refl _)) (h4 _))
  · rw [Fx71, M.ai]
    exact (LeO.ite (h5 _) (h6 _))
  · rw [Fx72, M.a1b]
    exact (LeO.ite (LeO.ite (LeO.ite (LeO.ite (LeO.ite (LeO.bind (LeO.refl _) fun y122 => (LeO.ite (LeO.bind (LeO.refl _) fun v146 => (LeO.bind (LeO.refl _) fun v150 => (h5 _))) (h6 _))) (LeO.refl _)) (LeO.refl _)) (LeO.refl _)) (LeO.refl _)) (h6 _))
  · rw [Fx73, M.aj]
    exact (h0 _)
theorem Fy67 (n : Nat) : ∀ x, LeO (Fx67 n x) (M.ah x) := (Fz67 n).1
theorem Fy68 (n : Nat) : ∀ x, LeO (Fx68 n x) (M.a1a x) := (Fz67 n).2.1
theorem Fy69 (n : Nat) : ∀ x, LeO (Fx69 n x) (M.au x) := (Fz67 n).2.2.1
theorem Fy70 (n : Nat) : ∀ x, LeO (Fx70 n x) (M.av x) := (Fz67 n).2.2.2.1
theorem Fy71 (n : Nat) : ∀ x, LeO (Fx71 n x) (M.ai x) := (Fz67 n).2.2.2.2.1
theorem Fy72 (n : Nat) : ∀ x, LeO (Fx72 n x) (M.a1b x) := (Fz67 n).2.2.2.2.2.1
theorem Fy73 (n : Nat) : ∀ x, LeO (Fx73 n x) (M.aj x) := (Fz67 n).2.2.2.2.2.2
def Fx74 (n : Nat) (x0 : List Int) (x1 : Int) (x2 : Int) : Option (Bool × (List Int)) :=
 Fx67 n (x1, x2, wr .i64 (x1 + 1), 0, x0)
theorem Fy74 (n : Nat) : ∀ x0 x1 x2, LeO (Fx74 n x0 x1 x2) (M.a2k x0 x1 x2) := by
 intro x0 x1 x2
 rw [Fx74, M.a2k]
 exact (Fy67 n _)
mutual
def Fx75 : Nat → Int × Int × Int × (List Int) → Option (Int × (List Int))
 | 0, _ => none
 | n + 1, ⟨x1, x9, x10, e0⟩ =>
  Fx76 n (x1, x9, x10, e0)
 termination_by structural n => n
def Fx76 : Nat → Int × Int × Int × (List Int) → Option (Int × (List Int))
 | 0, _ => none
 | n + 1, ⟨x1, x9, x10, e0⟩ =>
  if x9 ≤ x10 then
  if 0 ≤ x1 then
  if x1 < (e0.length : Int) then
  if 0 ≤ x9 then
  if x9 < (e0.length : Int) then
  M.a0 (gi e0 x1) (gi e0 x9) >>= fun y47 =>
  Fx77 n (x1, x9, x10, !y47, e0)
  else
  none
  else
  none
  else
  none
  else
  none
  else
  Fx77 n (x1, x9, x10, false, e0)
 termination_by structural n => n
def Fx77 : Nat → Int × Int × Int × Bool × (List Int) → Option (Int × (List Int))
 | 0, _ => none
 | n + 1, ⟨x1, x9, x10, x43, e0⟩ =>
  if x43 = true then
  Fx76 n (x1, wr .i64 (x9 + 1), x10, e0)
  else
  Fx78 n (x1, x9, x10, e0)
 termination_by structural n => n
def Fx78 : Nat → Int × Int × Int × (List Int) → Option (Int × (List Int))
 | 0, _ => none
 | n + 1, ⟨x1, x9, x10, e0⟩ =>
  if x9 ≤ x10 then
  if 0 ≤ x1 then
  if x1 < (e0.length : Int) then
  if 0 ≤ x10 then
  if x10 < (e0.length : Int) then
  M.a0 (gi e0 x1) (gi e0 x10) >>= fun y65 =>
  Fx79 n (x1, x9, x10, y65, e0)
  else
  none
  else
  none
  else
  none
  else
  none
  else
  Fx79 n (x1, x9, x10, false, e0)
 termination_by structural n => n
def Fx79 : Nat → Int × Int × Int × Bool × (List Int) → Option (Int × (List Int))
 | 0, _ => none
 | n + 1, ⟨x1, x9, x10, x59, e0⟩ =>
  if x59 = true then
  Fx78 n (x1, x9, wr .i64 (x10 - 1), e0)
  else
  if x9 > x10 then
  some (x9, e0)
  else
  if 0 ≤ x10 then
  if x10 < (e0.length : Int) then
  if 0 ≤ x9 then
  if x9 < (e0.length : Int) then
  Fx75 n (x1, wr .i64 (x9 + 1), wr .i64 (x10 - 1), (si (si e0 x9 (gi e0 x10)) x10 (gi e0 x9)))
  else
  none
  else
  none
  else
  none
  else
  none
 termination_by structural n => n
end
theorem Fz75 (n : Nat) : (∀ x, LeO (Fx75 n x) (M.aw x)) ∧ (∀ x, LeO (Fx76 n x) (M.a1c x)) ∧ (∀ x, LeO (Fx77 n x) (M.a1d x)) ∧ (∀ x, LeO (Fx78 n x) (M.ak x)) ∧ (∀ x, LeO (Fx79 n x) (M.ax x)) := by
 induction n with
 | zero => exact ⟨fun _ => LeO.zero _, fun _ => LeO.zero _, fun _ => LeO.zero _, fun _ => LeO.zero _, fun _ => LeO.zero _⟩
 | succ n ih =>
  obtain ⟨h0, h1, h2, h3, h4⟩ := ih
  refine ⟨fun ⟨x1, x9, x10, e0⟩ => ?_, fun ⟨x1, x9, x10, e0⟩ => ?_, fun ⟨x1, x9, x10, x43, e0⟩ => ?_, fun ⟨x1, x9, x10, e0⟩ => ?_, fun ⟨x1, x9, x10, x59, e0⟩ => ?_⟩
  · rw [Fx75, M.aw]
    exact (h1 _)
  · rw [Fx76, M.a1c]
    exact (LeO.ite (LeO.ite (LeO.ite (LeO.ite (LeO.ite (LeO.bind (LeO.refl _) fun y47 => (h2 _)) (LeO.refl _)) (LeO.refl _)) (LeO.refl _)) (LeO.refl _)) (h2 _))
  · rw [Fx77, M.a1d]
    exact (LeO.ite (h1 _) (h3 _))
  · rw [Fx78, M.ak]
    exact (LeO.ite (LeO.ite (LeO.ite (LeO.ite (LeO.ite (LeO.bind (LeO.refl _) fun y65 => (h4 _)) (LeO.refl _)) (LeO.refl _)) (LeO.refl _)) (LeO.refl _)) (h4 _))
  · rw [Fx79, M.ax]
    exact (LeO.ite (h3 _) (LeO.ite (LeO.refl _) (LeO.ite (LeO.ite (LeO.ite (LeO.ite (h0 _) (LeO.refl _)) (LeO.refl _)) (LeO.refl _)) (LeO.refl _))))
theorem Fy75 (n : Nat) : ∀ x, LeO (Fx75 n x) (M.aw x) := (Fz75 n).1
theorem Fy76 (n : Nat) : ∀ x, LeO (Fx76 n x) (M.a1c x) := (Fz75 n).2.1
theorem Fy77 (n : Nat) : ∀ x, LeO (Fx77 n x) (M.a1d x) := (Fz75 n).2.2.1
theorem Fy78 (n : Nat) : ∀ x, LeO (Fx78 n x) (M.ak x) := (Fz75 n).2.2.2.1
theorem Fy79 (n : Nat) : ∀ x, LeO (Fx79 n x) (M.ax x) := (Fz75 n).2.2.2.2
def Fx80 (n : Nat) (x0 : List Int) (x1 : Int) (x2 : Int) (x3 : Int) : Option (Int × (List Int)) :=
 if 0 ≤ x3 then
 if x3 < (x0.length : Int) then
 if 0 ≤ x1 then
 if x1 < (x0.length : Int) then
 Fx75 n (x1, wr .i64 (x1 + 1), wr .i64 (x2 - 1), (si (si x0 x1 (gi x0 x3)) x3 (gi x0 x1)))
 else
 none
 else
 none
 else
 none
 else
 none
theorem Fy80 (n : Nat) : ∀ x0 x1 x2 x3, LeO (Fx80 n x0 x1 x2 x3) (M.a2l x0 x1 x2 x3) := by
 intro x0 x1 x2 x3
 rw [Fx80, M.a2l]
 exact (LeO.ite (LeO.ite (LeO.ite (LeO.ite (Fy75 n _) (LeO.refl _)) (LeO.refl _)) (LeO.refl _)) (LeO.refl _))
mutual
def Fx81 : Nat → Int × Int × Int × (List Int) → Option (Int × Bool × (List Int))
 | 0, _ => none
 | n + 1, ⟨x1, x10, x11, e0⟩ =>
  Fx82 n (x1, x10, x11, e0)
 termination_by structural n => n
def Fx82 : Nat → Int × Int × Int × (List Int) → Option (Int × Bool × (List Int))
 | 0, _ => none
 | n + 1, ⟨x1, x10, x11, e0⟩ =>
  if x10 ≤ x11 then
  if 0 ≤ x10 then
  if x10 < (e0.length : Int) then
  if 0 ≤ x1 then
  if x1 < (e0.length : Int) then
  M.a0 (gi e0 x10) (gi e0 x1) >>= fun y144 =>
  Fx83 n (x1, x10, x11, y144, e0)
  else
  none
  else
  none
  else
  none
  else
  none
  else
  Fx83 n (x1, x10, x11, false, e0)
 termination_by structural n => n
def Fx83 : Nat → Int × Int × Int × Bool × (List Int) → Option (Int × Bool × (List Int))
 | 0, _ => none
 | n + 1, ⟨x1, x10, x11, x112, e0⟩ =>
  if x112 = true then
  Fx82 n (x1, wr .i64 (x10 + 1), x11, e0)
  else
  Fx84 n (x1, x10, x11, e0)
 termination_by structural n => n
def Fx84 : Nat → Int × Int × Int × (List Int) → Option (Int × Bool × (List Int))
 | 0, _ => none
 | n + 1, ⟨x1, x10, x11, e0⟩ =>
  if x10 ≤ x11 then
  if 0 ≤ x11 then
  if x11 < (e0.length : Int) then
  if 0 ≤ x1 then
  if x1 < (e0.length : Int) then
  M.a0 (gi e0 x11) (gi e0 x1) >>= fun y162 =>
  Fx85 n (x1, x10, x11, !y162, e0)
  else
  none
  else
  none
  else
  none
  else
  none
  else
  Fx85 n (x1, x10, x11, false, e0)
 termination_by structural n => n
def Fx85 : Nat → Int × Int × Int × Bool × (List Int) → Option (Int × Bool × (List Int))
 | 0, _ => none
 | n + 1, ⟨x1, x10, x11, x129, e0⟩ =>
  if x129 = true then
  Fx84 n (x1, x10, wr .i64 (x11 - 1), e0)
  else
  if x10 > x11 then
  if 0 ≤ x1 then
  if x1 < (e0.length : Int) then
  if 0 ≤ x11 then
  if x11 < (e0.length : Int) then
  some (x11, false, (si (si e0 x11 (gi e0 x1)) x1 (gi e0 x11)))
  else
  none
  else
  none
  else
  none
  else
  none
  else
  if 0 ≤ x11 then
  if x11 < (e0.length : Int) then
  if 0 ≤ x10 then
  if x10 < (e0.length : Int) then
  Fx81 n (x1, wr .i64 (x10 + 1), wr .i64 (x11 - 1), (si (si e0 x10 (gi e0 x11)) x11 (gi e0 x10)))
  else
  none
  else
  none
  else
  none
  else
  none
 termination_by structural n => n
end
theorem Fz81 (n : Nat) : (∀ x, LeO (Fx81 n x) (M.ay x)) ∧ (∀ x, LeO (Fx82 n x) (M.a1e x)) ∧ (∀ x, LeO (Fx83 n x) (M.a1f x)) ∧ (∀ x, LeO (Fx84 n x) (M.al x)) ∧ (∀ x, LeO (Fx85 n x) (M.az x)) := by
 induction n with
 | zero => exact ⟨fun _ => LeO.zero _, fun _ => LeO.zero _, fun _ => LeO.zero _, fun _ => LeO.zero _, fun _ => LeO.zero _⟩
 | succ n ih =>
  obtain ⟨h0, h1, h2, h3, h4⟩ := ih
  refine ⟨fun ⟨x1, x10, x11, e0⟩ => ?_, fun ⟨x1, x10, x11, e0⟩ => ?_, fun ⟨x1, x10, x11, x112, e0⟩ => ?_, fun ⟨x1, x10, x11, e0⟩ => ?_, fun ⟨x1, x10, x11, x129, e0⟩ => ?_⟩
  · rw [Fx81, M.ay]
    exact (h1 _)
  · rw [Fx82, M.a1e]
    exact (LeO.ite (LeO.ite (LeO.ite (LeO.ite (LeO.ite (LeO.bind (LeO.refl _) fun y144 => (h2 _)) (LeO.refl _)) (LeO.refl _)) (LeO.refl _)) (LeO.refl _)) (h2 _))
  · rw [Fx83, M.a1f]
    exact (LeO.ite (h1 _) (h3 _))
  · rw [Fx84, M.al]
    exact (LeO.ite (LeO.ite (LeO.ite (LeO.ite (LeO.ite (LeO.bind (LeO.refl _) fun y162 => (h4 _)) (LeO.refl _)) (LeO.refl _)) (LeO.refl _)) (LeO.refl _)) (h4 _))
  · rw [Fx85, M.az]
    exact (LeO.ite (h3 _) (LeO.ite (LeO.ite (LeO.ite (LeO.ite (LeO.ite (LeO.refl _) (LeO.refl _)) (LeO.refl _)) (LeO.refl _)) (LeO.refl _)) (LeO.ite (LeO.ite (LeO.ite (LeO.ite (h0 _) (LeO.refl _)) (LeO.refl _)) (LeO.refl _)) (LeO.refl _))))
theorem Fy81 (n : Nat) : ∀ x, LeO (Fx81 n x) (M.ay x) := (Fz81 n).1
theorem Fy82 (n : Nat) : ∀ x, LeO (Fx82 n x) (M.a1e x) := (Fz81 n).2.1
theorem Fy83 (n : Nat) : ∀ x, LeO (Fx83 n x) (M.a1f x) := (Fz81 n).2.2.1
theorem Fy84 (n : Nat) : ∀ x, LeO (Fx84 n x) (M.al x) := (Fz81 n).2.2.2.1
theorem Fy85 (n : Nat) : ∀ x, LeO (Fx85 n x) (M.az x) := (Fz81 n).2.2.2.2
mutual
def Fx86 : Nat → Int × Int × Int × (List Int) → Option (Int × Bool × (List Int))
 | 0, _ => none
 | n + 1, ⟨x1, x10, x11, e0⟩ =>
  if x10 ≤ x11 then
  if 0 ≤ x11 then
  if x11 < (e0.length : Int) then
  if 0 ≤ x1 then
  if x1 < (e0.length : Int) then
  M.a0 (gi e0 x11) (gi e0 x1) >>= fun y65 =>
  Fx87 n (x1, x10, x11, !y65, e0)
  else
  none
  else
  none
  else
  none
  else
  none
  else
  Fx87 n (x1, x10, x11, false, e0)
 termination_by structural n => n
def Fx87 : Nat → Int × Int × Int × Bool × (List Int) → Option (Int × Bool × (List Int))
 | 0, _ => none
 | n + 1, ⟨x1, x10, x11, x60, e0⟩ =>
  if x60 = true then
  Fx86 n (x1, x10, wr .i64 (x11 - 1), e0)
  else
  if x10 > x11 then
  if 0 ≤ x1 then
  if x1 < (e0.length : Int) then
  if 0 ≤ x11 then
  if x11 < (e0.length : Int) then
  some (x11, true, (si (si e0 x11 (gi e0 x1)) x1 (gi e0 x11)))
  else
  none
  else
  none
  else
  none
  else
  none
  else
  if 0 ≤ x11 then
  if x11 < (e0.length : Int) then
  if 0 ≤ x10 then
  if x10 < (e0.length : Int) then
  Fx81 n (x1, wr .i64 (x10 + 1), wr .i64 (x11 - 1), (si (si e0 x10 (gi e0 x11)) x11 (gi e0 x10)))
  else
  none
  else
  none
  else
  none
  else
  none
 termination_by structural n => n
end
theorem Fz86 (n : Nat) : (∀ x, LeO (Fx86 n x) (M.ab x)) ∧ (∀ x, LeO (Fx87 n x) (M.a10 x)) := by
 induction n with
 | zero => exact ⟨fun _ => LeO.zero _, fun _ => LeO.zero _⟩
 | succ n ih =>
  obtain ⟨h0, h1⟩ := ih
  refine ⟨fun ⟨x1, x10, x11, e0⟩ => ?_, fun ⟨x1, x10, x11, x60, e0⟩ => ?_⟩
  · rw [Fx86, M.ab]
    exact (LeO.ite (LeO.ite (LeO.ite (LeO.ite (LeO.ite (LeO.bind (LeO.refl _) fun y65 => (h1 _)) (LeO.refl _)) (LeO.refl _)) (LeO.refl _)) (LeO.refl _)) (h1 _))
  · rw [Fx87, M.a10]
    exact (LeO.ite (h0 _) (LeO.ite (LeO.ite (LeO.ite (LeO.ite (LeO.ite (LeO.refl _) (LeO.refl _)) (LeO.refl _)) (LeO.refl _)) (LeO.refl _)) (LeO.ite (LeO.ite (LeO.ite (LeO.ite (Fy81 n _) (LeO.refl _)) (LeO.refl _)) (LeO.refl _)) (LeO.refl _))))
theorem Fy86 (n : Nat) : ∀ x, LeO (Fx86 n x) (M.ab x) := (Fz86 n).1
theorem Fy87 (n : Nat) : ∀ x, LeO (Fx87 n x) (M.a10 x) := (Fz86 n).2
mutual
def Fx88 : Nat → Int × Int × Int × (List Int) → Option (Int × Bool × (List Int))
 | 0, _ => none
 | n + 1, ⟨x1, x10, x11, e0⟩ =>
  if x10 ≤ x11 then
  if 0 ≤ x10 then
  if x10 < (e0.length : Int) then
  if 0 ≤ x1 then
  if x1 < (e0.length : Int) then
  M.a0 (gi e0 x10) (gi e0 x1) >>= fun y47 =>
  Fx89 n (x1, x10, x11, y47, e0)
  else
  none
  else
  none
  else
  none
  else
  none
  else
  Fx89 n (x1, x10, x11, false, e0)
 termination_by structural n => n
def Fx89 : Nat → Int × Int × Int × Bool × (List Int) → Option (Int × Bool × (List Int))
 | 0, _ => none
 | n + 1, ⟨x1, x10, x11, x43, e0⟩ =>
  if x43 = true then
  Fx88 n (x1, wr .i64 (x10 + 1), x11, e0)
  else
  Fx86 n (x1, x10, x11, e0)
 termination_by structural n => n
end
theorem Fz88 (n : Nat) : (∀ x, LeO (Fx88 n x) (M.a11 x)) ∧ (∀ x, LeO (Fx89 n x) (M.a1g x)) := by
 induction n with
 | zero => exact ⟨fun _ => LeO.zero _, fun _ => LeO.zero _⟩
 | succ n ih =>
  obtain ⟨h0, h1⟩ := ih
  refine ⟨fun ⟨x1, x10, x11, e0⟩ => ?_, fun ⟨x1, x10, x11, x43, e0⟩ => ?_⟩
  · rw [Fx88, M.a11]
    exact (LeO.ite (LeO.ite (LeO.ite (LeO.ite (LeO.ite (LeO.bind (LeO.refl _) fun y47 => (h1 _)) (LeO.refl _)) (LeO.refl _)) (LeO.refl _)) (LeO.refl _)) (h1 _))
  · rw [Fx89, M.a1g]
    exact (LeO.ite (h0 _) (Fy86 n _))
theorem Fy88 (n : Nat) : ∀ x, LeO (Fx88 n x) (M.a11 x) := (Fz88 n).1
theorem Fy89 (n : Nat) : ∀ x, LeO (Fx89 n x) (M.a1g x) := (Fz88 n).2
def Fx90 (n : Nat) (x0 : List Int) (x1 : Int) (x2 : Int) (x3 : Int) : Option (Int × Bool × (List Int)) :=
 if 0 ≤ x3 then
 if x3 < (x0.length : Int) then
 if 0 ≤ x1 then
 if x1 < (x0.length : Int) then
 Fx88 n (x1, wr .i64 (x1 + 1), wr .i64 (x2 - 1), (si (si x0 x1 (gi x0 x3)) x3 (gi x0 x1)))
 else
 none
 else
 none
 else
 none
 else
 none
theorem Fy90 (n : Nat) : ∀ x0 x1 x2 x3, LeO (Fx90 n x0 x1 x2 x3) (M.a2m x0 x1 x2 x3) := by
 intro x0 x1 x2 x3
 rw [Fx90, M.a2m]
 exact (LeO.ite (LeO.ite (LeO.ite (LeO.ite (Fy88 n _) (LeO.refl _)) (LeO.refl _)) (LeO.refl _)) (LeO.refl _))
mutual
def Fx91 : Nat → Int × Int × Int × Int × Int × (List Int) → Option (List Int)
 | 0, _ => none
 | n + 1, ⟨x1, x6, x7v_0, x8, x9, e0⟩ =>
  if x9 ≤ wr .i64 ((wr .i64 (x1 + (wr .i64 ((iquo .i64 x6 4) * 2)))) + 1) then
  M.a3b x7v_0 >>= fun y9 =>
  if wr .i64 (iand .u64 y9.1 (wr .u64 (x8 - 1))) ≥ x6 then
  Fx92 n (x1, x6, y9.2, x8, x9, wr .i64 ((wr .i64 (iand .u64 y9.1 (wr .u64 (x8 - 1)))) - x6), e0)
  else
  Fx92 n (x1, x6, y9.2, x8, x9, wr .i64 (iand .u64 y9.1 (wr .u64 (x8 - 1))), e0)
  else
  some e0
 termination_by structural n => n
def Fx92 : Nat → Int × Int × Int × Int × Int × Int × (List Int) → Option (List Int)
 | 0, _ => none
 | n + 1, ⟨x1, x6, x7v_0, x8, x9, x10, e0⟩ =>
  if 0 ≤ wr .i64 (x1 + x10) then
  if wr .i64 (x1 + x10) < (e0.length : Int) then
  if 0 ≤ x9 then
  if x9 < (e0.length : Int) then
  some (gi (si e0 x9 (gi e0 (wr .i64 (x1 + x10)))) (wr .i64 (x1 + x10))) >>= fun v38 =>
  some (si (si e0 x9 (gi e0 (wr .i64 (x1 + x10)))) (wr .i64 (x1 + x10)) (gi e0 x9)) >>= fun v42 =>
  Fx91 n (x1, x6, x7v_0, x8, wr .i64 (x9 + 1), v42)
  else
  none
  else
  none
  else
  none
  else
  none
 termination_by structural n => n
end
theorem Fz91 (n : Nat) : (∀ x, LeO (Fx91 n x) (M.a8 x)) ∧ (∀ x, LeO (Fx92 n x) (M.a1h x)) := by
 induction n with
 | zero => exact ⟨fun _ => LeO.zero _, fun _ => LeO.zero _⟩
 | succ n ih =>
  obtain ⟨h0, h1⟩ := ih
  refine ⟨fun ⟨x1, x6, x7v_0, x8, x9, e0⟩ => ?_, fun ⟨x1, x6, x7v_0, x8, x9, x10, e0⟩ => ?_⟩
  · rw [Fx91, M.a8]
    exact (LeO.ite (LeO.bind (LeO.refl _) fun y9 => (LeO.ite (h1 _) (h1 _))) (LeO.refl _))
  · rw [Fx92, M.a1h]
    exact (LeO.ite (LeO.ite (LeO.ite (LeO.ite (LeO.bind (LeO.refl _) fun v38 => (LeO.bind (LeO.refl _) fun v42 => (h0 _))) (LeO.refl _)) (LeO.refl _)) (LeO.refl _)) (LeO.refl _))
theorem Fy91 (n : Nat) : ∀ x, LeO (Fx91 n x) (M.a8 x) := (Fz91 n).1
theorem Fy92 (n : Nat) : ∀ x, LeO (Fx92 n x) (M.a1h x) := (Fz91 n).2
def Fx93 (n : Nat) (x0 : List Int) (x1 : Int) (x2 : Int) : Option (List Int) :=
 if wr .i64 (x2 - x1) ≥ 8 then
 M.a3c (wr .i64 (x2 - x1)) >>= fun y5 =>
 Fx91 n (x1, wr .i64 (x2 - x1), wr .u64 (wr .i64 (x2 - x1)), y5, wr .i64 ((wr .i64 (x1 + (wr .i64 ((iquo .i64 (wr .i64 (x2 - x1)) 4) * 2)))) - 1), x0)
 else
 some x0
theorem Fy93 (n : Nat) : ∀ x0 x1 x2, LeO (Fx93 n x0 x1 x2) (M.a2n x0 x1 x2) := by
 intro x0 x1 x2
 rw [Fx93, M.a2n]
 exact (LeO.ite (LeO.bind (LeO.refl _) fun y5 => (Fy91 n _)) (LeO.refl _))
mutual
def Fx94 : Nat → (List Int) × Int × Int × Int → Option (List Int)
 | 0, _ => none
 | n + 1, ⟨x0, x1, x2, x3⟩ =>
  Fx95 n (x1, x2, x3, true, true, x0)
 termination_by structural n => n
def Fx95 : Nat → Int × Int × Int × Bool × Bool × (List Int) → Option (List Int)
 | 0, _ => none
 | n + 1, ⟨x1, x2, x3, x8, x9, e0⟩ =>
  if wr .i64 (x2 - x1) ≤ 12 then
  Fx57 n e0 x1 x2 >>= fun y3 =>
  some y3
  else
  if x3 = 0 then
  Fx64 n e0 x1 x2 >>= fun y6 =>
  some y6
  else
  if x8 = true then
  Fx96 n (x1, x2, x3, true, x9, wr .i64 (x2 - x1), e0)
  else
  Fx93 n e0 x1 x2 >>= fun y9 =>
  Fx96 n (x1, x2, wr .i64 (x3 - 1), false, x9, wr .i64 (x2 - x1), y9)
 termination_by structural n => n
def Fx96 : Nat → Int × Int × Int × Bool × Bool × Int × (List Int) → Option (List Int)
 | 0, _ => none
 | n + 1, ⟨x1, x2, x3, x8, x9, x10, e0⟩ =>
  M.a3d e0 x1 x2 >>= fun y11 =>
  if y11.2 = 2 then
  Fx66 n e0 x1 x2 >>= fun y14 =>
  Fx97 n (x1, x2, x3, x8, x9, x10, wr .i64 ((wr .i64 (x2 - 1)) - (wr .i64 (y11.1 - x1))), 1, y14)
  else
  Fx97 n (x1, x2, x3, x8, x9, x10, y11.1, y11.2, e0)
 termination_by structural n => n
def Fx97 : Nat → Int × Int × Int × Bool × Bool × Int × Int × Int × (List Int) → Option (List Int)
 | 0, _ => none
 | n + 1, ⟨x1, x2, x3, x8, x9, x10, x11, x12, e0⟩ =>
  if x8 = true then
  if x9 = true then
  Fx98 n (x1, x2, x3, true, true, x10, x11, decide (x12 = 1), e0)
  else
  Fx98 n (x1, x2, x3, true, false, x10, x11, false, e0)
  else
  Fx98 n (x1, x2, x3, false, x9, x10, x11, false, e0)
 termination_by structural n => n
def Fx98 : Nat → Int × Int × Int × Bool × Bool × Int × Int × Bool × (List Int) → Option (List Int)
 | 0, _ => none
 | n + 1, ⟨x1, x2, x3, x8, x9, x10, x11, x68, e0⟩ =>
  if x68 = true then
  Fx74 n e0 x1 x2 >>= fun y19 =>
  if y19.1 = true then
  some y19.2
  else
  Fx99 n (x1, x2, x3, x8, x9, x10, x11, y19.2)
  else
  Fx99 n (x1, x2, x3, x8, x9, x10, x11, e0)
 termination_by structural n => n
def Fx99 : Nat → Int × Int × Int × Bool × Bool × Int × Int × (List Int) → Option (List Int)
 | 0, _ => none
 | n + 1, ⟨x1, x2, x3, x8, x9, x10, x11, e0⟩ =>
  if x1 > 0 then
  if 0 ≤ wr .i64 (x1 - 1) then
  if wr .i64 (x1 - 1) < (e0.length : Int) then
  if 0 ≤ x11 then
  if x11 < (e0.length : Int) then
  M.a0 (gi e0 (wr .i64 (x1 - 1))) (gi e0 x11) >>= fun y37 =>
  Fx100 n (x1, x2, x3, x8, x9, x10, x11, !y37, e0)
  else
  none
  else
  none
  else
  none
  else
  none
  else
  Fx100 n (x1, x2, x3, x8, x9, x10, x11, false, e0)
 termination_by structural n => n
def Fx100 : Nat → Int × Int × Int × Bool × Bool × Int × Int × Bool × (List Int) → Option (List Int)
 | 0, _ => none
 | n + 1, ⟨x1, x2, x3, x8, x9, x10, x11, x87, e0⟩ =>
  if x87 = true then
  Fx80 n e0 x1 x2 x11 >>= fun y40 =>
  Fx95 n (y40.1, x2, x3, x8, x9, y40.2)
  else
  Fx90 n e0 x1 x2 x11 >>= fun y42 =>
  if wr .i64 (y42.1 - x1) < wr .i64 (x2 - y42.1) then
  Fx94 n (y42.2.2, x1, y42.1, x3) >>= fun y45 =>
  Fx101 n (wr .i64 (y42.1 + 1), x2, x3, decide (wr .i64 (y42.1 - x1) ≥ iquo .i64 x10 8), y42.2.1, y45)
  else
  Fx94 n (y42.2.2, wr .i64 (y42.1 + 1), x2, x3) >>= fun y47 =>
  Fx101 n (x1, y42.1, x3, decide (wr .i64 (x2 - y42.1) ≥ iquo .i64 x10 8), y42.2.1, y47)
 termination_by structural n => n
def Fx101 : Nat → Int × Int × Int × Bool × Bool × (List Int) → Option (List Int)
 | 0, _ => none
 | n + 1, ⟨x1, x2, x3, x8, x9, e0⟩ =>
  Fx95 n (x1, x2, x3, x8, x9, e0)
 termination_by structural n => n
end
theorem Fz94 (n : Nat) : (∀ x, LeO (Fx94 n x) (M.ac x)) ∧ (∀ x, LeO (Fx95 n x) (M.am x)) ∧ (∀ x, LeO (Fx96 n x) (M.a1i x)) ∧ (∀ x, LeO (Fx97 n x) (M.a1j x)) ∧ (∀ x, LeO (Fx98 n x) (M.an x)) ∧ (∀ x, LeO (Fx99 n x) (M.a1k x)) ∧ (∀ x, LeO (Fx100 n x) (M.a1l x)) ∧ (∀ x, LeO (Fx101 n x) (M.a1m x)) := by
 induction n with
 | zero => exact ⟨fun _ => LeO.zero _, fun _ => LeO.zero _, fun _ => LeO.zero _, fun _ => LeO.zero _, fun _ => LeO.zero _, fun _ => LeO.zero _, fun _ => LeO.zero _, fun _ => LeO.zero _⟩
 | succ n ih =>
  obtain ⟨h0, h1, h2, h3, h4, h5, h6, h7⟩ := ih
  refine ⟨fun ⟨x0, x1, x2, x3⟩ => ?_, fun ⟨x1, x2, x3, x8, x9, e0⟩ => ?_, fun ⟨x1, x2, x3, x8, x9, x10, e0⟩ => ?_, fun ⟨x1, x2, x3, x8, x9, x10, x11, x12, e0⟩ => ?_, fun ⟨x1, x2, x3, x8, x9, x10, x11, x68, e0⟩ => ?_, fun ⟨x1, x2, x3, x8, x9, x10, x11, e0⟩ => ?_, fun ⟨x1, x2, x3, x8, x9, x10, x11, x87, e0⟩ => ?_, fun ⟨x1, x2, x3, x8, x9, e0⟩ => ?_⟩
  · rw [Fx94, M.ac]
    exact (h1 _)
  · rw [Fx95, M.am]
    exact (LeO.ite (LeO.bind (Fy57 n _ _ _) fun y3 => (LeO.refl _)) (LeO.ite (LeO.bind (Fy64 n _ _ _) fun y6 => (LeO.refl _)) (LeO.ite (h2 _) (LeO.bind (Fy93 n _ _ _) fun y9 => (h2 _)))))
  · rw [Fx96, M.a1i]
    exact (LeO.bind (LeO.refl _) fun y11 => (LeO.ite (LeO.bind (Fy66 n _ _ _) fun y14 => (h3 _)) (h3 _)))
  · rw [Fx97, M.a1j]
    exact (LeO.ite (LeO.ite (h4 _) (h4 _)) (h4 _))
  · rw [Fx98, M.an]
    exact (LeO.ite (LeO.bind (Fy74 n _ _ _) fun y19 => (LeO.ite (LeO.refl _) (h5 _))) (h5 _))
  · rw [Fx99, M.a1k]
    exact (LeO.ite (LeO.ite (LeO.ite (LeO.ite (LeO.ite (LeO.bind (LeO.refl _) fun y37 => (h6 _)) (LeO.refl _)) (LeO.refl _)) (LeO.refl _)) (LeO.refl _)) (h6 _))
  · rw [Fx100, M.a1l]
    exact (LeO.ite (LeO.bind (Fy80 n _ _ _ _) fun y40 => (h1 _)) (LeO.bind (Fy90 n _ _ _ _) fun y42 => (LeO.ite (LeO.bind (h0 _) fun y45 => (h7 _)) (LeO.bind (h0 _) fun y47 => (h7 _)))))
  · rw [Fx101, M.a1m]
    exact (h1 _)
theorem Fy94 (n : Nat) : ∀ x, LeO (Fx94 n x) (M.ac x) := (Fz94 n).1
theorem Fy95 (n : Nat) : ∀ x, LeO (Fx95 n x) (M.am x) := (Fz94 n).2.1
theorem Fy96 (n : Nat) : ∀ x, LeO (Fx96 n x) (M.a1i x) := (Fz94 n).2.2.1
theorem Fy97 (n : Nat) : ∀ x, LeO (Fx97 n x) (M.a1j x) := (Fz94 n).2.2.2.1
theorem Fy98 (n : Nat) : ∀ x, LeO (Fx98 n x) (M.an x) := (Fz94 n).2.2.2.2.1
theorem Fy99 (n : Nat) : ∀ x, LeO (Fx99 n x) (M.a1k x) := (Fz94 n).2.2.2.2.2.1
theorem Fy100 (n : Nat) : ∀ x, LeO (Fx100 n x) (M.a1l x) := (Fz94 n).2.2.2.2.2.2.1
theorem Fy101 (n : Nat) : ∀ x, LeO (Fx101 n x) (M.a1m x) := (Fz94 n).2.2.2.2.2.2.2
def Fx102 (n : Nat) (x0 : List Int) : Option (List Int) :=
 M.a3e (wr .u64 (x0.length : Int)) >>= fun y2 =>
 if (x0.length : Int) ≤ 65535 then
 Fx94 n (x0, 0, (x0.length : Int), y2) >>= fun y5 =>
 some y5
 else
 none
theorem Fy102 (n : Nat) : ∀ x0, LeO (Fx102 n x0) (M.a6 x0) := by
 intro x0
 rw [Fx102, M.a6]
 exact (LeO.bind (LeO.refl _) fun y2 => (LeO.ite (LeO.bind (Fy94 n _) fun y5 => (LeO.refl _)) (LeO.refl _)))
def Fx103 (n : Nat) (pl : Z) : Option (List Int) :=
 M.a5i pl >>= fun y2 =>
 Fx102 n y2 >>= fun y5 =>
 some y5
theorem Fy103 (n : Nat) : ∀ pl, LeO (Fx103 n pl) (M.a4b pl) := by
 intro pl
 rw [Fx103, M.a4b]
 exact (LeO.bind (LeO.refl _) fun y2 => (LeO.bind (Fy102 n _) fun y5 => (LeO.refl _)))
def Fx104 : Nat → Nat × (List (Int × (List T55))) × (List Int) × Nat × Z → Option (List Int)
 | 0, _ => none
 | n + 1, ⟨x5i, x5, e1v_0, x0q6b0v_0, pl⟩ =>
  (match x5 with
  | [] =>
   some e1v_0
  | kv13 :: rm14 =>
   M.a4c e1v_0 x0q6b0v_0 kv13.1 pl >>= fun y27 =>
   Fx104 n (x5i, rm14, y27, x0q6b0v_0, pl))
 termination_by structural n => n
theorem Fz104 (n : Nat) : (∀ x, LeO (Fx104 n x) (M.a5 x)) := by
 induction n with
 | zero => exact fun _ => LeO.zero _
 | succ n ih =>
  have h0 := ih
  refine fun ⟨x5i, x5, e1v_0, x0q6b0v_0, pl⟩ => ?_
  · rcases x5 with _ | ⟨kv13, rm14⟩
    · rw [Fx104, M.a5]
      exact (LeO.refl _)
    · rw [Fx104, M.a5]
      exact (LeO.bind (LeO.refl _) fun y27 => (h0 _))
theorem Fy104 (n : Nat) : ∀ x, LeO (Fx104 n x) (M.a5 x) := (Fz104 n)
def Fx105 (n : Nat) (x0q2v_0 : List Int) (x0q6b0v_0 : Nat) (pl : Z) : Option (List Int) :=
 Fx104 n (x0q6b0v_0, (gn pl.za x0q6b0v_0), x0q2v_0, x0q6b0v_0, pl)
theorem Fy105 (n : Nat) : ∀ x0q2v_0 x0q6b0v_0 pl, LeO (Fx105 n x0q2v_0 x0q6b0v_0 pl) (M.a4d x0q2v_0 x0q6b0v_0 pl) := by
 intro x0q2v_0 x0q6b0v_0 pl
 rw [Fx105, M.a4d]
 exact (Fy104 n _)
def Fx106 (n : Nat) (x1b0v_0 : Nat) (pl : Z) : Option (List Int) :=
 Fx105 n ([] : List Int) x1b0v_0 pl >>= fun y10 =>
 some y10
theorem Fy106 (n : Nat) : ∀ x1b0v_0 pl, LeO (Fx106 n x1b0v_0 pl) (M.a4e x1b0v_0 pl) := by
 intro x1b0v_0 pl
 rw [Fx106, M.a4e]
 exact (LeO.bind (Fy105 n _ _ _) fun y10 => (LeO.refl _))
def Fx107 (n : Nat) (x0b0v_0 : Nat) (pl : Z) : Option (List Int) :=
 Fx106 n x0b0v_0 pl >>= fun y2 =>
 some y2
theorem Fy107 (n : Nat) : ∀ x0b0v_0 pl, LeO (Fx107 n x0b0v_0 pl) (M.a4f x0b0v_0 pl) := by
 intro x0b0v_0 pl
 rw [Fx107, M.a4f]
 exact (LeO.bind (Fy106 n _ _) fun y2 => (LeO.refl _))
def Fx108 (n : Nat) (x0b0v_0 : Nat) (pl : Z) : Option (List Int) :=
 Fx107 n x0b0v_0 pl >>= fun y2 =>
 Fx102 n y2 >>= fun y5 =>
 some y5
theorem Fy108 (n : Nat) : ∀ x0b0v_0 pl, LeO (Fx108 n x0b0v_0 pl) (M.a4g x0b0v_0 pl) := by
 intro x0b0v_0 pl
 rw [Fx108, M.a4g]
 exact (LeO.bind (Fy107 n _ _) fun y2 => (LeO.bind (Fy102 n _) fun y5 => (LeO.refl _)))
def Fx109 (n : Nat) (x0 : Nat) (pl : Z) : Option (List Int) :=
 M.a7 x0 pl >>= fun y1 =>
 if y1 = true then
 some ((gn pl.zd x0).series) >>= fun v34 =>
 (match v34 with
 | none =>
  M.a5j pl >>= fun y22 =>
  Fx103 n pl >>= fun y25 =>
  some y25
 | some y19 =>
  M.a5k y19 pl >>= fun y28 =>
  Fx108 n y28 pl >>= fun y31 =>
  some y31)
 else
 some ([] : List Int)
theorem Fy109 (n : Nat) : ∀ x0 pl, LeO (Fx109 n x0 pl) (M.a1n x0 pl) := by
 intro x0 pl
 rw [Fx109, M.a1n]
 exact (LeO.bind (LeO.refl _) fun y1 => (LeO.ite (LeO.bind (LeO.refl _) fun v34 => (by cases v34 with | none => exact (LeO.bind (LeO.refl _) fun y22 => (LeO.bind (Fy103 n _) fun y25 => (LeO.refl _))) | some y19 => exact (LeO.bind (LeO.refl _) fun y28 => (LeO.bind (Fy108 n _ _) fun y31 => (LeO.refl _))))) (LeO.refl _)))
def Fx110 : Nat → Nat × (List (Int × Bool)) × (List Int) × Nat × Z → Option (List Int)
 | 0, _ => none
 | n + 1, ⟨x5i, x5, e1v_0, x0q6b0v_0, pl⟩ =>
  (match x5 with
  | [] =>
   some e1v_0
  | kv13 :: rm14 =>
   M.a4h e1v_0 x0q6b0v_0 kv13.1 pl >>= fun y24 =>
   Fx110 n (x5i, rm14, y24, x0q6b0v_0, pl))
 termination_by structural n => n
theorem Fz110 (n : Nat) : (∀ x, LeO (Fx110 n x) (M.a3 x)) := by
 induction n with
 | zero => exact fun _ => LeO.zero _
 | succ n ih =>
  have h0 := ih
  refine fun ⟨x5i, x5, e1v_0, x0q6b0v_0, pl⟩ => ?_
  · rcases x5 with _ | ⟨kv13, rm14⟩
    · rw [Fx110, M.a3]
      exact (LeO.refl _)
    · rw [Fx110, M.a3]
      exact (LeO.bind (LeO.refl _) fun y24 => (h0 _))
theorem Fy110 (n : Nat) : ∀ x, LeO (Fx110 n x) (M.a3 x) := (Fz110 n)
def Fx111 (n : Nat) (x0q2v_0 : List Int) (x0q6b0v_0 : Nat) (pl : Z) : Option (List Int) :=
 Fx110 n (x0q6b0v_0, (gn pl.zf x0q6b0v_0), x0q2v_0, x0q6b0v_0, pl)
theorem Fy111 (n : Nat) : ∀ x0q2v_0 x0q6b0v_0 pl, LeO (Fx111 n x0q2v_0 x0q6b0v_0 pl) (M.a3f x0q2v_0 x0q6b0v_0 pl) := by
 intro x0q2v_0 x0q6b0v_0 pl
 rw [Fx111, M.a3f]
 exact (Fy110 n _)
def Fx112 (n : Nat) (x1b0v_0 : Nat) (pl : Z) : Option (List Int) :=
 Fx111 n ([] : List Int) x1b0v_0 pl >>= fun y10 =>
 some y10
theorem Fy112 (n : Nat) : ∀ x1b0v_0 pl, LeO (Fx112 n x1b0v_0 pl) (M.a3g x1b0v_0 pl) := by
 intro x1b0v_0 pl
 rw [Fx112, M.a3g]
 exact (LeO.bind (Fy111 n _ _ _) fun y10 => (LeO.refl _))
def Fx113 (n : Nat) (x0b0v_0 : Nat) (pl : Z) : Option (List Int) :=
 Fx112 n x0b0v_0 pl >>= fun y2 =>
 some y2
theorem Fy113 (n : Nat) : ∀ x0b0v_0 pl, LeO (Fx113 n x0b0v_0 pl) (M.a3h x0b0v_0 pl) := by
 intro x0b0v_0 pl
 rw [Fx113, M.a3h]
 exact (LeO.bind (Fy112 n _ _) fun y2 => (LeO.refl _))
def Fx114 (n : Nat) (x0b0v_0 : Nat) (pl : Z) : Option (List Int) :=
 Fx113 n x0b0v_0 pl >>= fun y2 =>
 Fx102 n y2 >>= fun y5 =>
 some y5
theorem Fy114 (n : Nat) : ∀ x0b0v_0 pl, LeO (Fx114 n x0b0v_0 pl) (M.a2o x0b0v_0 pl) := by
 intro x0b0v_0 pl
 rw [Fx114, M.a2o]
 exact (LeO.bind (Fy113 n _ _) fun y2 => (LeO.bind (Fy102 n _) fun y5 => (LeO.refl _)))
def Fx115 (n : Nat) (x0 : Nat) (pl : Z) : Option (List Int) :=
 M.a2p x0 pl >>= fun y1 =>
 Fx114 n y1 pl >>= fun y4 =>
 some y4
theorem Fy115 (n : Nat) : ∀ x0 pl, LeO (Fx115 n x0 pl) (M.a2q x0 pl) := by
 intro x0 pl
 rw [Fx115, M.a2q]
 exact (LeO.bind (LeO.refl _) fun y1 => (LeO.bind (Fy114 n _ _) fun y4 => (LeO.refl _)))
def Fx116 (n : Nat) : Nat × Z → Option ((List Int) × Z) := fun ⟨x8, e0⟩ =>
 Fx115 n x8 e0 >>= fun y102 =>
 some (y102, e0)
theorem Fy116 (n : Nat) : ∀ x, LeO (Fx116 n x) (M.a4i x) := fun ⟨x8, e0⟩ => by
 rw [Fx116, M.a4i]
 exact (LeO.bind (Fy115 n _ _) fun y102 => (LeO.refl _))
def Fx117 (n : Nat) : Nat × Z → Option ((List Int) × Z) := fun ⟨x8, e0⟩ =>
 Fx116 n (x8, e0)
theorem Fy117 (n : Nat) : ∀ x, LeO (Fx117 n x) (M.a4j x) := fun ⟨x8, e0⟩ => by
 rw [Fx117, M.a4j]
 exact (Fy116 n _)
mutual
def Fx118 : Nat → Nat × Nat × (List (ByteArray × (Option Nat))) × Z → Option ((List Int) × Z)
 | 0, _ => none
 | n + 1, ⟨x8, x41i, x41, e0⟩ =>
  (match x41 with
  | [] =>
   Fx115 n x8 e0 >>= fun y117 =>
   some (y117, e0)
  | kv105 :: rm106 =>
   some (kv105.2) >>= fun v137 =>
   (match v137 with
   | none =>
    Fx119 n (x8, x41i, rm106, e0)
   | some y121 =>
    if x8 ≠ y121 then
    Fx121 n (x8, x41i, rm106, y121, (gn e0.zf y121), e0)
    else
    none))
 termination_by structural n => n
def Fx119 : Nat → Nat × Nat × (List (ByteArray × (Option Nat))) × Z → Option ((List Int) × Z)
 | 0, _ => none
 | n + 1, ⟨x8, x41i, x41, e0⟩ =>
  Fx120 n (x8, x41i, x41, e0)
 termination_by structural n => n
def Fx120 : Nat → Nat × Nat × (List (ByteArray × (Option Nat))) × Z → Option ((List Int) × Z)
 | 0, _ => none
 | n + 1, ⟨x8, x41i, x41, e0⟩ =>
  Fx118 n (x8, x41i, x41, e0)
 termination_by structural n => n
def Fx121 : Nat → Nat × Nat × (List (ByteArray × (Option Nat))) × Nat × (List (Int × Bool)) × Z → Option ((List Int) × Z)
 | 0, _ => none
 | n + 1, ⟨x8, x41i, x41, x47i, x47, e0⟩ =>
  Fx122 n (x8, x41i, x41, x47i, x47, e0)
 termination_by structural n => n
def Fx122 : Nat → Nat × Nat × (List (ByteArray × (Option Nat))) × Nat × (List (Int × Bool)) × Z → Option ((List Int) × Z)
 | 0, _ => none
 | n + 1, ⟨x8, x41i, x41, x47i, x47, e0⟩ =>
  (match x47 with
  | [] =>
   Fx118 n (x8, x41i, x41, e0)
  | kv142 :: rm143 =>
   if x8 ≠ x47i then
   Fx122 n (x8, x41i, x41, x47i, rm143, {e0 with zf := (sn e0.zf x8 (mdel (gn e0.zf x8) kv142.1))})
   else
   none)
 termination_by structural n => n
end
theorem Fz118 (n : Nat) : (∀ x, LeO (Fx118 n x) (M.a1 x)) ∧ (∀ x, LeO (Fx119 n x) (M.ad x)) ∧ (∀ x, LeO (Fx120 n x) (M.ao x)) ∧ (∀ x, LeO (Fx121 n x) (M.ae x)) ∧ (∀ x, LeO (Fx122 n x) (M.a2 x)) := by
 induction n with
 | zero => exact ⟨fun _ => LeO.zero _, fun _ => LeO.zero _, fun _ => LeO.zero _, fun _ => LeO.zero _, fun _ => LeO.zero _⟩
 | succ n ih =>
  obtain ⟨h0, h1, h2, h3, h4⟩ := ih
  refine ⟨fun ⟨x8, x41i, x41, e0⟩ => ?_, fun ⟨x8, x41i, x41, e0⟩ => ?_, fun ⟨x8, x41i, x41, e0⟩ => ?_, fun ⟨x8, x41i, x41, x47i, x47, e0⟩ => ?_, fun ⟨x8, x41i, x41, x47i, x47, e0⟩ => ?_⟩
  · rcases x41 with _ | ⟨kv105, rm106⟩
    · rw [Fx118, M.a1]
      exact (LeO.bind (Fy115 n _ _) fun y117 => (LeO.refl _))
    · rw [Fx118, M.a1]
      exact (LeO.bind (LeO.refl _) fun v137 => (by cases v137 with | none => exact (h1 _) | some y121 => exact (LeO.ite (h3 _) (LeO.refl _))))
  · rw [Fx119, M.ad]
    exact (h2 _)
  · rw [Fx120, M.ao]
    exact (h0 _)
  · rw [Fx121, M.ae]
    exact (h4 _)
  · rcases x47 with _ | ⟨kv142, rm143⟩
    · rw [Fx122, M.a2]
      exact (h0 _)
    · rw [Fx122, M.a2]
      exact (LeO.ite (h4 _) (LeO.refl _))
theorem Fy118 (n : Nat) : ∀ x, LeO (Fx118 n x) (M.a1 x) := (Fz118 n).1
theorem Fy119 (n : Nat) : ∀ x, LeO (Fx119 n x) (M.ad x) := (Fz118 n).2.1
theorem Fy120 (n : Nat) : ∀ x, LeO (Fx120 n x) (M.ao x) := (Fz118 n).2.2.1
theorem Fy121 (n : Nat) : ∀ x, LeO (Fx121 n x) (M.ae x) := (Fz118 n).2.2.2.1
theorem Fy122 (n : Nat) : ∀ x, LeO (Fx122 n x) (M.a2 x) := (Fz118 n).2.2.2.2
def Fx123 (n : Nat) : Nat × Nat × (List (ByteArray × (Option Nat))) × Z → Option ((List Int) × Z) := fun ⟨x8, x41i, x41, e0⟩ =>
 Fx118 n (x8, x41i, x41, e0)
theorem Fy123 (n : Nat) : ∀ x, LeO (Fx123 n x) (M.a4k x) := fun ⟨x8, x41i, x41, e0⟩ => by
 rw [Fx123, M.a4k]
 exact (Fy118 n _)
def Fx124 : Nat → (Option Nat) × Nat × (List Int) × Int × Int × Z → Option ((List Int) × Z)
 | 0, _ => none
 | n + 1, ⟨x7, x8, x28, x29, x30, e0⟩ =>
  if x30 < x29 then
  if 0 ≤ x30 then
  if x30 < (x28.length : Int) then
  some (sn e0.zf x8 (mset (gn e0.zf x8) (gi x28 x30) true)) >>= fun v58 =>
  Fx124 n (x7, x8, x28, x29, wr .i64 (x30 + 1), {e0 with zf := v58})
  else
  none
  else
  none
  else
  some (x7) >>= fun v99 =>
  (match v99 with
  | none =>
   none
  | some y64 =>
   some ((gn e0.zh y64).values) >>= fun v98 =>
   (match v98 with
   | none =>
    Fx117 n (x8, e0)
   | some y85 =>
    Fx123 n (x8, y85, (gn e0.ze y85), e0)))
 termination_by structural n => n
theorem Fz124 (n : Nat) : (∀ x, LeO (Fx124 n x) (M.a1o x)) := by
 induction n with
 | zero => exact fun _ => LeO.zero _
 | succ n ih =>
  have h0 := ih
  refine fun ⟨x7, x8, x28, x29, x30, e0⟩ => ?_
  · rw [Fx124, M.a1o]
    exact (LeO.ite (LeO.ite (LeO.ite (LeO.bind (LeO.refl _) fun v58 => (h0 _)) (LeO.refl _)) (LeO.refl _)) (LeO.bind (LeO.refl _) fun v99 => (by cases v99 with | none => exact (LeO.refl _) | some y64 => exact (LeO.bind (LeO.refl _) fun v98 => (by cases v98 with | none => exact (Fy117 n _) | some y85 => exact (Fy123 n _))))))
theorem Fy124 (n : Nat) : ∀ x, LeO (Fx124 n x) (M.a1o x) := (Fz124 n)
def Fx125 (n : Nat) (pl : Z) : Option (List Int) :=
 M.a5l pl >>= fun y2 =>
 Fx102 n y2 >>= fun y5 =>
 some y5
theorem Fy125 (n : Nat) : ∀ pl, LeO (Fx125 n pl) (M.a3i pl) := by
 intro pl
 rw [Fx125, M.a3i]
 exact (LeO.bind (LeO.refl _) fun y2 => (LeO.bind (Fy102 n _) fun y5 => (LeO.refl _)))
def Fx126 (n : Nat) (pl : Z) : Option (List Int) :=
 M.a3j pl >>= fun y1 =>
 Fx125 n pl >>= fun y4 =>
 some y4
theorem Fy126 (n : Nat) : ∀ pl, LeO (Fx126 n pl) (M.a4l pl) := by
 intro pl
 rw [Fx126, M.a4l]
 exact (LeO.bind (LeO.refl _) fun y1 => (LeO.bind (Fy125 n _) fun y4 => (LeO.refl _)))
def Fx127 (n : Nat) (x0 : Option Nat) (pl : Z) : Option (List Int) :=
 some (x0) >>= fun v17 =>
 (match v17 with
 | none =>
  M.a3j pl >>= fun y5 =>
  Fx125 n pl >>= fun y8 =>
  some y8
 | some y2 =>
  M.a2p y2 pl >>= fun y11 =>
  Fx114 n y11 pl >>= fun y14 =>
  some y14)
theorem Fy127 (n : Nat) : ∀ x0 pl, LeO (Fx127 n x0 pl) (M.a4m x0 pl) := by
 intro x0 pl
 rw [Fx127, M.a4m]
 exact (LeO.bind (LeO.refl _) fun v17 => (by cases v17 with | none => exact (LeO.bind (LeO.refl _) fun y5 => (LeO.bind (Fy125 n _) fun y8 => (LeO.refl _))) | some y2 => exact (LeO.bind (LeO.refl _) fun y11 => (LeO.bind (Fy114 n _ _) fun y14 => (LeO.refl _)))))
def Fx128 (n : Nat) (x0 : Nat) (x1 : ByteArray) (x2 : ByteArray) (pl : Z) : Option ((List Int) × Z) :=
 M.a12 x0 x1 pl >>= fun y1 =>
 if (x2.toList == (⟨#[]⟩ : ByteArray).toList) = true then
 Fx109 n x0 ({y1.2 with zf := (y1.2.zf ++ [[]])}) >>= fun y8 =>
 Fx124 n (y1.1, y1.2.zf.length, y8, (y8.length : Int), 0, {y1.2 with zf := (y1.2.zf ++ [[]])})
 else
 some (y1.1) >>= fun v50 =>
 (match v50 with
 | none =>
  none
 | some y13 =>
  some ((gn y1.2.zh y13).values) >>= fun v49 =>
  (match v49 with
  | none =>
   Fx126 n y1.2 >>= fun y37 =>
   M.a3k (y37, y1.2)
  | some y34 =>
   some ((mget (gn y1.2.ze y34) x2).getD (none : Option Nat)) >>= fun v41 =>
   Fx127 n v41 y1.2 >>= fun y46 =>
   M.a3k (y46, y1.2)))
theorem Fy128 (n : Nat) : ∀ x0 x1 x2 pl, LeO (Fx128 n x0 x1 x2 pl) (M.a1p x0 x1 x2 pl) := by
 intro x0 x1 x2 pl
 rw [Fx128, M.a1p]
 exact (LeO.bind (LeO.refl _) fun y1 => (LeO.ite (LeO.bind (Fy109 n _ _) fun y8 => (Fy124 n _)) (LeO.bind (LeO.refl _) fun v50 => (by cases v50 with | none => exact (LeO.refl _) | some y13 => exact (LeO.bind (LeO.refl _) fun v49 => (by cases v49 with | none => exact (LeO.bind (Fy126 n _) fun y37 => (LeO.refl _)) | some y34 => exact (LeO.bind (LeO.refl _) fun v41 => (LeO.bind (Fy127 n _ _) fun y46 => (LeO.refl _)))))))))
def Fx129 : Nat → (List Int) × (List Int) × Int → Option Bool
 | 0, _ => none
 | n + 1, ⟨x0, x1, x5⟩ =>
  if x5 < (x0.length : Int) then
  if 0 ≤ x5 then
  if x5 < (x1.length : Int) then
  if gi x0 x5 = gi x1 x5 then
  Fx129 n (x0, x1, wr .i64 (x5 + 1))
  else
  some false
  else
  none
  else
  none
  else
  some true
 termination_by structural n => n
theorem Fz129 (n : Nat) : (∀ x, LeO (Fx129 n x) (M.a2r x)) := by
 induction n with
 | zero => exact fun _ => LeO.zero _
 | succ n ih =>
  have h0 := ih
  refine fun ⟨x0, x1, x5⟩ => ?_
  · rw [Fx129, M.a2r]
    exact (LeO.ite (LeO.ite (LeO.ite (LeO.ite (h0 _) (LeO.refl _)) (LeO.refl _)) (LeO.refl _)) (LeO.refl _))
theorem Fy129 (n : Nat) : ∀ x, LeO (Fx129 n x) (M.a2r x) := (Fz129 n)
def Fx130 (n : Nat) (x0 : List Int) (x1 : List Int) : Option Bool :=
 if (x0.length : Int) = (x1.length : Int) then
 Fx129 n (x0, x1, 0)
 else
 some false
theorem Fy130 (n : Nat) : ∀ x0 x1, LeO (Fx130 n x0 x1) (M.a3l x0 x1) := by
 intro x0 x1
 rw [Fx130, M.a3l]
 exact (LeO.ite (Fy129 n _) (LeO.refl _))
def Fx131 (n : Nat) (pl : Z) : Option (List ByteArray) :=
 M.a5m pl >>= fun y2 =>
 if (y2.length : Int) ≤ 1099511627776 then
 some (srtSc y2)
 else
 none
theorem Fy131 (n : Nat) : ∀ pl, LeO (Fx131 n pl) (M.a4n pl) := by
 intro pl
 rw [Fx131, M.a4n]; try rw [srtS_f]
 exact (LeO.bind (LeO.refl _) fun y2 => (LeO.ite (LeO.refl _) (LeO.refl _)))
def Fx132 : Nat → Nat × (List (ByteArray × (Option Nat))) × (List ByteArray) × Nat × Z → Option (List ByteArray)
 | 0, _ => none
 | n + 1, ⟨x5i, x5, e1v_0, x0q6b0v_0, pl⟩ =>
  (match x5 with
  | [] =>
   some e1v_0
  | kv13 :: rm14 =>
   M.a4o e1v_0 x0q6b0v_0 kv13.1 pl >>= fun y25 =>
   Fx132 n (x5i, rm14, y25, x0q6b0v_0, pl))
 termination_by structural n => n
theorem Fz132 (n : Nat) : (∀ x, LeO (Fx132 n x) (M.a4 x)) := by
 induction n with
 | zero => exact fun _ => LeO.zero _
 | succ n ih =>
  have h0 := ih
  refine fun ⟨x5i, x5, e1v_0, x0q6b0v_0, pl⟩ => ?_
  · rcases x5 with _ | ⟨kv13, rm14⟩
    · rw [Fx132, M.a4]
      exact (LeO.refl _)
    · rw [Fx132, M.a4]
      exact (LeO.bind (LeO.refl _) fun y25 => (h0 _))
theorem Fy132 (n : Nat) : ∀ x, LeO (Fx132 n x) (M.a4 x) := (Fz132 n)
def Fx133 (n : Nat) (x0q2v_0 : List ByteArray) (x0q6b0v_0 : Nat) (pl : Z) : Option (List ByteArray) :=
 Fx132 n (x0q6b0v_0, (gn pl.ze x0q6b0v_0), x0q2v_0, x0q6b0v_0, pl)
theorem Fy133 (n : Nat) : ∀ x0q2v_0 x0q6b0v_0 pl, LeO (Fx133 n x0q2v_0 x0q6b0v_0 pl) (M.a3m x0q2v_0 x0q6b0v_0 pl) := by
 intro x0q2v_0 x0q6b0v_0 pl
 rw [Fx133, M.a3m]
 exact (Fy132 n _)
def Fx134 (n : Nat) (x1b0v_0 : Nat) (pl : Z) : Option (List ByteArray) :=
 Fx133 n ([] : List ByteArray) x1b0v_0 pl >>= fun y10 =>
 some y10
theorem Fy134 (n : Nat) : ∀ x1b0v_0 pl, LeO (Fx134 n x1b0v_0 pl) (M.a3n x1b0v_0 pl) := by
 intro x1b0v_0 pl
 rw [Fx134, M.a3n]
 exact (LeO.bind (Fy133 n _ _ _) fun y10 => (LeO.refl _))
def Fx135 (n : Nat) (x0b0v_0 : Nat) (pl : Z) : Option (List ByteArray) :=
 Fx134 n x0b0v_0 pl >>= fun y2 =>
 some y2
theorem Fy135 (n : Nat) : ∀ x0b0v_0 pl, LeO (Fx135 n x0b0v_0 pl) (M.a3o x0b0v_0 pl) := by
 intro x0b0v_0 pl
 rw [Fx135, M.a3o]
 exact (LeO.bind (Fy134 n _ _) fun y2 => (LeO.refl _))
def Fx136 (n : Nat) (x0b0v_0 : Nat) (pl : Z) : Option (List ByteArray) :=
 Fx135 n x0b0v_0 pl >>= fun y2 =>
 if (y2.length : Int) ≤ 1099511627776 then
 some (srtSc y2)
 else
 none
theorem Fy136 (n : Nat) : ∀ x0b0v_0 pl, LeO (Fx136 n x0b0v_0 pl) (M.a2s x0b0v_0 pl) := by
 intro x0b0v_0 pl
 rw [Fx136, M.a2s]; try rw [srtS_f]
 exact (LeO.bind (Fy135 n _ _) fun y2 => (LeO.ite (LeO.refl _) (LeO.refl _)))
def Fx137 (n : Nat) (x0 : Nat) (x1 : ByteArray) (pl : Z) : Option ((List ByteArray) × Z) :=
 M.a12 x0 x1 pl >>= fun y1 =>
 some (y1.1) >>= fun v41 =>
 (match v41 with
 | none =>
  none
 | some y4 =>
  some ((gn y1.2.zh y4).values) >>= fun v40 =>
  (match v40 with
  | none =>
   M.a5n y1.2 >>= fun y28 =>
   Fx131 n y1.2 >>= fun y31 =>
   some (y31, y1.2)
  | some y25 =>
   M.a5o y25 y1.2 >>= fun y34 =>
   Fx136 n y34 y1.2 >>= fun y37 =>
   some (y37, y1.2)))
theorem Fy137 (n : Nat) : ∀ x0 x1 pl, LeO (Fx137 n x0 x1 pl) (M.a1x x0 x1 pl) := by
 intro x0 x1 pl
 rw [Fx137, M.a1x]
 exact (LeO.bind (LeO.refl _) fun y1 => (LeO.bind (LeO.refl _) fun v41 => (by cases v41 with | none => exact (LeO.refl _) | some y4 => exact (LeO.bind (LeO.refl _) fun v40 => (by cases v40 with | none => exact (LeO.bind (LeO.refl _) fun y28 => (LeO.bind (Fy131 n _) fun y31 => (LeO.refl _))) | some y25 => exact (LeO.bind (LeO.refl _) fun y34 => (LeO.bind (Fy136 n _ _) fun y37 => (LeO.refl _))))))))
def Fx138 : Nat → (List ByteArray) × (List ByteArray) × Int → Option Bool
 | 0, _ => none
 | n + 1, ⟨x0, x1, x5⟩ =>
  if x5 < (x0.length : Int) then
  if 0 ≤ x5 then
  if x5 < (x1.length : Int) then
  if ((gi x0 x5).toList == (gi x1 x5).toList) = true then
  Fx138 n (x0, x1, wr .i64 (x5 + 1))
  else
  some false
  else
  none
  else
  none
  else
  some true
 termination_by structural n => n
theorem Fz138 (n : Nat) : (∀ x, LeO (Fx138 n x) (M.a2t x)) := by
 induction n with
 | zero => exact fun _ => LeO.zero _
 | succ n ih =>
  have h0 := ih
  refine fun ⟨x0, x1, x5⟩ => ?_
  · rw [Fx138, M.a2t]
    exact (LeO.ite (LeO.ite (LeO.ite (LeO.ite (h0 _) (LeO.refl _)) (LeO.refl _)) (LeO.refl _)) (LeO.refl _))
theorem Fy138 (n : Nat) : ∀ x, LeO (Fx138 n x) (M.a2t x) := (Fz138 n)
def Fx139 (n : Nat) (x0 : List ByteArray) (x1 : List ByteArray) : Option Bool :=
 if (x0.length : Int) = (x1.length : Int) then
 Fx138 n (x0, x1, 0)
 else
 some false
theorem Fy139 (n : Nat) : ∀ x0 x1, LeO (Fx139 n x0 x1) (M.a4p x0 x1) := by
 intro x0 x1
 rw [Fx139, M.a4p]
 exact (LeO.ite (Fy138 n _) (LeO.refl _))
def Fx140 (n : Nat) (pl : Z) : Option (Bool × Z) :=
 M.a4q pl >>= fun y1 =>
 some [(⟨(⟨#[97]⟩ : ByteArray), (⟨#[120]⟩ : ByteArray)⟩ : T55)] >>= fun v5 =>
 Fx53 n y1.1 5 v5 y1.2 >>= fun y9 =>
 some [(⟨(⟨#[97]⟩ : ByteArray), (⟨#[121]⟩ : ByteArray)⟩ : T55), (⟨(⟨#[98]⟩ : ByteArray), (⟨#[122]⟩ : ByteArray)⟩ : T55)] >>= fun v13 =>
 Fx53 n y1.1 7 v13 y9.2 >>= fun y17 =>
 Fx128 n y1.1 (⟨#[97]⟩ : ByteArray) (⟨#[120]⟩ : ByteArray) y17.2 >>= fun y19 =>
 Fx130 n y19.1 [5] >>= fun y27 =>
 if y27 = true then
 Fx128 n y1.1 (⟨#[98]⟩ : ByteArray) (⟨#[]⟩ : ByteArray) y19.2 >>= fun y30 =>
 Fx130 n y30.1 [5] >>= fun y38 =>
 if y38 = true then
 Fx137 n y1.1 (⟨#[97]⟩ : ByteArray) y30.2 >>= fun y41 =>
 some [(⟨#[120]⟩ : ByteArray), (⟨#[121]⟩ : ByteArray)] >>= fun v46 =>
 Fx139 n y41.1 v46 >>= fun y51 =>
 if y51 = true then
 M.a5p y1.1 (⟨#[98]⟩ : ByteArray) y41.2 >>= fun y54 =>
 some (decide (y54.1 = 1), y54.2)
 else
 some (false, y41.2)
 else
 some (false, y30.2)
 else
 some (false, y19.2)
theorem Fy140 (n : Nat) : ∀ pl, LeO (Fx140 n pl) (M.a2u pl) := by
 intro pl
 rw [Fx140, M.a2u]
 exact (LeO.bind (LeO.refl _) fun y1 => (LeO.bind (LeO.refl _) fun v5 => (LeO.bind (Fy53 n _ _ _ _) fun y9 => (LeO.bind (LeO.refl _) fun v13 => (LeO.bind (Fy53 n _ _ _ _) fun y17 => (LeO.bind (Fy128 n _ _ _ _) fun y19 => (LeO.bind (Fy130 n _ _) fun y27 => (LeO.ite (LeO.bind (Fy128 n _ _ _ _) fun y30 => (LeO.bind (Fy130 n _ _) fun y38 => (LeO.ite (LeO.bind (Fy137 n _ _ _) fun y41 => (LeO.bind (LeO.refl _) fun v46 => (LeO.bind (Fy139 n _ _) fun y51 => (LeO.ite (LeO.bind (LeO.refl _) fun y54 => (LeO.refl _)) (LeO.refl _))))) (LeO.refl _)))) (LeO.refl _)))))))))
theorem tidepolelaw16_works_eval : ∃ z, M.a2u Z0 = some (true, z) := by
 have h : (Fx140 300 Z0).map (·.1) = some true := by decide +kernel
 cases hz : Fx140 300 Z0 with
 | none => rw [hz] at h; cases h
 | some r =>
  rw [hz] at h
  obtain ⟨b, z⟩ := r
  cases Option.some.inj h
  exact ⟨z, Fy140 300 Z0 _ hz⟩
end Go.Gx
