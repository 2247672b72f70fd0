/-
 Closures that lie in data. Generic: names no program.
-/
import Derived.Test.YtdccklkdakfnaaaGreatGD
set_option linter.unusedVariables false
namespace Go.Gx
open Go.RowKit
theorem Addr_add_add (a : Addr) (o q : Nat) : Addr.add (Addr.add a o) q = Addr.add a (o + q) := by
 unfold Addr.add
 by_cases h1 : o = 0
 ·subst h1; simp
 ·by_cases h2 : q = 0
  ·subst h2; simp
  ·simp [h1, h2, Nat.add_assoc]
theorem hc_part {w : World} {a : Addr} {us vs ws : List Value} (h : ∀ q v, (us ++ (vs ++ ws))[q]? = some v → w.cell? (Addr.add a q) = some v) (q : Nat) (v : Value) (hq : vs[q]? = some v) : w.cell? (Addr.add (Addr.add a us.length) q) = some v := by
 rw [Addr_add_add]
 refine h _ _ ?_
 rw [List.getElem?_append_right (by omega), Nat.add_sub_cancel_left, List.getElem?_append_left (List.getElem?_eq_some_iff.1 hq).1]
 exact hq
def Rp1 {α : Type} (K : Kd α) (S : Fz) (w : World) (v : Value) (d : α) : Prop := K.rep S w [v] d
section
variable {α β : Type} {K : Kd α} {S : Fz} {w : World}
theorem Rp1.ext {S' : Fz} {w' : World} {v : Value} {d : α} (h : Rp1 K S w v d) (hx : Ext S w S' w') : Rp1 K S' w' v d := K.ext hx h
theorem Rp1.one1 {v : Value} {d : α} (h : Rp1 K S w v d) : v.oneCell' = true := K.one h v (by simp)
theorem PtO.one1 {v : Value} {d : Option α} (h : PtO K S w v d) : v.oneCell' = true := (kPtr K).one h v (by simp)
theorem rp1_one {vs : List Value} {x : α} (hs : K.size = 1) (h : K.rep S w vs x) : ∃ v, vs = [v] ∧ Rp1 K S w v x := by
 have hl := K.len h
 rw [hs] at hl
 match vs, hl with
 | [v], _ => exact ⟨v, rfl, h⟩
def kFixW (g : Nat) : Kd Unit :=
 ⟨1, fun S w vs _ => ∃ a, vs = [.pointer (some a)] ∧ Cs S w a [.pointer (some ⟨g, 0, none⟩)],
  by rintro S w vs x ⟨a, rfl, _⟩; rfl,
  by rintro S w vs x ⟨a, rfl, _⟩ v hv; simp at hv; subst hv; rfl,
  by rintro S w S' w' vs x hx ⟨a, h1, h2⟩; exact ⟨a, h1, h2.ext hx⟩⟩
def kBox {α : Type} (K : Kd α) : Kd α :=
 ⟨1, fun S w vs y => ∃ a us, vs = [.pointer (some a)] ∧ us ≠ [] ∧ Cs S w a us ∧ K.rep S w us y,
  by rintro S w vs x ⟨a, us, rfl, _⟩; rfl,
  by rintro S w vs x ⟨a, us, rfl, _⟩ v hv; simp at hv; subst hv; rfl,
  by rintro S w S' w' vs x hx ⟨a, us, h1, h2, h3, h4⟩; exact ⟨a, us, h1, h2, h3.ext hx, K.ext hx h4⟩⟩
def kFn {α : Type} (f : FuncId) (K : Kd α) : Kd α :=
 ⟨1, fun S w vs y => ∃ cs, vs = [.func (.func f) #[] cs.toArray] ∧ K.rep S w cs y,
  by rintro S w vs x ⟨cs, rfl, _⟩; rfl,
  by rintro S w vs x ⟨cs, rfl, _⟩ v hv; simp at hv; subst hv; rfl,
  by rintro S w S' w' vs x hx ⟨cs, h1, h2⟩; exact ⟨cs, h1, K.ext hx h2⟩⟩
theorem kFn_get {f : FuncId} {v : Value} {y : α} (h : (kFn f K).rep S w [v] y) : ∃ cs, v = .func (.func f) #[] cs.toArray ∧ K.rep S w cs y := by
 obtain ⟨cs, h1, h2⟩ := h
 injection h1 with h1
 exact ⟨cs, h1, h2⟩
def kSum {α β : Type} (a : Kd α) (b : Kd β) (h : b.size = a.size) : Kd (α ⊕ β) :=
 ⟨a.size, fun S w vs x => match x with | .inl y => a.rep S w vs y | .inr y => b.rep S w vs y,
  by rintro S w vs (y | y) h'; exact a.len h'; exact (b.len h').trans h,
  by rintro S w vs (y | y) h'; exact a.one h'; exact b.one h',
  by rintro S w S' w' vs (y | y) hx h'; exact a.ext hx h'; exact b.ext hx h'⟩
theorem kSum_l {a : Kd α} {b : Kd β} {hs : b.size = a.size} {v : Value} {y : α} (h : Rp1 (kSum a b hs) S w v (.inl y)) : a.rep S w [v] y := h
theorem kSum_r {a : Kd α} {b : Kd β} {hs : b.size = a.size} {v : Value} {y : β} (h : Rp1 (kSum a b hs) S w v (.inr y)) : Rp1 b S w v y := h
end
end Go.Gx
