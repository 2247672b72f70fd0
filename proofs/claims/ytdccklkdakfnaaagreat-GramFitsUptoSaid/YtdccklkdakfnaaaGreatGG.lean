/-
 Tables that package variables hold; the library's Itoa. Generic: names no program.
-/
import Derived.Test.YtdccklkdakfnaaaGreatGQ
import Derived.Test.YtdccklkdakfnaaaGreatGI
import Derived.Shelf.Strconv.Itoa3
import Derived.Shelf.Strings.OnBuilder
import Derived.Shelf.Strings.Repeat
import Derived.Lib.LaidTab
set_option linter.unusedVariables false
namespace Go.Gx
open Go.RowKit
structure Tab (N : Nat) (w0 : World) (g : Nat) (k : IntKind) (zs : List Int) : Prop where
 lt : g < N
 blk : ∃ t f, w0.heap[g]? = some (.cells (zs.map (Value.int k)).toArray t f)
section
variable {P : Program} {N : Nat} {w0 w : World} {S : Fz} {L : List Ent} {g : Nat} {k : IntKind} {zs : List Int} {name : String}
theorem Tab.to (h : Tab N w0 g k zs) {zs' : List Int} (e : zs = zs') : Tab N w0 g k zs' := e ▸ h
theorem Tab.of (hn : P.globalNamed name = some g) (h : Lib.TabIs P w name k zs) : Tab w.heap.size w g k zs := by
 unfold Lib.TabIs World.var? at h
 rw [hn] at h
 simp only [Option.bind_some] at h
 split at h
 ·rename_i cs t f hh
  cases h
  exact ⟨(Array.getElem?_eq_some_iff.1 hh).1, t, f, hh⟩
 ·cases h
theorem Tab.is (h : Tab N w0 g k zs) (hp : Hp N w0 S w L) (hn : P.globalNamed name = some g) : Lib.TabIs P w name k zs := by
 obtain ⟨hlt, t, f, hb⟩ := h
 unfold Lib.TabIs World.var?
 rw [hn]
 simp only [Option.bind_some]
 rw [hp.below.block g hlt, hb]
theorem Tab.cell (h : Tab N w0 g k zs) (hp : Hp N w0 S w L) (j : Int) (h0 : 0 ≤ j) (h1 : j < (zs.length : Int)) : w.cell? ⟨g, j.toNat, none⟩ = some (.int k (gi zs j)) := by
 obtain ⟨hlt, t, f, hb⟩ := h
 have hlt' : j.toNat < zs.length := by omega
 simp only [World.cell?]
 rw [hp.below.block g hlt, hb]
 simp [gi_at zs hlt', hlt']
end
section
variable {P : Program} {fr : Array Value} {ds : List Deferred} {w : World} {X : Prop} {Y : Array Value → World → Prop}
end
theorem Hp.grown {N : Nat} {w0 w w' : World} {S : Fz} {L : List Ent} (h : Hp N w0 S w L) (hb : Below w.heap.size w w') : Hp N w0 S w' L :=
 ⟨h.below.trans (hb.mono h.le), Nat.le_trans h.le hb.size, fun b hb' => h.fz b (Nat.le_trans hb.size hb'), h.nd, h.np, h.ge, fun x hx => (h.at_ x hx).kept fun b hbx => by
  have hlt : b < w.heap.size := (h.at_ x hx).idsLt hbx
  exact ⟨hb.block b hlt, Nat.le_refl _⟩⟩
theorem Ext.grown {S : Fz} {w w' : World} (hb : Below w.heap.size w w') : Ext S w S w' :=
 ⟨fun _ => Nat.le_refl _, fun b i v _ hv => (by
  rw [← hv]
  refine hb.cell ?_
  simp only [World.cell?] at hv
  split at hv
  ·rename_i hh; exact (Array.getElem?_eq_some_iff.1 hh).1
  ·cases hv), fun _ => List.prefix_refl _⟩
theorem els_strs {S : Fz} {w : World} {cs : List Value} {xs : List ByteArray} (h : Els kStr S w cs xs) : cs = xs.map Value.string := by
 induction h with
 | nil => rfl
 | cons h1 _ ih => cases h1; rw [ih]; rfl
theorem join_calls {P : Program} {ρ : Shelf.Ren} (hl : Go.Proofs.Lays.n156 P ρ) (hx : Go.Proofs.Builder.Extra P ρ) {N : Nat} {w0 w : World} {S : Fz} {L : List Ent} (hp : Hp N w0 S w L) {A : Option Addr} {n c : Nat} {xs : List ByteArray} (hn : xs.length = n) (hr : Rd kStr S w A c xs) (sep : ByteArray)
  (h1 : (n : Int) ≤ 140737488355328) (h2 : ((joinB xs sep).size : Int) ≤ 140737488355328) :
  Calls P (ρ.f 156) #[.slice A n c, .string sep] w (Rets fun v w' => v = .string (joinB xs sep) ∧ Ext S w S w' ∧ Hp N w0 S w' L) := by
 subst hn
 cases xs with
 | nil => exact (Go.Proofs.Any.strings_Join_none hl hx A c sep w).mono fun e w' ⟨he, hw⟩ => ⟨_, he, rfl, by rw [hw]; exact Ext.refl _ _, by rw [hw]; exact hp⟩
 | cons x xs =>
  obtain ⟨hc, hA, hr⟩ := hr
  cases A with
  | none => rw [hA rfl] at hc; exact absurd hc (by simp)
  | some a =>
   obtain ⟨cs, he, hcs⟩ := hr a rfl
   have hcs2 : cs = (x :: xs).map Value.string := els_strs he
   subst hcs2
   obtain ⟨hs, hcell⟩ := hcs (by simp)
   obtain ⟨b, o, sp⟩ := a
   obtain rfl : sp = none := hs
   have hcell2 : ∀ (j : Nat) y, (x :: xs)[j]? = some y → w.cell? ⟨b, o + j, none⟩ = some (.string y) := fun j y hj => (hcell j (.string y) (by rw [List.getElem?_map, hj]; rfl)).2
   have hb : b < w.heap.size := by
    have hv := hcell2 0 x rfl
    simp only [World.cell?] at hv
    split at hv
    ·rename_i hh; exact (Array.getElem?_eq_some_iff.1 hh).1
    ·cases hv
   refine (Go.Proofs.Any.strings_Join hl hx b o c (x :: xs) sep w hcell2 hb (by omega) hc (by unfold joinB at h2; simp only [ByteArray.size, List.size_toArray] at h2; omega)).mono fun e w' ⟨he, hw⟩ => ⟨_, he, rfl, Ext.grown hw, hp.grown hw⟩
end Go.Gx
