/-
 The library's sort, by the library's contract: rows of one's own, sorted in place. Generic: names no program.
-/
import Derived.Test.YtbclkjbkebebeaaGreatGD
import Derived.Shelf.SortM.Plain
import Derived.Shelf.SortM.SortNone
import Derived.Sort.KeysCollected
import Derived.Lib.SlKeysI
set_option linter.unusedVariables false
set_option linter.unusedSectionVars false
namespace Go.Gx
open Go.RowKit
section
variable {α : Type} [Inhabited α] {enc : α → Value} {N : Nat} {w0 w : World} {S : Fz} {L : List Ent} {g : Nat} {e : TypeId} {cs : List Value} {cap : Nat}
theorem Hp.ahead (h : Hp N w0 S w L) (n : Nat) : Hp N w0 S (Sort.ahead w n) L :=
 ⟨⟨h.below.os, h.below.tape, h.below.output, h.below.size, h.below.block⟩, h.le, h.fz, h.nd, h.np, h.ge, fun x hx => (h.at_ x hx).kept fun _ _ => ⟨rfl, Nat.le_refl _⟩⟩
theorem Ext.ahead (n : Nat) : Ext S w S (Sort.ahead w n) := ⟨fun _ => Nat.le_refl _, fun _ _ _ _ h => h, fun _ => List.prefix_refl _⟩
theorem Hp.grow (h : Hp N w0 S w L) (os : Array Obj) : Hp N w0 S (Sort.grow w os) L :=
 ⟨⟨h.below.os, h.below.tape, h.below.output, by rw [Sort.size_grow]; exact Nat.le_trans h.below.size (Nat.le_add_right _ _), fun b hb => by rw [Sort.heap_grow_old _ _ (Nat.lt_of_lt_of_le hb h.le)]; exact h.below.block b hb⟩, by rw [Sort.size_grow]; exact Nat.le_trans h.le (Nat.le_add_right _ _),
  fun b hb => h.fz b (by rw [Sort.size_grow] at hb; omega), h.nd, h.np, h.ge, fun x hx => (h.at_ x hx).kept fun b hb => ⟨Sort.heap_grow_old _ _ ((h.at_ x hx).idsLt hb), Nat.le_refl _⟩⟩
theorem Ext.grow (os : Array Obj) : Ext S w S (Sort.grow w os) := ⟨fun _ => Nat.le_refl _, fun b i v _ h => by rw [Sort.cell?_grow _ _ _ (cellLt h)]; exact h, fun _ => List.prefix_refl _⟩
theorem put_hp (hp : Hp N w0 S w ((some g, .row e cs cap 0) :: L)) (d : Array α) (hd : d.size = cs.length) (n : Nat) (os : Array Obj) :
  Ext S w S (Sort.grow (Sort.putRow enc (Sort.ahead w n) g 0 d) os) ∧ Hp N w0 S (Sort.grow (Sort.putRow enc (Sort.ahead w n) g 0 d) os) ((some g, .row e (d.toList.map enc) cap 0) :: L) := by
 have h1 := hp.ahead n
 have hx0 : Ext S w S (Sort.ahead w n) := Ext.ahead n
 generalize Sort.ahead w n = w1 at h1 hx0
 obtain ⟨cur, hh, hs, ht, hl, hf, hk⟩ := h1.at_ _ (List.mem_cons_self ..)
 have hg : (Sort.putRow enc w1 g 0 d).heap[g]? = some (.cells (Sort.putCells enc 0 d cur) e (0, 0)) := by
  simp only [Sort.putRow, Sort.mapBlock, Array.getElem?_modify, if_pos, hh, Option.map_some]
  rfl
 have hne : ∀ b, b ≠ g → (Sort.putRow enc w1 g 0 d).heap[b]? = w1.heap[b]? := fun b hb => by
  simp only [Sort.putRow, Sort.mapBlock, Array.getElem?_modify, if_neg (Ne.symm hb)]
 have hsz : (Sort.putRow enc w1 g 0 d).heap.size = w1.heap.size := by simp [Sort.putRow, Sort.mapBlock]
 have hx : Ext S w1 S (Sort.putRow enc w1 g 0 d) := ⟨fun _ => Nat.le_refl _, fun b i v hi hv => by
  have hb : b ≠ g := by rintro rfl; omega
  simp only [World.cell?, hne b hb] at hv ⊢
  exact hv, fun _ => List.prefix_refl _⟩
 have h2 : Hp N w0 S (Sort.putRow enc w1 g 0 d) ((some g, .row e (d.toList.map enc) cap 0) :: L) := by
  refine h1.write _ rfl rfl rfl hsz hne (fun _ _ => rfl) ⟨_, hg, by simp [Sort.putCells, hs], ?_, by simp [hd]; exact hl, hf, Nat.zero_le _⟩
  apply List.ext_getElem?
  intro k
  simp only [List.getElem?_take, List.length_map, Array.length_toList, List.getElem?_map, Sort.putCells, Array.getElem?_toList, Array.getElem?_mapIdx]
  by_cases hk : k < d.size
  ·rw [if_pos hk]
   have hc : k < cur.size := by rw [hs]; omega
   rw [Array.getElem?_eq_getElem hc, Array.getElem?_eq_getElem hk]
   simp [hk]
  ·rw [if_neg hk, Array.getElem?_eq_none (by omega)]
   rfl
 exact ⟨hx0.trans (hx.trans (Ext.grow os)), h2.grow os⟩
theorem srtS_len {xs : List ByteArray} {n : Nat} (h : xs.length = n) : (srtS xs).length = n := by simp [srtS, h]
theorem srtS_perm {a b : List ByteArray} (h : a.Perm b) : srtS a = srtS b := by
 unfold srtS
 rw [show (a.map (·.data.toList)).mergeSort (fun x y => decide (x ≤ y)) = (b.map (·.data.toList)).mergeSort (fun x y => decide (x ≤ y)) from Go.mergeSort_of_perm (h.map _)]
theorem srtI_perm {a b : List Int} (h : a.Perm b) : srtI a = srtI b := Go.mergeSort_of_perm_i h
theorem els_mkS {S : Fz} {w : World} : ∀ xs : List ByteArray, Els kStr S w (xs.map Value.string) xs
 | [] => .nil
 | x :: xs => Els.cons (K := kStr) (vs := [.string x]) rfl (els_mkS xs)
theorem els_ofS {S : Fz} {w : World} {cs : List Value} {xs : List ByteArray} (h : Els kStr S w cs xs) : cs = xs.map Value.string := by
 induction h with
 | nil => rfl
 | cons h1 _ ih => cases h1; rw [ih]; rfl
theorem holds_of (hp : Hp N w0 S w ((some g, .row e cs cap 0) :: L)) {d : Array α} (hd : cs = d.toList.map enc) : Sort.Holds enc w g 0 d := fun j hj => by
 have hat := hp.mem 0 rfl
 refine ⟨?_, hat.frozen _⟩
 rw [Nat.zero_add]
 refine hat.cell j _ ?_
 rw [hd, List.getElem?_map, Array.getElem?_toList, Array.getElem?_eq_getElem hj]
 simp [hj]
theorem sortS_calls {P : Program} {ρ : Shelf.Ren} (hl : Go.Proofs.SlLaysM.n6 P ρ) {G : Option Nat} {n c : Nat} {xs : List ByteArray} (hp : Hp N w0 S w ((G, .row e cs (c * kStr.size) 0) :: L)) (he : Els kStr S w cs xs) (hn : xs.length = n) (hsz : (n : Int) ≤ 1099511627776) :
  Calls P (ρ.f 6) #[.slice (Gp G) n c] w (Rets fun v w' => v = .tuple #[] ∧ Ext S w S w' ∧ ∃ cs', Hp N w0 S w' ((G, .row e cs' (c * kStr.size) 0) :: L) ∧ Els kStr S w' cs' (srtS xs)) := by
 subst hn
 have hcs := els_ofS he
 cases G with
 | none =>
  have h0 := (hp.mem 0 rfl).1
  rw [hcs, List.map_eq_nil_iff] at h0
  subst h0
  have e0 : srtS [] = [] := by simp [srtS]
  exact (Go.Proofs.AnyM.slices_Sort_string_none hl _ c w).mono fun q w' ⟨hq, hw⟩ => ⟨_, hq, rfl, by rw [hw]; exact Ext.refl _ _, cs, by rw [hw]; exact hp, by rw [hw, e0]; exact he⟩
 | some g =>
  have hlt := hp.lt (mem_ids (List.mem_cons_self ..))
  have hm : cs = (xs.map (·.data.toList)).toArray.toList.map Go.Proofs.encStr := by rw [hcs]; simp [Go.Proofs.encStr]
  have := Go.Proofs.AnyM.slices_Sort_string hl g 0 c (xs.map (·.data.toList)) w (holds_of hp hm) hlt (by simp; omega)
  rw [List.length_map] at this
  refine this.mono fun q w' ⟨hq, k, os, hw⟩ => ?_
  obtain ⟨hx, hp'⟩ := put_hp (enc := Go.Proofs.encStr) hp ((xs.map (·.data.toList)).mergeSort fun x y => decide (x ≤ y)).toArray (by rw [hcs]; simp) k os
  rw [← hw] at hx hp'
  refine ⟨_, hq, rfl, hx, _, hp', ?_⟩
  have : ((xs.map (·.data.toList)).mergeSort fun x y => decide (x ≤ y)).toArray.toList.map Go.Proofs.encStr = (srtS xs).map Value.string := by simp [srtS, Go.Proofs.encStr]
  rw [this]; exact els_mkS _
end
end Go.Gx
