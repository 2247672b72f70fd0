/-
 Memory: frozen cells, blocks of one's own, what a value stands for. Generic: names no program.
-/
import Derived.Test.YtbclkjbkebebeaaGreatG0
import Derived.Maps.AppendAt
import Derived.Laws.MakeOwn
import Derived.Laws.OwnMore
import Derived.Laws.CopyRow
import Derived.Deep.Draws
set_option linter.unusedVariables false
namespace Go.Gx
open Go.RowKit
structure Fz where
 f : Nat → Nat
 pl : Nat → List Nat
instance : CoeFun Fz (fun _ => Nat → Nat) := ⟨Fz.f⟩
structure Ext (S : Fz) (w : World) (S' : Fz) (w' : World) : Prop where
 le : ∀ b, S b ≤ S' b
 cell : ∀ b i v, i < S b → w.cell? ⟨b, i, none⟩ = some v → w'.cell? ⟨b, i, none⟩ = some v
 pl : ∀ t, S.pl t <+: S'.pl t
theorem Ext.refl (S : Fz) (w : World) : Ext S w S w := ⟨fun _ => Nat.le_refl _, fun _ _ _ _ h => h, fun _ => List.prefix_refl _⟩
theorem Ext.trans {S S1 S2 : Fz} {w w1 w2 : World} (h : Ext S w S1 w1) (k : Ext S1 w1 S2 w2) : Ext S w S2 w2 :=
 ⟨fun b => Nat.le_trans (h.le b) (k.le b), fun b i v hi hv => k.cell b i v (Nat.lt_of_lt_of_le hi (h.le b)) (h.cell b i v hi hv), fun t => (h.pl t).trans (k.pl t)⟩
inductive Blk where
 | row (t : TypeId) (cs : List Value) (cap : Nat) (k : Nat)
 | obj (o : Obj)
 | seg (t : Nat) (E : List (Nat × Obj))
def Blk.bks : Blk → List Nat
 | .seg _ E => E.map (·.1)
 | _ => []
def Blk.pno : Blk → Option Nat
 | .seg t _ => some t
 | _ => none
def Obj.noCells : Obj → Bool
 | .cells .. => false
 | _ => true
def Blk.At (S : Fz) (w : World) : Option Nat → Blk → Prop
 | some g, .row t cs cap k => ∃ cur : Array Value, w.heap[g]? = some (.cells cur t (0, 0)) ∧ cur.size = cap ∧ cur.toList.take cs.length = cs ∧ cs.length ≤ cap ∧ S g ≤ k ∧ k ≤ cs.length
 | none, .row _ cs cap k => cs = [] ∧ cap = 0 ∧ k = 0
 | some g, .obj o => w.heap[g]? = some o ∧ Obj.noCells o = true ∧ S g = 0
 | none, .obj _ => False
 | none, .seg t E => E.map (·.1) = S.pl t ∧ ∀ x ∈ E, w.heap[x.1]? = some x.2 ∧ S x.1 = 0
 | some _, .seg _ _ => False
abbrev Ent := Option Nat × Blk
def ids (e : Ent) : List Nat := e.1.toList ++ e.2.bks
def pid (e : Ent) : Option Nat := e.2.pno
structure Hp (N : Nat) (w0 : World) (S : Fz) (w : World) (L : List Ent) : Prop where
 below : Below N w0 w
 le : N ≤ w.heap.size
 fz : ∀ b, w.heap.size ≤ b → S b = 0
 nd : (L.flatMap ids).Nodup
 np : (L.filterMap pid).Nodup
 ge : ∀ g ∈ L.flatMap ids, N ≤ g
 at_ : ∀ x ∈ L, Blk.At S w x.1 x.2
theorem Blk.At.lt {S : Fz} {w : World} {g : Nat} {B : Blk} (h : B.At S w (some g)) : g < w.heap.size := by
 rcases Nat.lt_or_ge g w.heap.size with hl | hl
 ·exact hl
 ·cases B with
  | row t cs cap k => obtain ⟨cur, hh, _⟩ := h; rw [Array.getElem?_eq_none hl] at hh; cases hh
  | obj o => obtain ⟨hh, _⟩ := h; rw [Array.getElem?_eq_none hl] at hh; cases hh
  | seg t E => exact h.elim
theorem Blk.At.noIds {S : Fz} {w : World} {g : Nat} {B : Blk} (h : B.At S w (some g)) : B.bks = [] := by
 cases B with
 | seg t E => exact h.elim
 | _ => rfl
theorem Blk.At.noPid {S : Fz} {w : World} {g : Nat} {B : Blk} (h : B.At S w (some g)) : pid (some g, B) = none := by
 cases B with
 | seg t E => exact h.elim
 | _ => rfl
theorem Blk.At.kept {S S' : Fz} {w w' : World} {g : Option Nat} {B : Blk} (h : B.At S w g) (hh : ∀ b ∈ ids (g, B), w'.heap[b]? = w.heap[b]? ∧ S' b ≤ S b) (hpl : ∀ t, pid (g, B) = some t → S'.pl t = S.pl t := by exact fun _ _ => rfl) : B.At S' w' g := by
 cases g with
 | none =>
  cases B with
  | seg t E =>
   refine ⟨by rw [hpl t rfl]; exact h.1, ?_⟩
   intro x hx
   obtain ⟨h1, h2⟩ := hh x.1 (by simp only [ids, Option.toList_none, List.nil_append, Blk.bks]; exact List.mem_map_of_mem hx)
   obtain ⟨h3, h4⟩ := h.2 x hx
   exact ⟨by rw [h1]; exact h3, by omega⟩
  | _ => exact h
 | some b =>
  obtain ⟨h1, h2⟩ := hh b (by simp [ids])
  cases B with
  | seg t E => exact h.elim
  | row t cs cap k => obtain ⟨cur, a1, a2, a3, a4, a5, a6⟩ := h; exact ⟨cur, by rw [h1]; exact a1, a2, a3, a4, Nat.le_trans h2 a5, a6⟩
  | obj o => obtain ⟨a1, a2, a3⟩ := h; exact ⟨by rw [h1]; exact a1, a2, by omega⟩
section
variable {N : Nat} {w0 w w' : World} {S S' : Fz} {L L' : List Ent} {g : Nat} {B : Blk} {e : Ent} {t : TypeId} {cs : List Value} {cap k : Nat}
theorem perm_front : ∀ (L : List Ent) (i : Nat) (e : Ent), L[i]? = some e → (e :: L.eraseIdx i).Perm L
 | [], i, e, h => by simp at h
 | x :: L, 0, e, h => by simp at h; subst h; simp
 | x :: L, i + 1, e, h => by
  have := perm_front L i e (by simpa using h)
  simp only [List.eraseIdx_cons_succ]
  exact (List.Perm.swap x e _).trans (this.cons x)
theorem mem_ids (h : ((some g, B) : Ent) ∈ L) : g ∈ L.flatMap ids := List.mem_flatMap.2 ⟨_, h, by simp [ids]⟩
theorem Blk.At.idsLt {x : Ent} (h : x.2.At S w x.1) (hg : g ∈ ids x) : g < w.heap.size := by
 obtain ⟨o, B⟩ := x
 simp only [ids, List.mem_append, Option.mem_toList] at hg
 rcases hg with hg | hg
 ·subst hg; exact h.lt
 ·cases B with
  | seg t E =>
   cases o with
   | some _ => exact h.elim
   | none =>
    obtain ⟨y, hy, rfl⟩ := List.mem_map.1 hg
    exact (Array.getElem?_eq_some_iff.1 (h.2 y hy).1).1
  | _ => simp [Blk.bks] at hg
theorem Hp.lt (h : Hp N w0 S w L) (hg : g ∈ L.flatMap ids) : g < w.heap.size := by
 obtain ⟨x, hm, e⟩ := List.mem_flatMap.1 hg
 exact (h.at_ _ hm).idsLt e
theorem Hp.draw (h : Hp N w0 S w L) : Hp N w0 S w.drew L := ⟨⟨h.below.os, h.below.tape, h.below.output, h.below.size, h.below.block⟩, h.le, h.fz, h.nd, h.np, h.ge, fun x hx => (h.at_ x hx).kept fun _ _ => ⟨rfl, Nat.le_refl _⟩⟩
theorem Ext.draw : Ext S w S w.drew := ⟨fun _ => Nat.le_refl _, fun _ _ _ _ h => h, fun _ => List.prefix_refl _⟩
theorem Hp.front (h : Hp N w0 S w L) (i : Nat) (e : Ent) (hi : L[i]? = some e) : Hp N w0 S w (e :: L.eraseIdx i) := by
 have hp := perm_front L i e hi
 refine ⟨h.below, h.le, h.fz, ?_, ?_, ?_, ?_⟩
 ·exact (hp.flatMap_right _).nodup_iff.2 h.nd
 ·exact (hp.filterMap _).nodup_iff.2 h.np
 ·intro g hg; exact h.ge g ((hp.flatMap_right _).mem_iff.1 hg)
 ·intro x hx; exact h.at_ x (hp.mem_iff.1 hx)
theorem perm_set : ∀ (L : List Ent) (i : Nat) (e e' : Ent), L[i]? = some e → (L.set i e').Perm (e' :: L.eraseIdx i)
 | [], i, e, e', h => by simp at h
 | x :: L, 0, e, e', h => by simp
 | x :: L, i + 1, e, e', h => by
  have := perm_set L i e e' (by simpa using h)
  simp only [List.eraseIdx_cons_succ, List.set_cons_succ]
  exact (this.cons x).trans (List.Perm.swap e' x _)
theorem Hp.perm (h : Hp N w0 S w L) (hp : L'.Perm L) : Hp N w0 S w L' :=
 ⟨h.below, h.le, h.fz, (hp.flatMap_right _).nodup_iff.2 h.nd, (hp.filterMap _).nodup_iff.2 h.np, fun g hg => h.ge g ((hp.flatMap_right _).mem_iff.1 hg), fun x hx => h.at_ x (hp.mem_iff.1 hx)⟩
theorem Hp.back {i : Nat} {e' : Ent} (hi : L[i]? = some e) (h : Hp N w0 S w (e' :: L.eraseIdx i)) : Hp N w0 S w (L.set i e') := h.perm (perm_set L i e e' hi)
theorem Hp.mem (h : Hp N w0 S w L) (i : Nat) (hi : L[i]? = some e) : e.2.At S w e.1 := h.at_ e (List.mem_of_getElem? hi)
theorem Hp.drop (h : Hp N w0 S w (e :: L)) : Hp N w0 S w L := by
 refine ⟨h.below, h.le, h.fz, ?_, ?_, ?_, fun x hx => h.at_ x (.tail _ hx)⟩
 ·have := h.nd
  rw [List.flatMap_cons] at this
  exact (List.nodup_append.1 this).2.1
 ·have := h.np
  rw [List.filterMap_cons] at this
  split at this
  ·exact this
  ·exact (List.nodup_cons.1 this).2
 ·intro g hg
  refine h.ge g ?_
  rw [List.flatMap_cons]
  exact List.mem_append_right _ hg
theorem Hp.alloc_ (h : Hp N w0 S w L) (o : Obj) (B : Blk) (hB : B.At S (w.alloc o) (some w.heap.size)) : Hp N w0 S (w.alloc o) ((some w.heap.size, B) :: L) := by
 have hi : ids (some w.heap.size, B) = [w.heap.size] := by simp [ids, hB.noIds]
 refine ⟨h.below.alloc h.le o, by have := h.le; simp; omega, fun b hb => h.fz b (by simp at hb; omega), ?_, by rw [List.filterMap_cons, hB.noPid]; exact h.np, ?_, ?_⟩
 ·rw [List.flatMap_cons, hi, List.singleton_append, List.nodup_cons]
  exact ⟨fun hm => absurd (h.lt hm) (Nat.lt_irrefl _), h.nd⟩
 ·intro g hg
  rw [List.flatMap_cons, hi, List.singleton_append, List.mem_cons] at hg
  rcases hg with rfl | hg
  ·exact h.le
  ·exact h.ge g hg
 ·intro x hx
  rcases List.mem_cons.1 hx with rfl | hx
  ·exact hB
  ·refine (h.at_ x hx).kept fun b hb => ⟨?_, Nat.le_refl _⟩
   exact Below.heap_alloc w o b ((h.at_ _ hx).idsLt hb)
theorem heap_new (w : World) (o : Obj) : (w.alloc o).heap[w.heap.size]? = some o := by
 show (w.heap.push o)[w.heap.size]? = _
 rw [Array.getElem?_push, if_pos rfl]
theorem cellLt {a : Addr} {v : Value} (h : w.cell? a = some v) : a.block < w.heap.size := World.block_lt_of_cell? w a h
theorem Ext.alloc (S : Fz) (w : World) (o : Obj) : Ext S w S (w.alloc o) :=
 ⟨fun _ => Nat.le_refl _, fun b i _ _ hv => (World.cell?_alloc_lt w o ⟨b, i, none⟩ (cellLt hv)).trans hv, fun _ => List.prefix_refl _⟩
theorem Hp.alloc (h : Hp N w0 S w L) (t : TypeId) (cs : List Value) : Hp N w0 S (w.alloc (.cells cs.toArray t)) ((some w.heap.size, .row t cs cs.length 0) :: L) :=
 h.alloc_ _ _ ⟨cs.toArray, heap_new w _, by simp, by simp, Nat.le_refl _, by rw [h.fz _ (Nat.le_refl _)]; exact Nat.le_refl _, Nat.zero_le _⟩
theorem Hp.allocObj (h : Hp N w0 S w L) (o : Obj) (ho : Obj.noCells o = true) : Hp N w0 S (w.alloc o) ((some w.heap.size, .obj o) :: L) :=
 h.alloc_ _ _ ⟨heap_new w _, ho, h.fz _ (Nat.le_refl _)⟩
theorem Hp.write (h : Hp N w0 S w ((some g, B) :: L)) (B' : Blk) (hos : w'.os = w.os) (htape : w'.tape = w.tape) (hout : w'.output = w.output) (hsize : w'.heap.size = w.heap.size)
  (hblk : ∀ b, b ≠ g → w'.heap[b]? = w.heap[b]?) (hle : ∀ b, b ≠ g → S' b = S b) (hB : B'.At S' w' (some g)) (hpl : S'.pl = S.pl := by rfl) : Hp N w0 S' w' ((some g, B') :: L) := by
 have hi : ids (some g, B) = [g] := by simp [ids, (h.at_ _ (List.mem_cons_self ..)).noIds]
 have hi' : ids (some g, B') = [g] := by simp [ids, hB.noIds]
 have hnd := h.nd
 have hge := h.ge
 have hnp := h.np
 rw [List.filterMap_cons, (h.at_ _ (List.mem_cons_self ..)).noPid] at hnp
 replace hnp : (((some g, B') :: L).filterMap pid).Nodup := by rw [List.filterMap_cons, hB.noPid]; exact hnp
 rw [List.flatMap_cons, hi, List.singleton_append] at hnd hge
 have hg : N ≤ g := hge g (by simp)
 have hlt : g < w.heap.size := h.lt (mem_ids (List.mem_cons_self ..))
 refine ⟨h.below.trans ⟨hos, htape, hout, Nat.le_of_eq hsize.symm, fun b hb => hblk b (by omega)⟩, by rw [hsize]; exact h.le, fun b hb => ?_, ?_, hnp, ?_, ?_⟩
 ·rw [hsize] at hb
  rw [hle b (by omega)]
  exact h.fz b hb
 ·rw [List.flatMap_cons, hi', List.singleton_append]; exact hnd
 ·rw [List.flatMap_cons, hi', List.singleton_append]; exact hge
 ·intro x hx
  rcases List.mem_cons.1 hx with rfl | hx'
  ·exact hB
  ·refine (h.at_ x (.tail _ hx')).kept (fun b hb => ?_) (fun t _ => by rw [hpl])
   have hne : b ≠ g := by
    intro e
    subst e
    exact (List.nodup_cons.1 hnd).1 (List.mem_flatMap.2 ⟨x, hx', hb⟩)
   exact ⟨hblk b hne, Nat.le_of_eq (hle b hne)⟩
theorem Blk.At.cell (h : (Blk.row t cs cap k).At S w (some g)) (i : Nat) (v : Value) (hi : cs[i]? = some v) : w.cell? ⟨g, i, none⟩ = some v := by
 obtain ⟨cur, hh, hs, ht, _⟩ := h
 have hlt : i < cs.length := (List.getElem?_eq_some_iff.1 hi).1
 simp only [World.cell?, hh]
 have : cur.toList[i]? = some v := by
  rw [← ht, List.getElem?_take, if_pos hlt] at hi
  exact hi
 simpa using this
theorem Blk.At.frozen (h : (Blk.row t cs cap k).At S w (some g)) (i : Nat) : w.frozen? ⟨g, i, none⟩ = false := by
 obtain ⟨cur, hh, _⟩ := h
 simp [World.frozen?, hh]
theorem Hp.set0 (h : Hp N w0 S w ((some g, .row t cs cap k) :: L)) (i : Nat) (hk : k ≤ i) (v : Value) :
  Ext S w S (w.setCell ⟨g, i, none⟩ v) ∧ Hp N w0 S (w.setCell ⟨g, i, none⟩ v) ((some g, .row t (cs.set i v) cap k) :: L) := by
 have hB := h.at_ _ (List.mem_cons_self ..)
 obtain ⟨cur, hh, hs, ht, hl, hf, hk'⟩ := hB
 refine ⟨⟨fun _ => Nat.le_refl _, fun b j u hj hu => ?_, fun _ => List.prefix_refl _⟩, ?_⟩
 ·rw [World.cell?_setCell_other]
  ·exact hu
  ·intro e
   injection e with e1 e2
   subst e1 e2
   omega
 ·refine h.write _ rfl rfl rfl (by simp) (fun b hb => Below.heap_setCell w _ v b (fun e => hb e)) (fun _ _ => rfl) ?_
  refine ⟨cur.setIfInBounds i v, by simp [World.setCell, Array.getElem?_modify, hh], by simp [hs], ?_, by simpa using hl, hf, by simpa using hk'⟩
  simp only [List.length_set, Array.toList_setIfInBounds, List.take_set, ht]
def fzSet (S : Fz) (g n : Nat) : Fz := ⟨fun b => if b = g then max (S b) n else S b, S.pl⟩
theorem fzSet_app {S : Fz} {g n b : Nat} : fzSet S g n b = if b = g then max (S b) n else S b := rfl
theorem Hp.freeze0 (h : Hp N w0 S w ((some g, .row t cs cap k) :: L)) (n : Nat) (hn : n ≤ cs.length) :
  Ext S w (fzSet S g n) w ∧ Hp N w0 (fzSet S g n) w ((some g, .row t cs cap (max k n)) :: L) := by
 refine ⟨⟨fun b => by rw [fzSet_app]; split <;> omega, fun b i v _ hv => hv, fun _ => List.prefix_refl _⟩, ?_⟩
 obtain ⟨cur, hh, hs, ht, hl, hf, hk'⟩ := h.at_ _ (List.mem_cons_self ..)
 refine h.write _ rfl rfl rfl rfl (fun _ _ => rfl) (fun b hb => by simp [fzSet_app, hb]) ⟨cur, hh, hs, ht, hl, ?_, by omega⟩
 simp only [fzSet_app, if_pos]
 omega
theorem Hp.set (h : Hp N w0 S w L) (j : Nat) (hj : L[j]? = some (some g, .row t cs cap k)) (i : Nat) (hk : k ≤ i) (v : Value) :
  Ext S w S (w.setCell ⟨g, i, none⟩ v) ∧ Hp N w0 S (w.setCell ⟨g, i, none⟩ v) (L.set j (some g, .row t (cs.set i v) cap k)) :=
 let ⟨a, b⟩ := (h.front j _ hj).set0 i hk v
 ⟨a, b.back hj⟩
theorem Hp.freeze (h : Hp N w0 S w L) (j : Nat) (hj : L[j]? = some (some g, .row t cs cap k)) (n : Nat) (hn : n ≤ cs.length) :
  Ext S w (fzSet S g n) w ∧ Hp N w0 (fzSet S g n) w (L.set j (some g, .row t cs cap (max k n))) :=
 let ⟨a, b⟩ := (h.front j _ hj).freeze0 n hn
 ⟨a, b.back hj⟩
end
/-! ### What cells stand for -/
structure Kd (α : Type) where
 size : Nat
 rep : Fz → World → List Value → α → Prop
 len : ∀ {S w vs x}, rep S w vs x → vs.length = size
 one : ∀ {S w vs x}, rep S w vs x → ∀ v ∈ vs, v.oneCell' = true
 ext : ∀ {S w S' w' vs x}, Ext S w S' w' → rep S w vs x → rep S' w' vs x
def Cs (S : Fz) (w : World) (a : Addr) (vs : List Value) : Prop :=
 vs ≠ [] → a.spot = none ∧ ∀ j v, vs[j]? = some v → a.off + j < S a.block ∧ w.cell? ⟨a.block, a.off + j, none⟩ = some v
theorem Cs.ext {S S' : Fz} {w w' : World} {a : Addr} {vs : List Value} (h : Cs S w a vs) (hx : Ext S w S' w') : Cs S' w' a vs := fun hne =>
 let ⟨h1, h2⟩ := h hne
 ⟨h1, fun j v hj => let ⟨a1, a2⟩ := h2 j v hj; ⟨Nat.lt_of_lt_of_le a1 (hx.le _), hx.cell _ _ _ a1 a2⟩⟩
theorem Cs.add {S : Fz} {w : World} {a : Addr} {us vs : List Value} (h : Cs S w a (us ++ vs)) : Cs S w (a.add us.length) vs := fun hne => by
 obtain ⟨h1, h2⟩ := h (by intro e; exact hne (List.append_eq_nil_iff.1 e).2)
 have hb : (a.add us.length).block = a.block ∧ (a.add us.length).off = a.off + us.length ∧ (a.add us.length).spot = none := by
  unfold Addr.add
  split <;> simp_all
 refine ⟨hb.2.2, fun j v hj => ?_⟩
 have := h2 (us.length + j) v (by rw [List.getElem?_append_right (by omega)]; simpa using hj)
 rw [hb.1, hb.2.1]
 simpa [Nat.add_assoc] using this
theorem Cs.left {S : Fz} {w : World} {a : Addr} {us vs : List Value} (h : Cs S w a (us ++ vs)) : Cs S w a us := fun hne => by
 obtain ⟨h1, h2⟩ := h (by intro e; exact hne (List.append_eq_nil_iff.1 e).1)
 refine ⟨h1, fun j v hj => h2 j v ?_⟩
 rw [List.getElem?_append_left (List.getElem?_eq_some_iff.1 hj).1]
 exact hj
theorem Cs.cell {S : Fz} {w : World} {a : Addr} {vs : List Value} (h : Cs S w a vs) (j : Nat) (v : Value) (hj : vs[j]? = some v) : w.cell? (a.add j) = some v := by
 obtain ⟨h1, h2⟩ := h (by rintro rfl; simp at hj)
 have := (h2 j v hj).2
 unfold Addr.add
 split
 ·rename_i h0; subst h0; obtain ⟨b, o, s⟩ := a; simp only at h1; subst h1; simpa using this
 ·exact this
inductive Els {α : Type} (K : Kd α) (S : Fz) (w : World) : List Value → List α → Prop
 | nil : Els K S w [] []
 | cons {vs : List Value} {cs : List Value} {x : α} {xs : List α} : K.rep S w vs x → Els K S w cs xs → Els K S w (vs ++ cs) (x :: xs)
section
variable {α : Type} {K : Kd α} {S S' : Fz} {w w' : World} {cs ds : List Value} {xs ys : List α}
theorem Els.ext (h : Els K S w cs xs) (hx : Ext S w S' w') : Els K S' w' cs xs := by
 induction h with
 | nil => exact .nil
 | cons h _ ih => exact .cons (K.ext hx h) ih
theorem Els.length (h : Els K S w cs xs) : cs.length = xs.length * K.size := by
 induction h with
 | nil => simp
 | cons h _ ih => simp [ih, K.len h, Nat.succ_mul]; omega
theorem Els.one (h : Els K S w cs xs) : ∀ v ∈ cs, v.oneCell' = true := by
 induction h with
 | nil => simp
 | cons h _ ih => intro v hv; rcases List.mem_append.1 hv with h' | h'; exact K.one h v h'; exact ih v h'
theorem Els.append (h : Els K S w cs xs) (k : Els K S w ds ys) : Els K S w (cs ++ ds) (xs ++ ys) := by
 induction h with
 | nil => exact k
 | cons h _ ih => rw [List.append_assoc]; exact .cons h ih
theorem Els.single {vs : List Value} {x : α} (h : K.rep S w vs x) : Els K S w vs [x] := by
 have := Els.cons h (Els.nil (K := K) (S := S) (w := w))
 simpa using this
theorem Els.take (h : Els K S w cs xs) (n : Nat) : Els K S w (cs.take (n * K.size)) (xs.take n) := by
 induction h generalizing n with
 | nil => simp; exact .nil
 | cons h _ ih =>
  cases n with
  | zero => simp; exact .nil
  | succ n =>
   rw [List.take_succ_cons, show (n + 1) * K.size = K.size + n * K.size by rw [Nat.succ_mul]; omega, ← K.len h, List.take_length_add_append]
   exact .cons h (by rw [K.len h]; exact ih n)
theorem Els.drop (h : Els K S w cs xs) (n : Nat) : Els K S w (cs.drop (n * K.size)) (xs.drop n) := by
 induction h generalizing n with
 | nil => simp; exact .nil
 | cons h h' ih =>
  cases n with
  | zero => simp; exact .cons h h'
  | succ n =>
   rw [List.drop_succ_cons, show (n + 1) * K.size = K.size + n * K.size by rw [Nat.succ_mul]; omega, ← K.len h, List.drop_length_add_append]
   rw [K.len h]; exact ih n
theorem Els.at_ (h : Els K S w cs xs) (i : Nat) (hi : i < xs.length) : ∃ us vs ds, cs = us ++ (vs ++ ds) ∧ us.length = i * K.size ∧ K.rep S w vs xs[i] := by
 induction h generalizing i with
 | nil => simp at hi
 | cons h h' ih =>
  rename_i vs cs x xs
  cases i with
  | zero => exact ⟨[], vs, cs, rfl, by simp, h⟩
  | succ i =>
   obtain ⟨us, vs', ds, e, hl, hr⟩ := ih i (by simpa using hi)
   exact ⟨vs ++ us, vs', ds, by rw [e]; simp, by simp [hl, K.len h, Nat.succ_mul]; omega, hr⟩
theorem Els.set (h : Els K S w cs xs) (i : Nat) (hi : i < xs.length) {vs : List Value} {x : α} (hv : K.rep S w vs x) : Els K S w (cs.take (i * K.size) ++ (vs ++ cs.drop ((i + 1) * K.size))) (xs.set i x) := by
 have e : xs.set i x = xs.take i ++ ([x] ++ xs.drop (i + 1)) := by
  rw [List.set_eq_take_append_cons_drop, if_pos hi]
  rfl
 rw [e]
 exact (h.take i).append ((Els.single hv).append (h.drop (i + 1)))
end
def Rd {α : Type} (K : Kd α) (S : Fz) (w : World) (A : Option Addr) (c : Nat) (xs : List α) : Prop :=
 xs.length ≤ c ∧ (A = none → c = 0) ∧ ∀ a, A = some a → ∃ cs, Els K S w cs xs ∧ Cs S w a cs
section
variable {α : Type} {K : Kd α} {S S' : Fz} {w w' : World} {A : Option Addr} {c : Nat} {xs : List α}
theorem Rd.ext (h : Rd K S w A c xs) (hx : Ext S w S' w') : Rd K S' w' A c xs :=
 ⟨h.1, h.2.1, fun a ha => let ⟨cs, h1, h2⟩ := h.2.2 a ha; ⟨cs, h1.ext hx, h2.ext hx⟩⟩
theorem Rd.nil (hc : A = none → c = 0) : Rd K S w A c [] := ⟨Nat.zero_le _, hc, fun _ _ => ⟨[], .nil, fun h => absurd rfl h⟩⟩
theorem Rd.none_ : Rd K S w none 0 [] := Rd.nil fun _ => rfl
theorem Rd.cut (h : Rd K S w A c xs) (l m : Nat) (hl : l ≤ m) (hm : m ≤ xs.length) : Rd K S w (if c = l then A else A.map (·.add (l * K.size))) (c - l) ((xs.take m).drop l) := by
 have hlen : ((xs.take m).drop l).length = m - l := by simp; omega
 have h1 := h.1
 refine ⟨by omega, ?_, ?_⟩
 ·split
  ·intro _; omega
  ·intro e
   have : A = none := by cases A <;> simp_all
   have := h.2.1 this; omega
 ·intro a ha
  split at ha
  ·rename_i hcl
   have : (xs.take m).drop l = [] := List.eq_nil_of_length_eq_zero (by omega)
   rw [this]
   exact ⟨[], .nil, fun h => absurd rfl h⟩
  ·cases A with
   | none => simp at ha
   | some a0 =>
    simp only [Option.map_some, Option.some.injEq] at ha
    subst ha
    obtain ⟨cs, he, hc⟩ := h.2.2 a0 rfl
    refine ⟨(cs.take (m * K.size)).drop (l * K.size), (he.take m).drop l, ?_⟩
    have hsplit : cs = (cs.take (l * K.size)) ++ ((cs.take (m * K.size)).drop (l * K.size) ++ cs.drop (m * K.size)) := by
     have hle : l * K.size ≤ m * K.size := Nat.mul_le_mul_right _ hl
     have : cs.take (l * K.size) = (cs.take (m * K.size)).take (l * K.size) := by rw [List.take_take, Nat.min_eq_left hle]
     rw [this, ← List.append_assoc, List.take_append_drop, List.take_append_drop]
    rw [hsplit] at hc
    have hlen2 : (cs.take (l * K.size)).length = l * K.size := by
     rw [List.length_take, he.length]
     exact Nat.min_eq_left (Nat.mul_le_mul_right _ (by omega))
    have := (Cs.add hc).left
    rwa [hlen2] at this
end
end Go.Gx
