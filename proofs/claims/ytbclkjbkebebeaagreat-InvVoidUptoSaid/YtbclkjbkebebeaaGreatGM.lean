/-
 Pools: things that pointers in memory lead to, by their numbers; maps. Generic: names no program.
-/
import Derived.Test.YtbclkjbkebebeaaGreatGZ
set_option linter.unusedVariables false
namespace Go.Gx
open Go.RowKit
structure Od (α : Type) where
 rep : Fz → World → Obj → α → Prop
 ext : ∀ {S w S' w' o x}, Ext S w S' w' → rep S w o x → rep S' w' o x
structure Pl {α : Type} (R : Od α) (S : Fz) (w : World) (E : List (Nat × Obj)) (xs : List α) : Prop where
 len : E.length = xs.length
 at_ : ∀ (i : Nat) (e : Nat × Obj) (x : α), E[i]? = some e → xs[i]? = some x → R.rep S w e.2 x
def Pa (t : Nat) (S : Fz) (i g : Nat) : Prop := (S.pl t)[i]? = some g
def PpR (t : Nat) (mk : Option Nat → Value) (S : Fz) (vs : List Value) : Option Nat → Prop
 | none => vs = [mk none]
 | some i => ∃ g, (S.pl t)[i]? = some g ∧ vs = [mk (some g)]
section
variable {α : Type} {R : Od α} {S S' : Fz} {w w' : World} {E : List (Nat × Obj)} {xs : List α} {t i g : Nat}
theorem Pl.ext (h : Pl R S w E xs) (hx : Ext S w S' w') : Pl R S' w' E xs := ⟨h.len, fun i e x he hx' => R.ext hx (h.at_ i e x he hx')⟩
theorem pl_get {l l' : List Nat} (h : l <+: l') (hi : l[i]? = some g) : l'[i]? = some g := by
 obtain ⟨r, rfl⟩ := h
 rw [List.getElem?_append_left (List.getElem?_eq_some_iff.1 hi).1]
 exact hi
theorem Pa.ext (h : Pa t S i g) (hx : Ext S w S' w') : Pa t S' i g := pl_get (hx.pl t) h
def ptrV (o : Option Nat) : Value := .pointer (o.map fun g => ⟨g, 0, none⟩)
def mapV (o : Option Nat) : Value := .map o
def kPool (t : Nat) (mk : Option Nat → Value) (h1 : ∀ o, (mk o).oneCell' = true) : Kd (Option Nat) :=
 ⟨1, fun S _ vs x => PpR t mk S vs x, fun {S w vs x} h => by cases x with | none => obtain rfl := h; rfl | some i => obtain ⟨g, _, rfl⟩ := h; rfl,
  fun {S w vs x} h v hv => by
   cases x with
   | none => obtain rfl := h; rw [List.mem_singleton] at hv; subst hv; exact h1 _
   | some i => obtain ⟨g, _, rfl⟩ := h; rw [List.mem_singleton] at hv; subst hv; exact h1 _,
  fun {S w S' w' vs x} hx h => by
   cases x with
   | none => exact h
   | some i => obtain ⟨g, hg, e⟩ := h; exact ⟨g, pl_get (hx.pl t) hg, e⟩⟩
def kPp (t : Nat) : Kd (Option Nat) := kPool t ptrV (fun _ => rfl)
def kMp (t : Nat) : Kd (Option Nat) := kPool t mapV (fun _ => rfl)
def PpO (t : Nat) (S : Fz) (v : Value) (d : Option Nat) : Prop := PpR t ptrV S [v] d
def MpO (t : Nat) (S : Fz) (v : Value) (d : Option Nat) : Prop := PpR t mapV S [v] d
theorem PpO.ext {v : Value} {d : Option Nat} (h : PpO t S v d) (hx : Ext S w S' w') : PpO t S' v d := (kPp t).ext hx h
theorem MpO.ext {v : Value} {d : Option Nat} (h : MpO t S v d) (hx : Ext S w S' w') : MpO t S' v d := (kMp t).ext hx h
theorem PpO.none (t : Nat) (S : Fz) : PpO t S (.pointer none) none := rfl
theorem MpO.none (t : Nat) (S : Fz) : MpO t S (.map none) none := rfl
theorem PpO.mk (h : Pa t S i g) : PpO t S (.pointer (some ⟨g, 0, .none⟩)) (some i) := ⟨g, h, rfl⟩
theorem MpO.mk (h : Pa t S i g) : MpO t S (.map (some g)) (some i) := ⟨g, h, rfl⟩
theorem PpO.nil {v : Value} {d : Option Nat} (h : PpO t S v d) (hd : d = .none) : v = .pointer .none := by subst hd; injection h
theorem MpO.nil {v : Value} {d : Option Nat} (h : MpO t S v d) (hd : d = .none) : v = .map .none := by subst hd; injection h
theorem PpO.got {v : Value} {d : Option Nat} (h : PpO t S v d) (hd : d = some i) : ∃ g, v = .pointer (some ⟨g, 0, .none⟩) ∧ Pa t S i g := by subst hd; obtain ⟨g, hg, e⟩ := h; injection e with e; exact ⟨g, e, hg⟩
theorem MpO.got {v : Value} {d : Option Nat} (h : MpO t S v d) (hd : d = some i) : ∃ g, v = .map (some g) ∧ Pa t S i g := by subst hd; obtain ⟨g, hg, e⟩ := h; injection e with e; exact ⟨g, e, hg⟩
theorem kPp_one {vs : List Value} {d : Option Nat} (h : (kPp t).rep S w vs d) : ∃ v, vs = [v] ∧ PpO t S v d := by
 cases d with
 | none => exact ⟨_, h, rfl⟩
 | some i => obtain ⟨g, hg, e⟩ := h; exact ⟨_, e, g, hg, rfl⟩
theorem kMp_one {vs : List Value} {d : Option Nat} (h : (kMp t).rep S w vs d) : ∃ v, vs = [v] ∧ MpO t S v d := by
 cases d with
 | none => exact ⟨_, h, rfl⟩
 | some i => obtain ⟨g, hg, e⟩ := h; exact ⟨_, e, g, hg, rfl⟩
theorem PpO.one1 {v : Value} {d : Option Nat} (h : PpO t S v d) : v.oneCell' = true := (kPp t).one (S := S) (w := default) h v (List.mem_singleton.2 rfl)
theorem MpO.one1 {v : Value} {d : Option Nat} (h : MpO t S v d) : v.oneCell' = true := (kMp t).one (S := S) (w := default) h v (List.mem_singleton.2 rfl)
end
/-! ### pools -/
section
variable {N : Nat} {w0 w w' : World} {S S' : Fz} {L : List Ent} {E : List (Nat × Obj)} {t i g j : Nat} {α : Type} {R : Od α} {xs : List α} {o o' : Obj}
theorem Hp.poolAt (h : Hp N w0 S w L) (j : Nat) (hj : L[j]? = some (none, .seg t E)) (hi : Pa t S i g) : ∃ o, E[i]? = some (g, o) ∧ w.heap[g]? = some o ∧ S g = 0 := by
 obtain ⟨h1, h2⟩ := h.mem j hj
 unfold Pa at hi
 rw [← h1, List.getElem?_map] at hi
 obtain ⟨⟨g', o⟩, he, rfl⟩ := Option.map_eq_some_iff.1 hi
 exact ⟨o, he, h2 _ (List.mem_of_getElem? he)⟩
theorem Pl.get [Inhabited α] (h : Pl R S w E xs) (hi : E[i]? = some (g, o)) : i < xs.length ∧ R.rep S w o (gn xs i) := by
 have hl : i < xs.length := by rw [← h.len]; exact (List.getElem?_eq_some_iff.1 hi).1
 refine ⟨hl, h.at_ i _ _ hi ?_⟩
 simp [gn, hl]
theorem Pl.set [Inhabited α] (h : Pl R S w E xs) (hi : E[i]? = some (g, o)) {x : α} (hr : R.rep S w o' x) : Pl R S w (E.set i (g, o')) (sn xs i x) := by
 obtain ⟨hlt, _⟩ := List.getElem?_eq_some_iff.1 hi
 refine ⟨by simp [sn, h.len], fun q e y he hy => ?_⟩
 by_cases hq : q = i
 ·subst hq
  rw [List.getElem?_set_self hlt] at he
  unfold sn at hy
  rw [List.getElem?_set_self (by rw [← h.len]; exact hlt)] at hy
  cases he; cases hy; exact hr
 ·unfold sn at hy
  rw [List.getElem?_set_ne (Ne.symm hq)] at he hy
  exact h.at_ q e y he hy
theorem Pl.push (h : Pl R S w E xs) {x : α} (hr : R.rep S w o x) : Pl R S w (E ++ [(g, o)]) (xs ++ [x]) := by
 refine ⟨by simp [h.len], fun q e y he hy => ?_⟩
 rcases Nat.lt_or_ge q E.length with hq | hq
 ·rw [List.getElem?_append_left hq] at he
  rw [List.getElem?_append_left (by rw [← h.len]; exact hq)] at hy
  exact h.at_ q e y he hy
 ·rw [List.getElem?_append_right hq] at he
  rw [List.getElem?_append_right (by rw [← h.len]; exact hq), ← h.len] at hy
  obtain ⟨hq1, hq2⟩ := List.getElem?_eq_some_iff.1 he
  simp only [List.length_singleton] at hq1
  have : q - E.length = 0 := by omega
  rw [this] at he hy
  cases he; cases hy; exact hr
theorem Hp.poolSet (h : Hp N w0 S w L) (j : Nat) (hj : L[j]? = some (none, .seg t E)) (hi : E[i]? = some (g, o)) (o' : Obj) (hos : w'.os = w.os) (htape : w'.tape = w.tape) (hout : w'.output = w.output) (hsize : w'.heap.size = w.heap.size)
  (hblk : ∀ b, b ≠ g → w'.heap[b]? = w.heap[b]?) (hg : w'.heap[g]? = some o') : Ext S w S w' ∧ Hp N w0 S w' (L.set j (none, .seg t (E.set i (g, o')))) := by
 obtain ⟨h1, h2⟩ := h.mem j hj
 obtain ⟨hh, hS⟩ := h2 _ (List.mem_of_getElem? hi)
 have hf := h.front j _ hj
 have hnd := hf.nd
 have hge := hf.ge
 have hid : ids (none, .seg t E) = E.map (·.1) := by simp [ids, Blk.bks]
 have hset : (E.set i (g, o')).map (·.1) = E.map (·.1) := by
  rw [List.map_set]
  obtain ⟨hlt, he⟩ := List.getElem?_eq_some_iff.1 hi
  have : (E.map (·.1))[i]? = some g := by rw [List.getElem?_map, hi]; rfl
  obtain ⟨hlt2, he2⟩ := List.getElem?_eq_some_iff.1 this
  rw [← he2]; exact List.set_getElem_self hlt2
 have hid' : ids (none, .seg t (E.set i (g, o'))) = E.map (·.1) := by simp only [ids, Blk.bks, Option.toList_none, List.nil_append]; exact hset
 have hgm : g ∈ E.map (·.1) := List.mem_map.2 ⟨_, List.mem_of_getElem? hi, rfl⟩
 rw [List.flatMap_cons, hid] at hnd hge
 have hNg : N ≤ g := hge g (List.mem_append_left _ hgm)
 refine ⟨⟨fun _ => Nat.le_refl _, fun b q v hq hv => ?_, fun _ => List.prefix_refl _⟩, ?_⟩
 ·have hne : b ≠ g := by rintro rfl; rw [hS] at hq; omega
  simp only [World.cell?, hblk b hne] at hv ⊢
  exact hv
 ·refine Hp.back hj ⟨hf.below.trans ⟨hos, htape, hout, Nat.le_of_eq hsize.symm, fun b hb => hblk b (by omega)⟩, by rw [hsize]; exact hf.le, fun b hb => hf.fz b (by omega), ?_, hf.np, ?_, ?_⟩
  ·rw [List.flatMap_cons, hid']; exact hnd
  ·rw [List.flatMap_cons, hid']; exact hge
  ·intro x hx
   rcases List.mem_cons.1 hx with rfl | hx'
   ·refine ⟨hset.trans h1, fun y hy => ?_⟩
    obtain ⟨q, hq⟩ := List.mem_iff_getElem?.1 hy
    by_cases e : q = i
    ·subst e
     rw [List.getElem?_set_self (List.getElem?_eq_some_iff.1 hi).1] at hq
     cases hq; exact ⟨hg, hS⟩
    ·rw [List.getElem?_set_ne (Ne.symm e)] at hq
     obtain ⟨a1, a2⟩ := h2 y (List.mem_of_getElem? hq)
     have hne : y.1 ≠ g := by
      intro e2
      have hn := (List.nodup_append.1 hnd).1
      have q1 : (E.map (·.1))[q]? = some g := by rw [List.getElem?_map, hq]; simp [e2]
      have q2 : (E.map (·.1))[i]? = some g := by rw [List.getElem?_map, hi]; rfl
      obtain ⟨l1, g1⟩ := List.getElem?_eq_some_iff.1 q1
      obtain ⟨l2, g2⟩ := List.getElem?_eq_some_iff.1 q2
      exact e ((List.getElem?_inj l1 hn).1 (q1.trans q2.symm))
     exact ⟨by rw [hblk _ hne]; exact a1, a2⟩
   ·refine (hf.at_ x (.tail _ hx')).kept fun b hb => ⟨hblk b ?_, Nat.le_refl _⟩
    rintro rfl
    exact (List.nodup_append.1 hnd).2.2 _ hgm _ (List.mem_flatMap.2 ⟨x, hx', hb⟩) rfl
def plSet (S : Fz) (t : Nat) (l : List Nat) : Fz := ⟨S.f, fun u => if u = t then l else S.pl u⟩
theorem Hp.poolPush (h : Hp N w0 S w L) (j : Nat) (hj : L[j]? = some (none, .seg t E)) (o : Obj) (ho : ∀ c e f, o = .cells c e f → f = (0, 0)) :
  ∃ S', Ext S w S' (w.alloc o) ∧ Hp N w0 S' (w.alloc o) (L.set j (none, .seg t (E ++ [(w.heap.size, o)]))) ∧ Pa t S' E.length w.heap.size := by
 obtain ⟨h1, h2⟩ := h.mem j hj
 have hf := h.front j _ hj
 have hnd := hf.nd
 have hge := hf.ge
 have hnp := hf.np
 have hid : ids (none, .seg t E) = E.map (·.1) := by simp [ids, Blk.bks]
 have hid' : ids (none, .seg t (E ++ [(w.heap.size, o)])) = E.map (·.1) ++ [w.heap.size] := by simp [ids, Blk.bks]
 rw [List.flatMap_cons, hid] at hnd hge
 have hnew : w.heap.size ∉ E.map (·.1) ++ (L.eraseIdx j).flatMap ids := fun hm => by
  have := hf.lt (g := w.heap.size) (by rw [List.flatMap_cons, hid]; exact hm)
  exact Nat.lt_irrefl _ this
 refine ⟨plSet S t (S.pl t ++ [w.heap.size]), ⟨fun _ => Nat.le_refl _, fun b q v hq hv => (Ext.alloc S w o).cell b q v hq hv, fun u => ?_⟩, Hp.back hj ⟨hf.below.alloc hf.le o, by have := hf.le; simp; omega, fun b hb => hf.fz b (by simp at hb; omega), ?_, hnp, ?_, ?_⟩, ?_⟩
 ·simp only [plSet]
  split
  ·rename_i e; subst e; exact List.prefix_append _ _
  ·exact List.prefix_refl _
 ·rw [List.flatMap_cons, hid', List.append_assoc]
  refine (List.perm_middle (l₁ := E.map (·.1)) (a := w.heap.size) (l₂ := (L.eraseIdx j).flatMap ids)).nodup_iff.2 ?_
  exact List.nodup_cons.2 ⟨hnew, hnd⟩
 ·intro b hb
  rw [List.flatMap_cons, hid', List.append_assoc, List.mem_append] at hb
  rcases hb with hb | hb
  ·exact hge b (List.mem_append_left _ hb)
  ·rcases List.mem_cons.1 hb with rfl | hb
   ·exact hf.le
   ·exact hge b (List.mem_append_right _ hb)
 ·intro x hx
  rcases List.mem_cons.1 hx with rfl | hx'
  ·refine ⟨by simp [plSet, h1], fun y hy => ?_⟩
   rcases List.mem_append.1 hy with hy | hy
   ·obtain ⟨a1, a2⟩ := h2 y hy
    exact ⟨by rw [Below.heap_alloc w o _ (Array.getElem?_eq_some_iff.1 a1).1]; exact a1, a2⟩
   ·rw [List.mem_singleton] at hy; subst hy
    exact ⟨heap_new w o, h.fz _ (Nat.le_refl _)⟩
  ·refine (hf.at_ x (.tail _ hx')).kept (fun b hb => ⟨Below.heap_alloc w o b ((hf.at_ x (.tail _ hx')).idsLt hb), Nat.le_refl _⟩) fun u hu => ?_
   simp only [plSet]
   rw [if_neg]
   rintro rfl
   have : pid (none, Blk.seg u E) = some u := rfl
   rw [List.filterMap_cons, this] at hnp
   exact (List.nodup_cons.1 hnp).1 (List.mem_filterMap.2 ⟨x, hx', hu⟩)
 ·simp only [Pa, plSet, if_pos]
  rw [← h1, List.getElem?_append_right (by simp), List.length_map, Nat.sub_self]
  rfl
theorem Hp.pool0 (h : Hp N w0 S w L) (t : Nat) (ht : S.pl t = []) (hL : t ∉ L.filterMap pid) : Hp N w0 S w ((none, .seg t []) :: L) :=
 ⟨h.below, h.le, h.fz, by simpa [ids, Blk.bks] using h.nd, by rw [List.filterMap_cons, show pid (none, Blk.seg t []) = some t from rfl]; exact List.nodup_cons.2 ⟨hL, h.np⟩, by simpa [ids, Blk.bks] using h.ge, fun x hx => by
  rcases List.mem_cons.1 hx with rfl | hx
  ·exact ⟨by simp [ht], fun _ h => by cases h⟩
  ·exact h.at_ x hx⟩
theorem Pl.nil (R : Od α) (S : Fz) (w : World) : Pl R S w [] [] := ⟨rfl, fun _ _ _ h => by cases h⟩
end
/-! ### structs in pools -/
def oRow {α : Type} (K : Kd α) (ty : TypeId) : Od α :=
 ⟨fun S w o x => ∃ cs, o = .cells cs.toArray ty (0, 0) ∧ K.rep S w cs x, by rintro S w S' w' o x hx ⟨cs, e, h⟩; exact ⟨cs, e, K.ext hx h⟩⟩
section
variable {P : Program} {X : Prop} {Y : Array Value → World → Prop} {fr : Array Value} {ds : List Deferred}
variable {N : Nat} {w0 w w' : World} {S S' : Fz} {L : List Ent} {E : List (Nat × Obj)} {t i g j : Nat} {α : Type} [Inhabited α] {K : Kd α} {xs : List α} {ty0 : TypeId}
theorem Pl.row (hp : Hp N w0 S w L) (j : Nat) (hj : L[j]? = some (none, .seg t E)) (h : Pl (oRow K ty0) S w E xs) (hi : Pa t S i g) :
  ∃ cs, K.rep S w cs (gn xs i) ∧ i < xs.length ∧ E[i]? = some (g, .cells cs.toArray ty0 (0, 0)) ∧ ∀ q v, cs[q]? = some v → w.cell? ⟨g, q, none⟩ = some v := by
 obtain ⟨o, he, hh, hS⟩ := hp.poolAt j hj hi
 obtain ⟨hl, cs, rfl, hr⟩ := h.get he
 refine ⟨cs, hr, hl, he, fun q v hq => ?_⟩
 simp only [World.cell?, hh]
 simpa using hq
theorem store_frame {cs : List Value} : ∀ (vs : List Value) (q o : Nat) (w : World) (cs : List Value), w.heap[g]? = some (.cells cs.toArray ty0 (0, 0)) → o + q + vs.length ≤ cs.length → (∀ v ∈ vs, v.oneCell' = true) →
  ∃ w', (storeCells ⟨g, o, none⟩ vs q).run P w = .ok () w' ∧ w'.os = w.os ∧ w'.tape = w.tape ∧ w'.output = w.output ∧ w'.heap.size = w.heap.size ∧ (∀ b, b ≠ g → w'.heap[b]? = w.heap[b]?) ∧ w'.heap[g]? = some (.cells (cs.take (o + q) ++ (vs ++ cs.drop (o + q + vs.length))).toArray ty0 (0, 0))
 | [], q, o, w, cs, hh, hl, h1 => ⟨w, rfl, rfl, rfl, rfl, rfl, fun _ _ => rfl, by simpa using hh⟩
 | v :: vs, q, o, w, cs, hh, hl, h1 => by
  simp only [List.length_cons] at hl
  have hlt : o + q < cs.length := by omega
  have hh' : (w.setCell ⟨g, o + q, none⟩ v).heap[g]? = some (.cells (cs.set (o + q) v).toArray ty0 (0, 0)) := by simp [World.setCell, Array.getElem?_modify, hh]
  obtain ⟨w', a1, a2, a3, a4, a5, a6, a7⟩ := store_frame (cs := cs) vs (q + 1) o (w.setCell ⟨g, o + q, none⟩ v) (cs.set (o + q) v) hh' (by simp; omega) (fun u hu => h1 u (.tail _ hu))
  refine ⟨w', ?_, a2.trans rfl, a3.trans rfl, a4.trans rfl, a5.trans (by simp), fun b hb => (a6 b hb).trans (Below.heap_setCell w _ v b (fun e => hb e)), ?_⟩
  ·have hone := h1 v (by simp)
   have hcell : w.cell? ⟨g, o + q, none⟩ = some cs[o + q] := by simp [World.cell?, hh, hlt]
   have hfz : w.frozen? ⟨g, o + q, none⟩ = false := by simp [World.frozen?, hh]
   have hadd : Addr.add ⟨g, o, none⟩ q = ⟨g, o + q, none⟩ := by unfold Addr.add; split <;> simp_all
   simp only [storeCells, hadd]
   rw [Sem.run_bind]
   have : (store ⟨g, o + q, none⟩ v).run P w = .ok () (w.setCell ⟨g, o + q, none⟩ v) := by
    unfold store
    cases v <;> first | (simp [Value.oneCell'] at hone; done) | simp only [Sem.run, hcell, hfz, Bool.false_eq_true, if_false]
   rw [this]
   exact a1
  ·rw [a7]
   congr 3
   have e1 : o + (q + 1) = o + q + 1 := by omega
   rw [e1]
   rw [List.drop_set_of_lt (by omega), List.take_add_one, List.take_set_of_le (by omega), List.getElem?_set_self (by omega)]
   simp [Nat.add_assoc, Nat.add_comm 1]
end
end Go.Gx
