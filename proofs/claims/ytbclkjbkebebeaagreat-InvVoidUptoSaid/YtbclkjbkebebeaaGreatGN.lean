/-
 Maps: looked up, written, gone through. Generic: names no program.
-/
import Derived.Test.YtbclkjbkebebeaaGreatGM
import Derived.MapKept
import Derived.Maps.RangeRun
set_option linter.unusedVariables false
set_option linter.unusedSectionVars false
namespace Go.Gx
open Go.RowKit
def KOk {κ : Type} [BEq κ] (P : Program) (kt : TypeId) (enc : κ → Value) : Prop :=
 ∃ d, P.underlying kt = some d ∧ (∀ a b, Instr.sameNow d (enc a) (enc b) = some (a == b)) ∧ ∀ a, MapKept.IsKey d (enc a)
theorem kok_int {P : Program} {kt : TypeId} {k : IntKind} (h : intB P kt = some k) : KOk P kt (Value.int k) :=
 ⟨_, intB_spec h, fun a b => by simp [Instr.sameNow], fun a => rfl⟩
theorem kok_str {P : Program} {kt : TypeId} (h : strB P kt = true) : KOk P kt Value.string :=
 ⟨_, strB_spec h, fun a b => by simp [Instr.sameNow], fun a => trivial⟩
def mapB (P : Program) (t : TypeId) : Option (TypeId × TypeId) :=
 match P.underlying t with
 | some (.map k e) => some (k, e)
 | _ => none
theorem mapB_spec {P : Program} {t k e : TypeId} (h : mapB P t = some (k, e)) : P.underlying t = some (.map k e) := by
 unfold mapB at h
 split at h
 ·cases h; assumption
 ·cases h
inductive Ms {κ ν : Type} (enc : κ → Value) (V : Kd ν) (S : Fz) (w : World) : List MapEntry → List (κ × ν) → Prop
 | nil : Ms enc V S w [] []
 | cons {e : MapEntry} {es : List MapEntry} {k : κ} {v : ν} {xs : List (κ × ν)} : e.key = enc k → V.rep S w [e.val] v → Ms enc V S w es xs → Ms enc V S w (e :: es) ((k, v) :: xs)
section
variable {κ ν : Type} {enc : κ → Value} {V : Kd ν} {S S' : Fz} {w w' : World} {es : List MapEntry} {xs : List (κ × ν)}
theorem Ms.ext (h : Ms enc V S w es xs) (hx : Ext S w S' w') : Ms enc V S' w' es xs := by
 induction h with
 | nil => exact .nil
 | cons h1 h2 _ ih => exact .cons h1 (V.ext hx h2) ih
theorem Ms.len (h : Ms enc V S w es xs) : es.length = xs.length := by
 induction h with
 | nil => rfl
 | cons _ _ _ ih => simp [ih]
theorem Ms.push (h : Ms enc V S w es xs) {e : MapEntry} {k : κ} {v : ν} (h1 : e.key = enc k) (h2 : V.rep S w [e.val] v) : Ms enc V S w (es ++ [e]) (xs ++ [(k, v)]) := by
 induction h with
 | nil => exact .cons h1 h2 .nil
 | cons a b _ ih => exact .cons a b ih
theorem Ms.at_ (h : Ms enc V S w es xs) (i : Nat) (hi : i < xs.length) : ∃ e, es[i]? = some e ∧ e.key = enc xs[i].1 ∧ V.rep S w [e.val] xs[i].2 := by
 induction h generalizing i with
 | nil => simp at hi
 | cons a b _ ih =>
  cases i with
  | zero => exact ⟨_, rfl, a, b⟩
  | succ i => exact ih i (by simpa using hi)
theorem Ms.set (h : Ms enc V S w es xs) (i : Nat) {e : MapEntry} {k : κ} {v : ν} (h1 : e.key = enc k) (h2 : V.rep S w [e.val] v) : Ms enc V S w (es.set i e) (xs.set i (k, v)) := by
 induction h generalizing i with
 | nil => exact .nil
 | cons a b c ih =>
  cases i with
  | zero => exact .cons h1 h2 c
  | succ i => exact .cons a b (ih i)
theorem Ms.erase (h : Ms enc V S w es xs) (i : Nat) : Ms enc V S w (es.eraseIdx i) (xs.eraseIdx i) := by
 induction h generalizing i with
 | nil => simp; exact .nil
 | cons a b c ih =>
  cases i with
  | zero => exact c
  | succ i => exact .cons a b (ih i)
theorem Ms.find [BEq κ] [LawfulBEq κ] {d : TypeDesc} (hd : ∀ a b, Instr.sameNow d (enc a) (enc b) = some (a == b)) (h : Ms enc V S w es xs) (k : κ) : ∀ i,
  (Instr.findNow d (enc k) es i = some none ∧ mget xs k = none ∧ (∀ v, mset xs k v = xs ++ [(k, v)]) ∧ mdel xs k = xs) ∨
  (∃ j e v, es[j]? = some e ∧ Instr.findNow d (enc k) es i = some (some (i + j, e.val)) ∧ mget xs k = some v ∧ V.rep S w [e.val] v ∧ e.key = enc k ∧ (∀ u, mset xs k u = xs.set j (k, u)) ∧ mdel xs k = xs.eraseIdx j) := by
 induction h with
 | nil => exact fun i => .inl ⟨rfl, rfl, fun _ => rfl, rfl⟩
 | @cons e es k' v xs a b c ih =>
  intro i
  by_cases hk : k = k'
  ·subst hk
   refine .inr ⟨0, e, v, rfl, ?_, ?_, b, a, fun u => ?_, ?_⟩
   ·simp [Instr.findNow, a, hd]
   ·simp [mget]
   ·simp [mset]
   ·simp [mdel]
  ·have hb : (k == k') = false := by simpa using hk
   rcases ih (i + 1) with ⟨h1, h2, h3, h4⟩ | ⟨j, e', v', h0, h1, h2, h3, h4, h5, h6⟩
   ·refine .inl ⟨?_, ?_, fun u => ?_, ?_⟩
    ·simp only [Instr.findNow, a, hd, hb]; exact h1
    ·simp only [mget, hb]; exact h2
    ·simp only [mset, hb, h3 u]; rfl
    ·simp only [mdel, hb, h4]; rfl
   ·refine .inr ⟨j + 1, e', v', by simpa using h0, ?_, ?_, h3, h4, fun u => ?_, ?_⟩
    ·simp only [Instr.findNow, a, hd, hb]; rw [h1]; congr 3; omega
    ·simp only [mget, hb]; exact h2
    ·simp only [mset, hb, h5 u]; rfl
    ·simp only [mdel, hb, h6]; rfl
end
theorem map_eraseIdx {α β : Type} (f : α → β) : ∀ (l : List α) (i : Nat), (l.eraseIdx i).map f = (l.map f).eraseIdx i
 | [], _ => by simp
 | _ :: _, 0 => rfl
 | a :: l, i + 1 => by simp [map_eraseIdx f l i]
def oMap {κ ν : Type} (enc : κ → Value) (V : Kd ν) : Od (List (κ × ν)) :=
 ⟨fun S w o xs => ∃ es clock, o = .map es clock ∧ Ms enc V S w es.toList xs ∧ (es.toList.map (·.born)).Nodup ∧ ∀ e ∈ es.toList, e.born < clock,
  by rintro S w S' w' o x hx ⟨es, c, e, h1, h2, h3⟩; exact ⟨es, c, e, h1.ext hx, h2, h3⟩⟩
theorem oMap_nil {κ ν : Type} (enc : κ → Value) (V : Kd ν) (S : Fz) (w : World) : (oMap enc V).rep S w (.map #[] 0) [] := ⟨#[], 0, rfl, .nil, by simp, by simp⟩
section
variable {P : Program} {κ ν : Type} [BEq κ] [LawfulBEq κ] {enc : κ → Value} {V : Kd ν} {S S' : Fz} {N : Nat} {w0 w w' : World} {L : List Ent} {E : List (Nat × Obj)} {es : Array MapEntry} {xs : List (κ × ν)} {clock g i j t : Nat} {T kt et : TypeId}
theorem run_lookup (hm : mapB P T = some (kt, et)) (hk : KOk P kt enc) {zv : Value} {z : ν} (hz : (P.info? et).bind (·.zero) = some zv) (hzr : V.rep S w [zv] z) (hh : w.heap[g]? = some (.map es clock)) (hx : Ms enc V S w es.toList xs) (k : κ) (ok : Bool) :
  ∃ v, V.rep S w [v] ((mget xs k).getD z) ∧ (Instr.lookup T (.map (some g)) (enc k) ok).run P w = .ok (if ok then .tuple #[v, .bool (mget xs k).isSome] else v) w := by
 obtain ⟨d, hu, hd, hc⟩ := hk
 obtain ⟨inf, hi, hzz⟩ := Option.bind_eq_some_iff.1 hz
 have hzv : (zeroValue et).run P w = .ok zv w := by simp [zeroValue, typeInfo, hi, hzz]
 rcases hx.find hd k 0 with ⟨h1, h2, -, -⟩ | ⟨j, e, v, h0, h1, h2, h3, h4, -, -⟩
 ·refine ⟨zv, by rw [h2]; exact hzr, ?_⟩
  cases ok <;> simp [Instr.lookup, run_underlying (mapB_spec hm), MapKept.run_getObj_map hh, MapKept.run_checkKey hu (hc k), MapKept.run_findKey hu h1, hzv, h2, Result.andThen]
 ·refine ⟨e.val, by rw [h2]; exact h3, ?_⟩
  cases ok <;> simp [Instr.lookup, run_underlying (mapB_spec hm), MapKept.run_getObj_map hh, MapKept.run_checkKey hu (hc k), MapKept.run_findKey hu h1, h2, Result.andThen]
theorem heapSet {o o' : Obj} (hb : w.heap[g]? = some o) : (w.heap.setIfInBounds g o')[g]? = some o' ∧ ∀ b, b ≠ g → (w.heap.setIfInBounds g o')[b]? = w.heap[b]? := MapKept.heap_set hb
theorem run_mapUpdate (hm : mapB P T = some (kt, et)) (hk : KOk P kt enc) (hh : w.heap[g]? = some (.map es clock)) (hr : (oMap enc V).rep S w (.map es clock) xs) (k : κ) {v : Value} {x : ν} (hv : V.rep S w [v] x) :
  ∃ es' clock', (Instr.mapUpdate T (.map (some g)) (enc k) v).run P w = .ok () { w with heap := w.heap.setIfInBounds g (.map es' clock') } ∧ (oMap enc V).rep S w (.map es' clock') (mset xs k x) := by
 obtain ⟨d, hu, hd, hc⟩ := hk
 obtain ⟨es1, c1, e, hx, hn, hb⟩ := hr
 cases e
 rcases hx.find hd k 0 with ⟨h1, -, h3, -⟩ | ⟨j, e, v', h0, h1, -, -, h4, h5, -⟩
 ·refine ⟨es.push { key := enc k, val := v, born := clock }, clock + 1, ?_, _, _, rfl, ?_, ?_, ?_⟩
  ·simp [Instr.mapUpdate, run_underlying (mapB_spec hm), MapKept.run_getObj_map hh, MapKept.run_checkKey hu (hc k), MapKept.run_findKey hu h1, MapKept.run_setObj_map _ hh, Result.andThen]
  ·rw [h3, Array.toList_push]; exact hx.push rfl hv
  ·rw [Array.toList_push, List.map_append]
   refine List.nodup_append.2 ⟨hn, by simp, fun a ha b hb' => ?_⟩
   obtain ⟨q, hq, rfl⟩ := List.mem_map.1 ha
   simp only [List.map_cons, List.map_nil, List.mem_singleton] at hb'
   have := hb q hq
   omega
  ·intro q hq
   rw [Array.toList_push, List.mem_append] at hq
   rcases hq with hq | hq
   ·have := hb q hq; omega
   ·rw [List.mem_singleton] at hq; subst hq; exact Nat.lt_succ_self _
 ·have hj : es[j]? = some e := by simpa using h0
  have hmod : (es.modify j fun e => { e with key := enc k, val := v }).toList = es.toList.set j { e with key := enc k, val := v } := by
   apply List.ext_getElem?
   intro q
   rw [Array.getElem?_toList, Array.getElem?_modify, List.getElem?_set]
   by_cases hq : j = q
   ·subst hq
    obtain ⟨hlt, he⟩ := Array.getElem?_eq_some_iff.1 hj
    simp [hlt, he]
   ·simp [hq]
  refine ⟨es.modify j fun e => { e with key := enc k, val := v }, clock, ?_, _, _, rfl, ?_, ?_, ?_⟩
  ·simp [Instr.mapUpdate, run_underlying (mapB_spec hm), MapKept.run_getObj_map hh, MapKept.run_checkKey hu (hc k), MapKept.run_findKey hu h1, hj, h4, MapKept.run_keyThatStays (hc k), MapKept.run_setObj_map _ hh, Result.andThen]
  ·rw [h5, hmod]; exact hx.set j rfl hv
  ·rw [hmod, List.map_set]
   have : (es.toList.map (·.born))[j]? = some e.born := by rw [List.getElem?_map, h0]; rfl
   obtain ⟨hlt2, he2⟩ := List.getElem?_eq_some_iff.1 this
   rw [show ({ e with key := enc k, val := v } : MapEntry).born = (es.toList.map (·.born))[j] from he2.symm, List.set_getElem_self hlt2]
   exact hn
  ·intro q hq
   rw [hmod] at hq
   rcases List.mem_or_eq_of_mem_set hq with hq | rfl
   ·exact hb q hq
   ·exact hb e (List.mem_of_getElem? h0)
theorem run_delete (hm : mapB P T = some (kt, et)) (hk : KOk P kt enc) (hh : w.heap[g]? = some (.map es clock)) (hr : (oMap enc V).rep S w (.map es clock) xs) (k : κ) (kt' ty : TypeId) :
  ∃ es' clock', (Builtin.delete_ #[T, kt'] ty #[.map (some g), enc k]).run P w = .ok (.tuple #[]) { w with heap := w.heap.setIfInBounds g (.map es' clock') } ∧ (oMap enc V).rep S w (.map es' clock') (mdel xs k) := by
 obtain ⟨d, hu, hd, hc⟩ := hk
 obtain ⟨es1, c1, e, hx, hn, hb⟩ := hr
 cases e
 rcases hx.find hd k 0 with ⟨h1, -, -, h3⟩ | ⟨j, e, v', h0, h1, -, -, -, -, h5⟩
 ·refine ⟨es, clock, ?_, _, _, rfl, by rw [h3]; exact hx, hn, hb⟩
  simp [Builtin.delete_, run_underlying (mapB_spec hm), MapKept.run_getObj_map hh, MapKept.run_checkKey hu (hc k), MapKept.run_findKey hu h1, MapKept.run_setObj_map _ hh, Result.andThen]
 ·
  have hmod : (es.eraseIdxIfInBounds j).toList = es.toList.eraseIdx j := by
   have hlt : j < es.size := by have := (List.getElem?_eq_some_iff.1 h0).1; simpa using this
   rw [Array.eraseIdxIfInBounds, dif_pos hlt, Array.toList_eraseIdx]
  refine ⟨es.eraseIdxIfInBounds j, clock, ?_, _, _, rfl, ?_, ?_, ?_⟩
  ·simp [Builtin.delete_, run_underlying (mapB_spec hm), MapKept.run_getObj_map hh, MapKept.run_checkKey hu (hc k), MapKept.run_findKey hu h1, MapKept.run_setObj_map _ hh, Result.andThen]
  ·rw [h5, hmod]; exact hx.erase j
  ·rw [hmod, map_eraseIdx]; exact hn.sublist (List.eraseIdx_sublist _ _)
  ·intro q hq; rw [hmod] at hq; exact hb q ((List.eraseIdx_sublist _ _).subset hq)
theorem run_deleteN (hm : mapB P T = some (kt, et)) (hk : KOk P kt enc) (k : κ) (kt' ty : TypeId) (w : World) :
  (Builtin.delete_ #[T, kt'] ty #[.map none, enc k]).run P w = .ok (.tuple #[]) w := by
 obtain ⟨d, hu, hd, hc⟩ := hk
 simp [Builtin.delete_, run_underlying (mapB_spec hm), MapKept.run_checkKey hu (hc k), Result.andThen]
end
end Go.Gx
