/-
 Two maps' entries written at once: a key's entry is made, then its value set; cells of pools' things. Generic: names no program.
-/
import Derived.Test.YtbclkjbkebebeaaGreatGO
import Derived.Test.YtbclkjbkebebeaaGreatGQ
import GoSem.Instr.MapEntry
set_option linter.unusedVariables false
set_option linter.unusedSectionVars false
namespace Go.Gx
open Go.RowKit
theorem mset_mset {κ ν : Type} [BEq κ] [LawfulBEq κ] (k : κ) (a b : ν) : ∀ m : List (κ × ν), mset (mset m k a) k b = mset m k b
 | [] => by simp [mset]
 | e :: m => by
  by_cases h : k = e.1
  ·simp [mset, h]
  ·have hb : (k == e.1) = false := by simpa using h
   simp only [mset, hb]
   simp only [Bool.false_eq_true, if_false, mset, hb, mset_mset k a b m]
def St {κ : Type} (enc : κ → Value) [BEq κ] {ν : Type} (E : List (Nat × Obj)) (i : Nat) (m : List (κ × ν)) (k : κ) (s : Nat) : Prop :=
 ∃ g es clock j e, E[i]? = some (g, .map es clock) ∧ es.toList[j]? = some e ∧ e.key = enc k ∧ e.born = s ∧ ∀ u, mset m k u = m.set j (k, u)
section
variable {P : Program} {κ ν : Type} [BEq κ] [LawfulBEq κ] {enc : κ → Value} {V : Kd ν} {S S' : Fz} {N : Nat} {w0 w w' : World} {L : List Ent} {E : List (Nat × Obj)} {es : Array MapEntry} {xs : List (κ × ν)} {clock g i j t : Nat} {T kt et : TypeId}
theorem mod_toList {α : Type} (es : Array α) (j : Nat) (f : α → α) (e : α) (h : es.toList[j]? = some e) : (es.modify j f).toList = es.toList.set j (f e) := by
 apply List.ext_getElem?
 intro q
 rw [Array.getElem?_toList, Array.getElem?_modify, List.getElem?_set]
 by_cases hq : j = q
 ·subst hq
  rw [Array.getElem?_toList] at h
  obtain ⟨hlt, he⟩ := Array.getElem?_eq_some_iff.1 h
  simp [hlt, he]
 ·simp [hq]
theorem run_mapEntry (hm : mapB P T = some (kt, et)) (hk : KOk P kt enc) {zv : Value} {z : ν} (hz : (P.info? et).bind (·.zero) = some zv) (hzr : V.rep S w [zv] z) (hh : w.heap[g]? = some (.map es clock)) (hr : (oMap enc V).rep S w (.map es clock) xs) (k : κ) :
  ∃ es' clock' v s, (Instr.mapEntry T (.map (some g)) (enc k)).run P w = .ok (.tuple #[v, .int .i64 ((s : Nat) : Int)]) { w with heap := w.heap.setIfInBounds g (.map es' clock') } ∧ V.rep S w [v] ((mget xs k).getD z) ∧
   (oMap enc V).rep S w (.map es' clock') (mset xs k ((mget xs k).getD z)) ∧ ∃ j e, es'.toList[j]? = some e ∧ e.key = enc k ∧ e.born = s ∧ ∀ u, mset (mset xs k ((mget xs k).getD z)) k u = (mset xs k ((mget xs k).getD z)).set j (k, u) := by
 obtain ⟨d, hu, hd, hc⟩ := hk
 obtain ⟨inf, hi, hzz⟩ := Option.bind_eq_some_iff.1 hz
 have hzv : (zeroValue et).run P w = .ok zv w := by simp [zeroValue, typeInfo, hi, hzz]
 obtain ⟨es1, c1, e, hx, hn, hb⟩ := hr
 cases e
 rcases hx.find hd k 0 with ⟨h1, h2, h3, -⟩ | ⟨j, e, v', h0, h1, h2, h2', h4, h5, -⟩
 ·refine ⟨es.push { key := enc k, val := zv, born := clock }, clock + 1, zv, clock, ?_, by rw [h2]; exact hzr, ⟨_, _, rfl, ?_, ?_, ?_⟩, es.toList.length, { key := enc k, val := zv, born := clock }, ?_, rfl, rfl, fun u => ?_⟩
  ·simp [Instr.mapEntry, run_underlying (mapB_spec hm), MapKept.run_getObj_map hh, MapKept.run_checkKey hu (hc k), MapKept.run_findKey hu h1, MapKept.run_setObj_map _ hh, Result.andThen, hzv, goInt]
  ·rw [h3, h2, Array.toList_push]; exact hx.push rfl hzr
  ·rw [Array.toList_push, List.map_append]
   refine List.nodup_append.2 ⟨hn, by simp, fun a ha b hb' => ?_⟩
   obtain ⟨q, hq, rfl⟩ := List.mem_map.1 ha
   simp only [List.map_cons, List.map_nil, List.mem_singleton] at hb'
   have := hb q hq
   omega
  ·intro q hq
   rw [Array.toList_push, List.mem_append] at hq
   rcases hq with hq | hq
   ·have := hb q hq; omega
   ·rw [List.mem_singleton] at hq; subst hq; exact Nat.lt_succ_self _
  ·rw [Array.toList_push]; simp
  ·rw [mset_mset, h3, h3, hx.len]; simp
 ·have hj : es[j]? = some e := by simpa using h0
  have hmod := mod_toList es j (fun e => { e with key := enc k }) e h0
  have hee : ({ e with key := enc k } : MapEntry) = e := by rw [← h4]
  rw [hee] at hmod
  have hself : es.toList.set j e = es.toList := by
   obtain ⟨hlt, he⟩ := List.getElem?_eq_some_iff.1 h0
   rw [← he]; exact List.set_getElem_self hlt
  rw [hself] at hmod
  refine ⟨es.modify j fun e => { e with key := enc k }, clock, e.val, e.born, ?_, by rw [h2]; exact h2', ⟨_, _, rfl, ?_, ?_, ?_⟩, j, e, ?_, h4, rfl, fun u => ?_⟩
  ·simp [Instr.mapEntry, run_underlying (mapB_spec hm), MapKept.run_getObj_map hh, MapKept.run_checkKey hu (hc k), MapKept.run_findKey hu h1, hj, h4, MapKept.run_keyThatStays (hc k), MapKept.run_setObj_map _ hh, Result.andThen, goInt]
  ·rw [h5, h2, hmod]
   have := hx.set j (e := e) (k := k) (v := v') h4 h2'
   rwa [hself] at this
  ·rw [hmod]; exact hn
  ·rw [hmod]; exact hb
  ·rw [hmod]; exact h0
  ·rw [mset_mset, h5, h5]; simp
theorem run_entryStore (hh : w.heap[g]? = some (.map es clock)) (hr : (oMap enc V).rep S w (.map es clock) xs) (k : κ) {s : Nat} {j : Nat} {e : MapEntry} (hj : es.toList[j]? = some e) (he : e.key = enc k) (hs : e.born = s) (hset : ∀ u, mset xs k u = xs.set j (k, u)) {v : Value} {x : ν} (hv : V.rep S w [v] x) :
  ∃ es', (Instr.entryStore T (.map (some g)) (.int .i64 (s : Int)) v).run P w = .ok () { w with heap := w.heap.setIfInBounds g (.map es' clock) } ∧ (oMap enc V).rep S w (.map es' clock) (mset xs k x) := by
 obtain ⟨es1, c1, q, hx, hn, hb⟩ := hr
 cases q
 have hj' : es[j]? = some e := by simpa using hj
 obtain ⟨hlt, hje⟩ := Array.getElem?_eq_some_iff.1 hj'
 have hfind : es.findIdx? (fun e => ((e.born : Int) == (s : Int))) = some j := by
  rw [Array.findIdx?_eq_some_iff_getElem]
  refine ⟨hlt, by rw [hje, hs]; simp, fun q hq => ?_⟩
  have hql : q < es.size := by omega
  have : (es[q]).born ≠ s := by
   intro h2
   have a1 : (es.toList.map (·.born))[q]? = some s := by simp [hql, h2]
   have a2 : (es.toList.map (·.born))[j]? = some s := by simp [hlt, hje, hs]
   have hq' : q < (es.toList.map (·.born)).length := by simpa using hql
   have := (List.getElem?_inj hq' hn).1 (a1.trans a2.symm)
   omega
  intro h
  have := eq_of_beq h
  omega
 have hmod := mod_toList es j (fun e => { e with val := v }) e hj
 refine ⟨es.modify j fun e => { e with val := v }, ?_, _, _, rfl, ?_, ?_, ?_⟩
 ·simp [Instr.entryStore, MapKept.run_getObj_map hh, Result.andThen, asInt, asIntOf, hfind, MapKept.run_setObj_map _ hh]
 ·rw [hset, hmod]; exact hx.set j he hv
 ·rw [hmod, List.map_set]
  have : (es.toList.map (·.born))[j]? = some e.born := by rw [List.getElem?_map, hj]; rfl
  obtain ⟨hlt2, he2⟩ := List.getElem?_eq_some_iff.1 this
  rw [show ({ e with val := v } : MapEntry).born = (es.toList.map (·.born))[j] from he2.symm, List.set_getElem_self hlt2]
  exact hn
 ·intro q hq
  rw [hmod] at hq
  rcases List.mem_or_eq_of_mem_set hq with hq | rfl
  ·exact hb q hq
  ·exact hb e (List.mem_of_getElem? hj)
variable {X : Prop} {Y : Array Value → World → Prop} {fr : Array Value} {ds : List Deferred} {xss : List (List (κ × ν))}
theorem Op_.meM (T : TypeId) (x k : Operand) (d : Tmp) (ty : TypeId) (kt et : TypeId) (j : Nat) (zv : Value) (z : ν) (key : κ) (dn : ν) (zs : List (List (κ × ν))) (hp : Hp N w0 S w L) (hL : L[j]? = some (none, .seg t E)) (hP : Pl (oMap enc V) S w E xss) (ha : Pa t S i g)
  (h : VStep P (.mapEntry T x k) d ty fr ds w X Y) (hx : Act.eval ⟨fr, ds⟩ x = .map (some g)) (hk : Act.eval ⟨fr, ds⟩ k = enc key) (hm : mapB P T = some (kt, et)) (hK : KOk P kt enc) (hz : (P.info? et).bind (·.zero) = some zv) (hzr : V.rep S w [zv] z)
  (hd : (mget (gn xss i) key).getD z = dn) (hzs : sn xss i (mset (gn xss i) key dn) = zs)
  (gg : ∀ v s w' E', Ext S w S w' → Hp N w0 S w' (L.set j (none, .seg t E')) → Pl (oMap enc V) S w' E' zs → V.rep S w' [v] dn → St enc E' i (gn zs i) key s → Y (upd fr [(d, .tuple #[v, .int .i64 ((s : Nat) : Int)])]) w') : X := by
 subst hd; subst hzs
 obtain ⟨o, he, hh, hS⟩ := hp.poolAt j hL ha
 obtain ⟨hl, hro⟩ := hP.get he
 obtain ⟨es, clock, rfl, hms⟩ := hro
 obtain ⟨es', clock', v, s, hr, hv, hr', j', e', h1, h2, h3, h4⟩ := run_mapEntry (P := P) hm hK hz hzr hh ⟨es, clock, rfl, hms⟩ key
 obtain ⟨a1, a2, a3⟩ := pool_map_set hp j hL hP he hh hr'
 have hgn : gn (sn xss i (mset (gn xss i) key ((mget (gn xss i) key).getD z))) i = mset (gn xss i) key ((mget (gn xss i) key).getD z) := by simp [gn, sn, hl]
 refine h _ _ ?_ (gg v s _ _ a1 a2 a3 (V.ext a1 hv) ⟨g, es', clock', j', e', ?_, h1, h2, h3, by rw [hgn]; exact h4⟩)
 ·simp [execOp, mkO, hx, hk, hr]
 ·exact List.getElem?_set_self (List.getElem?_eq_some_iff.1 he).1
theorem Op_.esM (T : TypeId) (x k y : Operand) (ty : TypeId) (j : Nat) (key : κ) (s : Nat) (v : Value) (b : ν) (zs : List (List (κ × ν))) (hp : Hp N w0 S w L) (hL : L[j]? = some (none, .seg t E)) (hP : Pl (oMap enc V) S w E xss) (ha : Pa t S i g) (hst : St enc E i (gn xss i) key s)
  (h : SStep P (.entryStore T x k y) ty fr ds w X Y) (hx : Act.eval ⟨fr, ds⟩ x = .map (some g)) (hk : Act.eval ⟨fr, ds⟩ k = .int .i64 (s : Int)) (hy : Act.eval ⟨fr, ds⟩ y = v) (hv : V.rep S w [v] b)
  (hd : sn xss i (mset (gn xss i) key b) = zs) (gg : ∀ w' E', Ext S w S w' → Hp N w0 S w' (L.set j (none, .seg t E')) → Pl (oMap enc V) S w' E' zs → Y fr w') : X := by
 subst hd
 obtain ⟨o, he, hh, hS⟩ := hp.poolAt j hL ha
 obtain ⟨hl, hro⟩ := hP.get he
 obtain ⟨g', es, clock, j', e', q1, h1, h2, h3, h4⟩ := hst
 rw [he] at q1
 cases q1
 obtain ⟨es', hr, hr'⟩ := run_entryStore (P := P) (T := T) hh hro key h1 h2 h3 h4 hv
 obtain ⟨a1, a2, a3⟩ := pool_map_set hp j hL hP he hh hr'
 refine h _ ?_ (gg _ _ a1 a2 a3)
 simp [execOp, mkO, hx, hk, hy, hr]
theorem Hp.poolCell (hp : Hp N w0 S w L) (j : Nat) (hL : L[j]? = some (none, .seg t E)) {cs : List Value} {ty0 : TypeId} (hE : E[i]? = some (g, .cells cs.toArray ty0 (0, 0))) (q : Nat) (v : Value) (hq : cs[q]? = some v) : w.cell? ⟨g, q, none⟩ = some v := by
 obtain ⟨h1, h2⟩ := hp.mem j hL
 obtain ⟨hh, hS⟩ := h2 _ (List.mem_of_getElem? hE)
 simp only [World.cell?, hh]
 simpa using hq
end
/-! ### A nil map, gone through -/
section
variable {P : Program} {N : Nat} {w0 w : World} {S : Fz} {L : List Ent} {X : Prop} {Y : Array Value → World → Prop} {fr : Array Value} {ds : List Deferred}
theorem Op_.rgN (T : TypeId) (x : Operand) (d : Tmp) (ty : TypeId) (kt et : TypeId) (hp : Hp N w0 S w L) (h : VStep P (.range T x) d ty fr ds w X Y) (hx : Act.eval ⟨fr, ds⟩ x = .map none) (hm : mapB P T = some (kt, et))
  (gg : ∀ r w', Ext S w S w' → Hp N w0 S w' ((some r, .obj (.mapIter none 0 #[] 0)) :: L) → Y (upd fr [(d, .pointer (some ⟨r, 0, none⟩))]) w') : X := by
 have hp' := hp.allocObj (.mapIter none 0 #[] 0) rfl
 have hx' := Ext.alloc S w (.mapIter none 0 #[] 0)
 refine h _ _ ?_ (gg w.heap.size _ hx' hp')
 simp [execOp, mkO, hx, Instr.range, run_underlying (mapB_spec hm), Result.andThen, newObj, Sem.run]
theorem Op_.nxN (x : Operand) (d : Tmp) (ty : TypeId) (q r : Nat) (hp : Hp N w0 S w L) (hq : L[q]? = some (some r, .obj (.mapIter none 0 #[] 0))) (h : VStep P (.next x false) d ty fr ds w X Y) (hx : Act.eval ⟨fr, ds⟩ x = .pointer (some ⟨r, 0, none⟩))
  (g0 : Y (upd fr [(d, .tuple #[.bool false])]) w) : X := by
 obtain ⟨k1, k2, k3⟩ := hp.mem q hq
 refine h _ _ ?_ g0
 have hg : (getObj r).run P w = .ok (.mapIter none 0 #[] 0) w := by simp [getObj, Sem.run, k1]
 simp [execOp, mkO, hx, Instr.next, hg, Result.andThen]
end
theorem it_ne {E E' : List (Nat × Obj)} {i j g : Nat} {y : Nat × Obj} (hx : ∃ o, E' = E.set i (g, o)) (hn : i ≠ j) (hE : E[j]? = some y) : E'[j]? = some y := by
 obtain ⟨o, rfl⟩ := hx
 exact (List.getElem?_set_ne hn).trans hE
/-! ### Structs of texts, held against each other -/
section
variable {P : Program} {fr : Array Value} {ds : List Deferred} {w : World} {X : Prop} {Y : Array Value → World → Prop}
end
end Go.Gx
