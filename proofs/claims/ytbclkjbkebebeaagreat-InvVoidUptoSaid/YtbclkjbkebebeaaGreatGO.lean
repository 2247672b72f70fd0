/-
 The operations on maps and on pools' things, as rules of the walk. Generic: names no program.
-/
import Derived.Test.YtbclkjbkebebeaaGreatGN
set_option linter.unusedVariables false
set_option linter.unusedSectionVars false
namespace Go.Gx
open Go.RowKit
def V0Step (P : Program) (op : Op) (ty : TypeId) (fr : Array Value) (ds : List Deferred) (w : World) (X : Prop) (Y : Array Value → World → Prop) : Prop :=
 ∀ v w', (execOp (Act.eval ⟨fr, ds⟩) (mkO op none ty)).run P w = .ok (.value v) w' → Y fr w' → X
theorem Goes.v0s {P : Program} {b : Frame} {k : List Item} {w : World} {D : List Frame → Machine → Prop} {ops : Array Oper} {i : Nat} {rest : List Nat} {fr : Array Value} {ds : List Deferred} {op : Op} {ty : TypeId} (h : opAtW ops i fr = some (op, none, ty)) (hd : isDefer op = false := by rfl) :
  V0Step P op ty fr ds w (Goes P b (.inRegion ops (i :: rest) :: k) ⟨fr, ds⟩ w D) (fun fr' w' => Goes P b (.inRegion ops rest :: k) ⟨fr', ds⟩ w' D) :=
 fun _ _ hr g => .valAt0 op ty h hd hr g
theorem one_int {S : Fz} {w : World} {k : IntKind} {v : Value} {x : Int} (h : (kInt k).rep S w [v] x) : v = .int k x := by injection h
theorem one_bool {S : Fz} {w : World} {v : Value} {x : Bool} (h : kBool.rep S w [v] x) : v = .bool x := by injection h
theorem one_str {S : Fz} {w : World} {v : Value} {x : ByteArray} (h : kStr.rep S w [v] x) : v = .string x := by injection h
theorem one_sl {α : Type} {K : Kd α} {S : Fz} {w : World} {v : Value} {x : List α} (h : (kSl K).rep S w [v] x) : ∃ A c, v = .slice A x.length c ∧ Rd K S w A c x := by
 obtain ⟨A, c, e, h⟩ := h; injection e with e; exact ⟨A, c, e, h⟩
theorem one_pp {S : Fz} {w : World} {t : Nat} {v : Value} {x : Option Nat} (h : (kPp t).rep S w [v] x) : PpO t S v x := h
theorem one_mp {S : Fz} {w : World} {t : Nat} {v : Value} {x : Option Nat} (h : (kMp t).rep S w [v] x) : MpO t S v x := h
section
variable {P : Program} {X : Prop} {Y : Array Value → World → Prop} {fr : Array Value} {ds : List Deferred}
variable {N : Nat} {w0 w w' : World} {S S' : Fz} {L : List Ent} {E : List (Nat × Obj)} {α : Type} [Inhabited α] {K : Kd α} {xs : List α}
/-! ### structs in pools -/
theorem push_row (hp : Hp N w0 S w L) (j : Nat) {t : Nat} (hL : L[j]? = some (none, .seg t E)) {T : TypeId} (hP : Pl (oRow K T) S w E xs) (cs : List Value) (x : α) (hr : K.rep S w cs x) :
  ∃ S', Ext S w S' (w.alloc (.cells cs.toArray T)) ∧ Hp N w0 S' (w.alloc (.cells cs.toArray T)) (L.set j (none, .seg t (E ++ [(w.heap.size, .cells cs.toArray T (0, 0))]))) ∧ Pa t S' xs.length w.heap.size ∧ Pl (oRow K T) S' (w.alloc (.cells cs.toArray T)) (E ++ [(w.heap.size, .cells cs.toArray T (0, 0))]) (xs ++ [x]) := by
 obtain ⟨S', hx, hp', ha⟩ := hp.poolPush j hL (.cells cs.toArray T (0, 0)) (by rintro _ _ _ ⟨⟩; rfl)
 rw [hP.len] at ha
 exact ⟨S', hx, hp', ha, (hP.ext hx).push ⟨cs, rfl, K.ext hx hr⟩⟩
theorem Op_.boxP (T : TypeId) (y : Operand) (d : Tmp) (ty : TypeId) (t j : Nat) (v : Value) (cs : List Value) (x : α) (zs : List α) (hp : Hp N w0 S w L) (hL : L[j]? = some (none, .seg t E)) (hP : Pl (oRow K T) S w E xs)
  (h : VStep P (.box T y) d ty fr ds w X Y) (hy : Act.eval ⟨fr, ds⟩ y = v) (hcs : v.cells = cs.toArray) (hr : K.rep S w cs x) (hz : xs ++ [x] = zs)
  (gg : ∀ g S' w' E', Ext S w S' w' → Hp N w0 S' w' (L.set j (none, .seg t E')) → Pa t S' xs.length g → Pl (oRow K T) S' w' E' zs → Y (upd fr [(d, .pointer (some ⟨g, 0, none⟩))]) w') : X := by
 subst hz
 obtain ⟨S', hx, hp', ha, hP'⟩ := push_row hp j hL hP cs x hr
 refine h _ _ ?_ (gg _ S' _ _ hx hp' ha hP')
 simp [execOp, mkO, hy, Instr.box, newVar, newRow, newObj, Sem.run, hcs]
theorem Op_.allocP (T : TypeId) (d : Tmp) (ty : TypeId) (t j : Nat) (z : Value) (cs : List Value) (x : α) (zs : List α) (hp : Hp N w0 S w L) (hL : L[j]? = some (none, .seg t E)) (hP : Pl (oRow K T) S w E xs)
  (h : VStep P (.alloc T) d ty fr ds w X Y) (hzv : (P.info? T).bind (·.zero) = some z) (hcs : z.cells = cs.toArray) (hr : K.rep S w cs x) (hz : xs ++ [x] = zs)
  (gg : ∀ g S' w' E', Ext S w S' w' → Hp N w0 S' w' (L.set j (none, .seg t E')) → Pa t S' xs.length g → Pl (oRow K T) S' w' E' zs → Y (upd fr [(d, .pointer (some ⟨g, 0, none⟩))]) w') : X := by
 subst hz
 obtain ⟨S', hx, hp', ha, hP'⟩ := push_row hp j hL hP cs x hr
 refine h _ _ ?_ (gg _ S' _ _ hx hp' ha hP')
 obtain ⟨inf, hi, hzz⟩ := Option.bind_eq_some_iff.1 hzv
 simp [execOp, mkO, Instr.alloc, zeroValue, typeInfo, program, newVar, newRow, newObj, Sem.run, hcs, hi, hzz, bind, Sem.bind, pure]
theorem Op_.stP (T : TypeId) (y z : Operand) (ty : TypeId) (t j i g o : Nat) (u : Value) (us : List Value) {cs : List Value} {ty0 : TypeId} (x' : α) (zs : List α) (hp : Hp N w0 S w L) (hL : L[j]? = some (none, .seg t E)) (hP : Pl (oRow K ty0) S w E xs)
  (hE : E[i]? = some (g, .cells cs.toArray ty0 (0, 0))) (h : SStep P (.store T y z) ty fr ds w X Y) (hy : Act.eval ⟨fr, ds⟩ y = .pointer (some ⟨g, o, none⟩)) (hz : Act.eval ⟨fr, ds⟩ z = u) (hu : u.cells = us.toArray) (hs : sizeB P T = some us.length)
  (hl : o + us.length ≤ cs.length) (h1 : ∀ v ∈ us, v.oneCell' = true) (hr : K.rep S w (cs.take o ++ (us ++ cs.drop (o + us.length))) x') (hzs : sn xs i x' = zs)
  (gg : ∀ w' E', Ext S w S w' → Hp N w0 S w' (L.set j (none, .seg t E')) → Pl (oRow K ty0) S w' E' zs → Y fr w') : X := by
 subst hzs
 obtain ⟨h2, h3⟩ := hp.mem j hL
 obtain ⟨hh, hS⟩ := h3 _ (List.mem_of_getElem? hE)
 obtain ⟨w', a1, a2, a3, a4, a5, a6, a7⟩ := store_frame (P := P) (g := g) (ty0 := ty0) (cs := cs) us 0 o w cs hh (by simpa using hl) h1
 simp only [Nat.add_zero] at a7
 obtain ⟨hx, hp'⟩ := hp.poolSet j hL hE _ a2 a3 a4 a5 a6 a7
 refine h _ ?_ (gg w' _ hx hp' ((hP.ext hx).set hE ⟨_, rfl, K.ext hx hr⟩))
 simp [execOp, mkO, hy, hz, Instr.storeAt, Instr.sureAddr, storeVar, run_sizeOf w hs, hu, a1]
end
section
variable {P : Program} {X : Prop} {Y : Array Value → World → Prop} {fr : Array Value} {ds : List Deferred}
variable {N : Nat} {w0 w w' : World} {S S' : Fz} {L : List Ent} {E : List (Nat × Obj)} {κ ν : Type} [BEq κ] [LawfulBEq κ] {enc : κ → Value} {V : Kd ν} {xs : List (List (κ × ν))} {T kt et : TypeId} {t i g : Nat}
/-! ### maps -/
theorem Op_.mkM (T : TypeId) (d : Tmp) (ty : TypeId) (t j : Nat) (enc : κ → Value) (V : Kd ν) {xs : List (List (κ × ν))} (hp : Hp N w0 S w L) (hL : L[j]? = some (none, .seg t E)) (hP : Pl (oMap enc V) S w E xs) (h : VStep P (.makeMap T none) d ty fr ds w X Y)
  (gg : ∀ g S' w' E', Ext S w S' w' → Hp N w0 S' w' (L.set j (none, .seg t E')) → Pa t S' xs.length g → Pl (oMap enc V) S' w' E' (xs ++ [[]]) → Y (upd fr [(d, .map (some g))]) w') : X := by
 obtain ⟨S', hx, hp', ha⟩ := hp.poolPush j hL (.map #[] 0) (by rintro _ _ _ ⟨⟩)
 rw [hP.len] at ha
 refine h _ _ ?_ (gg _ S' _ _ hx hp' ha ((hP.ext hx).push (oMap_nil enc V _ _)))
 simp [execOp, mkO, Instr.makeMap, newObj, Sem.run, bind, Sem.bind, pure]
theorem Op_.lkM (T : TypeId) (x k : Operand) (d : Tmp) (ty : TypeId) (kt et : TypeId) (j : Nat) (zv : Value) (z : ν) (key : κ) (dn : ν) (hp : Hp N w0 S w L) (hL : L[j]? = some (none, .seg t E)) (hP : Pl (oMap enc V) S w E xs) (ha : Pa t S i g)
  (h : VStep P (.lookup T x k false) d ty fr ds w X Y) (hx : Act.eval ⟨fr, ds⟩ x = .map (some g)) (hk : Act.eval ⟨fr, ds⟩ k = enc key) (hm : mapB P T = some (kt, et)) (hK : KOk P kt enc) (hz : (P.info? et).bind (·.zero) = some zv) (hzr : V.rep S w [zv] z)
  (hd : (mget (gn xs i) key).getD z = dn) (gg : ∀ v, V.rep S w [v] dn → Y (upd fr [(d, v)]) w) : X := by
 subst hd
 obtain ⟨o, he, hh, hS⟩ := hp.poolAt j hL ha
 obtain ⟨hl, es, clock, rfl, hms, -⟩ := hP.get he
 obtain ⟨v, hv, hr⟩ := run_lookup (w := w) hm hK hz hzr hh hms key false
 refine h _ _ ?_ (gg v hv)
 simp only [Bool.false_eq_true, if_false] at hr
 simp [execOp, mkO, hx, hk, hr]
theorem Op_.lkMk (T : TypeId) (x k : Operand) (d : Tmp) (ty : TypeId) (kt et : TypeId) (j : Nat) (zv : Value) (z : ν) (key : κ) (dn : ν) (hp : Hp N w0 S w L) (hL : L[j]? = some (none, .seg t E)) (hP : Pl (oMap enc V) S w E xs) (ha : Pa t S i g)
  (h : VStep P (.lookup T x k true) d ty fr ds w X Y) (hx : Act.eval ⟨fr, ds⟩ x = .map (some g)) (hk : Act.eval ⟨fr, ds⟩ k = enc key) (hm : mapB P T = some (kt, et)) (hK : KOk P kt enc) (hz : (P.info? et).bind (·.zero) = some zv) (hzr : V.rep S w [zv] z)
  (hd : (mget (gn xs i) key).getD z = dn) (gg : ∀ v, V.rep S w [v] dn → Y (upd fr [(d, .tuple #[v, .bool (mget (gn xs i) key).isSome])]) w) : X := by
 subst hd
 obtain ⟨o, he, hh, hS⟩ := hp.poolAt j hL ha
 obtain ⟨hl, es, clock, rfl, hms, -⟩ := hP.get he
 obtain ⟨v, hv, hr⟩ := run_lookup (w := w) hm hK hz hzr hh hms key true
 refine h _ _ ?_ (gg v hv)
 simp only [if_true] at hr
 simp [execOp, mkO, hx, hk, hr]
theorem pool_map_set (hp : Hp N w0 S w L) (j : Nat) (hL : L[j]? = some (none, .seg t E)) (hP : Pl (oMap enc V) S w E xs) {o : Obj} (he : E[i]? = some (g, o)) (hh : w.heap[g]? = some o) {es' : Array MapEntry} {clock' : Nat} {m : List (κ × ν)} (hr : (oMap enc V).rep S w (.map es' clock') m) :
  Ext S w S { w with heap := w.heap.setIfInBounds g (.map es' clock') } ∧ Hp N w0 S { w with heap := w.heap.setIfInBounds g (.map es' clock') } (L.set j (none, .seg t (E.set i (g, .map es' clock')))) ∧
   Pl (oMap enc V) S { w with heap := w.heap.setIfInBounds g (.map es' clock') } (E.set i (g, .map es' clock')) (sn xs i m) := by
 obtain ⟨h1, h2⟩ := heapSet (o' := .map es' clock') hh
 obtain ⟨hx, hp'⟩ := hp.poolSet (w' := { w with heap := w.heap.setIfInBounds g (.map es' clock') }) j hL he (.map es' clock') rfl rfl rfl (by simp) h2 h1
 exact ⟨hx, hp', (hP.ext hx).set he ((oMap enc V).ext hx hr)⟩
theorem Op_.muM (T : TypeId) (x k y : Operand) (ty : TypeId) (kt et : TypeId) (j : Nat) (key : κ) (v : Value) (b : ν) (zs : List (List (κ × ν))) (hp : Hp N w0 S w L) (hL : L[j]? = some (none, .seg t E)) (hP : Pl (oMap enc V) S w E xs) (ha : Pa t S i g)
  (h : SStep P (.mapUpdate T x k y) ty fr ds w X Y) (hx : Act.eval ⟨fr, ds⟩ x = .map (some g)) (hk : Act.eval ⟨fr, ds⟩ k = enc key) (hy : Act.eval ⟨fr, ds⟩ y = v) (hm : mapB P T = some (kt, et)) (hK : KOk P kt enc) (hv : V.rep S w [v] b)
  (hd : sn xs i (mset (gn xs i) key b) = zs) (gg : ∀ w' E', Ext S w S w' → Hp N w0 S w' (L.set j (none, .seg t E')) → Pl (oMap enc V) S w' E' zs → (∃ o, E' = E.set i (g, o)) → Y fr w') : X := by
 subst hd
 obtain ⟨o, he, hh, hS⟩ := hp.poolAt j hL ha
 obtain ⟨hl, hro⟩ := hP.get he
 obtain ⟨es, clock, rfl, hms⟩ := hro
 obtain ⟨es', clock', hr, hr'⟩ := run_mapUpdate (P := P) hm hK hh ⟨es, clock, rfl, hms⟩ key hv
 obtain ⟨a1, a2, a3⟩ := pool_map_set hp j hL hP he hh hr'
 refine h _ ?_ (gg _ _ a1 a2 a3 ⟨_, rfl⟩)
 simp [execOp, mkO, hx, hk, hy, hr]
theorem Op_.deM (T kT : TypeId) (x k : Operand) (ty : TypeId) (kt et : TypeId) (j : Nat) (key : κ) (zs : List (List (κ × ν))) (hp : Hp N w0 S w L) (hL : L[j]? = some (none, .seg t E)) (hP : Pl (oMap enc V) S w E xs) (ha : Pa t S i g)
  (h : V0Step P (.call { callee := .builtin .delete, args := #[x, k], argTypes := #[T, kT] }) ty fr ds w X Y) (hx : Act.eval ⟨fr, ds⟩ x = .map (some g)) (hk : Act.eval ⟨fr, ds⟩ k = enc key) (hm : mapB P T = some (kt, et)) (hK : KOk P kt enc)
  (hd : sn xs i (mdel (gn xs i) key) = zs) (gg : ∀ w' E', Ext S w S w' → Hp N w0 S w' (L.set j (none, .seg t E')) → Pl (oMap enc V) S w' E' zs → (∃ o, E' = E.set i (g, o)) → Y fr w') : X := by
 subst hd
 obtain ⟨o, he, hh, hS⟩ := hp.poolAt j hL ha
 obtain ⟨hl, hro⟩ := hP.get he
 obtain ⟨es, clock, rfl, hms⟩ := hro
 obtain ⟨es', clock', hr, hr'⟩ := run_delete (P := P) hm hK hh ⟨es, clock, rfl, hms⟩ key kT ty
 obtain ⟨a1, a2, a3⟩ := pool_map_set hp j hL hP he hh hr'
 refine h (.tuple #[]) _ ?_ (gg _ _ a1 a2 a3 ⟨_, rfl⟩)
 simp [execOp, mkO, hx, hk, resolve, invoke, builtin, hr]
theorem Op_.deN (T kT : TypeId) (x k : Operand) (ty : TypeId) (kt et : TypeId) (key : κ) (h : V0Step P (.call { callee := .builtin .delete, args := #[x, k], argTypes := #[T, kT] }) ty fr ds w X Y) (hx : Act.eval ⟨fr, ds⟩ x = .map none) (hk : Act.eval ⟨fr, ds⟩ k = enc key) (hm : mapB P T = some (kt, et)) (hK : KOk P kt enc)
  (gg : Y fr w) : X := by
 refine h (.tuple #[]) _ ?_ gg
 simp [execOp, mkO, hx, hk, resolve, invoke, builtin, run_deleteN (P := P) hm hK key kT ty w]
theorem Op_.lenM (T : TypeId) (x : Operand) (d : Tmp) (ty : TypeId) (kt et : TypeId) (j : Nat) (hp : Hp N w0 S w L) (hL : L[j]? = some (none, .seg t E)) (hP : Pl (oMap enc V) S w E xs) (ha : Pa t S i g)
  (h : VStep P (.call { callee := .builtin .len, args := #[x], argTypes := #[T] }) d ty fr ds w X Y) (hx : Act.eval ⟨fr, ds⟩ x = .map (some g)) (hm : mapB P T = some (kt, et)) (gg : Y (upd fr [(d, .int .i64 ((gn xs i).length : Int))]) w) : X := by
 obtain ⟨o, he, hh, hS⟩ := hp.poolAt j hL ha
 obtain ⟨hl, es, clock, rfl, hms, -⟩ := hP.get he
 have hr : (Builtin.len_ #[T] ty #[.map (some g)]).run P w = .ok (.int .i64 ((gn xs i).length : Int)) w := by
  have := hms.len
  simp only [Array.length_toList] at this
  simp [Builtin.len_, run_underlying (mapB_spec hm), MapKept.run_getObj_map hh, Result.andThen, goInt, this]
 refine h _ _ ?_ gg
 simp [execOp, mkO, hx, resolve, invoke, builtin, hr]
/-! ### a map gone through -/
structure It (enc : κ → Value) (V : Kd ν) (S : Fz) (w : World) (es : Array MapEntry) (clock : Nat) (seen : Array Nat) (rem : List (κ × ν)) : Prop where
 ms : Ms enc V S w (leftOf es seen).toList rem
 nd : (es.toList.map (·.born)).Nodup
 lt : ∀ e ∈ es.toList, e.born < clock
theorem It.ext {es : Array MapEntry} {clock : Nat} {seen : Array Nat} {rem : List (κ × ν)} (h : It enc V S w es clock seen rem) (hx : Ext S w S' w') : It enc V S' w' es clock seen rem := ⟨h.ms.ext hx, h.nd, h.lt⟩
theorem Op_.rgM (T : TypeId) (x : Operand) (d : Tmp) (ty : TypeId) (kt et : TypeId) (j : Nat) (hp : Hp N w0 S w L) (hL : L[j]? = some (none, .seg t E)) (hP : Pl (oMap enc V) S w E xs) (ha : Pa t S i g)
  (h : VStep P (.range T x) d ty fr ds w X Y) (hx : Act.eval ⟨fr, ds⟩ x = .map (some g)) (hm : mapB P T = some (kt, et))
  (gg : ∀ r w' es clock, Ext S w S w' → Hp N w0 S w' ((some r, .obj (.mapIter (some g) clock #[] clock)) :: L) → E[i]? = some (g, .map es clock) → It enc V S w' es clock #[] (gn xs i) → Y (upd fr [(d, .pointer (some ⟨r, 0, none⟩))]) w') : X := by
 obtain ⟨o, he, hh, hS⟩ := hp.poolAt j hL ha
 obtain ⟨hl, es, clock, rfl, hms, hn, hb⟩ := hP.get he
 have hp' := hp.allocObj (.mapIter (some g) clock #[] clock) rfl
 have hx' := Ext.alloc S w (.mapIter (some g) clock #[] clock)
 refine h _ _ ?_ (gg w.heap.size _ es clock hx' hp' he ⟨?_, hn, hb⟩)
 ·simp [execOp, mkO, hx, Instr.range, run_underlying (mapB_spec hm), MapKept.run_getObj_map hh, Result.andThen, newObj, Sem.run]
 ·have : leftOf es #[] = es := by unfold leftOf; simp
  rw [this]; exact hms.ext hx'
theorem left_push {es : Array MapEntry} {seen : Array Nat} (hn : (es.toList.map (·.born)).Nodup) (q : Nat) {e : MapEntry} (hq : (leftOf es seen).toList[q]? = some e) : (leftOf es (seen.push e.born)).toList = (leftOf es seen).toList.eraseIdx q := by
 unfold leftOf at hq ⊢
 rw [Array.toList_filter] at hq ⊢
 rw [Array.toList_filter]
 generalize es.toList = l at hn hq ⊢
 induction l generalizing q with
 | nil => simp at hq
 | cons a l ih =>
  rw [List.map_cons, List.nodup_cons] at hn
  by_cases ha : seen.contains a.born = true
  ·have h1 : (!seen.contains a.born) = false := by rw [ha]; rfl
   have h2 : (!(seen.push e.born).contains a.born) = false := by rw [Array.contains_push, ha]; simp
   simp only [List.filter_cons, h1, h2] at hq ⊢
   exact ih q hn.2 hq
  ·have ha' : seen.contains a.born = false := by simpa using ha
   have h1 : (!seen.contains a.born) = true := by rw [ha']; rfl
   rw [List.filter_cons, h1, if_pos rfl] at hq
   cases q with
   | zero =>
    have hq0 : a = e := by simpa using hq
    subst hq0
    have h2 : (!(seen.push a.born).contains a.born) = false := by rw [Array.contains_push]; simp
    simp only [List.filter_cons, h1, h2, if_true, Bool.false_eq_true, if_false, List.eraseIdx_cons_zero]
    refine List.filter_congr fun x hx => ?_
    rw [Array.contains_push]
    have : x.born ≠ a.born := fun e => hn.1 (List.mem_map.2 ⟨x, hx, e⟩)
    simp [this]
   | succ q =>
    have hq' : (List.filter (fun e => !seen.contains e.born) l)[q]? = some e := by simpa using hq
    have hm : e ∈ l := (List.mem_filter.1 (List.mem_of_getElem? hq')).1
    have hne : a.born ≠ e.born := fun e' => hn.1 (List.mem_map.2 ⟨e, hm, e'.symm⟩)
    have h2 : (!(seen.push e.born).contains a.born) = true := by rw [Array.contains_push, ha']; simp [hne]
    simp only [List.filter_cons, h1, h2, if_true, List.eraseIdx_cons_succ]
    rw [ih q hn.2 hq']
theorem Op_.nxM (x : Operand) (d : Tmp) (ty : TypeId) (q r : Nat) {es : Array MapEntry} {clock : Nat} {seen : Array Nat} {rem : List (κ × ν)} (hp : Hp N w0 S w L) (hq : L[q]? = some (some r, .obj (.mapIter (some g) clock seen clock))) (hg : w.heap[g]? = some (.map es clock)) (hI : It enc V S w es clock seen rem)
  (h : VStep P (.next x false) d ty fr ds w X Y) (hx : Act.eval ⟨fr, ds⟩ x = .pointer (some ⟨r, 0, none⟩))
  (g0 : rem = [] → Y (upd fr [(d, .tuple #[.bool false])]) w)
  (g1 : ∀ (jx : Nat) (hj : jx < rem.length) (v : Value) (bn : Nat) w', Ext S w S w' → Hp N w0 S w' (L.set q (some r, .obj (.mapIter (some g) clock (seen.push bn) clock))) → It enc V S w' es clock (seen.push bn) (rem.eraseIdx jx) → (⟨enc rem[jx].1, v, bn⟩ : MapEntry) ∈ es.toList → V.rep S w' [v] rem[jx].2 →
   Y (upd fr [(d, .tuple #[.bool true, enc rem[jx].1, v])]) w') : X := by
 obtain ⟨k1, k2, k3⟩ := hp.mem q hq
 rcases run_next_at (P := P) w ty r g clock clock seen es clock k1 hg hI.lt (Nat.le_refl _) with ⟨hz, hr⟩ | ⟨e, he, w1, hw1, hr⟩
 ·refine h _ _ ?_ (g0 ?_)
  ·simp [execOp, mkO, hx, hr]
  ·have := hI.ms.len
   rw [Array.length_toList, hz] at this
   exact List.eq_nil_of_length_eq_zero this.symm
 ·obtain ⟨jx, hjx⟩ := List.mem_iff_getElem?.1 he
  have hlt : jx < rem.length := by rw [← hI.ms.len]; exact (List.getElem?_eq_some_iff.1 hjx).1
  obtain ⟨e2, he2, hkey, hval⟩ := hI.ms.at_ jx hlt
  rw [hjx] at he2; cases he2
  have hp1 : Hp N w0 S w1 L := by rcases hw1 with rfl | rfl; exact hp; exact hp.draw
  have hx1 : Ext S w S w1 := by rcases hw1 with rfl | rfl; exact Ext.refl _ _; exact Ext.draw
  obtain ⟨hx2, hp2⟩ := hp1.setObj q hq (.mapIter (some g) clock (seen.push e.born) clock) rfl
  have hx3 := hx1.trans hx2
  have hmem : e ∈ es.toList := by
   unfold leftOf at he
   rw [Array.toList_filter] at he
   exact (List.mem_filter.1 he).1
  obtain ⟨ek, ev, eb⟩ := e
  obtain rfl : ek = enc rem[jx].1 := hkey
  refine h _ _ ?_ (g1 jx hlt ev eb _ hx3 hp2 ⟨?_, hI.nd, hI.lt⟩ hmem (V.ext hx3 hval))
  ·simp only [execOp, mkO, hx, Sem.run_bind, hr, Result.andThen_ok, Sem.run_pure]
   rfl
  ·rw [left_push hI.nd jx hjx]; exact (hI.ms.erase jx).ext hx3
theorem Op_.enM (x : Operand) (d : Tmp) (ty : TypeId) (q r : Nat) {es : Array MapEntry} {clock : Nat} {seen : Array Nat} {k v : Value} {bn : Nat} (hp : Hp N w0 S w L) (hq : L[q]? = some (some r, .obj (.mapIter (some g) clock (seen.push bn) clock))) (hg : w.heap[g]? = some (.map es clock)) (hn : (es.toList.map (·.born)).Nodup) (he : (⟨k, v, bn⟩ : MapEntry) ∈ es.toList)
  (h : VStep P (.entry x) d ty fr ds w X Y) (hx : Act.eval ⟨fr, ds⟩ x = .pointer (some ⟨r, 0, none⟩)) (gg : Y (upd fr [(d, .tuple #[k, v])]) w) : X := by
 obtain ⟨k1, k2, k3⟩ := hp.mem q hq
 refine h _ _ ?_ gg
 simp [execOp, mkO, hx, run_entry_at (P := P) w r g clock seen es clock ⟨k, v, bn⟩ k1 hg he hn]
theorem Hp.poolGet (hp : Hp N w0 S w L) (j : Nat) (hL : L[j]? = some (none, .seg t E)) {o : Obj} (hE : E[i]? = some (g, o)) : w.heap[g]? = some o := ((hp.mem j hL).2 _ (List.mem_of_getElem? hE)).1
end
def PermP {α : Type} (Q : List α → Value → World → Prop) (r : List α) (v : Value) (w : World) : Prop := ∃ r', r'.Perm r ∧ Q r' v w
theorem Goes.monoP {α : Type} {P : Program} {b : Frame} {k : List Item} {a : Act} {w : World} {f : FuncId} {Q : List α → Value → World → Prop} {r1 r : List α} (hq : r1.Perm r) (g : Goes P b k a w (Done P f (Rets (PermP Q r1)))) : Goes P b k a w (Done P f (Rets (PermP Q r))) := fun cs => by
 obtain ⟨m, ⟨e, w', fr, ⟨v, he, r', hr', hQ⟩, h2⟩, hs⟩ := g cs
 exact ⟨m, ⟨e, w', fr, ⟨v, he, r', hr'.trans hq, hQ⟩, h2⟩, hs⟩
theorem pick_perm {α : Type} : ∀ (l : List α) (j : Nat) (hj : j < l.length), l.Perm (l[j] :: l.eraseIdx j)
 | a :: l, 0, _ => by simp
 | a :: l, j + 1, hj => by
  simp only [List.getElem_cons_succ, List.eraseIdx_cons_succ]
  exact ((pick_perm l j (by simpa using hj)).cons a).trans (List.Perm.swap _ _ _)
end Go.Gx
