/-
 The operations on maps and on pools' things, as rules of the walk. Generic: names no program.
-/
import Derived.Test.YtdccklkdakfnaaaGreatGN
set_option linter.unusedVariables false
set_option linter.unusedSectionVars false
namespace Go.Gx
open Go.RowKit
def V0Step (P : Program) (op : Op) (ty : TypeId) (fr : Array Value) (ds : List Deferred) (w : World) (X : Prop) (Y : Array Value → World → Prop) : Prop :=
 ∀ v w', (execOp (Act.eval ⟨fr, ds⟩) (mkO op none ty)).run P w = .ok (.value v) w' → Y fr w' → X
theorem Goes.v0s {P : Program} {b : Frame} {k : List Item} {w : World} {D : List Frame → Machine → Prop} {ops : Array Oper} {i : Nat} {rest : List Nat} {fr : Array Value} {ds : List Deferred} {op : Op} {ty : TypeId} (h : opAtW ops i fr = some (op, none, ty)) (hd : isDefer op = false := by rfl) :
  V0Step P op ty fr ds w (Goes P b (.inRegion ops (i :: rest) :: k) ⟨fr, ds⟩ w D) (fun fr' w' => Goes P b (.inRegion ops rest :: k) ⟨fr', ds⟩ w' D) :=
 fun _ _ hr g => .valAt0 op ty h hd hr g
theorem one_sl {α : Type} {K : Kd α} {S : Fz} {w : World} {v : Value} {x : List α} (h : (kSl K).rep S w [v] x) : ∃ A c, v = .slice A x.length c ∧ Rd K S w A c x := by
 obtain ⟨A, c, e, h⟩ := h; injection e with e; exact ⟨A, c, e, h⟩
section
variable {P : Program} {X : Prop} {Y : Array Value → World → Prop} {fr : Array Value} {ds : List Deferred}
variable {N : Nat} {w0 w w' : World} {S S' : Fz} {L : List Ent} {E : List (Nat × Obj)} {α : Type} [Inhabited α] {K : Kd α} {xs : List α}
/-! ### structs in pools -/
end
section
variable {P : Program} {X : Prop} {Y : Array Value → World → Prop} {fr : Array Value} {ds : List Deferred}
variable {N : Nat} {w0 w w' : World} {S S' : Fz} {L : List Ent} {E : List (Nat × Obj)} {κ ν : Type} [BEq κ] [LawfulBEq κ] {enc : κ → Value} {V : Kd ν} {xs : List (List (κ × ν))} {T kt et : TypeId} {t i g : Nat}
/-! ### maps -/
theorem Op_.mkM (T : TypeId) (d : Tmp) (ty : TypeId) (t j : Nat) (enc : κ → Value) (V : Kd ν) {xs : List (List (κ × ν))} (hp : Hp N w0 S w L) (hL : L[j]? = some (none, .seg t E)) (hP : Pl (oMap enc V) S w E xs) (h : VStep P (.makeMap T none) d ty fr ds w X Y)
  (gg : ∀ g S' w' E', Ext S w S' w' → Hp N w0 S' w' (L.set j (none, .seg t E')) → Pa t S' xs.length g → Pl (oMap enc V) S' w' E' (xs ++ [[]]) → Y (upd fr [(d, .map (some g))]) w') : X := by
 obtain ⟨S', hx, hp', ha⟩ := hp.poolPush j hL (.map #[] 0) (by rintro _ _ _ ⟨⟩)
 rw [hP.len] at ha
 refine h _ _ ?_ (gg _ S' _ _ hx hp' ha ((hP.ext hx).push (oMap_nil enc V _ _)))
 simp [execOp, mkO, Instr.makeMap, newObj, Sem.run, bind, Sem.bind, pure]
theorem Op_.lkM (T : TypeId) (x k : Operand) (d : Tmp) (ty : TypeId) (kt et : TypeId) (j : Nat) (zv : Value) (z : ν) (key : κ) (dn : ν) (hp : Hp N w0 S w L) (hL : L[j]? = some (none, .seg t E)) (hP : Pl (oMap enc V) S w E xs) (ha : Pa t S i g)
  (h : VStep P (.lookup T x k false) d ty fr ds w X Y) (hx : Act.eval ⟨fr, ds⟩ x = .map (some g)) (hk : Act.eval ⟨fr, ds⟩ k = enc key) (hm : mapB P T = some (kt, et)) (hK : KOk P kt enc) (hz : (P.info? et).bind (·.zero) = some zv) (hzr : V.rep S w [zv] z)
  (hd : (mget (gn xs i) key).getD z = dn) (gg : ∀ v, V.rep S w [v] dn → Y (upd fr [(d, v)]) w) : X := by
 subst hd
 obtain ⟨o, he, hh, hS⟩ := hp.poolAt j hL ha
 obtain ⟨hl, es, clock, rfl, hms, -⟩ := hP.get he
 obtain ⟨v, hv, hr⟩ := run_lookup (w := w) hm hK hz hzr hh hms key false
 refine h _ _ ?_ (gg v hv)
 simp only [Bool.false_eq_true, if_false] at hr
 simp [execOp, mkO, hx, hk, hr]
theorem pool_map_set (hp : Hp N w0 S w L) (j : Nat) (hL : L[j]? = some (none, .seg t E)) (hP : Pl (oMap enc V) S w E xs) {o : Obj} (he : E[i]? = some (g, o)) (hh : w.heap[g]? = some o) {es' : Array MapEntry} {clock' : Nat} {m : List (κ × ν)} (hr : (oMap enc V).rep S w (.map es' clock') m) :
  Ext S w S { w with heap := w.heap.setIfInBounds g (.map es' clock') } ∧ Hp N w0 S { w with heap := w.heap.setIfInBounds g (.map es' clock') } (L.set j (none, .seg t (E.set i (g, .map es' clock')))) ∧
   Pl (oMap enc V) S { w with heap := w.heap.setIfInBounds g (.map es' clock') } (E.set i (g, .map es' clock')) (sn xs i m) := by
 obtain ⟨h1, h2⟩ := heapSet (o' := .map es' clock') hh
 obtain ⟨hx, hp'⟩ := hp.poolSet (w' := { w with heap := w.heap.setIfInBounds g (.map es' clock') }) j hL he (.map es' clock') rfl rfl rfl (by simp) h2 h1
 exact ⟨hx, hp', (hP.ext hx).set he ((oMap enc V).ext hx hr)⟩
theorem Op_.muM (T : TypeId) (x k y : Operand) (ty : TypeId) (kt et : TypeId) (j : Nat) (key : κ) (v : Value) (b : ν) (zs : List (List (κ × ν))) (hp : Hp N w0 S w L) (hL : L[j]? = some (none, .seg t E)) (hP : Pl (oMap enc V) S w E xs) (ha : Pa t S i g)
  (h : SStep P (.mapUpdate T x k y) ty fr ds w X Y) (hx : Act.eval ⟨fr, ds⟩ x = .map (some g)) (hk : Act.eval ⟨fr, ds⟩ k = enc key) (hy : Act.eval ⟨fr, ds⟩ y = v) (hm : mapB P T = some (kt, et)) (hK : KOk P kt enc) (hv : V.rep S w [v] b)
  (hd : sn xs i (mset (gn xs i) key b) = zs) (gg : ∀ w' E', Ext S w S w' → Hp N w0 S w' (L.set j (none, .seg t E')) → Pl (oMap enc V) S w' E' zs → (∃ o, E' = E.set i (g, o)) → Y fr w') : X := by
 subst hd
 obtain ⟨o, he, hh, hS⟩ := hp.poolAt j hL ha
 obtain ⟨hl, hro⟩ := hP.get he
 obtain ⟨es, clock, rfl, hms⟩ := hro
 obtain ⟨es', clock', hr, hr'⟩ := run_mapUpdate (P := P) hm hK hh ⟨es, clock, rfl, hms⟩ key hv
 obtain ⟨a1, a2, a3⟩ := pool_map_set hp j hL hP he hh hr'
 refine h _ ?_ (gg _ _ a1 a2 a3 ⟨_, rfl⟩)
 simp [execOp, mkO, hx, hk, hy, hr]
theorem Op_.deM (T kT : TypeId) (x k : Operand) (ty : TypeId) (kt et : TypeId) (j : Nat) (key : κ) (zs : List (List (κ × ν))) (hp : Hp N w0 S w L) (hL : L[j]? = some (none, .seg t E)) (hP : Pl (oMap enc V) S w E xs) (ha : Pa t S i g)
  (h : V0Step P (.call { callee := .builtin .delete, args := #[x, k], argTypes := #[T, kT] }) ty fr ds w X Y) (hx : Act.eval ⟨fr, ds⟩ x = .map (some g)) (hk : Act.eval ⟨fr, ds⟩ k = enc key) (hm : mapB P T = some (kt, et)) (hK : KOk P kt enc)
  (hd : sn xs i (mdel (gn xs i) key) = zs) (gg : ∀ w' E', Ext S w S w' → Hp N w0 S w' (L.set j (none, .seg t E')) → Pl (oMap enc V) S w' E' zs → (∃ o, E' = E.set i (g, o)) → Y fr w') : X := by
 subst hd
 obtain ⟨o, he, hh, hS⟩ := hp.poolAt j hL ha
 obtain ⟨hl, hro⟩ := hP.get he
 obtain ⟨es, clock, rfl, hms⟩ := hro
 obtain ⟨es', clock', hr, hr'⟩ := run_delete (P := P) hm hK hh ⟨es, clock, rfl, hms⟩ key kT ty
 obtain ⟨a1, a2, a3⟩ := pool_map_set hp j hL hP he hh hr'
 refine h (.tuple #[]) _ ?_ (gg _ _ a1 a2 a3 ⟨_, rfl⟩)
 simp [execOp, mkO, hx, hk, resolve, invoke, builtin, hr]
/-! ### a map gone through -/
structure It (enc : κ → Value) (V : Kd ν) (S : Fz) (w : World) (es : Array MapEntry) (clock : Nat) (seen : Array Nat) (rem : List (κ × ν)) : Prop where
 ms : Ms enc V S w (leftOf es seen).toList rem
 nd : (es.toList.map (·.born)).Nodup
 lt : ∀ e ∈ es.toList, e.born < clock
theorem It.ext {es : Array MapEntry} {clock : Nat} {seen : Array Nat} {rem : List (κ × ν)} (h : It enc V S w es clock seen rem) (hx : Ext S w S' w') : It enc V S' w' es clock seen rem := ⟨h.ms.ext hx, h.nd, h.lt⟩
end
end Go.Gx
