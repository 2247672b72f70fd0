/-
 Kinds of data, and the rule of each operation. Generic: names no program.
-/
import Derived.Test.YtbclkjbkebebeaaGreatG1
import Derived.Laws.CopyRow
import Derived.Laws.Append
namespace Go.Gx
open Go.RowKit
/-! ### Kinds -/
def Kd.of {α : Type} (n : Nat) (enc : α → List Value) (hl : ∀ x, (enc x).length = n) (h1 : ∀ x v, v ∈ enc x → v.oneCell' = true) : Kd α :=
 ⟨n, fun _ _ vs x => vs = enc x, by rintro _ _ _ x rfl; exact hl x, by rintro _ _ _ x rfl v hv; exact h1 x v hv, by intro _ _ _ _ _ _ _ h; exact h⟩
def kInt (k : IntKind) : Kd Int := Kd.of 1 (fun x => [.int k x]) (fun _ => rfl) (fun _ v hv => by simp at hv; subst hv; rfl)
def kBool : Kd Bool := Kd.of 1 (fun x => [.bool x]) (fun _ => rfl) (fun _ v hv => by simp at hv; subst hv; rfl)
def kStr : Kd ByteArray := Kd.of 1 (fun x => [.string x]) (fun _ => rfl) (fun _ v hv => by simp at hv; subst hv; rfl)
def kSl {α : Type} (e : Kd α) : Kd (List α) :=
 ⟨1, fun S w vs xs => ∃ A c, vs = [.slice A xs.length c] ∧ Rd e S w A c xs, by rintro _ _ _ x ⟨A, c, rfl, _⟩; rfl, by rintro _ _ _ x ⟨A, c, rfl, _⟩ v hv; simp at hv; subst hv; rfl,
  by rintro _ _ _ _ _ x hx ⟨A, c, rfl, h⟩; exact ⟨A, c, rfl, h.ext hx⟩⟩
def kProd {α β : Type} (a : Kd α) (b : Kd β) : Kd (α × β) :=
 ⟨a.size + b.size, fun S w vs x => ∃ us ws, vs = us ++ ws ∧ a.rep S w us x.1 ∧ b.rep S w ws x.2,
  by rintro _ _ _ x ⟨us, ws, rfl, h1, h2⟩; simp [a.len h1, b.len h2],
  by rintro _ _ _ x ⟨us, ws, rfl, h1, h2⟩ v hv; rcases List.mem_append.1 hv with h | h; exact a.one h1 v h; exact b.one h2 v h,
  by rintro _ _ _ _ _ x hx ⟨us, ws, rfl, h1, h2⟩; exact ⟨us, ws, rfl, a.ext hx h1, b.ext hx h2⟩⟩
def kMap {α σ : Type} (f : σ → α) (K : Kd α) : Kd σ := ⟨K.size, fun S w vs s => K.rep S w vs (f s), K.len, K.one, K.ext⟩
def kArr {α : Type} (n : Nat) (e : Kd α) : Kd (List α) :=
 ⟨n * e.size, fun S w vs xs => xs.length = n ∧ Els e S w vs xs, by rintro _ _ _ x ⟨rfl, h⟩; exact h.length, by rintro _ _ _ x ⟨_, h⟩; exact h.one,
  by rintro _ _ _ _ _ x hx ⟨h, h'⟩; exact ⟨h, h'.ext hx⟩⟩
/-! ### Operations at a place -/
def mkO (op : Op) (dst : Option Tmp) (ty : TypeId) : Oper := { dst, op, type := ty, pos := "", after := #[], guard := none }
theorem execOp_only {o o' : Oper} (ρ : Operand → Value) (h : o.op = o'.op) (ht : o.type = o'.type) : execOp ρ o = execOp ρ o' := by
 unfold execOp
 rw [h, ht]
def opAtW (ops : Array Oper) (i : Nat) (fr : Array Value) : Option (Op × Option Tmp × TypeId) :=
 match ops[i]? with
 | some o => if Region.wanted o (yielded ops fr) then some (o.op, o.dst, o.type) else none
 | none => none
theorem opAtW_spec {ops : Array Oper} {i : Nat} {fr : Array Value} {op : Op} {dst : Option Tmp} {ty : TypeId} (h : opAtW ops i fr = some (op, dst, ty)) :
  ∃ o, ops[i]? = some o ∧ Region.wanted o (yielded ops fr) = true ∧ o.op = op ∧ o.dst = dst ∧ ∀ ρ, execOp ρ o = execOp ρ (mkO op dst ty) := by
 unfold opAtW at h
 split at h
 ·rename_i o ho
  split at h
  ·rename_i hg
   simp only [Option.some.injEq, Prod.mk.injEq] at h
   obtain ⟨rfl, rfl, rfl⟩ := h
   exact ⟨o, ho, hg, rfl, rfl, fun ρ => execOp_only ρ rfl rfl⟩
  ·cases h
 ·cases h
def aggB (P : Program) (t : TypeId) : Option Bool :=
 match P.underlying t with
 | some (.struct _) => some true
 | some (.array _ _) => some true
 | some _ => some false
 | none => none
def sizeB (P : Program) (t : TypeId) : Option Nat := (P.info? t).map (·.size)
def elemB (P : Program) (t : TypeId) : Option TypeId :=
 match P.underlying t with
 | some (.slice e) => some e
 | _ => none
theorem run_underlying' {P : Program} {t : TypeId} {d : TypeDesc} (w : World) (h : P.underlying t = some d) : (underlying t).run P w = .ok d w := by
 simp [underlying, program, Sem.run, h, bind, Sem.bind, pure]
theorem run_isAgg {P : Program} {t : TypeId} {b : Bool} (w : World) (h : aggB P t = some b) : (isAgg t).run P w = .ok b w := by
 unfold aggB at h
 unfold isAgg
 rw [Sem.run_bind]
 split at h
 ·rename_i hu; cases h; rw [run_underlying' w hu]; rfl
 ·rename_i hu; cases h; rw [run_underlying' w hu]; rfl
 ·rename_i d h1 h2 hu
  cases h
  rw [run_underlying' w hu]
  simp only [Result.andThen_ok]
  cases d <;> first | rfl | (exact absurd hu (h1 _)) | (exact absurd hu (h2 _ _))
 ·cases h
theorem run_sizeOf {P : Program} {t : TypeId} {n : Nat} (w : World) (h : sizeB P t = some n) : (sizeOf t).run P w = .ok n w := by
 unfold sizeB at h
 obtain ⟨i, hi, rfl⟩ := Option.map_eq_some_iff.1 h
 simp [sizeOf, typeInfo, program, Sem.run, hi, bind, Sem.bind, pure]
theorem run_load1 {P : Program} {t : TypeId} {w : World} {a : Addr} {v : Value} (h : aggB P t = some false) (hc : w.cell? a = some v) : (loadVar t a).run P w = .ok v w := by
 unfold loadVar
 rw [Sem.run_bind, run_isAgg w h]
 simp [load, Sem.run, hc]
theorem run_loadN {P : Program} {t : TypeId} {w : World} {a : Addr} (vs : List Value) (h : aggB P t = some true) (hs : sizeB P t = some vs.length) (hc : ∀ j v, vs[j]? = some v → w.cell? (a.add j) = some v) :
  (loadVar t a).run P w = .ok (.agg vs.toArray) w := by
 unfold loadVar
 rw [Sem.run_bind, run_isAgg w h]
 simp only [Result.andThen_ok, if_true]
 simp only [Sem.run_bind, run_sizeOf w hs, Result.andThen_ok, run_loadCells_list (P := P) w a vs hc, Sem.run_pure]
section
variable {P : Program} {b : Frame} {k : List Item} {w : World} {D : List Frame → Machine → Prop} {ops : Array Oper} {i : Nat} {rest : List Nat} {fr : Array Value} {ds : List Deferred}
variable {N : Nat} {w0 : World} {S : Fz} {L : List Ent}
theorem Goes.valAt (op : Op) (d : Tmp) (ty : TypeId) {v : Value} {w' : World} (h : opAtW ops i fr = some (op, some d, ty)) (hd : isDefer op = false)
  (hr : (execOp (Act.eval ⟨fr, ds⟩) (mkO op (some d) ty)).run P w = .ok (.value v) w') (g : Goes P b (.inRegion ops rest :: k) ⟨upd fr [(d, v)], ds⟩ w' D) :
  Goes P b (.inRegion ops (i :: rest) :: k) ⟨fr, ds⟩ w D := by
 obtain ⟨o, ho, hw, hop, hdst, he⟩ := opAtW_spec h
 refine .val ho hw (by rw [hop]; exact hd) (by rw [he]; exact hr) ?_
 rw [hdst]
 exact g
theorem Goes.valAt0 (op : Op) (ty : TypeId) {v : Value} {w' : World} (h : opAtW ops i fr = some (op, none, ty)) (hd : isDefer op = false)
  (hr : (execOp (Act.eval ⟨fr, ds⟩) (mkO op none ty)).run P w = .ok (.value v) w') (g : Goes P b (.inRegion ops rest :: k) ⟨fr, ds⟩ w' D) :
  Goes P b (.inRegion ops (i :: rest) :: k) ⟨fr, ds⟩ w D := by
 obtain ⟨o, ho, hw, hop, hdst, he⟩ := opAtW_spec h
 refine .val ho hw (by rw [hop]; exact hd) (by rw [he]; exact hr) ?_
 rw [hdst]
 exact g
theorem Goes.skipAt (op : Op) (ty : TypeId) {w' : World} (h : opAtW ops i fr = some (op, none, ty)) (hd : isDefer op = false)
  (hr : (execOp (Act.eval ⟨fr, ds⟩) (mkO op none ty)).run P w = .ok .skip w') (g : Goes P b (.inRegion ops rest :: k) ⟨fr, ds⟩ w' D) :
  Goes P b (.inRegion ops (i :: rest) :: k) ⟨fr, ds⟩ w D := by
 obtain ⟨o, ho, hw, hop, hdst, he⟩ := opAtW_spec h
 refine .skipv ho hw (by rw [hop]; exact hd) (by rw [he]; exact hr) ?_
 rw [hdst]
 exact g
theorem Goes.callAt (op : Op) (d : Tmp) (ty : TypeId) (f : FuncId) (args : Array Value) {R : Value → World → Prop} (h : opAtW ops i fr = some (op, some d, ty)) (hd : isDefer op = false)
  (hp : pureRun P (execOp (Act.eval ⟨fr, ds⟩) (mkO op (some d) ty)) = some (.enter f args)) (hc : Calls P f args w (Rets R))
  (g : ∀ v w', R v w' → Goes P b (.inRegion ops rest :: k) ⟨upd fr [(d, v)], ds⟩ w' D) : Goes P b (.inRegion ops (i :: rest) :: k) ⟨fr, ds⟩ w D := by
 obtain ⟨o, ho, hw, hop, hdst, he⟩ := opAtW_spec h
 refine .enter ho hw (by rw [hop]; exact hd) (by rw [he]; exact pureRun_run w hp) hc fun v w' hR => ?_
 rw [hdst]
 exact g v w' hR
def VStep (P : Program) (op : Op) (d : Tmp) (ty : TypeId) (fr : Array Value) (ds : List Deferred) (w : World) (X : Prop) (Y : Array Value → World → Prop) : Prop :=
 ∀ v w', (execOp (Act.eval ⟨fr, ds⟩) (mkO op (some d) ty)).run P w = .ok (.value v) w' → Y (upd fr [(d, v)]) w' → X
def SStep (P : Program) (op : Op) (ty : TypeId) (fr : Array Value) (ds : List Deferred) (w : World) (X : Prop) (Y : Array Value → World → Prop) : Prop :=
 ∀ w', (execOp (Act.eval ⟨fr, ds⟩) (mkO op none ty)).run P w = .ok .skip w' → Y fr w' → X
def CStep (P : Program) (op : Op) (d : Tmp) (ty : TypeId) (fr : Array Value) (ds : List Deferred) (w : World) (X : Prop) (Y : Array Value → World → Prop) : Prop :=
 ∀ f args R, pureRun P (execOp (Act.eval ⟨fr, ds⟩) (mkO op (some d) ty)) = some (.enter f args) → Calls P f args w (Rets R) → (∀ v w', R v w' → Y (upd fr [(d, v)]) w') → X
theorem Goes.cs {op : Op} {d : Tmp} {ty : TypeId} (h : opAtW ops i fr = some (op, some d, ty)) (hd : isDefer op = false := by rfl) : CStep P op d ty fr ds w (Goes P b (.inRegion ops (i :: rest) :: k) ⟨fr, ds⟩ w D) (fun fr' w' => Goes P b (.inRegion ops rest :: k) ⟨fr', ds⟩ w' D) :=
 fun f args _ hp hc g => .callAt op d ty f args h hd hp hc g
theorem Goes.vs {op : Op} {d : Tmp} {ty : TypeId} (h : opAtW ops i fr = some (op, some d, ty)) (hd : isDefer op = false := by rfl) : VStep P op d ty fr ds w (Goes P b (.inRegion ops (i :: rest) :: k) ⟨fr, ds⟩ w D) (fun fr' w' => Goes P b (.inRegion ops rest :: k) ⟨fr', ds⟩ w' D) :=
 fun _ _ hr g => .valAt op d ty h hd hr g
theorem Goes.ss {op : Op} {ty : TypeId} (h : opAtW ops i fr = some (op, none, ty)) (hd : isDefer op = false := by rfl) : SStep P op ty fr ds w (Goes P b (.inRegion ops (i :: rest) :: k) ⟨fr, ds⟩ w D) (fun fr' w' => Goes P b (.inRegion ops rest :: k) ⟨fr', ds⟩ w' D) :=
 fun _ hr g => .skipAt op ty h hd hr g
variable {X : Prop} {Y : Array Value → World → Prop}
theorem Op_.call (op : Op) (d : Tmp) (ty : TypeId) (f : FuncId) (args : Array Value) {R : Value → World → Prop} (h : CStep P op d ty fr ds w X Y) (hp : pureRun P (execOp (Act.eval ⟨fr, ds⟩) (mkO op (some d) ty)) = some (.enter f args)) (hc : Calls P f args w (Rets R))
  (g : ∀ v w', R v w' → Y (upd fr [(d, v)]) w') : X := h f args R hp hc g
theorem Op_.box (t : TypeId) (x : Operand) (d : Tmp) (ty : TypeId) (v : Value) (cs : List Value) (hp : Hp N w0 S w L) (h : VStep P (.box t x) d ty fr ds w X Y) (hx : Act.eval ⟨fr, ds⟩ x = v) (hcs : v.cells = cs.toArray)
  (g : ∀ bl w', Ext S w S w' → Hp N w0 S w' ((some bl, .row t cs cs.length 0) :: L) → Y (upd fr [(d, .pointer (some ⟨bl, 0, none⟩))]) w') :
  X := by
 refine h _ _ ?_ (g w.heap.size (w.alloc (.cells cs.toArray t)) (Ext.alloc S w _) (hp.alloc t cs))
 simp [execOp, mkO, hx, Instr.box, newVar, newRow, newObj, Sem.run, hcs]
theorem Op_.alloc (t : TypeId) (d : Tmp) (ty : TypeId) (z : Value) (cs : List Value) (hp : Hp N w0 S w L) (h : VStep P (.alloc t) d ty fr ds w X Y) (hz : (P.info? t).bind (·.zero) = some z) (hcs : z.cells = cs.toArray)
  (g : ∀ bl w', Ext S w S w' → Hp N w0 S w' ((some bl, .row t cs cs.length 0) :: L) → Y (upd fr [(d, .pointer (some ⟨bl, 0, none⟩))]) w') :
  X := by
 refine h _ _ ?_ (g w.heap.size (w.alloc (.cells cs.toArray t)) (Ext.alloc S w _) (hp.alloc t cs))
 obtain ⟨inf, hi, hzz⟩ := Option.bind_eq_some_iff.1 hz
 simp [execOp, mkO, Instr.alloc, zeroValue, typeInfo, program, newVar, newRow, newObj, Sem.run, hcs, hi, hzz, bind, Sem.bind, pure]
theorem Op_.ld1 (t : TypeId) (x : Operand) (d : Tmp) (ty : TypeId) (ad : Addr) (v : Value) (h : VStep P (.load t x) d ty fr ds w X Y) (hx : Act.eval ⟨fr, ds⟩ x = .pointer (some ad)) (ht : aggB P t = some false)
  (hc : w.cell? ad = some v) (g : Y (upd fr [(d, v)]) w) : X := by
 refine h _ _ ?_ g
 simp [execOp, mkO, hx, Instr.loadAt, Instr.sureAddr, run_load1 ht hc]
theorem Op_.ldN (t : TypeId) (x : Operand) (d : Tmp) (ty : TypeId) (ad : Addr) (vs : List Value) (h : VStep P (.load t x) d ty fr ds w X Y) (hx : Act.eval ⟨fr, ds⟩ x = .pointer (some ad)) (ht : aggB P t = some true)
  (hs : sizeB P t = some vs.length) (hc : ∀ j v, vs[j]? = some v → w.cell? (ad.add j) = some v) (g : Y (upd fr [(d, .agg vs.toArray)]) w) : X := by
 refine h _ _ ?_ g
 simp [execOp, mkO, hx, Instr.loadAt, Instr.sureAddr, run_loadN vs ht hs hc]
theorem run_stores {g : Nat} {t : TypeId} {cap kk : Nat} : ∀ (vs : List Value) (j o : Nat) (cs : List Value) (w : World) (L : List Ent) (i : Nat), Hp N w0 S w L → L[i]? = some (some g, .row t cs cap kk) → kk ≤ o + j → o + j + vs.length ≤ cs.length →
  (∀ v ∈ vs, v.oneCell' = true) → ∃ w', (storeCells ⟨g, o, none⟩ vs j).run P w = .ok () w' ∧ Ext S w S w' ∧ Hp N w0 S w' (L.set i (some g, .row t (cs.take (o + j) ++ (vs ++ cs.drop (o + j + vs.length))) cap kk))
 | [], j, o, cs, w, L, i, hp, hL, hk, hl, h1 => by
  refine ⟨w, rfl, Ext.refl _ _, ?_⟩
  simp only [List.nil_append, List.length_nil, Nat.add_zero, List.take_append_drop]
  have : L.set i (some g, .row t cs cap kk) = L := by
   obtain ⟨hlt, he⟩ := List.getElem?_eq_some_iff.1 hL
   rw [← he]; exact List.set_getElem_self hlt
  rw [this]; exact hp
 | v :: vs, j, o, cs, w, L, i, hp, hL, hk, hl, h1 => by
  simp only [List.length_cons] at hl
  have hlt : o + j < cs.length := by omega
  obtain ⟨he, hp'⟩ := hp.set i hL (o + j) hk v
  obtain ⟨w', hr, he', hp''⟩ := run_stores vs (j + 1) o (cs.set (o + j) v) _ _ i hp' (by rw [List.getElem?_set_self]; exact (List.getElem?_eq_some_iff.1 hL).1) (by omega) (by simp; omega) (fun u hu => h1 u (.tail _ hu))
  refine ⟨w', ?_, he.trans he', ?_⟩
  ·have hat := hp.mem i hL
   have hcell : w.cell? (Addr.add ⟨g, o, none⟩ j) = some cs[o + j] := by
    have := hat.cell (o + j) cs[o + j] (List.getElem?_eq_getElem hlt)
    rw [← this]; unfold Addr.add; split
    ·rename_i h0; simp [h0]
    ·rfl
   have hadd : Addr.add ⟨g, o, none⟩ j = ⟨g, o + j, none⟩ := by unfold Addr.add; split <;> simp_all
   have hfr := hat.frozen (o + j)
   simp only [storeCells, store, bind, Sem.bind]
   rw [hadd] at hcell ⊢
   have h1v := h1 v (List.mem_cons_self ..)
   cases v <;> first | (simp [Value.oneCell'] at h1v; done) | (simp only [Sem.run, hcell, hfr]; exact hr)
  ·rw [List.set_set] at hp''
   have : (cs.set (o + j) v).take (o + (j + 1)) ++ (vs ++ (cs.set (o + j) v).drop (o + (j + 1) + vs.length)) = cs.take (o + j) ++ (v :: vs ++ cs.drop (o + j + (v :: vs).length)) := by
    rw [List.drop_set_of_lt (by omega), ← Nat.add_assoc, List.take_add_one, List.take_set_of_le (by omega), List.getElem?_set_self (by omega)]
    simp [Nat.add_assoc, Nat.add_comm 1]
   rw [this] at hp''
   exact hp''
theorem Op_.st (t : TypeId) (x y : Operand) (ty : TypeId) (j g o : Nat) (u : Value) (us : List Value) {t' : TypeId} {cs : List Value} {cap kk : Nat} (hp : Hp N w0 S w L) (hL : L[j]? = some (some g, .row t' cs cap kk))
  (h : SStep P (.store t x y) ty fr ds w X Y) (hx : Act.eval ⟨fr, ds⟩ x = .pointer (some ⟨g, o, none⟩)) (hy : Act.eval ⟨fr, ds⟩ y = u) (hu : u.cells = us.toArray) (hs : sizeB P t = some us.length) (hk : kk ≤ o) (hl : o + us.length ≤ cs.length)
  (h1 : ∀ v ∈ us, v.oneCell' = true) (gg : ∀ w', Ext S w S w' → Hp N w0 S w' (L.set j (some g, .row t' (cs.take o ++ (us ++ cs.drop (o + us.length))) cap kk)) → Y fr w') :
  X := by
 obtain ⟨w', hr, he, hp'⟩ := run_stores (P := P) us 0 o cs w L j hp hL (by simpa using hk) (by simpa using hl) h1
 simp only [Nat.add_zero] at hp'
 refine h _ ?_ (gg w' he hp')
 simp [execOp, mkO, hx, hy, Instr.storeAt, Instr.sureAddr, storeVar, run_sizeOf w hs, hu, hr]
end
end Go.Gx
