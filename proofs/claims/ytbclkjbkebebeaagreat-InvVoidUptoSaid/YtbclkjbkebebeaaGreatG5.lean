/-
 Ranges over functions: the loop's record, its rounds. Generic: names no program.
-/
import Derived.Test.YtbclkjbkebebeaaGreatG4
import Derived.RangeFuncIn
namespace Go.Gx
open Go.RowKit
def yieldV (l : Nat) : Value := .func (.yield l) #[] #[]
def rfB : Code → Option (Operand × Array Tmp × Code × Code)
 | .rangeFunc f ps x y => some (f, ps, x, y)
 | _ => none
def rfAssign : Code → Code
 | .rangeFunc _ _ x _ => x
 | _ => .skip
def rfBody : Code → Code
 | .rangeFunc _ _ _ y => y
 | _ => .skip
def lpst (fn : FuncId) (tmps : Array Value) (ps : Array Tmp) (assign body : Code) (r : Nat) (st : LoopState) (c : Option Code) : Obj := .loop { state := st, pending := c, fn, tmps, params := ps, assign, body, defers := r }
def mark (r : Nat) : Deferred := { target := .collected r, args := #[] }
def rbase (f : FuncId) (l : Nat) : Frame := { (default : Frame) with fn := f, kind := .normal, roundOf := some l }
def setp (tmps : Array Value) (ps : Array Tmp) (args : Array Value) : Array Value := (ps.zip args).foldl (fun tmps (t, a) => tmps.setIfInBounds t a) tmps
def DoneR (R : Value → World → Prop) (cs : List Frame) (m : Machine) : Prop := ∀ c cs0, cs = c :: cs0 → ∃ v w', R v w' ∧ m = lone (c.finish v) cs0 w'
section
variable {N : Nat} {w0 w w' : World} {S S' : Fz} {L L' : List Ent}
theorem Hp.setObj (h : Hp N w0 S w L) (q : Nat) {l : Nat} {o : Obj} (hq : L[q]? = some (some l, .obj o)) (o' : Obj) (ho : Obj.noCells o' = true) :
  Ext S w S { w with heap := w.heap.setIfInBounds l o' } ∧ Hp N w0 S { w with heap := w.heap.setIfInBounds l o' } (L.set q (some l, .obj o')) := by
 obtain ⟨h1, h2, h3⟩ := h.mem q hq
 have hlt : l < w.heap.size := (Array.getElem?_eq_some_iff.1 h1).1
 refine ⟨⟨fun _ => Nat.le_refl _, fun b i v hi hv => ?_, fun _ => List.prefix_refl _⟩, ?_⟩
 ·have hne : b ≠ l := by rintro rfl; omega
  have : (w.heap.setIfInBounds l o')[b]? = w.heap[b]? := by rw [Array.getElem?_setIfInBounds_ne (Ne.symm hne)]
  simp only [World.cell?, this] at hv ⊢
  exact hv
 ·refine Hp.back hq ((h.front q _ hq).write _ rfl rfl rfl (by simp) (fun b hb => by rw [Array.getElem?_setIfInBounds_ne (Ne.symm hb)]) (fun _ _ => rfl) ⟨?_, ho, h3⟩)
  simp [hlt]
end
section
variable {P : Program} {b : Frame} {k : List Item} {a : Act} {w : World} {D : List Frame → Machine → Prop} {ops : Array Oper} {i : Nat} {rest : List Nat} {fr : Array Value} {ds : List Deferred}
variable {N : Nat} {w0 : World} {S : Fz} {L : List Ent}
theorem Goes.rangeF {f : FuncId} {cd : Code} (fo : Operand) (ps : Array Tmp) (g : FuncId) (first cap : Array Value) (hcd : rfB cd = some (fo, ps, rfAssign cd, rfBody cd))
  (hf : Act.eval ⟨fr, ds⟩ fo = .func (.func g) first cap) (hbody : ∀ args, pureRun P (callFunc g args) = some (.enter g args)) (hp : Hp N w0 S w L)
  (hc : ∀ r l w2, Ext S w S w2 → Hp N w0 S w2 ((some l, .obj (lpst f fr ps (rfAssign cd) (rfBody cd) r .ready none)) :: (some r, .obj (.deferred (some []))) :: L) →
   ∃ R, Calls P g (first ++ #[yieldV l] ++ cap) w2 (Rets R) ∧ ∀ v w3, R v w3 → Goes P (base f) (.endRangeFunc l :: k) ⟨fr, mark r :: ds⟩ w3 D) : Goes P (base f) (.code cd :: k) ⟨fr, ds⟩ w D := by
 have hcd' : cd = .rangeFunc fo ps (rfAssign cd) (rfBody cd) := by
  cases cd <;> simp only [rfB, Option.some.injEq, Prod.mk.injEq, reduceCtorEq] at hcd
  obtain ⟨rfl, rfl, -, -⟩ := hcd
  rfl
 generalize hasg : rfAssign cd = asg at hcd' hc
 generalize hbd : rfBody cd = bd at hcd' hc
 have hp1 := hp.allocObj (.deferred (some [])) rfl
 have hp2 := hp1.allocObj (lpst f fr ps asg bd w.heap.size .ready none) rfl
 obtain ⟨R, hcalls, hgo⟩ := hc w.heap.size (w.heap.size + 1) _ ((Ext.alloc S w _).trans (Ext.alloc S _ _)) (by simpa using hp2)
 intro cs
 obtain ⟨e, w3, fr', ⟨v, rfl, hR⟩, hsteps, hfn, hleave⟩ := hcalls ((base f).atR ⟨fr, mark w.heap.size :: ds⟩ (.inRangeFunc (w.heap.size + 1) :: k) :: cs)
 obtain ⟨m, hD, hm⟩ := hgo v w3 hR cs
 refine ⟨m, hD, ?_⟩
 have hst : step P (lone ((base f).atR ⟨fr, ds⟩ (.code cd :: k)) cs w) =
   .next (lone (Frame.enter P g (first ++ #[yieldV (w.heap.size + 1)] ++ cap) .normal) ((base f).atR ⟨fr, mark w.heap.size :: ds⟩ (.inRangeFunc (w.heap.size + 1) :: k) :: cs) ((w.alloc (.deferred (some []))).alloc (lpst f fr ps asg bd w.heap.size .ready none))) := by
  rw [hcd']
  refine stepR_rangeFunc (l := w.heap.size + 1) (mark := [mark w.heap.size]) (d := { target := .fn (.func g) cap, args := first ++ #[yieldV (w.heap.size + 1)] }) (w₁ := (w.alloc (.deferred (some []))).alloc (lpst f fr ps asg bd w.heap.size .ready none)) (w₁' := (w.alloc (.deferred (some []))).alloc (lpst f fr ps asg bd w.heap.size .ready none)) ?_ ?_ ?_
  ·simp only [Instr.enterLoop, newObj, bind, Sem.bind, pure, base, Sem.run]
   simp only [World.alloc, lpst, mark, Array.size_push]
  ·simp only [resolve, hf]
   simp [Deferred.ofValue, Act.eval, yieldV]
  ·exact pureRun_run _ (hbody _)
 refine .head hst (Steps.trans hsteps (.head (step_leave_returned hleave) ?_))
 rw [finish_atR_inRangeFunc]
 exact hm
theorem Goes.endF (q : Nat) {l : Nat} {f : FuncId} {tm : Array Value} {ps : Array Tmp} {asg bd : Code} {r : Nat} {st : LoopState} {c : Option Code} (hp : Hp N w0 S w L) (hq : L[q]? = some (some l, .obj (lpst f tm ps asg bd r st c))) (hst : (st == .busy) = false)
  (g : ∀ w', Ext S w S w' → Hp N w0 S w' (L.set q (some l, .obj (lpst f tm ps asg bd r .exhausted c))) → Goes P b ((c.map Item.code).toList ++ k) a w' D) : Goes P b (.endRangeFunc l :: k) a w D := by
 obtain ⟨h1, h2, h3⟩ := hp.mem q hq
 obtain ⟨hx, hp'⟩ := hp.setObj q hq (lpst f tm ps asg bd r .exhausted c) rfl
 refine .one1 (fun cs => stepR_endRangeFunc (jump := c) ?_) (g _ hx hp')
 have hst' : st ≠ .busy := by rintro rfl; simp at hst
 simp [Instr.endLoop, Instr.getLoop, getObj, setObj, Sem.run, bind, Sem.bind, pure, h1, lpst, hst']
theorem Goes.yieldAt (op : Op) (d : Tmp) (ty : TypeId) (q l : Nat) {f : FuncId} {tm : Array Value} {ps : Array Tmp} {asg bd : Code} {r : Nat} {st : LoopState} {c : Option Code} (args : Array Value) {R : Value → World → Prop} (hp : Hp N w0 S w L)
  (hq : L[q]? = some (some l, .obj (lpst f tm ps asg bd r st c))) (h : opAtW ops i fr = some (op, some d, ty)) (hd : isDefer op = false)
  (hx : ∀ w, (execOp (Act.eval ⟨fr, ds⟩) (mkO op (some d) ty)).run P w = (Instr.yield l args).run P w) (hsz : args.size = ps.size)
  (hr : Goes P (rbase f l) [.code asg, .beginRound, .code bd] ⟨setp tm ps args, []⟩ w (DoneR R))
  (g : ∀ v w', R v w' → Goes P b (.inRegion ops rest :: k) ⟨upd fr [(d, v)], ds⟩ w' D) : Goes P b (.inRegion ops (i :: rest) :: k) ⟨fr, ds⟩ w D := by
 obtain ⟨h1, h2, h3⟩ := hp.mem q hq
 obtain ⟨o, ho, hw, hop, hdst, he⟩ := opAtW_spec h
 intro cs
 obtain ⟨m1, hD1, hm1⟩ := hr (b.atR ⟨fr, ds⟩ (.inRegion ops (i :: rest) :: k) :: cs)
 obtain ⟨v, w', hR, rfl⟩ := hD1 _ _ rfl
 obtain ⟨m, hD, hm⟩ := g v w' hR cs
 refine ⟨m, hD, ?_⟩
 have hrun : (execOp (Act.eval ⟨fr, ds⟩) o).run P w = .ok (.round l f (setp tm ps args) asg bd) w := by
  rw [he, hx]
  simp [Instr.yield, Instr.getLoop, getObj, Sem.run, bind, Sem.bind, pure, h1, lpst, hsz, setp]
 have hst : step P (lone (b.atR ⟨fr, ds⟩ (.inRegion ops (i :: rest) :: k)) cs w) = .next (lone (Frame.round l f (setp tm ps args) asg bd .normal) (b.atR ⟨fr, ds⟩ (.inRegion ops (i :: rest) :: k) :: cs) w) :=
  step_lone_go (by rw [stepGR_op ho hw, semAt_of_notDefer _ _ (by rw [hop]; exact hd)]; simp [stepG.apply, hrun, Frame.atR])
 have hfr : Frame.round l f (setp tm ps args) asg bd .normal = (rbase f l).atR ⟨setp tm ps args, []⟩ [.code asg, .beginRound, .code bd] := rfl
 have hf := Frame.finish_atR b ⟨fr, ds⟩ ops i rest k v
 rw [ho] at hf
 refine .head hst (Steps.trans (hfr ▸ hm1) ?_)
 rw [hf]
 simp only [Option.bind_some, hdst]
 exact hm
theorem Goes.beginR (q : Nat) {l : Nat} {f : FuncId} {tm : Array Value} {ps : Array Tmp} {asg bd : Code} {r : Nat} {c : Option Code} (hb : b.roundOf = some l) (hp : Hp N w0 S w L) (hq : L[q]? = some (some l, .obj (lpst f tm ps asg bd r .ready c)))
  (g : ∀ w', Ext S w S w' → Hp N w0 S w' (L.set q (some l, .obj (lpst f tm ps asg bd r .busy c))) → Goes P b k a w' D) : Goes P b (.beginRound :: k) a w D := by
 obtain ⟨h1, h2, h3⟩ := hp.mem q hq
 obtain ⟨hx, hp'⟩ := hp.setObj q hq (lpst f tm ps asg bd r .busy c) rfl
 refine .one1 (fun cs => stepR_beginRound hb ?_) (g _ hx hp')
 simp [Instr.beginRound, Instr.getLoop, getObj, setObj, Sem.run, bind, Sem.bind, pure, h1, lpst]
theorem run_endRound {q : Nat} {l : Nat} {f : FuncId} {tm : Array Value} {ps : Array Tmp} {asg bd : Code} {r : Nat} {st : LoopState} {c : Option Code} (hp : Hp N w0 S w L) (hq : L[q]? = some (some l, .obj (lpst f tm ps asg bd r st c))) (jump : Option Code) :
  (Instr.endRound l jump).run P w = .ok (.bool jump.isNone) { w with heap := w.heap.setIfInBounds l (lpst f tm ps asg bd r (if jump.isNone then .ready else .done) jump) } := by
 obtain ⟨h1, h2, h3⟩ := hp.mem q hq
 simp [Instr.endRound, Instr.getLoop, getObj, setObj, Sem.run, bind, Sem.bind, pure, h1, lpst]
theorem Goes.endR (q : Nat) {l : Nat} {f : FuncId} {tm : Array Value} {ps : Array Tmp} {asg bd : Code} {r : Nat} {st : LoopState} {c : Option Code} {R : Value → World → Prop} (hp : Hp N w0 S w L) (hq : L[q]? = some (some l, .obj (lpst f tm ps asg bd r st c)))
  (g : ∀ w', Ext S w S w' → Hp N w0 S w' (L.set q (some l, .obj (lpst f tm ps asg bd r .ready none))) → R (.bool true) w') : Goes P (rbase f l) [] a w (DoneR R) := by
 obtain ⟨hx, hp'⟩ := hp.setObj q hq (lpst f tm ps asg bd r .ready none) rfl
 have hrun := run_endRound (P := P) hp hq none
 have hR := g _ hx hp'
 intro cs
 cases cs with
 | nil => exact ⟨_, (fun c cs0 h => (by cases h)), .refl _ _⟩
 | cons c cs0 => exact ⟨_, (fun c' cs' h => (by cases h; exact ⟨_, _, hR, rfl⟩)), .one (stepR_round_end rfl rfl hrun)⟩
def Lvs (P : Program) (fr : Frame) (w : World) (D : List Frame → Machine → Prop) : Prop := ∀ cs, ∃ m, D cs m ∧ Steps P (lone fr cs w) m
theorem lvs_mark {fr : Frame} (q : Nat) {r : Nat} {ds : List Deferred} (hm : fr.mode = .returning) (hds : fr.defers = mark r :: ds) (hp : Hp N w0 S w L) (hq : L[q]? = some (some r, .obj (.deferred (some []))))
  (g : ∀ w', Ext S w S w' → Hp N w0 S w' (L.set q (some r, .obj (.deferred none))) → Lvs P { fr with defers := ds } w' D) : Lvs P fr w D := by
 obtain ⟨h1, h2, h3⟩ := hp.mem q hq
 obtain ⟨hx, hp'⟩ := hp.setObj q hq (.deferred none) rfl
 intro cs
 obtain ⟨m, hD, hs⟩ := g _ hx hp' cs
 refine ⟨m, hD, .head (step_lone_go ?_) hs⟩
 have hrun : (Instr.takeDeferred r).run P w = .ok [] { w with heap := w.heap.setIfInBounds r (.deferred none) } := by
  simp [Instr.takeDeferred, getObj, setObj, Sem.run, bind, Sem.bind, pure, h1]
 simp [stepG, hm, unwind, hds, mark, Sem.runT_eq, hrun]
theorem Goes.retL {f : FuncId} (g : Lvs P { ((base f).atR a (.code .ret :: k)) with mode := .returning } w D) : Goes P (base f) (.code .ret :: k) a w D := fun cs =>
 let ⟨m, hD, hs⟩ := g cs; ⟨m, hD, .head (stepR_ret rfl) hs⟩
theorem lvs_done {f : FuncId} {fn : Func} {v : Value} {R : Value → World → Prop} {fr : Frame} (hm : fr.mode = .returning) (hds : fr.defers = []) (hff : fr.fn = f) (hk : fr.kind = .normal) (hf : P.funcs[f]? = some fn) (hv : (results fn fr.tmps).run P w = .ok v w) (hR : R v w) :
  Lvs P fr w (Done P f (Rets R)) := fun _ => ⟨_, ⟨_, _, _, ⟨v, rfl, hR⟩, rfl, hff, hm, hds, hk, fn, by rw [hff]; exact hf, hv⟩, .refl _ _⟩
end
end Go.Gx
