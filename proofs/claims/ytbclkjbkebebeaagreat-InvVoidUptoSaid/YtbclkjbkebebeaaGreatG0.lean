/-
 Steps of a frame, as a calculus over stacks of items. Generic: names no program.
-/
import Derived.Test.YtbclkjbkebebeaaGreatGW
import Derived.Calls
import Derived.AtR
import Derived.Below
import Derived.OrdersHeld
import Derived.KernelRfl
namespace Go.Gx
open Go.RowKit
def sub : List Nat → Code → Code
 | [], c => c
 | 0 :: p, .seq x _ => sub p x
 | _ :: p, .seq _ y => sub p y
 | 0 :: p, .cond _ x _ => sub p x
 | _ :: p, .cond _ _ y => sub p y
 | _ :: p, .block _ c => sub p c
 | _ :: p, .loop c => sub p c
 | _ :: p, .scope c => sub p c
 | 0 :: p, .rangeFunc _ _ x _ => sub p x
 | _ :: p, .rangeFunc _ _ _ y => sub p y
 | _ :: _, _ => .skip
def opsOf : Code → Array Oper
 | .region _ ops _ => ops
 | _ => #[]
def upd (a : Array Value) : List (Nat × Value) → Array Value
 | [] => a
 | (i, v) :: r => upd (a.setIfInBounds i v) r
def slot (live : List (Nat × Value)) (junk : Nat → Value) (i : Nat) : Value :=
 match live with
 | [] => junk i
 | (j, v) :: r => if i = j then v else slot r junk i
def slots (live : List (Nat × Value)) (junk : Nat → Value) : Nat → Nat → List Value
 | 0, _ => []
 | n + 1, i => slot live junk i :: slots live junk n (i + 1)
def lfr (n : Nat) (live : List (Nat × Value)) (junk : Nat → Value) : Array Value := (slots live junk n 0).toArray
def Goes (P : Program) (b : Frame) (k : List Item) (a : Act) (w : World) (D : List Frame → Machine → Prop) : Prop :=
 ∀ cs, ∃ m, D cs m ∧ Steps P (lone (b.atR a k) cs w) m
section
variable {P : Program} {b : Frame} {k k' : List Item} {a a' : Act} {w w' : World} {D : List Frame → Machine → Prop}
theorem Goes.one1 (h : ∀ cs, step P (lone (b.atR a k) cs w) = .next (lone (b.atR a' k') cs w')) (g : Goes P b k' a' w' D) : Goes P b k a w D :=
 fun cs => let ⟨m, hd, hs⟩ := g cs; ⟨m, hd, .head (h cs) hs⟩
def pureRun {α : Type} (P : Program) : Sem α → Option α
 | .pure a => some a
 | .program k => pureRun P (k P)
 | .mark _ k => pureRun P k
 | _ => none
theorem pureRun_run {α : Type} {P : Program} {v : α} (w : World) : ∀ {s : Sem α}, pureRun P s = some v → s.run P w = .ok v w
 | .pure a, h => by cases h; rfl
 | .program k, h => pureRun_run w (s := k P) h
 | .mark _ k, h => pureRun_run w (s := k) h
 | .load .., h | .store .., h | .new .., h | .shape .., h | .freeze .., h | .frozen .., h | .getObj .., h | .setObj .., h | .choose .., h | .sys .., h | .halt .., h => by cases h
def isDefer : Op → Bool
 | .defer _ => true
 | _ => false
def run1 (P : Program) : List Item → Act → Option (List Item × Act)
 | .code .skip :: k, a => some (k, a)
 | .code (.label _) :: k, a => some (k, a)
 | .inBlock _ :: k, a => some (k, a)
 | .inScope _ :: k, a => some (k, a)
 | .code (.seq x y) :: k, a => some (.code x :: .code y :: k, a)
 | .code (.cond c x y) :: k, a =>
  match a.eval c with
  | .bool true => some (.code x :: k, a)
  | .bool false => some (.code y :: k, a)
  | _ => none
 | .code (.block id c) :: k, a => some (.code c :: .inBlock id :: k, a)
 | .code (.loop c) :: k, a => some (.code c :: .inLoop c :: k, a)
 | .code (.scope c) :: k, a => some (.code c :: .inScope c :: k, a)
 | .inLoop c :: k, a => some (.code c :: .inLoop c :: k, a)
 | .code (.exit id) :: k, a =>
  match exitTo id k with
  | some k' => some (k', a)
  | none => none
 | .code (.region _ ops false) :: k, a => some (.inRegion ops (List.range ops.size) :: k, a)
 | .inRegion _ [] :: k, a => some (k, a)
 | .inRegion ops (i :: rest) :: k, a =>
  match ops[i]? with
  | none => none
  | some o =>
   if Region.wanted o (yielded ops a.tmps) then
    if isDefer o.op then none
    else match pureRun P (execOp a.eval o) with
     | some (.value v) => some (.inRegion ops rest :: k, a.put o.dst v)
     | _ => none
   else some (.inRegion ops rest :: k, a.put o.dst undef)
 | _, _ => none
def runs (P : Program) : Nat → List Item → Act → Option (List Item × Act)
 | 0, k, a => some (k, a)
 | n + 1, k, a =>
  match run1 P k a with
  | some (k', a') => runs P n k' a'
  | none => none
theorem semAt_of_notDefer {o : Oper} (ro : Option Nat) (ρ : Operand → Value) (h : isDefer o.op = false) : o.semAt ro ρ = execOp ρ o :=
 Oper.semAt_eq ro ρ o fun c hc => by rw [hc] at h; cases h
theorem step_val {ops : Array Oper} {i : Nat} {rest : List Nat} {o : Oper} {v : Value} (ho : ops[i]? = some o) (hw : Region.wanted o (yielded ops a.tmps) = true) (hd : isDefer o.op = false)
  (hr : (execOp a.eval o).run P w = .ok (.value v) w') (cs : List Frame) :
  step P (lone (b.atR a (.inRegion ops (i :: rest) :: k)) cs w) = .next (lone (b.atR (a.put o.dst v) (.inRegion ops rest :: k)) cs w') := by
 have hf := Frame.finish_atR b a ops i rest k v
 rw [ho] at hf
 refine step_lone_go ?_
 rw [stepGR_op ho hw, semAt_of_notDefer _ _ hd]
 rw [show (a.put o.dst v) = a.put ((some o).bind (·.dst)) v from rfl, ← hf]
 simp [stepG.apply, hr]
theorem step_skipv {ops : Array Oper} {i : Nat} {rest : List Nat} {o : Oper} (ho : ops[i]? = some o) (hw : Region.wanted o (yielded ops a.tmps) = true) (hd : isDefer o.op = false)
  (hr : (execOp a.eval o).run P w = .ok .skip w') (cs : List Frame) :
  step P (lone (b.atR a (.inRegion ops (i :: rest) :: k)) cs w) = .next (lone (b.atR (a.put o.dst undef) (.inRegion ops rest :: k)) cs w') := by
 have hf := Frame.finish_atR b a ops i rest k undef
 rw [ho] at hf
 refine step_lone_go ?_
 rw [stepGR_op ho hw, semAt_of_notDefer _ _ hd]
 rw [show (a.put o.dst undef) = a.put ((some o).bind (·.dst)) undef from rfl, ← hf]
 simp [stepG.apply, hr]
theorem run1_step (h : run1 P k a = some (k', a')) (cs : List Frame) : step P (lone (b.atR a k) cs w) = .next (lone (b.atR a' k') cs w) := by
 unfold run1 at h
 split at h
 ·cases h; exact stepR_skip
 ·cases h; exact stepR_label
 ·cases h; exact stepR_inBlock
 ·cases h; exact step_lone_go (by simp [stepG, stepG.exec, Frame.atR])
 ·cases h; exact stepR_seq
 ·split at h
  ·rename_i he; cases h; exact (stepR_cond he).trans (by simp)
  ·rename_i he; cases h; exact (stepR_cond he).trans (by simp)
  ·cases h
 ·cases h; exact stepR_block
 ·cases h; exact stepR_loop
 ·cases h; exact step_lone_go (by simp [stepG, stepG.exec, Frame.atR])
 ·cases h; exact stepR_inLoop
 ·split at h
  ·rename_i he; cases h; exact stepR_exit he
  ·cases h
 ·cases h; exact stepR_region
 ·cases h; exact stepR_region_end
 ·split at h
  ·cases h
  ·rename_i o ho
   split at h
   ·rename_i hw
    split at h
    ·cases h
    ·rename_i hd
     split at h
     ·rename_i v hp
      cases h
      exact step_val ho hw (by simpa using hd) (pureRun_run w hp) cs
     ·cases h
   ·rename_i hw
    cases h
    have := stepR_op_skip (P := P) (b := b) (a := a) (k := by assumption) (cs := cs) (w := w) (ops := by assumption) (i := by assumption) (rest := by assumption) (by rw [ho]; simpa using hw)
    rw [ho] at this
    exact this
 ·cases h
theorem Goes.runs (n : Nat) {fr : Array Value} {ds : List Deferred} (u : List (Nat × Value)) (k' : List Item) (h : Gx.runs P n k ⟨fr, ds⟩ = some (k', ⟨upd fr u, ds⟩)) (g : Goes P b k' ⟨upd fr u, ds⟩ w D) :
  Goes P b k ⟨fr, ds⟩ w D := by
 generalize (⟨fr, ds⟩ : Act) = a at h
 generalize (⟨upd fr u, ds⟩ : Act) = a' at h g
 induction n generalizing k a with
 | zero => cases h; exact g
 | succ n ih =>
  simp only [Gx.runs] at h
  split at h
  ·rename_i k1 a1 h1
   exact .one1 (fun cs => run1_step h1 cs) (ih _ h)
  ·cases h
theorem Goes.jump {fr : Array Value} {ds : List Deferred} (n : Nat) (live : List (Nat × Value)) (h : fr = lfr n live (fun i => fr.getD i undef)) (g : ∀ junk, Goes P b k ⟨lfr n live junk, ds⟩ w D) : Goes P b k ⟨fr, ds⟩ w D := by
 rw [h]
 exact g _
theorem Goes.cond {c : Operand} {x y : Code} (t : Bool) (hc : a.eval c = .bool t) (ht : t = true → Goes P b (.code x :: k) a w D) (hf : t = false → Goes P b (.code y :: k) a w D) :
  Goes P b (.code (.cond c x y) :: k) a w D := by
 cases t
 ·exact .one1 (fun cs => (stepR_cond hc).trans (by simp)) (hf rfl)
 ·exact .one1 (fun cs => (stepR_cond hc).trans (by simp)) (ht rfl)
theorem Goes.val {ops : Array Oper} {i : Nat} {rest : List Nat} {o : Oper} {v : Value} (ho : ops[i]? = some o) (hw : Region.wanted o (yielded ops a.tmps) = true) (hd : isDefer o.op = false)
  (hr : (execOp a.eval o).run P w = .ok (.value v) w') (g : Goes P b (.inRegion ops rest :: k) (a.put o.dst v) w' D) : Goes P b (.inRegion ops (i :: rest) :: k) a w D :=
 .one1 (fun cs => step_val ho hw hd hr cs) g
theorem Goes.skipv {ops : Array Oper} {i : Nat} {rest : List Nat} {o : Oper} (ho : ops[i]? = some o) (hw : Region.wanted o (yielded ops a.tmps) = true) (hd : isDefer o.op = false)
  (hr : (execOp a.eval o).run P w = .ok .skip w') (g : Goes P b (.inRegion ops rest :: k) (a.put o.dst undef) w' D) : Goes P b (.inRegion ops (i :: rest) :: k) a w D :=
 .one1 (fun cs => step_skipv ho hw hd hr cs) g
def Rets (R : Value → World → Prop) (e : Ending) (w : World) : Prop := ∃ v, e = .returned v ∧ R v w
theorem Goes.enter {ops : Array Oper} {i : Nat} {rest : List Nat} {o : Oper} {f : FuncId} {args : Array Value} {R : Value → World → Prop} (ho : ops[i]? = some o) (hw : Region.wanted o (yielded ops a.tmps) = true)
  (hd : isDefer o.op = false) (hr : (execOp a.eval o).run P w = .ok (.enter f args) w') (hc : Calls P f args w' (Rets R))
  (g : ∀ v w'', R v w'' → Goes P b (.inRegion ops rest :: k) (a.put o.dst v) w'' D) : Goes P b (.inRegion ops (i :: rest) :: k) a w D := by
 intro cs
 obtain ⟨e, w'', fr, ⟨v, rfl, hR⟩, hsteps, hfn, hleave⟩ := hc (b.atR a (.inRegion ops (i :: rest) :: k) :: cs)
 obtain ⟨m, hD, hm⟩ := g v w'' hR cs
 refine ⟨m, hD, ?_⟩
 have henter : step P (lone (b.atR a (.inRegion ops (i :: rest) :: k)) cs w) = .next (lone (Frame.enter P f args .normal) (b.atR a (.inRegion ops (i :: rest) :: k) :: cs) w') :=
  step_lone_go (by rw [stepGR_op ho hw, semAt_of_notDefer _ _ hd]; simp [stepG.apply, hr, Frame.atR])
 have hf := Frame.finish_atR b a ops i rest k v
 rw [ho] at hf
 refine .head henter (Steps.trans hsteps (.head (step_leave_returned hleave) ?_))
 rw [hf]
 exact hm
def Done (P : Program) (f : FuncId) (R : Ending → World → Prop) (cs : List Frame) (m : Machine) : Prop :=
 ∃ e w' fr, R e w' ∧ m = lone fr cs w' ∧ fr.fn = f ∧ fr.leaving P w' e
def base (f : FuncId) : Frame := { (default : Frame) with fn := f, kind := .normal, roundOf := none }
theorem calls_of_goes {f : FuncId} {fn : Func} {c : Code} {args : Array Value} {R : Value → World → Prop} (hf : P.funcs[f]? = some fn) (hb : fn.body = some c) (n : Nat) (hn : fn.ntmps - args.size = n)
  (g : Goes P (base f) [.code c] ⟨args ++ Array.replicate n undef, []⟩ w (Done P f (Rets R))) : Calls P f args w (Rets R) := by
 intro cs
 obtain ⟨m, ⟨e, w', fr, hR, rfl, hfn, hl⟩, hs⟩ := g cs
 refine ⟨e, w', fr, hR, ?_, hfn, hl⟩
 have henter : Frame.enter P f args .normal = (base f).atR ⟨args ++ Array.replicate n undef, []⟩ [.code c] := by
  simp [Frame.enter, Frame.atR, hf, hb, base, hn]
 obtain ⟨v, rfl, _⟩ := hR
 rw [henter]
 exact hs
theorem Goes.ret {f : FuncId} {fn : Func} {v : Value} {R : Value → World → Prop} {fr : Array Value} (hf : P.funcs[f]? = some fn) (hv : (results fn fr).run P w = .ok v w) (hR : R v w) :
  Goes P (base f) (.code .ret :: k) ⟨fr, []⟩ w (Done P f (Rets R)) := fun _ =>
 ⟨_, ⟨_, _, _, ⟨v, rfl, hR⟩, rfl, rfl, rfl, rfl, rfl, fn, hf, hv⟩, .one (stepR_ret rfl)⟩
theorem Goes.end_ {f : FuncId} {fn : Func} {v : Value} {R : Value → World → Prop} {fr : Array Value} (hf : P.funcs[f]? = some fn) (hv : (results fn fr).run P w = .ok v w) (hR : R v w) :
  Goes P (base f) [] ⟨fr, []⟩ w (Done P f (Rets R)) := fun _ =>
 ⟨_, ⟨_, _, _, ⟨v, rfl, hR⟩, rfl, rfl, rfl, rfl, rfl, fn, hf, hv⟩, .one (stepR_end rfl)⟩
theorem Goes.mono {D' : List Frame → Machine → Prop} (h : ∀ cs m, D cs m → D' cs m) (g : Goes P b k a w D) : Goes P b k a w D' :=
 fun cs => let ⟨m, hd, hs⟩ := g cs; ⟨m, h _ _ hd, hs⟩
end
/-! ### Words on what a pure function answers -/
theorem guard_some {α : Type} {c : Prop} [Decidable c] {x : Option α} {r : α} (h : (if c then x else none) = some r) : c ∧ x = some r := by
 split at h
 ·exact ⟨by assumption, h⟩
 ·cases h
theorem bind_some {α β : Type} {x : Option α} {f : α → Option β} {r : β} (h : (x >>= f) = some r) : ∃ y, x = some y ∧ f y = some r := by
 cases x with
 | none => cases h
 | some y => exact ⟨y, rfl, h⟩
end Go.Gx
