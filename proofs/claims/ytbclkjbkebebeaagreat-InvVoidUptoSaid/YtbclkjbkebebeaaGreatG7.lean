/-
 Regions whose order is open. An operation that yields the same in every world that meets a condition may be taken first. Generic: names no program.
-/
import Derived.Test.YtbclkjbkebebeaaGreatG6
import Derived.Orders
import Derived.OrdersHeld
namespace Go.Gx
open Go.RowKit
section
variable {P : Program} {ops : Array Oper} {Q : Exit → Act → World → Prop} {md : Region.Mode} {F : World → Prop} {s : List Nat}
def AnyS (P : Program) (md : Region.Mode) (ops : Array Oper) (Q : Exit → Act → World → Prop) (F : World → Prop) (s : List Nat) : Nat → Array Bool → Act → World → Prop
 | 0, listed, a, w => Region.ready md ops listed = [] ∧ Q .normal a w
 | fuel + 1, listed, a, w => (Region.ready md ops listed = [] → Q .normal a w) ∧
  ∀ i ∈ Region.ready md ops listed, wpOp P ops Q i (fun a' w' => (i ∈ s ∧ wpAny P md ops Q fuel (listed.setIfInBounds i true) a' w') ∨ (F w' ∧ AnyS P md ops Q F s fuel (listed.setIfInBounds i true) a' w')) a w
theorem AnyS.any : ∀ (fuel : Nat) (listed : Array Bool) (a : Act) (w : World), AnyS P md ops Q F s fuel listed a w → wpAny P md ops Q fuel listed a w
 | 0, _, _, _, h => h
 | fuel + 1, _, _, _, h => ⟨h.1, fun i hi => wpOp_mono (fun a' w' h' => h'.elim (·.2) fun h'' => AnyS.any fuel _ a' w' h''.2) (h.2 i hi)⟩
def depsOf (md : Region.Mode) (ops : Array Oper) (k : Nat) : List Nat :=
 match ops[k]? with
 | none => []
 | some o => (o.after.toList.filter fun e => Region.binds md e).map fun e => e.on
def upL (md : Region.Mode) (ops : Array Oper) : Nat → List Nat → List Nat
 | 0, l => l
 | k + 1, l => upL md ops k (if l.contains k then depsOf md ops k ++ l else l)
def waitsB (md : Region.Mode) (ops : Array Oper) (q i : Nat) : Bool := (upL md ops q (depsOf md ops q)).contains i
def Closed (md : Region.Mode) (ops : Array Oper) (listed : Array Bool) : Prop := ∀ k, listed.getD k false = true → ∀ d ∈ depsOf md ops k, listed.getD d false = true
theorem upL_listed {listed : Array Bool} (hcl : Closed md ops listed) : ∀ (k : Nat) (l : List Nat), (∀ d ∈ l, listed.getD d false = true) → ∀ d ∈ upL md ops k l, listed.getD d false = true
 | 0, l, h => h
 | k + 1, l, h => by
  rw [upL]
  refine upL_listed hcl k _ ?_
  split
  ·rename_i hc
   intro d hd
   rcases List.mem_append.1 hd with hd | hd
   ·exact hcl k (h k (by simpa using hc)) d hd
   ·exact h d hd
  ·exact h
theorem deps_ready {q : Nat} {listed : Array Bool} (hq : q ∈ Region.ready md ops listed) : ∀ d ∈ depsOf md ops q, listed.getD d false = true := by
 obtain ⟨_, o, ho, hall⟩ := mem_ready.1 hq
 intro d hd
 simp only [depsOf, ho, List.mem_map, List.mem_filter] at hd
 obtain ⟨e, ⟨he, hb⟩, rfl⟩ := hd
 have := hall e (by simpa using he) hb
 rcases Nat.lt_or_ge e.on listed.size with h' | h'
 ·simp [h'] at this ⊢; exact this
 ·simp [Array.getElem?_eq_none h'] at this
theorem waits_spec {q i : Nat} {listed : Array Bool} (hcl : Closed md ops listed) (h : waitsB md ops q i = true) (hi : listed.getD i false = false) : q ∉ Region.ready md ops listed := by
 intro hq
 have := upL_listed hcl q _ (deps_ready hq) i (by simpa [waitsB] using h)
 rw [hi] at this
 cases this
theorem Closed.set {j : Nat} {listed : Array Bool} (hcl : Closed md ops listed) (hj : j ∈ Region.ready md ops listed) : Closed md ops (listed.setIfInBounds j true) := by
 have up : ∀ d, listed.getD d false = true → (listed.setIfInBounds j true).getD d false = true := by
  intro d hd
  by_cases hjd : j = d
  ·subst hjd
   rcases Nat.lt_or_ge j listed.size with h' | h'
   ·simp [h']
   ·simp [Array.getElem?_eq_none h'] at hd
  ·rw [getD_set_ne false hjd]; exact hd
 intro k hk d hd
 by_cases hjk : j = k
 ·subst hjk; exact up d (deps_ready hj d hd)
 ·rw [getD_set_ne false hjk] at hk; exact up d (hcl k hk d hd)
theorem Closed.none (n : Nat) : Closed md ops (Array.replicate n false) := by
 intro k hk
 rcases Nat.lt_or_ge k n with h' | h'
 ·simp [h'] at hk
 ·simp [h'] at hk
theorem AnyS.first {i : Nat} {oi : Oper} {v : Value} (hi : ops[i]? = some oi) (hsel : ∀ (j : Nat) (o : Oper) cs b, ops[j]? = some o → o.op ≠ .select cs b)
  (hQ : ∀ c a w, ¬ Q (.panic c) a w) :
  ∀ (fuel : Nat) (listed : Array Bool) (a : Act) (w : World), Closed md ops listed → (∀ q ∈ s, listed.getD q false = true ∨ waitsB md ops q i = true) →
   (∀ j oj, ops[j]? = some oj → j ≠ i → listed.getD j true = false → (∀ e ∈ oj.after, Region.binds md e = true → e.on ≠ i) → oi.apart ops oj = true) →
   i ∈ Region.ready md ops listed → YieldsIf P ops F oi v a → F w →
   AnyS P md ops Q F s fuel (listed.setIfInBounds i true) (a.put oi.dst v) w → AnyS P md ops Q F s (fuel + 1) listed a w := by
 intro fuel
 induction fuel with
 | zero =>
  intro listed a w _ _ _ hr hy hF H
  refine ⟨fun h => (by rw [h] at hr; cases hr), fun j hj => ?_⟩
  by_cases hji : j = i
  ·subst hji; exact hy.wpOp hi hF (.inr ⟨hF, H⟩)
  ·have := ready_mono hj hji
   rw [H.1] at this
   cases this
 | succ fuel ih =>
  intro listed a w hcl hw hfree hr hy hF H
  refine ⟨fun h => (by rw [h] at hr; cases hr), fun j hj => ?_⟩
  by_cases hji : j = i
  ·subst hji; exact hy.wpOp hi hF (.inr ⟨hF, H⟩)
  ·have h1 := H.2 j (ready_mono hj hji)
   obtain ⟨hjun, oj, hoj, hall⟩ := mem_ready.1 hj
   have hiun : listed.getD i false = false := by
    have h0 := (mem_ready.1 hr).1
    rcases Nat.lt_or_ge i listed.size with h' | h'
    ·simp [h'] at h0 ⊢; exact h0
    ·simp [Array.getElem?_eq_none h'] at h0
   have hnot : ∀ e ∈ oj.after, Region.binds md e = true → e.on ≠ i := fun e he hb heq => by
    have h1 := hall e he hb
    rw [heq, hiun] at h1
    cases h1
   have hjs : j ∉ s := fun e => by
    rcases hw j e with h' | h'
    ·rcases Nat.lt_or_ge j listed.size with h'' | h''
     ·simp [h''] at h' hjun; rw [h'] at hjun; cases hjun
     ·simp [Array.getElem?_eq_none h''] at h'
    ·exact waits_spec hcl h' hiun hj
   have h2 := wpOp_putIf hoj (hfree j oj hoj hji hjun hnot) (fun cs b => hsel i oi cs b hi) (fun cs b => hsel j oj cs b hoj) (fun c a w h => absurd h (hQ c _ w)) hy h1
   have hfree' : ∀ k ok, ops[k]? = some ok → k ≠ i → (listed.setIfInBounds j true).getD k true = false →
     (∀ e ∈ ok.after, Region.binds md e = true → e.on ≠ i) → oi.apart ops ok = true := fun k ok hk hki hun hno => by
    refine hfree k ok hk hki ?_ hno
    by_cases hjk : j = k
    ·subst hjk; exact hjun
    ·rw [getD_set_ne true hjk] at hun; exact hun
   have hw' : ∀ q ∈ s, (listed.setIfInBounds j true).getD q false = true ∨ waitsB md ops q i = true := fun q hq => by
    rcases hw q hq with h' | h'
    ·refine .inl ?_
     by_cases hjq : j = q
     ·subst hjq; exact absurd hq hjs
     ·rw [getD_set_ne false hjq]; exact h'
    ·exact .inr h'
   refine wpOp_mono (fun a' w' h3 => ?_) h2
   rcases h3.2 with ⟨hjs', _⟩ | ⟨hF', hA⟩
   ·exact absurd hjs' hjs
   refine .inr ⟨hF', ih (listed.setIfInBounds j true) a' w' (hcl.set hj) hw' hfree' (ready_mono hr (Ne.symm hji)) h3.1 hF' ?_⟩
   rw [Array.setIfInBounds_comm _ _ hji]
   exact hA
def takeB (md : Region.Mode) (ops : Array Oper) (listed : Array Bool) (s : List Nat) (i : Nat) : Bool :=
 Region.noSelect ops && Region.free md ops listed i && (Region.ready md ops listed).contains i && s.all fun q => listed.getD q false || waitsB md ops q i
end
def noDefer (ops : Array Oper) : Bool := ops.all fun o => !isDefer o.op
section
variable {P : Program} {b : Frame} {k : List Item} {w : World} {D : List Frame → Machine → Prop} {ops : Array Oper} {i : Nat} {fr : Array Value} {ds : List Deferred}
def QG (P : Program) (b : Frame) (k : List Item) (D : List Frame → Machine → Prop) : Exit → Act → World → Prop
 | .normal, a, w => Goes P b k a w D
 | _, _, _ => False
theorem wpOps_goes (hnd : noDefer ops = true) : ∀ (l : List Nat) (a : Act) (w : World), wpOps P ops (QG P b k D) l a w → Goes P b (.inRegion ops l :: k) a w D
 | [], a, w, h => .one1 (fun _ => stepR_region_end) h
 | i :: rest, a, w, h => by
  simp only [wpOps] at h
  cases ho : ops[i]? with
  | none =>
   simp only [ho] at h
   refine .one1 (fun cs => ?_) (wpOps_goes hnd rest a w h)
   have hs := stepR_op_skip (P := P) (b := b) (a := a) (k := k) (cs := cs) (w := w) (ops := ops) (i := i) (rest := rest) (by simp [ho])
   simpa [ho, Act.put] using hs
  | some o =>
   simp only [ho] at h
   have hd : isDefer o.op = false := by
    have := (Array.all_eq_true_iff_forall_mem.1 hnd) o (Array.mem_of_getElem? ho)
    simpa using this
   by_cases hw : Region.wanted o (yielded ops a.tmps) = true
   ·simp only [hw, if_true] at h
    rcases h with h | ⟨_, a₀, w₀, h⟩
    ·unfold Oper.wp at h
     cases hr : (execOp a.eval o).run P w with
     | halt x w' => rw [hr] at h; cases x <;> first | exact h.elim | exact (h : False).elim
     | ok n w' =>
      rw [hr] at h
      cases n with
      | value v => exact .val ho hw hd hr (wpOps_goes hnd rest _ _ h)
      | skip => exact .skipv ho hw hd hr (wpOps_goes hnd rest _ _ h)
      | enter f args =>
       refine Goes.enter (R := fun v w'' => wpOps P ops (QG P b k D) rest (a.put o.dst v) w'') ho hw hd hr ?_ (fun v w'' hv => wpOps_goes hnd rest _ _ hv)
       refine Calls.mono h fun e w'' he => ?_
       cases e with
       | returned v => exact ⟨v, rfl, he⟩
       | panicked c => exact he.elim
       | outgrown => obtain ⟨_, _, he⟩ := he; exact he.elim
      | row row args =>
       intro cs
       obtain ⟨v, w'', hR, hsteps⟩ := h (b.atR a (.inRegion ops (i :: rest) :: k)) cs
       obtain ⟨m, hD, hm⟩ := wpOps_goes hnd rest _ _ hR cs
       refine ⟨m, hD, .head (step_lone_go (by rw [stepGR_op ho hw, semAt_of_notDefer _ _ hd]; simp [stepG.apply, hr, Frame.atR])) (Steps.trans hsteps ?_)⟩
       have hf := Frame.finish_atR b a ops i rest k v
       rw [ho] at hf
       rw [hf]
       exact hm
      | defer d =>
       refine .one1 (fun cs => ?_) (wpOps_goes hnd rest (({ a with defers := d :: a.defers } : Act).put o.dst undef) w' h)
       have hf := Frame.finish_atR b { a with defers := d :: a.defers } ops i rest k undef
       rw [ho] at hf
       refine step_lone_go ?_
       rw [stepGR_op ho hw, semAt_of_notDefer _ _ hd]
       simp only [stepG.apply, if_true, Sem.runT_eq, hr, GStep.bare_after]
       exact congrArg (fun fr => GStep.go { frame := fr, callers := cs, status := .running, dying := none } _) hf
      | _ => exact (h : False).elim
    ·exact (h : False).elim
   ·simp only [hw] at h
    have hs := fun cs => stepR_op_skip (P := P) (b := b) (a := a) (k := k) (cs := cs) (w := w) (ops := ops) (i := i) (rest := rest) (by simp [ho]; simpa using hw)
    simp only [ho, Option.bind_some] at hs
    exact .one1 hs (wpOps_goes hnd rest _ _ h)
variable {a : Act} {F : World → Prop} {s : List Nat} {fuel : Nat} {listed : Array Bool}
def AnyG (P : Program) (b : Frame) (k : List Item) (D : List Frame → Machine → Prop) (ops : Array Oper) (F : World → Prop) (s : List Nat) (fuel : Nat) (listed : Array Bool) (a : Act) (w : World) : Prop := Closed .any ops listed → AnyS P .any ops (QG P b k D) F s fuel listed a w
theorem Goes.drawn {cd : Code} (id : Nat) (n : Nat) (hcd : cd = .region id (opsOf cd) true) (hnd : noDefer (opsOf cd) = true) (hsz : (opsOf cd).size = n) (hm : P.follows .mixedOrders = true)
  (h : AnyG P b k D (opsOf cd) F s n (Array.replicate n false) a w.drew) : Goes P b (.code cd :: k) a w D := by
 intro cs
 have hstep := stepR_region_draw (P := P) (b := b) (a := a) (k := k) (cs := cs) (w := w) (ops := opsOf cd) (id := id)
 rw [← hcd] at hstep
 have hops := wpAny_sound n (w.tape w.drawn (.order b.fn id)) _ a w.drew ((h (Closed.none n)).any)
 obtain ⟨m, hD, hs⟩ := wpOps_goes hnd _ _ _ hops cs
 refine ⟨m, hD, .head hstep ?_⟩
 simp only [Region.schedule, hm, Bool.true_or, if_true, Region.linearise, hsz]
 exact hs
theorem AnyG.done (hr : Region.ready .any ops listed = []) (g : Goes P b k ⟨fr, ds⟩ w D) : ∀ fuel, AnyG P b k D ops F s fuel listed ⟨fr, ds⟩ w
 | 0 => fun _ => ⟨hr, g⟩
 | _ + 1 => fun _ => ⟨fun _ => g, by rw [hr]; simp⟩
def unwB (ops : Array Oper) (i : Nat) (fr : Array Value) : Option (Option Tmp) :=
 match ops[i]? with
 | some o => if Region.wanted o (yielded ops fr) then none else some o.dst
 | none => none
theorem unwB_spec {dst : Option Tmp} (h : unwB ops i fr = some dst) : ∃ o, ops[i]? = some o ∧ Region.wanted o (yielded ops fr) = false ∧ o.dst = dst := by
 unfold unwB at h
 split at h
 ·rename_i o ho
  split at h
  ·cases h
  ·rename_i hg
   simp only [Option.some.injEq] at h
   exact ⟨o, ho, by simpa using hg, h⟩
 ·cases h
theorem AnyG.val (op : Op) (d : Tmp) (ty : TypeId) (v : Value) (h : opAtW ops i fr = some (op, some d, ty)) (ht : takeB .any ops listed s i = true) (hr : ∀ w, F w → (execOp (Act.eval ⟨fr, ds⟩) (mkO op (some d) ty)).run P w = .ok (.value v) w) (hF : F w)
  (g : AnyG P b k D ops F s fuel (listed.setIfInBounds i true) ⟨upd fr [(d, v)], ds⟩ w) : AnyG P b k D ops F s (fuel + 1) listed ⟨fr, ds⟩ w := by
 obtain ⟨o, ho, hw, hop, hdst, he⟩ := opAtW_spec h
 simp only [takeB, Bool.and_eq_true] at ht
 obtain ⟨⟨⟨h1, h2⟩, h3⟩, h4⟩ := ht
 intro hcl
 refine AnyS.first ho (Region.noSelect_spec h1) (fun _ _ _ h => h) fuel listed _ w hcl (fun q hq => by have := List.all_eq_true.1 h4 q hq; simpa only [Bool.or_eq_true] using this) (Region.free_spec ho h2) (by simpa using h3) (.inl ⟨hw, fun w hF => by rw [he]; exact hr w hF⟩) hF ?_
 rw [hdst]
 exact g (hcl.set (by simpa using h3))
theorem AnyG.skip (dst : Option Tmp) (h : unwB ops i fr = some dst) (ht : takeB .any ops listed s i = true) (hF : F w)
  (g : AnyG P b k D ops F s fuel (listed.setIfInBounds i true) (({ tmps := fr, defers := ds } : Act).put dst undef) w) : AnyG P b k D ops F s (fuel + 1) listed ⟨fr, ds⟩ w := by
 obtain ⟨o, ho, hw, hdst⟩ := unwB_spec h
 simp only [takeB, Bool.and_eq_true] at ht
 obtain ⟨⟨⟨h1, h2⟩, h3⟩, h4⟩ := ht
 intro hcl
 refine AnyS.first ho (Region.noSelect_spec h1) (fun _ _ _ h => h) fuel listed _ w hcl (fun q hq => by have := List.all_eq_true.1 h4 q hq; simpa only [Bool.or_eq_true] using this) (Region.free_spec ho h2) (by simpa using h3) (.inr ⟨hw, rfl⟩) hF ?_
 rw [hdst]
 exact g (hcl.set (by simpa using h3))
theorem AnyG.pure (op : Op) (d : Tmp) (ty : TypeId) (v : Value) (h : opAtW ops i fr = some (op, some d, ty)) (ht : takeB .any ops listed s i = true) (hr : pureRun P (execOp (Act.eval ⟨fr, ds⟩) (mkO op (some d) ty)) = some (.value v)) (hF : F w)
  (g : AnyG P b k D ops F s fuel (listed.setIfInBounds i true) ⟨upd fr [(d, v)], ds⟩ w) : AnyG P b k D ops F s (fuel + 1) listed ⟨fr, ds⟩ w :=
 .val op d ty v h ht (fun w _ => pureRun_run w hr) hF g
theorem AnyG.skip1 (d : Tmp) (h : unwB ops i fr = some (some d)) (ht : takeB .any ops listed s i = true) (hF : F w)
  (g : AnyG P b k D ops F s fuel (listed.setIfInBounds i true) ⟨upd fr [(d, undef)], ds⟩ w) : AnyG P b k D ops F s (fuel + 1) listed ⟨fr, ds⟩ w := AnyG.skip (some d) h ht hF g
theorem AnyG.skipL1 (d : Tmp) (h : unwB ops i fr = some (some d)) (hr : Region.ready .any ops listed = [i]) (hF : i ∈ s ∨ F w) (g : AnyG P b k D ops F s fuel (listed.setIfInBounds i true) ⟨upd fr [(d, undef)], ds⟩ w) : AnyG P b k D ops F s (fuel + 1) listed ⟨fr, ds⟩ w := by
 obtain ⟨o, ho, hw, hdst⟩ := unwB_spec h
 intro hcl
 refine ⟨fun h0 => (by rw [hr] at h0; cases h0), fun j hj => ?_⟩
 have hcl' := hcl.set hj
 rw [hr] at hj
 obtain rfl := List.mem_singleton.1 hj
 simp only [wpOp, ho, hw, Bool.false_eq_true, if_false, hdst]
 exact hF.elim (fun hi => .inl ⟨hi, (g hcl').any⟩) fun hF => .inr ⟨hF, g hcl'⟩
def AnyC (P : Program) (b : Frame) (k : List Item) (D : List Frame → Machine → Prop) (ops : Array Oper) (F : World → Prop) (s : List Nat) (fuel : Nat) (i : Nat) (listed : Array Bool) (a : Act) (w : World) : Prop :=
 Closed .any ops listed → (i ∈ s ∧ wpAny P .any ops (QG P b k D) fuel listed a w) ∨ (F w ∧ AnyS P .any ops (QG P b k D) F s fuel listed a w)
theorem AnyG.vs {op : Op} {d : Tmp} {ty : TypeId} (h : opAtW ops i fr = some (op, some d, ty)) (hr : Region.ready .any ops listed = [i]) : VStep P op d ty fr ds w (AnyG P b k D ops F s (fuel + 1) listed ⟨fr, ds⟩ w) (fun fr' w' => AnyC P b k D ops F s fuel i (listed.setIfInBounds i true) ⟨fr', ds⟩ w') := by
 intro v w' hrun g
 obtain ⟨o, ho, hw, hop, hdst, he⟩ := opAtW_spec h
 intro hcl
 refine ⟨fun h0 => (by rw [hr] at h0; cases h0), fun j hj => ?_⟩
 have hcl' := hcl.set hj
 rw [hr] at hj
 obtain rfl := List.mem_singleton.1 hj
 simp only [wpOp, ho, hw, if_true, Oper.wp, he, hrun, Oper.upon, hdst]
 exact .inl (g hcl')
theorem AnyG.ss {op : Op} {ty : TypeId} (h : opAtW ops i fr = some (op, none, ty)) (hr : Region.ready .any ops listed = [i]) : SStep P op ty fr ds w (AnyG P b k D ops F s (fuel + 1) listed ⟨fr, ds⟩ w) (fun fr' w' => AnyC P b k D ops F s fuel i (listed.setIfInBounds i true) ⟨fr', ds⟩ w') := by
 intro w' hrun g
 obtain ⟨o, ho, hw, hop, hdst, he⟩ := opAtW_spec h
 intro hcl
 refine ⟨fun h0 => (by rw [hr] at h0; cases h0), fun j hj => ?_⟩
 have hcl' := hcl.set hj
 rw [hr] at hj
 obtain rfl := List.mem_singleton.1 hj
 simp only [wpOp, ho, hw, if_true, Oper.wp, he, hrun, Oper.upon, hdst]
 exact .inl (g hcl')
theorem AnyG.cs {op : Op} {d : Tmp} {ty : TypeId} (h : opAtW ops i fr = some (op, some d, ty)) (hr : Region.ready .any ops listed = [i]) : CStep P op d ty fr ds w (AnyG P b k D ops F s (fuel + 1) listed ⟨fr, ds⟩ w) (fun fr' w' => AnyC P b k D ops F s fuel i (listed.setIfInBounds i true) ⟨fr', ds⟩ w') := by
 intro f args R hp hc g
 obtain ⟨o, ho, hw, hop, hdst, he⟩ := opAtW_spec h
 intro hcl
 refine ⟨fun h0 => (by rw [hr] at h0; cases h0), fun j hj => ?_⟩
 have hcl' := hcl.set hj
 rw [hr] at hj
 obtain rfl := List.mem_singleton.1 hj
 simp only [wpOp, ho, hw, if_true, Oper.wp, he, pureRun_run w hp, Oper.upon, hdst]
 refine .inl (Calls.mono hc fun e w'' he => ?_)
 obtain ⟨v, rfl, hR⟩ := he
 exact g v w'' hR hcl'
/-! ### Two that may come up -/
def AnyT (P : Program) (b : Frame) (k : List Item) (D : List Frame → Machine → Prop) (ops : Array Oper) (F : World → Prop) (s : List Nat) (fuel : Nat) (i : Nat) (listed : Array Bool) (a : Act) (w : World) : Prop :=
 Closed .any ops listed → i ∈ Region.ready .any ops listed → wpOp P ops (QG P b k D) i (fun a' w' => (i ∈ s ∧ wpAny P .any ops (QG P b k D) fuel (listed.setIfInBounds i true) a' w') ∨ (F w' ∧ AnyS P .any ops (QG P b k D) F s fuel (listed.setIfInBounds i true) a' w')) a w
theorem AnyG.st {op : Op} {ty : TypeId} (h : opAtW ops i fr = some (op, none, ty)) : SStep P op ty fr ds w (AnyT P b k D ops F s fuel i listed ⟨fr, ds⟩ w) (fun fr' w' => AnyC P b k D ops F s fuel i (listed.setIfInBounds i true) ⟨fr', ds⟩ w') := by
 intro w' hrun g
 obtain ⟨o, ho, hw, hop, hdst, he⟩ := opAtW_spec h
 intro hcl hj
 have hcl' := hcl.set hj
 simp only [wpOp, ho, hw, if_true, Oper.wp, he, hrun, Oper.upon, hdst]
 exact .inl (g hcl')
end
end Go.Gx
