/-
  Regions whose order is open. An operation that yields the same in every world that meets a condition may be taken first. Generic: names no program.
-/
import Derived.Test.YtbmbligkbbfpbaaG6
import Derived.Orders
import Derived.OrdersHeld
namespace Go.Gx
open Go.RowKit

section
variable {P : Program} {ops : Array Oper} {Q : Exit → Act → World → Prop} {md : Region.Mode} {F : World → Prop} {s : List Nat}
/-- Whatever order is picked from here on; behind each operation, but those of the list s, which wait for all that is taken first, the world meets F. -/
def AnyS (P : Program) (md : Region.Mode) (ops : Array Oper) (Q : Exit → Act → World → Prop) (F : World → Prop) (s : List Nat) : Nat → Array Bool → Act → World → Prop
  | 0, listed, a, w => Region.ready md ops listed = [] ∧ Q .normal a w
  | fuel + 1, listed, a, w => (Region.ready md ops listed = [] → Q .normal a w) ∧
    ∀ i ∈ Region.ready md ops listed, wpOp P ops Q i (fun a' w' => (i ∈ s ∨ F w') ∧ AnyS P md ops Q F s fuel (listed.setIfInBounds i true) a' w') a w
theorem AnyS.any : ∀ (fuel : Nat) (listed : Array Bool) (a : Act) (w : World), AnyS P md ops Q F s fuel listed a w → wpAny P md ops Q fuel listed a w
  | 0, _, _, _, h => h
  | fuel + 1, _, _, _, h => ⟨h.1, fun i hi => wpOp_mono (fun a' w' h' => AnyS.any fuel _ a' w' h'.2) (h.2 i hi)⟩
/-- Does the operation of the number s wait for that of the number i? -/
def waitsB (md : Region.Mode) (ops : Array Oper) (s i : Nat) : Bool :=
  match ops[s]? with
  | none => true
  | some o => o.after.any fun e => Region.binds md e && e.on == i
theorem waits_spec {s i : Nat} {listed : Array Bool} (h : waitsB md ops s i = true) (hi : listed.getD i false = false) : s ∉ Region.ready md ops listed := by
  intro hs
  obtain ⟨hun, o, ho, hall⟩ := mem_ready.1 hs
  simp only [waitsB, ho] at h
  rw [Array.any_eq_true] at h
  obtain ⟨q, hq, he⟩ := h
  simp only [Bool.and_eq_true, beq_iff_eq] at he
  have := hall _ (Array.getElem_mem hq) he.1
  rw [he.2, hi] at this
  cases this
theorem AnyS.first {i : Nat} {oi : Oper} {v : Value} (hi : ops[i]? = some oi) (hsel : ∀ (j : Nat) (o : Oper) cs b, ops[j]? = some o → o.op ≠ .select cs b)
    (hQ : ∀ c a w, ¬ Q (.panic c) a w) (hw : (s.all fun q => waitsB md ops q i) = true) :
    ∀ (fuel : Nat) (listed : Array Bool) (a : Act) (w : World),
      (∀ j oj, ops[j]? = some oj → j ≠ i → listed.getD j true = false → (∀ e ∈ oj.after, Region.binds md e = true → e.on ≠ i) → oi.apart ops oj = true) →
      i ∈ Region.ready md ops listed → YieldsIf P ops F oi v a → F w →
      AnyS P md ops Q F s fuel (listed.setIfInBounds i true) (a.put oi.dst v) w → AnyS P md ops Q F s (fuel + 1) listed a w := by
  intro fuel
  induction fuel with
  | zero =>
    intro listed a w _ hr hy hF H
    refine ⟨fun h => (by rw [h] at hr; cases hr), fun j hj => ?_⟩
    by_cases hji : j = i
    · subst hji; exact hy.wpOp hi hF ⟨.inr hF, H⟩
    · have := ready_mono hj hji
      rw [H.1] at this
      cases this
  | succ fuel ih =>
    intro listed a w hfree hr hy hF H
    refine ⟨fun h => (by rw [h] at hr; cases hr), fun j hj => ?_⟩
    by_cases hji : j = i
    · subst hji; exact hy.wpOp hi hF ⟨.inr hF, H⟩
    · have h1 := H.2 j (ready_mono hj hji)
      obtain ⟨hjun, oj, hoj, hall⟩ := mem_ready.1 hj
      have hiun : listed.getD i false = false := by
        have h0 := (mem_ready.1 hr).1
        rcases Nat.lt_or_ge i listed.size with h' | h'
        · simp [h'] at h0 ⊢; exact h0
        · simp [Array.getElem?_eq_none h'] at h0
      have hnot : ∀ e ∈ oj.after, Region.binds md e = true → e.on ≠ i := fun e he hb heq => by
        have h1 := hall e he hb
        rw [heq, hiun] at h1
        cases h1
      have hjs : j ∉ s := fun e => waits_spec (List.all_eq_true.1 hw j e) hiun hj
      have h2 := wpOp_putIf hoj (hfree j oj hoj hji hjun hnot) (fun cs b => hsel i oi cs b hi) (fun cs b => hsel j oj cs b hoj) (fun c a w h => absurd h (hQ c _ w)) hy h1
      have hfree' : ∀ k ok, ops[k]? = some ok → k ≠ i → (listed.setIfInBounds j true).getD k true = false →
          (∀ e ∈ ok.after, Region.binds md e = true → e.on ≠ i) → oi.apart ops ok = true := fun k ok hk hki hun hno => by
        refine hfree k ok hk hki ?_ hno
        by_cases hjk : j = k
        · subst hjk; exact hjun
        · rw [getD_set_ne true hjk] at hun; exact hun
      refine wpOp_mono (fun a' w' h3 => ?_) h2
      have hF' : F w' := h3.2.1.resolve_left hjs
      refine ⟨.inr hF', ih (listed.setIfInBounds j true) a' w' hfree' (ready_mono hr (Ne.symm hji)) h3.1 hF' ?_⟩
      rw [Array.setIfInBounds_comm _ _ hji]
      exact h3.2.2

/-- May the operation of the number i be taken first? -/
def takeB (md : Region.Mode) (ops : Array Oper) (listed : Array Bool) (s : List Nat) (i : Nat) : Bool :=
  Region.noSelect ops && Region.free md ops listed i && (Region.ready md ops listed).contains i && s.all fun q => waitsB md ops q i
end

def noDefer (ops : Array Oper) : Bool := ops.all fun o => !isDefer o.op
section
variable {P : Program} {b : Frame} {k : List Item} {w : World} {D : List Frame → Machine → Prop} {ops : Array Oper} {i : Nat} {fr : Array Value} {ds : List Deferred}
def QG (P : Program) (b : Frame) (k : List Item) (D : List Frame → Machine → Prop) : Exit → Act → World → Prop
  | .normal, a, w => Goes P b k a w D
  | _, _, _ => False
theorem wpOps_goes (hnd : noDefer ops = true) : ∀ (l : List Nat) (a : Act) (w : World), wpOps P ops (QG P b k D) l a w → Goes P b (.inRegion ops l :: k) a w D
  | [], a, w, h => .one1 (fun _ => stepR_region_end) h
  | i :: rest, a, w, h => by
    simp only [wpOps] at h
    cases ho : ops[i]? with
    | none =>
      simp only [ho] at h
      refine .one1 (fun cs => ?_) (wpOps_goes hnd rest a w h)
      have hs := stepR_op_skip (P := P) (b := b) (a := a) (k := k) (cs := cs) (w := w) (ops := ops) (i := i) (rest := rest) (by simp [ho])
      simpa [ho, Act.put] using hs
    | some o =>
      simp only [ho] at h
      have hd : isDefer o.op = false := by
        have := (Array.all_eq_true_iff_forall_mem.1 hnd) o (Array.mem_of_getElem? ho)
        simpa using this
      by_cases hw : Region.wanted o (yielded ops a.tmps) = true
      · simp only [hw, if_true] at h
        rcases h with h | ⟨_, a₀, w₀, h⟩
        · unfold Oper.wp at h
          cases hr : (execOp a.eval o).run P w with
          | halt x w' => rw [hr] at h; cases x <;> first | exact h.elim | exact (h : False).elim
          | ok n w' =>
            rw [hr] at h
            cases n with
            | value v => exact .val ho hw hd hr (wpOps_goes hnd rest _ _ h)
            | skip => exact .skipv ho hw hd hr (wpOps_goes hnd rest _ _ h)
            | enter f args =>
              refine Goes.enter (R := fun v w'' => wpOps P ops (QG P b k D) rest (a.put o.dst v) w'') ho hw hd hr ?_ (fun v w'' hv => wpOps_goes hnd rest _ _ hv)
              refine Calls.mono h fun e w'' he => ?_
              cases e with
              | returned v => exact ⟨v, rfl, he⟩
              | panicked c => exact he.elim
              | outgrown => obtain ⟨_, _, he⟩ := he; exact he.elim
            | row row args =>
              intro cs
              obtain ⟨v, w'', hR, hsteps⟩ := h (b.atR a (.inRegion ops (i :: rest) :: k)) cs
              obtain ⟨m, hD, hm⟩ := wpOps_goes hnd rest _ _ hR cs
              refine ⟨m, hD, .head (step_lone_go (by rw [stepGR_op ho hw, semAt_of_notDefer _ _ hd]; simp [stepG.apply, hr, Frame.atR])) (Steps.trans hsteps ?_)⟩
              have hf := Frame.finish_atR b a ops i rest k v
              rw [ho] at hf
              rw [hf]
              exact hm
            | defer d =>
              refine .one1 (fun cs => ?_) (wpOps_goes hnd rest (({ a with defers := d :: a.defers } : Act).put o.dst undef) w' h)
              have hf := Frame.finish_atR b { a with defers := d :: a.defers } ops i rest k undef
              rw [ho] at hf
              refine step_lone_go ?_
              rw [stepGR_op ho hw, semAt_of_notDefer _ _ hd]
              simp only [stepG.apply, if_true, Sem.runT_eq, hr, GStep.bare_after]
              exact congrArg (fun fr => GStep.go { frame := fr, callers := cs, status := .running, dying := none } _) hf
            | _ => exact (h : False).elim
        · exact (h : False).elim
      · simp only [hw] at h
        have hs := fun cs => stepR_op_skip (P := P) (b := b) (a := a) (k := k) (cs := cs) (w := w) (ops := ops) (i := i) (rest := rest) (by simp [ho]; simpa using hw)
        simp only [ho, Option.bind_some] at hs
        exact .one1 hs (wpOps_goes hnd rest _ _ h)

variable {a : Act} {F : World → Prop} {s : List Nat} {fuel : Nat} {listed : Array Bool}
abbrev AnyG (P : Program) (b : Frame) (k : List Item) (D : List Frame → Machine → Prop) (ops : Array Oper) (F : World → Prop) (s : List Nat) (fuel : Nat) (listed : Array Bool) (a : Act) (w : World) : Prop := AnyS P .any ops (QG P b k D) F s fuel listed a w
/-- A region whose order is open begins. -/
theorem Goes.drawn {cd : Code} (id : Nat) (n : Nat) (hcd : cd = .region id (opsOf cd) true) (hnd : noDefer (opsOf cd) = true) (hsz : (opsOf cd).size = n) (hm : P.follows .mixedOrders = true)
    (h : AnyG P b k D (opsOf cd) F s n (Array.replicate n false) a w.drew) : Goes P b (.code cd :: k) a w D := by
  intro cs
  have hstep := stepR_region_draw (P := P) (b := b) (a := a) (k := k) (cs := cs) (w := w) (ops := opsOf cd) (id := id)
  rw [← hcd] at hstep
  have hops := wpAny_sound n (w.tape w.drawn (.order b.fn id)) _ a w.drew h.any
  obtain ⟨m, hD, hs⟩ := wpOps_goes hnd _ _ _ hops cs
  refine ⟨m, hD, .head hstep ?_⟩
  simp only [Region.schedule, hm, Bool.true_or, if_true, Region.linearise, hsz]
  exact hs
theorem AnyG.done (hr : Region.ready .any ops listed = []) (g : Goes P b k ⟨fr, ds⟩ w D) : ∀ fuel, AnyG P b k D ops F s fuel listed ⟨fr, ds⟩ w
  | 0 => ⟨hr, g⟩
  | _ + 1 => ⟨fun _ => g, by rw [hr]; simp⟩
def unwB (ops : Array Oper) (i : Nat) (fr : Array Value) : Option (Option Tmp) :=
  match ops[i]? with
  | some o => if Region.wanted o (yielded ops fr) then none else some o.dst
  | none => none
theorem unwB_spec {dst : Option Tmp} (h : unwB ops i fr = some dst) : ∃ o, ops[i]? = some o ∧ Region.wanted o (yielded ops fr) = false ∧ o.dst = dst := by
  unfold unwB at h
  split at h
  · rename_i o ho
    split at h
    · cases h
    · rename_i hg
      simp only [Option.some.injEq] at h
      exact ⟨o, ho, by simpa using hg, h⟩
  · cases h
/-- An operation that looks at no world; one that yields the same wherever F holds. -/
theorem AnyG.val (op : Op) (d : Tmp) (ty : TypeId) (v : Value) (h : opAtW ops i fr = some (op, some d, ty)) (ht : takeB .any ops listed s i = true) (hr : ∀ w, F w → (execOp (Act.eval ⟨fr, ds⟩) (mkO op (some d) ty)).run P w = .ok (.value v) w) (hF : F w)
    (g : AnyG P b k D ops F s fuel (listed.setIfInBounds i true) ⟨upd fr [(d, v)], ds⟩ w) : AnyG P b k D ops F s (fuel + 1) listed ⟨fr, ds⟩ w := by
  obtain ⟨o, ho, hw, hop, hdst, he⟩ := opAtW_spec h
  simp only [takeB, Bool.and_eq_true] at ht
  obtain ⟨⟨⟨h1, h2⟩, h3⟩, h4⟩ := ht
  refine AnyS.first ho (Region.noSelect_spec h1) (fun _ _ _ h => h) h4 fuel listed _ w (Region.free_spec ho h2) (by simpa using h3) (.inl ⟨hw, fun w hF => by rw [he]; exact hr w hF⟩) hF ?_
  rw [hdst]
  exact g
/-- An operation that is not wanted. -/
theorem AnyG.skip (dst : Option Tmp) (h : unwB ops i fr = some dst) (ht : takeB .any ops listed s i = true) (hF : F w)
    (g : AnyG P b k D ops F s fuel (listed.setIfInBounds i true) (({ tmps := fr, defers := ds } : Act).put dst undef) w) : AnyG P b k D ops F s (fuel + 1) listed ⟨fr, ds⟩ w := by
  obtain ⟨o, ho, hw, hdst⟩ := unwB_spec h
  simp only [takeB, Bool.and_eq_true] at ht
  obtain ⟨⟨⟨h1, h2⟩, h3⟩, h4⟩ := ht
  refine AnyS.first ho (Region.noSelect_spec h1) (fun _ _ _ h => h) h4 fuel listed _ w (Region.free_spec ho h2) (by simpa using h3) (.inr ⟨hw, rfl⟩) hF ?_
  rw [hdst]
  exact g
theorem AnyG.pure (op : Op) (d : Tmp) (ty : TypeId) (v : Value) (h : opAtW ops i fr = some (op, some d, ty)) (ht : takeB .any ops listed s i = true) (hr : pureRun P (execOp (Act.eval ⟨fr, ds⟩) (mkO op (some d) ty)) = some (.value v)) (hF : F w)
    (g : AnyG P b k D ops F s fuel (listed.setIfInBounds i true) ⟨upd fr [(d, v)], ds⟩ w) : AnyG P b k D ops F s (fuel + 1) listed ⟨fr, ds⟩ w :=
  .val op d ty v h ht (fun w _ => pureRun_run w hr) hF g
theorem AnyG.skip1 (d : Tmp) (h : unwB ops i fr = some (some d)) (ht : takeB .any ops listed s i = true) (hF : F w)
    (g : AnyG P b k D ops F s fuel (listed.setIfInBounds i true) ⟨upd fr [(d, undef)], ds⟩ w) : AnyG P b k D ops F s (fuel + 1) listed ⟨fr, ds⟩ w := AnyG.skip (some d) h ht hF g
theorem AnyG.skip0 (h : unwB ops i fr = some none) (ht : takeB .any ops listed s i = true) (hF : F w)
    (g : AnyG P b k D ops F s fuel (listed.setIfInBounds i true) ⟨fr, ds⟩ w) : AnyG P b k D ops F s (fuel + 1) listed ⟨fr, ds⟩ w := AnyG.skip none h ht hF g
/-- The one operation that may come up now is not wanted. -/
theorem AnyG.skipL0 (h : unwB ops i fr = some none) (hr : Region.ready .any ops listed = [i]) (hF : i ∈ s ∨ F w) (g : AnyG P b k D ops F s fuel (listed.setIfInBounds i true) ⟨fr, ds⟩ w) : AnyG P b k D ops F s (fuel + 1) listed ⟨fr, ds⟩ w := by
  obtain ⟨o, ho, hw, hdst⟩ := unwB_spec h
  refine ⟨fun h0 => (by rw [hr] at h0; cases h0), fun j hj => ?_⟩
  rw [hr] at hj
  obtain rfl := List.mem_singleton.1 hj
  simp only [wpOp, ho, hw, Bool.false_eq_true, if_false, hdst]
  exact ⟨hF, g⟩
theorem AnyG.skipL1 (d : Tmp) (h : unwB ops i fr = some (some d)) (hr : Region.ready .any ops listed = [i]) (hF : i ∈ s ∨ F w) (g : AnyG P b k D ops F s fuel (listed.setIfInBounds i true) ⟨upd fr [(d, undef)], ds⟩ w) : AnyG P b k D ops F s (fuel + 1) listed ⟨fr, ds⟩ w := by
  obtain ⟨o, ho, hw, hdst⟩ := unwB_spec h
  refine ⟨fun h0 => (by rw [hr] at h0; cases h0), fun j hj => ?_⟩
  rw [hr] at hj
  obtain rfl := List.mem_singleton.1 hj
  simp only [wpOp, ho, hw, Bool.false_eq_true, if_false, hdst]
  exact ⟨hF, g⟩
/-- The one operation that may come up now. -/
theorem AnyG.vs {op : Op} {d : Tmp} {ty : TypeId} (h : opAtW ops i fr = some (op, some d, ty)) (hr : Region.ready .any ops listed = [i]) : VStep P op d ty fr ds w (AnyG P b k D ops F s (fuel + 1) listed ⟨fr, ds⟩ w) (fun fr' w' => (i ∈ s ∨ F w') ∧ AnyG P b k D ops F s fuel (listed.setIfInBounds i true) ⟨fr', ds⟩ w') := by
  intro v w' hrun g
  obtain ⟨o, ho, hw, hop, hdst, he⟩ := opAtW_spec h
  refine ⟨fun h0 => (by rw [hr] at h0; cases h0), fun j hj => ?_⟩
  rw [hr] at hj
  obtain rfl := List.mem_singleton.1 hj
  simp only [wpOp, ho, hw, if_true, Oper.wp, he, hrun, Oper.upon, hdst]
  exact .inl g
theorem AnyG.ss {op : Op} {ty : TypeId} (h : opAtW ops i fr = some (op, none, ty)) (hr : Region.ready .any ops listed = [i]) : SStep P op ty fr ds w (AnyG P b k D ops F s (fuel + 1) listed ⟨fr, ds⟩ w) (fun fr' w' => (i ∈ s ∨ F w') ∧ AnyG P b k D ops F s fuel (listed.setIfInBounds i true) ⟨fr', ds⟩ w') := by
  intro w' hrun g
  obtain ⟨o, ho, hw, hop, hdst, he⟩ := opAtW_spec h
  refine ⟨fun h0 => (by rw [hr] at h0; cases h0), fun j hj => ?_⟩
  rw [hr] at hj
  obtain rfl := List.mem_singleton.1 hj
  simp only [wpOp, ho, hw, if_true, Oper.wp, he, hrun, Oper.upon, hdst]
  exact .inl g
theorem AnyG.cs {op : Op} {d : Tmp} {ty : TypeId} (h : opAtW ops i fr = some (op, some d, ty)) (hr : Region.ready .any ops listed = [i]) : CStep P op d ty fr ds w (AnyG P b k D ops F s (fuel + 1) listed ⟨fr, ds⟩ w) (fun fr' w' => (i ∈ s ∨ F w') ∧ AnyG P b k D ops F s fuel (listed.setIfInBounds i true) ⟨fr', ds⟩ w') := by
  intro f args R hp hc g
  obtain ⟨o, ho, hw, hop, hdst, he⟩ := opAtW_spec h
  refine ⟨fun h0 => (by rw [hr] at h0; cases h0), fun j hj => ?_⟩
  rw [hr] at hj
  obtain rfl := List.mem_singleton.1 hj
  simp only [wpOp, ho, hw, if_true, Oper.wp, he, pureRun_run w hp, Oper.upon, hdst]
  refine .inl (Calls.mono hc fun e w'' he => ?_)
  obtain ⟨v, rfl, hR⟩ := he
  exact g v w'' hR
end
end Go.Gx
