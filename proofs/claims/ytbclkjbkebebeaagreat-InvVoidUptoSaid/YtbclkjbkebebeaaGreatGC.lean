/-
 Pointers to what will not turn; arrays written out; kinds that lead back to themselves. Generic: names no program.
-/
import Derived.Test.YtbclkjbkebebeaaGreatGB
set_option linter.unusedVariables false
namespace Go.Gx
open Go.RowKit
/-! ### Pointers to what will not turn any more -/
def kPtrR {α : Type} (K : Kd α) (S : Fz) (w : World) (vs : List Value) : Option α → Prop
 | none => vs = [.pointer none]
 | some y => ∃ a us, vs = [.pointer (some a)] ∧ us ≠ [] ∧ Cs S w a us ∧ K.rep S w us y
def kPtr {α : Type} (K : Kd α) : Kd (Option α) :=
 ⟨1, kPtrR K, by
  rintro S w vs (_ | y) h
  ·cases h; rfl
  ·obtain ⟨a, us, rfl, _⟩ := h; rfl, by
  rintro S w vs (_ | y) h v hv
  ·cases h; simp at hv; subst hv; rfl
  ·obtain ⟨a, us, rfl, _⟩ := h; simp at hv; subst hv; rfl, by
  rintro S w S' w' vs (_ | y) hx h
  ·exact h
  ·obtain ⟨a, us, h1, h2, h3, h4⟩ := h; exact ⟨a, us, h1, h2, h3.ext hx, K.ext hx h4⟩⟩
section
variable {α : Type} {K : Kd α} {S : Fz} {w : World}
theorem kPtr_none {v : Value} (h : (kPtr K).rep S w [v] none) : v = .pointer none := by
 have h' : [v] = [Value.pointer none] := h
 injection h'
theorem kPtr_some {v : Value} {y : α} (h : (kPtr K).rep S w [v] (some y)) : ∃ a us, v = .pointer (some a) ∧ us ≠ [] ∧ Cs S w a us ∧ K.rep S w us y := by
 obtain ⟨a, us, h1, h2⟩ := h
 injection h1 with h1
 exact ⟨a, us, h1, h2⟩
def PtO (K : Kd α) (S : Fz) (w : World) (v : Value) (d : Option α) : Prop := (kPtr K).rep S w [v] d
theorem PtO.ext {S' : Fz} {w' : World} {v : Value} {d : Option α} (h : PtO K S w v d) (hx : Ext S w S' w') : PtO K S' w' v d := (kPtr K).ext hx h
theorem PtO.nil {v : Value} {d : Option α} (h : PtO K S w v d) (hd : d = none) : v = .pointer none := by subst hd; exact kPtr_none h
theorem PtO.got {v : Value} {d : Option α} {y : α} (h : PtO K S w v d) (hd : d = some y) : ∃ a us, v = .pointer (some a) ∧ us ≠ [] ∧ Cs S w a us ∧ K.rep S w us y := by subst hd; exact kPtr_some h
end
/-! ### Arrays written out -/
section
variable {S : Fz} {w : World} {k : IntKind} {cs : List Value} {d : List Int}
end
/-! ### Blocks that will not turn any more -/
section
variable {N : Nat} {w0 w w' : World} {S S' : Fz} {L L' : List Ent}
end
section
variable {P : Program} {X : Prop} {Y : Array Value → World → Prop} {b : Frame} {k : List Item} {w : World} {D : List Frame → Machine → Prop} {ops : Array Oper} {i : Nat} {rest : List Nat} {fr : Array Value} {ds : List Deferred}
variable {N : Nat} {w0 : World} {S : Fz} {L : List Ent} {α : Type} {K : Kd α}
theorem AnyG.cs0 {F : World → Prop} {s : List Nat} {fuel : Nat} {listed : Array Bool} (op : Op) (ty : TypeId) (f : FuncId) (args : Array Value) {R : Value → World → Prop} (h : opAtW ops i fr = some (op, none, ty)) (hr : Region.ready .any ops listed = [i]) (hp : pureRun P (execOp (Act.eval ⟨fr, ds⟩) (mkO op none ty)) = some (.enter f args)) (hc : Calls P f args w (Rets R))
  (g : ∀ v w', R v w' → AnyC P b k D ops F s fuel i (listed.setIfInBounds i true) ⟨fr, ds⟩ w') : AnyG P b k D ops F s (fuel + 1) listed ⟨fr, ds⟩ w := by
 obtain ⟨o, ho, hw, hop, hdst, he⟩ := opAtW_spec h
 intro hcl
 refine ⟨fun h0 => (by rw [hr] at h0; cases h0), fun j hj => ?_⟩
 have hcl' := hcl.set hj
 rw [hr] at hj
 obtain rfl := List.mem_singleton.1 hj
 simp only [wpOp, ho, hw, if_true, Oper.wp, he, pureRun_run w hp, Oper.upon, hdst]
 refine .inl (Calls.mono hc fun e w'' he => ?_)
 obtain ⟨v, rfl, hR⟩ := he
 exact g v w'' hR hcl'
end
/-! ### Loops over functions, one behind the other: blocks for deferred calls, as many as there were -/
/-! ### Kinds that lead back to themselves -/
def Kd.le {α : Type} (A B : Kd α) : Prop := A.size = B.size ∧ ∀ S w vs x, A.rep S w vs x → B.rep S w vs x
theorem Kd.le.refl {α : Type} (A : Kd α) : A.le A := ⟨rfl, fun _ _ _ _ h => h⟩
theorem Kd.le.trans {α : Type} {A B C : Kd α} (h : A.le B) (k : B.le C) : A.le C := ⟨h.1.trans k.1, fun S w vs x z => k.2 S w vs x (h.2 S w vs x z)⟩
structure Kc {α β : Type} (F : Kd α → Kd β) : Prop where
 mono : ∀ {A B : Kd α}, A.le B → (F A).le (F B)
 chain : ∀ {c : Nat → Kd α} {A : Kd α}, (∀ n, (c n).le (c (n + 1))) → (∀ n, (c n).le A) → (∀ S w vs x, A.rep S w vs x → ∃ n, (c n).rep S w vs x) →
  ∀ S w vs x, (F A).rep S w vs x → ∃ n, (F (c n)).rep S w vs x
theorem chain_le {α : Type} {c : Nat → Kd α} (h : ∀ n, (c n).le (c (n + 1))) : ∀ {n m : Nat}, n ≤ m → (c n).le (c m)
 | n, 0, hm => by
  obtain rfl : n = 0 := by omega
  exact .refl _
 | n, m + 1, hm => by
  by_cases e : n = m + 1
  ·subst e; exact .refl _
  ·exact (chain_le h (by omega : n ≤ m)).trans (h m)
theorem Kc.id {α : Type} : Kc (fun A : Kd α => A) := ⟨fun h => h, fun _ _ h => h⟩
theorem Kc.const {α β : Type} (B : Kd β) : Kc (fun _ : Kd α => B) := ⟨fun _ => .refl _, fun _ _ _ _ _ _ _ h => ⟨0, h⟩⟩
theorem Kc.map {α β σ : Type} (f : σ → β) {F : Kd α → Kd β} (h : Kc F) : Kc (fun A => kMap f (F A)) :=
 ⟨fun k => ⟨(h.mono k).1, fun S w vs x z => (h.mono k).2 S w vs _ z⟩, fun a b d S w vs x z => h.chain a b d S w vs _ z⟩
theorem Kc.prod {α β γ : Type} {F : Kd α → Kd β} {G : Kd α → Kd γ} (h : Kc F) (k : Kc G) : Kc (fun A => kProd (F A) (G A)) := by
 refine ⟨fun m => ⟨?_, ?_⟩, ?_⟩
 ·show (F _).size + (G _).size = (F _).size + (G _).size
  rw [(h.mono m).1, (k.mono m).1]
 ·rintro S w vs x ⟨us, ws, rfl, h1, h2⟩
  exact ⟨us, ws, rfl, (h.mono m).2 _ _ _ _ h1, (k.mono m).2 _ _ _ _ h2⟩
 ·rintro c A h1 h2 h3 S w vs x ⟨us, ws, rfl, h4, h5⟩
  obtain ⟨n, hn⟩ := h.chain h1 h2 h3 _ _ _ _ h4
  obtain ⟨m, hm⟩ := k.chain h1 h2 h3 _ _ _ _ h5
  refine ⟨max n m, us, ws, rfl, ?_, ?_⟩
  ·exact (h.mono (chain_le h1 (Nat.le_max_left n m))).2 _ _ _ _ hn
  ·exact (k.mono (chain_le h1 (Nat.le_max_right n m))).2 _ _ _ _ hm
theorem Els.le {α : Type} {A B : Kd α} (h : A.le B) {S : Fz} {w : World} {cs : List Value} {xs : List α} (k : Els A S w cs xs) : Els B S w cs xs := by
 induction k with
 | nil => exact .nil
 | cons h1 _ ih => exact .cons (h.2 _ _ _ _ h1) ih
theorem Els.chain {α : Type} {c : Nat → Kd α} {A : Kd α} (h1 : ∀ n, (c n).le (c (n + 1))) (h3 : ∀ S w vs x, A.rep S w vs x → ∃ n, (c n).rep S w vs x) {S : Fz} {w : World} {cs : List Value} {xs : List α} (k : Els A S w cs xs) : ∃ n, Els (c n) S w cs xs := by
 induction k with
 | nil => exact ⟨0, .nil⟩
 | cons h _ ih =>
  obtain ⟨n, hn⟩ := h3 _ _ _ _ h
  obtain ⟨m, hm⟩ := ih
  exact ⟨max n m, .cons ((chain_le h1 (Nat.le_max_left n m)).2 _ _ _ _ hn) (hm.le (chain_le h1 (Nat.le_max_right n m)))⟩
theorem Kc.sl {α β : Type} {F : Kd α → Kd β} (h : Kc F) : Kc (fun A => kSl (F A)) := by
 refine ⟨fun m => ⟨rfl, ?_⟩, ?_⟩
 ·rintro S w vs x ⟨A, c, rfl, h1, h2, h3⟩
  exact ⟨A, c, rfl, h1, h2, fun a ha => let ⟨cs, he, hc⟩ := h3 a ha; ⟨cs, he.le (h.mono m), hc⟩⟩
 ·rintro c A h1 h2 h3 S w vs x ⟨A', c', rfl, h4, h5, h6⟩
  cases A' with
  | none => exact ⟨0, none, c', rfl, h4, h5, fun a ha => by cases ha⟩
  | some a =>
   obtain ⟨cs, he, hc⟩ := h6 a rfl
   obtain ⟨n, hn⟩ := Els.chain (c := fun n => F (c n)) (A := F A) (fun n => h.mono (h1 n)) (fun S w vs x z => h.chain h1 h2 h3 S w vs x z) he
   exact ⟨n, some a, c', rfl, h4, h5, fun a' ha' => by cases ha'; exact ⟨cs, hn, hc⟩⟩
def kNo {α : Type} (n : Nat) : Kd α := ⟨n, fun _ _ _ _ => False, fun h => h.elim, fun h => h.elim, fun _ h => h⟩
def kIt {α : Type} (F : Kd α → Kd α) (sz : Nat) : Nat → Kd α
 | 0 => kNo sz
 | n + 1 => F (kIt F sz n)
theorem kIt_size {α : Type} {F : Kd α → Kd α} {sz : Nat} (hs : ∀ K, (F K).size = sz) : ∀ n, (kIt F sz n).size = sz
 | 0 => rfl
 | _ + 1 => hs _
theorem kIt_le {α : Type} {F : Kd α → Kd α} {sz : Nat} (hc : Kc F) (hs : ∀ K, (F K).size = sz) : ∀ n, (kIt F sz n).le (kIt F sz (n + 1))
 | 0 => ⟨(hs _).symm, fun _ _ _ _ h => h.elim⟩
 | n + 1 => hc.mono (kIt_le hc hs n)
def kFix {α : Type} (F : Kd α → Kd α) (sz : Nat) (_ : Kc F) (hs : ∀ K, (F K).size = sz) : Kd α :=
 ⟨sz, fun S w vs x => ∃ n, (kIt F sz n).rep S w vs x, fun ⟨n, h⟩ => ((kIt F sz n).len h).trans (kIt_size hs n), fun ⟨n, h⟩ => (kIt F sz n).one h, fun hx ⟨n, h⟩ => ⟨n, (kIt F sz n).ext hx h⟩⟩
theorem kFix_le {α : Type} {F : Kd α → Kd α} {sz : Nat} (hc : Kc F) (hs : ∀ K, (F K).size = sz) (n : Nat) : (kIt F sz n).le (kFix F sz hc hs) := ⟨kIt_size hs n, fun _ _ _ _ h => ⟨n, h⟩⟩
theorem kFix_open {α : Type} {F : Kd α → Kd α} {sz : Nat} (hc : Kc F) (hs : ∀ K, (F K).size = sz) {S : Fz} {w : World} {vs : List Value} {x : α} (h : (kFix F sz hc hs).rep S w vs x) : (F (kFix F sz hc hs)).rep S w vs x := by
 obtain ⟨n, h⟩ := h
 cases n with
 | zero => exact h.elim
 | succ n => exact (hc.mono (kFix_le hc hs n)).2 _ _ _ _ h
theorem kFix_close {α : Type} {F : Kd α → Kd α} {sz : Nat} (hc : Kc F) (hs : ∀ K, (F K).size = sz) {S : Fz} {w : World} {vs : List Value} {x : α} (h : (F (kFix F sz hc hs)).rep S w vs x) : (kFix F sz hc hs).rep S w vs x := by
 obtain ⟨n, h⟩ := hc.chain (kIt_le hc hs) (kFix_le hc hs) (fun _ _ _ _ h => h) _ _ _ _ h
 exact ⟨n + 1, h⟩
end Go.Gx
