/-
 Regions whose order is open: an operation that looks at no world may be taken first whatever else waits. Generic: names no program.
-/
import Derived.Test.YtbclkjbkebebeaaGreatGZ
import Derived.Test.YtbclkjbkebebeaaGreatGO
import Derived.Test.YtbclkjbkebebeaaGreatGJ
set_option linter.unusedVariables false
namespace Go.Gx
open Go.RowKit
section
variable {P : Program} {ops : Array Oper} {Q : Exit → Act → World → Prop} {md : Region.Mode} {F : World → Prop} {s : List Nat}
theorem AnyS.firstP {i : Nat} {oi : Oper} {v : Value} (hi : ops[i]? = some oi) (hsel : ∀ (j : Nat) (o : Oper) cs b, ops[j]? = some o → o.op ≠ .select cs b)
  (hQ : ∀ c a w, ¬ Q (.panic c) a w) :
  ∀ (fuel : Nat) (listed : Array Bool) (a : Act) (w : World),
   (∀ j oj, ops[j]? = some oj → j ≠ i → listed.getD j true = false → (∀ e ∈ oj.after, Region.binds md e = true → e.on ≠ i) → oi.apart ops oj = true) →
   i ∈ Region.ready md ops listed → Yields P ops oi v a → F w →
   AnyS P md ops Q F s fuel (listed.setIfInBounds i true) (a.put oi.dst v) w → AnyS P md ops Q F s (fuel + 1) listed a w := by
 intro fuel
 induction fuel with
 | zero =>
  intro listed a w _ hr hy hF H
  refine ⟨fun h => (by rw [h] at hr; cases hr), fun j hj => ?_⟩
  by_cases hji : j = i
  ·subst hji; exact hy.wpOp hi (.inr ⟨hF, H⟩)
  ·have := ready_mono hj hji
   rw [H.1] at this
   cases this
 | succ fuel ih =>
  intro listed a w hfree hr hy hF H
  refine ⟨fun h => (by rw [h] at hr; cases hr), fun j hj => ?_⟩
  by_cases hji : j = i
  ·subst hji; exact hy.wpOp hi (.inr ⟨hF, H⟩)
  ·have h1 := H.2 j (ready_mono hj hji)
   obtain ⟨hjun, oj, hoj, hall⟩ := mem_ready.1 hj
   have hiun : listed.getD i false = false := by
    have h0 := (mem_ready.1 hr).1
    rcases Nat.lt_or_ge i listed.size with h' | h'
    ·simp [h'] at h0 ⊢; exact h0
    ·simp [Array.getElem?_eq_none h'] at h0
   have hnot : ∀ e ∈ oj.after, Region.binds md e = true → e.on ≠ i := fun e he hb heq => by
    have h1 := hall e he hb
    rw [heq, hiun] at h1
    cases h1
   have h2 := wpOp_put hoj (hfree j oj hoj hji hjun hnot) (fun cs b => hsel i oi cs b hi) (fun cs b => hsel j oj cs b hoj) (fun c a w h => absurd h (hQ c _ w)) hy h1
   have hfree' : ∀ k ok, ops[k]? = some ok → k ≠ i → (listed.setIfInBounds j true).getD k true = false →
     (∀ e ∈ ok.after, Region.binds md e = true → e.on ≠ i) → oi.apart ops ok = true := fun k ok hk hki hun hno => by
    refine hfree k ok hk hki ?_ hno
    by_cases hjk : j = k
    ·subst hjk; exact hjun
    ·rw [getD_set_ne true hjk] at hun; exact hun
   refine wpOp_mono (fun a' w' h3 => ?_) h2
   rcases h3.2 with ⟨hjs, hA⟩ | ⟨hF', hA⟩
   ·refine .inl ⟨hjs, wpAny_first hi hsel (fun c a w h => absurd h (hQ c _ w)) fuel (listed.setIfInBounds j true) a' w' hfree' (ready_mono hr (Ne.symm hji)) h3.1 ?_⟩
    rw [Array.setIfInBounds_comm _ _ hji]
    exact hA
   ·refine .inr ⟨hF', ih (listed.setIfInBounds j true) a' w' hfree' (ready_mono hr (Ne.symm hji)) h3.1 hF' ?_⟩
    rw [Array.setIfInBounds_comm _ _ hji]
    exact hA
def takeP (md : Region.Mode) (ops : Array Oper) (listed : Array Bool) (i : Nat) : Bool :=
 Region.noSelect ops && Region.free md ops listed i && (Region.ready md ops listed).contains i
end
section
variable {P : Program} {b : Frame} {k : List Item} {w : World} {D : List Frame → Machine → Prop} {ops : Array Oper} {i : Nat} {fr : Array Value} {ds : List Deferred}
variable {F : World → Prop} {s : List Nat} {fuel : Nat} {listed : Array Bool} {S : Fz} {α : Type} {K : Kd α} {N : Nat} {w0 : World} {L : List Ent}
theorem AnyG.valP (op : Op) (d : Tmp) (ty : TypeId) (v : Value) (h : opAtW ops i fr = some (op, some d, ty)) (ht : takeP .any ops listed i = true) (hr : ∀ w, (execOp (Act.eval ⟨fr, ds⟩) (mkO op (some d) ty)).run P w = .ok (.value v) w) (hF : F w)
  (g : AnyG P b k D ops F s fuel (listed.setIfInBounds i true) ⟨upd fr [(d, v)], ds⟩ w) : AnyG P b k D ops F s (fuel + 1) listed ⟨fr, ds⟩ w := by
 obtain ⟨o, ho, hw, hop, hdst, he⟩ := opAtW_spec h
 simp only [takeP, Bool.and_eq_true] at ht
 obtain ⟨⟨h1, h2⟩, h3⟩ := ht
 intro hcl
 refine AnyS.firstP ho (Region.noSelect_spec h1) (fun _ _ _ h => h) fuel listed _ w (Region.free_spec ho h2) (by simpa using h3) (.inl ⟨hw, fun w => by rw [he]; exact hr w⟩) hF ?_
 rw [hdst]
 exact g (hcl.set (by simpa using h3))
theorem AnyG.skP (i : Nat) (d : Tmp) (hF : F w) (g : AnyG P b k D ops F s fuel (listed.setIfInBounds i true) ⟨upd fr [(d, undef)], ds⟩ w) (h : unwB ops i fr = some (some d) := by kernel_rfl) (ht : takeP .any ops listed i = true := by kernel_rfl) : AnyG P b k D ops F s (fuel + 1) listed ⟨fr, ds⟩ w := by
 obtain ⟨o, ho, hw, hdst⟩ := unwB_spec h
 simp only [takeP, Bool.and_eq_true] at ht
 obtain ⟨⟨h1, h2⟩, h3⟩ := ht
 intro hcl
 refine AnyS.firstP ho (Region.noSelect_spec h1) (fun _ _ _ h => h) fuel listed _ w (Region.free_spec ho h2) (by simpa using h3) (.inr ⟨hw, rfl⟩) hF ?_
 rw [hdst]
 exact g (hcl.set (by simpa using h3))
/-! ### An operation whose value nobody takes -/
theorem AnyG.v0 {op : Op} {ty : TypeId} (h : opAtW ops i fr = some (op, none, ty)) (hr : Region.ready .any ops listed = [i]) : V0Step P op ty fr ds w (AnyG P b k D ops F s (fuel + 1) listed ⟨fr, ds⟩ w) (fun fr' w' => AnyC P b k D ops F s fuel i (listed.setIfInBounds i true) ⟨fr', ds⟩ w') := by
 intro v w' hrun g
 obtain ⟨o, ho, hw, hop, hdst, he⟩ := opAtW_spec h
 intro hcl
 refine ⟨fun h0 => (by rw [hr] at h0; cases h0), fun j hj => ?_⟩
 have hcl' := hcl.set hj
 rw [hr] at hj
 obtain rfl := List.mem_singleton.1 hj
 simp only [wpOp, ho, hw, if_true, Oper.wp, he, hrun, Oper.upon, hdst]
 exact .inl (g hcl')
end
end Go.Gx
namespace Go.Gx
theorem rot_perm {α : Type} (L : List α) (n k : Nat) : ((L.drop n).take k ++ (L.take n ++ L.drop (n + k))).Perm L := by
 have h : (L.take n ++ ((L.drop n).take k ++ L.drop (n + k))) = L := by
  rw [← List.drop_drop, List.take_append_drop, List.take_append_drop]
 refine List.Perm.trans ?_ (List.Perm.of_eq h)
 rw [← List.append_assoc, ← List.append_assoc]
 exact List.Perm.append_right _ List.perm_append_comm
theorem Hp.rt {N : Nat} {w0 w : World} {S : Fz} {L : List Ent} (h : Hp N w0 S w L) (n k : Nat) : Hp N w0 S w ((L.drop n).take k ++ (L.take n ++ L.drop (n + k))) := by
 have hp := rot_perm L n k
 refine ⟨h.below, h.le, h.fz, ?_, ?_, ?_, ?_⟩
 ·exact (hp.flatMap_right _).nodup_iff.2 h.nd
 ·exact (hp.filterMap _).nodup_iff.2 h.np
 ·intro g hg; exact h.ge g ((hp.flatMap_right _).mem_iff.1 hg)
 ·intro x hx; exact h.at_ x (hp.mem_iff.1 hx)
end Go.Gx
namespace Go.Gx
open Go.RowKit
def rF (P : Program) (n : Nat) (k : List Item) (fr : Array Value) (ds : List Deferred) : Array Value :=
 match runs P n k ⟨fr, ds⟩ with
 | some (_, a) => a.tmps
 | none => fr
section
variable {P : Program} {b : Frame} {k : List Item} {w : World} {D : List Frame → Machine → Prop} {fr : Array Value} {ds : List Deferred}
theorem Goes.runsA {k' : List Item} {a' : Act} : ∀ (n : Nat) {k : List Item} {a : Act}, Gx.runs P n k a = some (k', a') → Goes P b k' a' w D → Goes P b k a w D
 | 0, _, _, h, g => by cases h; exact g
 | n + 1, k, a, h, g => by
  simp only [Gx.runs] at h
  split at h
  ·rename_i k1 a1 h1
   exact .one1 (fun cs => run1_step h1 cs) (Goes.runsA n h g)
  ·cases h
theorem Hn (n : Nat) (k' : List Item) (g : Goes P b k' ⟨rF P n k fr ds, ds⟩ w D) (h : Gx.runs P n k ⟨fr, ds⟩ = some (k', ⟨rF P n k fr ds, ds⟩) := by kernel_rfl) : Goes P b k ⟨fr, ds⟩ w D := .runsA n h g
end
/-! ### Several operations of an open region that look at no world, one behind the other -/
section
variable {P : Program} {b : Frame} {k : List Item} {w : World} {D : List Frame → Machine → Prop} {ops : Array Oper} {fr : Array Value} {ds : List Deferred}
variable {F : World → Prop} {s : List Nat} {fuel : Nat} {listed : Array Bool}
def runQ1 (P : Program) (ops : Array Oper) (s : List Nat) (i : Nat) (listed : Array Bool) (fr : Array Value) (ds : List Deferred) : Option (Array Value) :=
 match ops[i]? with
 | none => none
 | some o =>
  match o.dst with
  | none => none
  | some d =>
   if Region.wanted o (yielded ops fr) then
    match pureRun P (execOp (Act.eval ⟨fr, ds⟩) (mkO o.op (some d) o.type)) with
    | some (.value v) => if takeP .any ops listed i then some (fr.setIfInBounds d v) else none
    | _ => none
   else if takeP .any ops listed i then some (fr.setIfInBounds d undef) else none
def qL (is : List Nat) (listed : Array Bool) : Array Bool := is.foldl (fun l i => l.setIfInBounds i true) listed
def runQ (P : Program) (ops : Array Oper) (s : List Nat) : List Nat → Array Bool → Array Value → List Deferred → Option (Array Value)
 | [], _, fr, _ => some fr
 | i :: is, listed, fr, ds =>
  match runQ1 P ops s i listed fr ds with
  | some fr' => runQ P ops s is (listed.setIfInBounds i true) fr' ds
  | none => none
def qF (P : Program) (ops : Array Oper) (s : List Nat) (is : List Nat) (listed : Array Bool) (fr : Array Value) (ds : List Deferred) : Array Value := (runQ P ops s is listed fr ds).getD fr
theorem AnyG.runQA {fr' : Array Value} : ∀ (is : List Nat) (fuel : Nat) {listed : Array Bool} {fr : Array Value}, runQ P ops s is listed fr ds = some fr' → F w → AnyG P b k D ops F s fuel (qL is listed) ⟨fr', ds⟩ w → AnyG P b k D ops F s (fuel + is.length) listed ⟨fr, ds⟩ w
 | [], fuel, listed, fr, h, hF, g => by cases h; exact g
 | i :: is, fuel, listed, fr, h, hF, g => by
  rw [runQ] at h
  split at h
  ·rename_i f1 h1
   have g2 := AnyG.runQA is fuel h hF g
   show AnyG P b k D ops F s (fuel + is.length + 1) listed ⟨fr, ds⟩ w
   unfold runQ1 at h1
   split at h1
   ·cases h1
   ·rename_i o ho
    split at h1
    ·cases h1
    ·rename_i d hd
     split at h1
     ·rename_i hw
      split at h1
      ·rename_i v hv
       split at h1
       ·rename_i ht
        cases h1
        exact AnyG.valP o.op d o.type v (by simp [opAtW, ho, hw, hd]) ht (fun w => pureRun_run w hv) hF g2
       ·cases h1
      ·cases h1
     ·rename_i hw
      split at h1
      ·rename_i ht
       cases h1
       exact AnyG.skP i d hF g2 (by simp only [unwB, ho]; rw [if_neg hw, hd]) ht
      ·cases h1
  ·cases h
theorem Hq (is : List Nat) (n : Nat) (hF : F w) (g : AnyG P b k D ops F s fuel (qL is listed) ⟨qF P ops s is listed fr ds, ds⟩ w) (h : runQ P ops s is listed fr ds = some (qF P ops s is listed fr ds) := by kernel_rfl) (hn : is.length = n := by rfl) :
  AnyG P b k D ops F s (fuel + n) listed ⟨fr, ds⟩ w := by subst hn; exact AnyG.runQA is fuel h hF g
theorem Hp.g {S0 S : Fz} {N : Nat} {w0 : World} {L : List Ent} (h : Hp N w0 S w L) (j : Nat) {g : Option Nat} {t : TypeId} {cs : List Value} {cap k : Nat} (hL : L[j]? = some (g, .row t cs cap k) := by rfl) : Fc S0 w ([] ++ (rowCellsO g cs ++ [])) w := h.ro j hL
end
/-! ### Shorter words: what the text of an operation tells is not said again -/
def dOf (ops : Array Oper) (i : Nat) : Nat :=
 match ops[i]? with
 | some o => o.dst.getD 0
 | none => 0
def ldOf (P : Program) (ops : Array Oper) (i : Nat) (fr : Array Value) (ds : List Deferred) : Option Addr :=
 match ops[i]? with
 | none => none
 | some o =>
  if Region.wanted o (yielded ops fr) then
   match o.op, o.dst with
   | .load t x, some _ =>
    match Act.eval ⟨fr, ds⟩ x with
    | .pointer (some a) => if aggB P t = some false then some a else none
    | _ => none
   | _, _ => none
  else none
section
variable {P : Program} {b : Frame} {k : List Item} {w : World} {D : List Frame → Machine → Prop} {ops : Array Oper} {fr : Array Value} {ds : List Deferred} {i : Nat} {rest : List Nat} {ad : Addr} {v : Value} {vs : List Value}
variable {F : World → Prop} {s : List Nat} {fuel : Nat} {listed : Array Bool}
theorem ldOf_spec (h : ldOf P ops i fr ds = some ad) : ∃ t x ty, opAtW ops i fr = some (.load t x, some (dOf ops i), ty) ∧ Act.eval ⟨fr, ds⟩ x = .pointer (some ad) ∧ aggB P t = some false := by
 unfold ldOf at h
 split at h
 ·cases h
 ·rename_i o ho
  split at h
  ·rename_i hw
   split at h
   ·rename_i t x d e1 e2
    split at h
    ·rename_i a e3
     split at h
     ·rename_i e4
      cases h
      refine ⟨t, x, o.type, ?_, e3, e4⟩
      simp [opAtW, ho, hw, dOf, e1, e2]
     ·cases h
    ·cases h
   ·cases h
  ·cases h
theorem Hd (hc : w.cell? ad = some v) (g : Goes P b (.inRegion ops rest :: k) ⟨upd fr [(dOf ops i, v)], ds⟩ w D) (h : ldOf P ops i fr ds = some ad := by kernel_rfl) : Goes P b (.inRegion ops (i :: rest) :: k) ⟨fr, ds⟩ w D := by
 obtain ⟨t, x, ty, h1, h2, h3⟩ := ldOf_spec h
 exact Op_.ld1 t x _ ty ad v (Goes.vs h1 rfl) h2 h3 hc g
theorem Hl (i : Nat) (hF : F w) (hc : ∀ w', F w' → w'.cell? ad = some v) (g : AnyG P b k D ops F s fuel (listed.setIfInBounds i true) ⟨upd fr [(dOf ops i, v)], ds⟩ w)
  (h : ldOf P ops i fr ds = some ad := by kernel_rfl) (htk : takeB .any ops listed s i = true := by kernel_rfl) : AnyG P b k D ops F s (fuel + 1) listed ⟨fr, ds⟩ w := by
 obtain ⟨t, x, ty, h1, h2, h3⟩ := ldOf_spec h
 exact AnyG.ld1 t x _ ty ad v h1 htk hF h2 h3 hc g
theorem Hb (u : List (Nat × Value)) (g : Goes P b k ⟨upd fr u, ds⟩ w D) (h : fr = upd fr u := by kernel_rfl) : Goes P b k ⟨fr, ds⟩ w D := by rw [h]; exact g
theorem HbA (u : List (Nat × Value)) (g : AnyG P b k D ops F s fuel listed ⟨upd fr u, ds⟩ w) (h : fr = upd fr u := by kernel_rfl) : AnyG P b k D ops F s fuel listed ⟨fr, ds⟩ w := by rw [h]; exact g
theorem Gk {n : Nat} {live : List (Nat × Value)} (g : ∀ junk, Goes P b k ⟨lfr n live junk, ds⟩ w D) (h : fr = lfr n live (fun i => fr.getD i undef) := by kernel_rfl) : Goes P b k ⟨fr, ds⟩ w D := .jump n live h g
theorem Hr {f : FuncId} (fn : Func) {R : Value → World → Prop} (hR : R v w) (hf : P.funcs[f]? = some fn := by kernel_rfl) (hv : (results fn fr).run P w = .ok v w := by kernel_rfl) :
  Goes P (base f) (.code .ret :: k) ⟨fr, []⟩ w (Done P f (Rets R)) := .ret hf hv hR
end
def ixOf (P : Program) (ops : Array Oper) (i : Nat) (fr : Array Value) (ds : List Deferred) : Option (Value × TypeId × IntKind × Int) :=
 match ops[i]? with
 | none => none
 | some o =>
  if Region.wanted o (yielded ops fr) then
   match o.op, o.dst with
   | .indexAddr t x ix, some _ =>
    match Act.eval ⟨fr, ds⟩ ix, elemB P t with
    | .int kk j, some e => some (Act.eval ⟨fr, ds⟩ x, e, kk, j)
    | _, _ => none
   | _, _ => none
  else none
section
variable {P : Program} {b : Frame} {k : List Item} {w w0 : World} {D : List Frame → Machine → Prop} {ops : Array Oper} {fr : Array Value} {ds : List Deferred} {rest : List Nat}
variable {F : World → Prop} {s : List Nat} {fuel : Nat} {listed : Array Bool} {S : Fz} {N : Nat} {L : List Ent} {α : Type} [Inhabited α] {K : Kd α} {A : Option Addr} {n : Nat} {xs : List α} {z : α} {e : TypeId} {kk : IntKind} {j : Int} {G : Option Nat} {cap kz : Nat} {cs : List Value}
theorem ixOf_spec {i : Nat} {sl : Value} (h : ixOf P ops i fr ds = some (sl, e, kk, j)) : ∃ t x ix ty, opAtW ops i fr = some (.indexAddr t x ix, some (dOf ops i), ty) ∧ Act.eval ⟨fr, ds⟩ x = sl ∧ Act.eval ⟨fr, ds⟩ ix = .int kk j ∧ elemB P t = some e := by
 unfold ixOf at h
 split at h
 ·cases h
 ·rename_i o ho
  split at h
  ·rename_i hw
   split at h
   ·rename_i t x ix d e1 e2
    split at h
    ·rename_i kk' j' e' e3 e4
     cases h
     refine ⟨t, x, ix, o.type, ?_, rfl, e3, e4⟩
     simp [opAtW, ho, hw, dOf, e1, e2]
    ·cases h
   ·cases h
  ·cases h
theorem Hx (i : Nat) (kk : IntKind) (m : Nat) (c : Nat) (hn : xs.length = n) (hz : gi xs j = z) (hp : Hp N w0 S w L) (hL : L[m]? = some (G, .row e cs cap kz)) (he : Els K S w cs xs) (hF : F w) (h0 : 0 ≤ j) (h1 : j < (n : Int))
  (g : ∀ bl vs, G = some bl → K.rep S w vs z → (∀ q v, vs[q]? = some v → cs[j.toNat * K.size + q]? = some v) → (∀ q v, vs[q]? = some v → w.cell? (Addr.add ⟨bl, j.toNat * K.size, none⟩ q) = some v) →
   AnyG P b k D ops F s fuel (listed.setIfInBounds i true) ⟨upd fr [(dOf ops i, .pointer (some ⟨bl, j.toNat * K.size, none⟩))], ds⟩ w)
  (h : ixOf P ops i fr ds = some (.slice (Gp G) n c, e, kk, j) := by kernel_rfl) (htk : takeB .any ops listed s i = true := by kernel_rfl) (hs : sizeB P e = some K.size := by kernel_rfl) (hsz : 0 < K.size := by decide) : AnyG P b k D ops F s (fuel + 1) listed ⟨fr, ds⟩ w := by
 obtain ⟨t, x, ix, ty, h2, h3, h4, h5⟩ := ixOf_spec h
 exact AnyG.ixO_n t x ix _ ty e kk j m n c z hn hz hp hL he h2 htk hF h3 h4 h5 hs hsz h0 h1 g
theorem Hy (i : Nat) (e : TypeId) (kk : IntKind) {c : Nat} (hn : xs.length = n) (hz : gi xs j = z) (hr : Rd K S w A c xs) (hF : F w) (h0 : 0 ≤ j) (h1 : j < (n : Int))
  (g : ∀ ad vs, Cs S w ad vs → K.rep S w vs z → AnyG P b k D ops F s fuel (listed.setIfInBounds i true) ⟨upd fr [(dOf ops i, .pointer (some ad))], ds⟩ w)
  (h : ixOf P ops i fr ds = some (.slice A n c, e, kk, j) := by kernel_rfl) (htk : takeB .any ops listed s i = true := by kernel_rfl) (hs : sizeB P e = some K.size := by kernel_rfl) : AnyG P b k D ops F s (fuel + 1) listed ⟨fr, ds⟩ w := by
 obtain ⟨t, x, ix, ty, h2, h3, h4, h5⟩ := ixOf_spec h
 exact AnyG.ixR_n t x ix _ ty e kk j z hn hz hr h2 htk hF h3 h4 h5 hs h0 h1 g
end
theorem Hp.e {N : Nat} {w0 w : World} {S : Fz} {L : List Ent} (h : Hp N w0 S w L) (i j : Nat) {g : Nat} {v : Value} (e : cl L i j = some (g, v) := by rfl) : w.cell? ⟨g, j, none⟩ = some v := h.c i j e
theorem cells1 {v : Value} (h : v.oneCell' = true) : v.cells = #[v] := by
 cases v <;> first | rfl | (simp [Value.oneCell'] at h)
end Go.Gx
