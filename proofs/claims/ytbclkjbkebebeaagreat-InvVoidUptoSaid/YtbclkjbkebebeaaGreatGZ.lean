/-
 Short words for what the walks say often. Generic: names no program.
-/
import Derived.Test.YtbclkjbkebebeaaGreatGF
set_option linter.unusedVariables false
namespace Go.Gx
open Go.RowKit
abbrev Zc (q : Code) (j : List Item) : List Item := .code q :: j
abbrev Zr (q : Code) (r : List Nat) (j : List Item) : List Item := .inRegion (opsOf q) r :: j
abbrev Zl (q : Code) (j : List Item) : List Item := .inLoop q :: j
abbrev Zb (n : Nat) (j : List Item) : List Item := .inBlock n :: j
abbrev pt (g o : Nat) : Value := .pointer (some ⟨g, o, none⟩)
abbrev ag (l : List Value) : Value := .agg l.toArray
abbrev kc (f : FuncId) (l : List Nat) (t : Array TypeId) : Op := .call { callee := .value (.func f), args := (l.map Operand.tmp).toArray, argTypes := t }
def cl (L : List Ent) (i j : Nat) : Option (Nat × Value) :=
 match L[i]? with
 | some (some g, .row _ vs _ _) => (vs[j]?).map fun v => (g, v)
 | _ => none
theorem Hp.c {N : Nat} {w0 w : World} {S : Fz} {L : List Ent} (h : Hp N w0 S w L) (i j : Nat) {g : Nat} {v : Value} (e : cl L i j = some (g, v) := by kernel_rfl) : w.cell? ⟨g, j, none⟩ = some v := by
 unfold cl at e
 split at e
 ·rename_i g' t vs cap k hi
  cases hv : vs[j]? with
  | none => rw [hv] at e; cases e
  | some u =>
   rw [hv] at e
   cases e
   exact (h.mem i hi).cell j _ hv
 ·cases e
def clN (L : List Ent) (i j : Nat) : Nat → Option (List (Addr × Value))
 | 0 => some []
 | n + 1 => match cl L i j, clN L i (j + 1) n with
  | some (g, v), some r => some ((⟨g, j, none⟩, v) :: r)
  | _, _ => none
def clS (L : List Ent) : List (Nat × Nat × Nat) → Option (List (Addr × Value))
 | [] => some []
 | (i, j, n) :: r => match clN L i j n, clS L r with
  | some a, some b => some (a ++ b)
  | _, _ => none
theorem Cells.append {w : World} : ∀ {a b : List (Addr × Value)}, Cells w a → Cells w b → Cells w (a ++ b)
 | [], _, _, hb => hb
 | _ :: _, _, ha, hb => ⟨ha.1, Cells.append ha.2 hb⟩
theorem clN_cells {N : Nat} {w0 w : World} {S : Fz} {L : List Ent} (h : Hp N w0 S w L) (i : Nat) : ∀ (n j : Nat) (cells : List (Addr × Value)), clN L i j n = some cells → Cells w cells
 | 0, _, _, e => by cases e; trivial
 | n + 1, j, cells, e => by
  rw [clN] at e
  split at e
  ·rename_i g v r h1 h2
   cases e
   exact ⟨h.c i j h1, clN_cells h i n _ _ h2⟩
  ·cases e
theorem clS_cells {N : Nat} {w0 w : World} {S : Fz} {L : List Ent} (h : Hp N w0 S w L) : ∀ (l : List (Nat × Nat × Nat)) (cells : List (Addr × Value)), clS L l = some cells → Cells w cells
 | [], _, e => by cases e; trivial
 | (i, j, n) :: r, cells, e => by
  rw [clS] at e
  split at e
  ·rename_i a b h1 h2
   cases e
   exact (clN_cells h i n j _ h1).append (clS_cells h r _ h2)
  ·cases e
theorem Hp.cs {N : Nat} {w0 w : World} {S : Fz} {L : List Ent} (h : Hp N w0 S w L) (l : List (Nat × Nat × Nat)) {cells : List (Addr × Value)} (e : clS L l = some cells := by kernel_rfl) : Cells w cells := clS_cells h l _ e
theorem Hp.fr {N : Nat} {w0 w : World} {S : Fz} {L : List Ent} (h : Hp N w0 S w L) (i : Nat) {e : Ent} (hi : L[i]? = some e := by exact rfl) : Hp N w0 S w (e :: L.eraseIdx i) := h.front i e hi
theorem Hp.dp {N : Nat} {w0 w : World} {S : Fz} {L : List Ent} (h : Hp N w0 S w L) (i : Nat) : Hp N w0 S w (L.eraseIdx i) := by
 cases hi : L[i]? with
 | none => rw [List.eraseIdx_of_length_le (by simpa using hi)]; exact h
 | some e => exact (h.front i e hi).drop
def prt (L : List Ent) (i o n : Nat) : Option (Nat × List Value) :=
 match L[i]? with
 | some (some g, .row _ vs _ _) => some (g, (vs.drop o).take n)
 | _ => none
theorem Hp.pa {N : Nat} {w0 w : World} {S : Fz} {L : List Ent} (h : Hp N w0 S w L) (i o : Nat) {g : Nat} {vs : List Value} (e : prt L i o vs.length = some (g, vs) := by kernel_rfl) :
  ∀ j v, vs[j]? = some v → w.cell? (Addr.add ⟨g, o, none⟩ j) = some v := by
 unfold prt at e
 split at e
 ·rename_i g' t us cap k hi
  simp only [Option.some.injEq, Prod.mk.injEq] at e
  obtain ⟨rfl, e⟩ := e
  have e1 : us = us.take o ++ (vs ++ (us.drop o).drop vs.length) := by
   have e2 := List.take_append_drop vs.length (us.drop o)
   rw [e] at e2
   rw [e2, List.take_append_drop]
  intro j v hj
  have hlt : j < vs.length := (List.getElem?_eq_some_iff.1 hj).1
  have hl : vs.length ≤ us.length - o := by
   have := congrArg List.length e
   rw [List.length_take, List.length_drop] at this
   omega
  have hm := h.mem i hi
  rw [e1] at hm
  exact At_part hm o (by rw [List.length_take]; omega) j v hj
 ·cases e
section
variable {P : Program} {b : Frame} {k : List Item} {w : World} {D : List Frame → Machine → Prop}
theorem Gj {fr : Array Value} {ds : List Deferred} (n : Nat) (live : List (Nat × Value)) (g : ∀ junk, Goes P b k ⟨lfr n live junk, ds⟩ w D) (h : fr = lfr n live (fun i => fr.getD i undef) := by kernel_rfl) : Goes P b k ⟨fr, ds⟩ w D := .jump n live h g
variable {ops : Array Oper} {i : Nat} {rest : List Nat} {fr : Array Value} {ds : List Deferred}
theorem Goes.v {op : Op} {d : Tmp} {ty : TypeId} (h : opAtW ops i fr = some (op, some d, ty) := by kernel_rfl) (hd : isDefer op = false := by rfl) : VStep P op d ty fr ds w (Goes P b (.inRegion ops (i :: rest) :: k) ⟨fr, ds⟩ w D) (fun fr' w' => Goes P b (.inRegion ops rest :: k) ⟨fr', ds⟩ w' D) := .vs h hd
theorem Goes.c {op : Op} {d : Tmp} {ty : TypeId} (h : opAtW ops i fr = some (op, some d, ty) := by kernel_rfl) (hd : isDefer op = false := by rfl) : CStep P op d ty fr ds w (Goes P b (.inRegion ops (i :: rest) :: k) ⟨fr, ds⟩ w D) (fun fr' w' => Goes P b (.inRegion ops rest :: k) ⟨fr', ds⟩ w' D) := .cs h hd
theorem Goes.s {op : Op} {ty : TypeId} (h : opAtW ops i fr = some (op, none, ty) := by kernel_rfl) (hd : isDefer op = false := by rfl) : SStep P op ty fr ds w (Goes P b (.inRegion ops (i :: rest) :: k) ⟨fr, ds⟩ w D) (fun fr' w' => Goes P b (.inRegion ops rest :: k) ⟨fr', ds⟩ w' D) := .ss h hd
variable {L : List Ent} {N : Nat} {w0 : World} {S : Fz}
theorem Zf {f : FuncId} (fn : Func) (c : Code) {args : Array Value} {R : Value → World → Prop} (n : Nat) (g : Goes P (base f) [.code c] ⟨args ++ Array.replicate n undef, []⟩ w (Done P f (Rets R))) (hf : P.funcs[f]? = some fn := by kernel_rfl) (hb : fn.body = some c := by kernel_rfl) (hn : fn.ntmps - args.size = n := by kernel_rfl) :
  Calls P f args w (Rets R) := calls_of_goes hf hb n hn g
theorem So {X : Prop} {Y : Array Value → World → Prop} (t : TypeId) (x y : Operand) (ty : TypeId) (j g o : Nat) (u : Value) (us : List Value) {t' : TypeId} {cs : List Value} {cap : Nat} (hp : Hp N w0 S w L) (hL : L[j]? = some (some g, .row t' cs cap 0)) (h : SStep P (.store t x y) ty fr ds w X Y)
  (gg : ∀ w', Ext S w S w' → Hp N w0 S w' (L.set j (some g, .row t' (cs.take o ++ (us ++ cs.drop (o + us.length))) cap 0)) → Y fr w')
  (hx : Act.eval ⟨fr, ds⟩ x = .pointer (some ⟨g, o, none⟩) := by kernel_rfl) (hy : Act.eval ⟨fr, ds⟩ y = u := by kernel_rfl) (hu : u.cells = us.toArray := by kernel_rfl) (hs : sizeB P t = some us.length := by kernel_rfl)
  (hl : Nat.ble (o + us.length) cs.length = true := by kernel_rfl) (h1 : us.all (fun v => v.oneCell') = true := by kernel_rfl) : X :=
 Op_.st t x y ty j g o u us hp hL h hx hy hu hs (Nat.zero_le _) (Nat.le_of_ble_eq_true hl) (fun v hv => List.all_eq_true.1 h1 v hv) gg
theorem Gc (op : Op) (d : Tmp) (ty : TypeId) (f : FuncId) (args : Array Value) {R : Value → World → Prop} (hc : Calls P f args w (Rets R)) (g : ∀ v w', R v w' → Goes P b (.inRegion ops rest :: k) ⟨upd fr [(d, v)], ds⟩ w' D)
  (h : opAtW ops i fr = some (op, some d, ty) := by kernel_rfl) (hd : isDefer op = false := by rfl) (hp : pureRun P (execOp (Act.eval ⟨fr, ds⟩) (mkO op (some d) ty)) = some (.enter f args) := by kernel_rfl) : Goes P b (.inRegion ops (i :: rest) :: k) ⟨fr, ds⟩ w D :=
 Op_.call op d ty f args (Goes.cs h hd) hp hc g
theorem Goes.ldN (t : TypeId) (x : Operand) (d : Tmp) (ty : TypeId) (ad : Addr) (vs : List Value) (hc : ∀ j v, vs[j]? = some v → w.cell? (ad.add j) = some v) (g : Goes P b (.inRegion ops rest :: k) ⟨upd fr [(d, .agg vs.toArray)], ds⟩ w D)
  (h : opAtW ops i fr = some (.load t x, some d, ty) := by kernel_rfl) (hx : Act.eval ⟨fr, ds⟩ x = .pointer (some ad) := by kernel_rfl) (ht : aggB P t = some true := by kernel_rfl) (hs : sizeB P t = some vs.length := by kernel_rfl) : Goes P b (.inRegion ops (i :: rest) :: k) ⟨fr, ds⟩ w D :=
 Op_.ldN t x d ty ad vs (Goes.vs h rfl) hx ht hs hc g
theorem Goes.rt {f : FuncId} (fn : Func) (v : Value) {R : Value → World → Prop} {fr : Array Value} (hR : R v w) (hf : P.funcs[f]? = some fn := by kernel_rfl) (hv : (results fn fr).run P w = .ok v w := by kernel_rfl) :
  Goes P (base f) (.code .ret :: k) ⟨fr, []⟩ w (Done P f (Rets R)) := .ret hf hv hR
variable {F : World → Prop} {s : List Nat} {fuel : Nat} {listed : Array Bool}
theorem AnyG.s1 (i : Nat) (d : Tmp) (hF : F w) (g : AnyG P b k D ops F s fuel (listed.setIfInBounds i true) ⟨upd fr [(d, undef)], ds⟩ w) (h : unwB ops i fr = some (some d) := by kernel_rfl) (ht : takeB .any ops listed s i = true := by kernel_rfl) : AnyG P b k D ops F s (fuel + 1) listed ⟨fr, ds⟩ w :=
 .skip1 d h ht hF g
end
end Go.Gx
namespace Go
abbrev Value.i (x : Int) : Value := .int .i64 x
abbrev Value.u (x : Int) : Value := .int .u64 x
end Go
