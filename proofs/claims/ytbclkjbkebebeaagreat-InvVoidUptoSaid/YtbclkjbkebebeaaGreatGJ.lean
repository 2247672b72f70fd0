/-
 More short words for what the walks say often. Generic: names no program.
-/
import Derived.Test.YtbclkjbkebebeaaGreatGZ
set_option linter.unusedVariables false
namespace Go.Gx
open Go.RowKit
def dgA : Nat → Nat → List Nat → List Nat
 | 0, _, r => r
 | k + 1, n, r => if n < 10 then r else dgA k (n / 10) (n % 10 :: r)
def dg (n : Nat) : List Nat := dgA 300 n []
abbrev Yq (n : Nat) (b : Code) : Code := sub (dg n) b
abbrev Ys (n : Nat) (b : Code) (j : List Item) : List Item := .code (sub (dg n) b) :: j
abbrev Yt (n : Nat) (b : Code) (r : List Nat) (j : List Item) : List Item := .inRegion (opsOf (sub (dg n) b)) r :: j
theorem Ext.t {S S1 S2 : Fz} {w w1 w2 : World} (h : Ext S w S1 w1) (k : Ext S1 w1 S2 w2) : Ext S w S2 w2 := h.trans k
abbrev us (l : List (List Nat × Value)) : List (Nat × Value) := l.flatMap fun x => x.1.map fun i => (i, x.2)
theorem sj {α : Type} {a b : α} (h : some a = some b) : a = b := Option.some.inj h
theorem bf {b : Bool} (h : ¬ b = true) : b = false := by simpa using h
theorem Gb {α β : Type} {x : Option α} {f : α → Option β} {r : β} {C : Prop} (h : (x >>= f) = some r) (g : ∀ y, x = some y → f y = some r → C) : C := bind_some' h g
theorem Gl {α β : Type} {x : α} {f : α → Option β} {r : β} {C : Prop} (h : (some x >>= f) = some r) (g : ∀ y, x = y → f y = some r → C) : C := let_some h g
theorem Gi {α : Type} {c : Prop} [Decidable c] {x y : Option α} {r : α} {C : Prop} (h : (if c then x else y) = some r) (ht : c → x = some r → C) (hf : ¬ c → y = some r → C) : C := ite_some h ht hf
theorem Gg {α : Type} {c : Prop} [Decidable c] {x : Option α} {r : α} {C : Prop} (h : (if c then x else none) = some r) (g : c → x = some r → C) : C := guard_some' h g
theorem dt {p : Prop} [Decidable p] (h : p) : decide p = true := decide_eq_true h
theorem df {p : Prop} [Decidable p] (h : ¬ p) : decide p = false := decide_eq_false h
section
variable {P : Program} {X : Prop} {Y : Array Value → World → Prop} {b : Frame} {k : List Item} {w : World} {D : List Frame → Machine → Prop} {ops : Array Oper} {i : Nat} {rest : List Nat} {fr : Array Value} {ds : List Deferred}
variable {N : Nat} {w0 : World} {S : Fz} {L : List Ent} {α : Type} {K : Kd α}
theorem Ob (t : TypeId) (x : Operand) (d : Tmp) (ty : TypeId) (v : Value) (cs : List Value) (hp : Hp N w0 S w L) (h : VStep P (.box t x) d ty fr ds w X Y)
  (g : ∀ bl w', Ext S w S w' → Hp N w0 S w' ((some bl, .row t cs cs.length 0) :: L) → Y (upd fr [(d, .pointer (some ⟨bl, 0, none⟩))]) w') (hx : Act.eval ⟨fr, ds⟩ x = v := by kernel_rfl) (hcs : v.cells = cs.toArray := by kernel_rfl) : X := Op_.box t x d ty v cs hp h hx hcs g
theorem Oa (t : TypeId) (d : Tmp) (ty : TypeId) (z : Value) (cs : List Value) (hp : Hp N w0 S w L) (h : VStep P (.alloc t) d ty fr ds w X Y)
  (g : ∀ bl w', Ext S w S w' → Hp N w0 S w' ((some bl, .row t cs cs.length 0) :: L) → Y (upd fr [(d, .pointer (some ⟨bl, 0, none⟩))]) w') (hz : (P.info? t).bind (·.zero) = some z := by kernel_rfl) (hcs : z.cells = cs.toArray := by kernel_rfl) : X := Op_.alloc t d ty z cs hp h hz hcs g
theorem On (t : TypeId) (x y : Operand) (d : Tmp) (ty : TypeId) (e : TypeId) (q : Nat) (zv : Value) (bytes : Nat) (n c m : Nat) (xs ys zs : List α) (XA : Option Addr) (mc : Nat) {kz : Nat} {cs news : List Value} {G : Option Nat} (hn : xs.length = n) (hm : ys.length = m) (hz : xs ++ ys = zs) (hp : Hp N w0 S w L)
  (hL : L[q]? = some (G, .row e cs (c * K.size) kz)) (he : Els K S w cs xs) (h : VStep P (.call { callee := .builtin .append, args := #[x, y], argTypes := #[t, t] }) d ty fr ds w X Y)
  (hsn : Els K S w news ys) (hsrc : news ≠ [] → ∃ a, XA = some a ∧ ∀ j u, news[j]? = some u → w.cell? (a.add j) = some u) (hg : (zs.length : Int) ≤ 1099511627776)
  (g : ∀ w' G' c' cs', Ext S w S w' → Hp N w0 S w' (L.set q (G', .row e cs' (c' * K.size) kz)) → Els K S w' cs' zs → Y (upd fr [(d, .slice (Gp G') zs.length c')]) w')
  (hx : Act.eval ⟨fr, ds⟩ x = .slice (Gp G) n c := by kernel_rfl) (hy : Act.eval ⟨fr, ds⟩ y = .slice XA m mc := by kernel_rfl) (ht : elemB P t = some e := by kernel_rfl) (hinf : infoB P e = some (some zv, K.size, bytes) := by kernel_rfl) (hzs : zv.cells.size = K.size := by rfl) (h0 : 0 < K.size := by decide) (hb : bytes ≤ 128 := by decide) : X :=
 Op_.ap_n t x y d ty e q zv bytes n c m xs ys zs XA mc hn hm hz hp hL he h hx hy ht hinf hzs h0 hsn hsrc (by
  have : (zs.length : Int) * bytes ≤ (zs.length : Int) * 128 := Int.mul_le_mul_of_nonneg_left (by omega) (by omega)
  omega) (by omega) g
theorem Oi [Inhabited α] (t : TypeId) (x ix : Operand) (d : Tmp) (ty : TypeId) (e : TypeId) (kk : IntKind) (j : Int) {A : Option Addr} {n c : Nat} {xs : List α} (z : α) (hn : xs.length = n) (hz : gi xs j = z) (hr : Rd K S w A c xs) (h : VStep P (.indexAddr t x ix) d ty fr ds w X Y)
  (h0 : 0 ≤ j) (h1 : j < (n : Int)) (g : ∀ ad vs, Cs S w ad vs → K.rep S w vs z → Y (upd fr [(d, .pointer (some ad))]) w)
  (hx : Act.eval ⟨fr, ds⟩ x = .slice A n c := by kernel_rfl) (hj : Act.eval ⟨fr, ds⟩ ix = .int kk j := by kernel_rfl) (ht : elemB P t = some e := by kernel_rfl) (hs : sizeB P e = some K.size := by kernel_rfl) : X := Op_.ixR_n t x ix d ty e kk j z hn hz hr h hx hj ht hs h0 h1 g
theorem Oc (op : Op) (d : Tmp) (ty : TypeId) (f : FuncId) (args : Array Value) {R : Value → World → Prop} (h : CStep P op d ty fr ds w X Y) (hc : Calls P f args w (Rets R)) (g : ∀ v w', R v w' → Y (upd fr [(d, v)]) w')
  (hp : pureRun P (execOp (Act.eval ⟨fr, ds⟩) (mkO op (some d) ty)) = some (.enter f args) := by kernel_rfl) : X := Op_.call op d ty f args h hp hc g
theorem Om (op : Op) (d : Tmp) (ty : TypeId) (vf : Nat → Value) (t : TypeId) (cs : List Value) (c : Nat) (hp : Hp N w0 S w L) (h : VStep P (op) d ty fr ds w X Y)
  (g : ∀ bl w', Ext S w S w' → Hp N w0 S w' ((some bl, .row t cs c 0) :: L) → Y (upd fr [(d, vf bl)]) w')
  (hr : (execOp (Act.eval ⟨fr, ds⟩) (mkO op (some d) ty)).run P w = .ok (.value (vf w.heap.size)) (w.alloc (.cells cs.toArray t)) := by kernel_rfl) (hc : cs.length = c := by kernel_rfl) : X := by
 subst hc; exact Op_.made op d ty vf t cs hp h hr g
variable {F : World → Prop} {s : List Nat} {fuel : Nat} {listed : Array Bool}
theorem Av (i : Nat) {op : Op} {d : Tmp} {ty : TypeId} (h : opAtW ops i fr = some (op, some d, ty) := by kernel_rfl) (hr : Region.ready .any ops listed = [i] := by kernel_rfl) : VStep P op d ty fr ds w (AnyG P b k D ops F s (fuel + 1) listed ⟨fr, ds⟩ w) (fun fr' w' => AnyC P b k D ops F s fuel i (listed.setIfInBounds i true) ⟨fr', ds⟩ w') := .vs h hr
theorem As (i : Nat) {op : Op} {ty : TypeId} (h : opAtW ops i fr = some (op, none, ty) := by kernel_rfl) (hr : Region.ready .any ops listed = [i] := by kernel_rfl) : SStep P op ty fr ds w (AnyG P b k D ops F s (fuel + 1) listed ⟨fr, ds⟩ w) (fun fr' w' => AnyC P b k D ops F s fuel i (listed.setIfInBounds i true) ⟨fr', ds⟩ w') := .ss h hr
theorem Ac (i : Nat) {op : Op} {d : Tmp} {ty : TypeId} (h : opAtW ops i fr = some (op, some d, ty) := by kernel_rfl) (hr : Region.ready .any ops listed = [i] := by kernel_rfl) : CStep P op d ty fr ds w (AnyG P b k D ops F s (fuel + 1) listed ⟨fr, ds⟩ w) (fun fr' w' => AnyC P b k D ops F s fuel i (listed.setIfInBounds i true) ⟨fr', ds⟩ w') := .cs h hr
theorem Ak (i : Nat) (d : Tmp) (g : AnyG P b k D ops F s fuel (listed.setIfInBounds i true) ⟨upd fr [(d, undef)], ds⟩ w) (h : unwB ops i fr = some (some d) := by kernel_rfl) (hr : Region.ready .any ops listed = [i] := by kernel_rfl) (hF : i ∈ s := by decide) :
  AnyG P b k D ops F s (fuel + 1) listed ⟨fr, ds⟩ w := AnyG.skipL1 d h hr (.inl hF) g
theorem Ad {fuel : Nat} (g : Goes P b k ⟨fr, ds⟩ w D) (hr : Region.ready .any ops listed = [] := by kernel_rfl) : AnyG P b k D ops F s fuel listed ⟨fr, ds⟩ w := AnyG.done hr g fuel
theorem Gd {cd : Code} {a : Act} (s : List Nat) (F : World → Prop) (id : Nat) (n : Nat) (h : AnyG P b k D (opsOf cd) F s n (Array.replicate n false) a w.drew) (hcd : cd = .region id (opsOf cd) true := by kernel_rfl) (hnd : noDefer (opsOf cd) = true := by kernel_rfl) (hsz : (opsOf cd).size = n := by kernel_rfl) (hm : P.follows .mixedOrders = true := by kernel_rfl) :
  Goes P b (.code cd :: k) a w D := Goes.drawn id n hcd hnd hsz hm h
end
instance (n : Nat) : OfNat Operand n := ⟨.tmp n⟩
instance (n : Nat) : OfNat ResultVar n := ⟨.tmp n⟩
section
variable {N : Nat} {w0 w : World} {S S0 : Fz} {L : List Ent}
theorem Hp.k (h : Hp N w0 S w L) (l : List (Nat × Nat × Nat)) {cells : List (Addr × Value)} (e : clS L l = some cells := by kernel_rfl) : Fc S0 w cells w := Fc.here (h.cs l e)
theorem Hp.ro (h : Hp N w0 S w L) (j : Nat) {g : Option Nat} {t : TypeId} {cs : List Value} {cap k : Nat} (hL : L[j]? = some (g, .row t cs cap k)) : Fc S0 w ([] ++ (rowCellsO g cs ++ [])) w := Fc.here (Cells.app trivial (Cells.app (Cells.rowO (h.mem j hL)) trivial))
end
end Go.Gx
