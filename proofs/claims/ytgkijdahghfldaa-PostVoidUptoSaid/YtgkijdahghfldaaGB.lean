/-
  The rules with a header's own length and with names for data; arrays as values. Generic: names no program.
-/
import Derived.Test.YtgkijdahghfldaaGA
import Derived.ChangeKeysEq
namespace Go.Gx
open Go.RowKit
theorem bind_some' {α β : Type} {x : Option α} {f : α → Option β} {r : β} {C : Prop} (h : (x >>= f) = some r) (g : ∀ y, x = some y → f y = some r → C) : C :=
  let ⟨y, h1, h2⟩ := bind_some h
  g y h1 h2
theorem let_some {α β : Type} {x : α} {f : α → Option β} {r : β} {C : Prop} (h : (some x >>= f) = some r) (g : ∀ y, x = y → f y = some r → C) : C := g x rfl h
theorem ite_some {α : Type} {c : Prop} [Decidable c] {x y : Option α} {r : α} {C : Prop} (h : (if c then x else y) = some r) (ht : c → x = some r → C) (hf : ¬ c → y = some r → C) : C := by
  by_cases hc : c
  · rw [if_pos hc] at h; exact ht hc h
  · rw [if_neg hc] at h; exact hf hc h
theorem guard_some' {α : Type} {c : Prop} [Decidable c] {x : Option α} {r : α} {C : Prop} (h : (if c then x else none) = some r) (g : c → x = some r → C) : C :=
  let ⟨h1, h2⟩ := guard_some h
  g h1 h2
section
variable {P : Program} {X : Prop} {Y : Array Value → World → Prop} {b : Frame} {k : List Item} {w : World} {D : List Frame → Machine → Prop} {ops : Array Oper} {i : Nat} {rest : List Nat} {fr : Array Value} {ds : List Deferred}
variable {N : Nat} {w0 : World} {S : Fz} {L : List Ent} {α : Type} {K : Kd α}
/-! ### Slices that are read -/
theorem Op_.ixR_n [Inhabited α] (t : TypeId) (x ix : Operand) (d : Tmp) (ty : TypeId) (e : TypeId) (kk : IntKind) (j : Int) {A : Option Addr} {n c : Nat} {xs : List α} (z : α) (hn : xs.length = n) (hz : gi xs j = z) (hr : Rd K S w A c xs) (h : VStep P (.indexAddr t x ix) d ty fr ds w X Y)
    (hx : Act.eval ⟨fr, ds⟩ x = .slice A n c) (hj : Act.eval ⟨fr, ds⟩ ix = .int kk j) (ht : elemB P t = some e) (hs : sizeB P e = some K.size) (h0 : 0 ≤ j) (h1 : j < (n : Int))
    (g : ∀ ad vs, Cs S w ad vs → K.rep S w vs z → Y (upd fr [(d, .pointer (some ad))]) w) : X := by
  subst hn hz; exact Op_.ixR t x ix d ty e kk j hr h hx hj ht hs h0 h1 g
theorem Op_.slR_n (t : TypeId) (x : Operand) (lo hi : Option Operand) (d : Tmp) (ty : TypeId) (e : TypeId) (j1 j2 : Int) {A : Option Addr} {n c : Nat} {xs : List α} (zs : List α) (hn : xs.length = n) (hz : sl xs j1 j2 = zs) (hr : Rd K S w A c xs) (h : VStep P (.slice t x lo hi none) d ty fr ds w X Y)
    (hx : Act.eval ⟨fr, ds⟩ x = .slice A n c) (ht : elemB P t = some e) (hs : sizeB P e = some K.size) (hlo : Bnd (Act.eval ⟨fr, ds⟩) lo j1 0) (hhi : Bnd (Act.eval ⟨fr, ds⟩) hi j2 n)
    (h0 : 0 ≤ j1) (h1 : j1 ≤ j2) (h2 : j2 ≤ (n : Int))
    (g : ∀ A' c', Rd K S w A' c' zs → Y (upd fr [(d, .slice A' zs.length c')]) w) : X := by
  subst hn hz; exact Op_.slR t x lo hi d ty e j1 j2 hr h hx ht hs hlo hhi h0 h1 h2 g
theorem AnyG.ixR_n [Inhabited α] {F : World → Prop} {s : List Nat} {fuel : Nat} {listed : Array Bool} (t : TypeId) (x ix : Operand) (d : Tmp) (ty : TypeId) (e : TypeId) (kk : IntKind) (j : Int) {A : Option Addr} {n c : Nat} {xs : List α} (z : α) (hn : xs.length = n) (hz : gi xs j = z) (hr : Rd K S w A c xs)
    (h : opAtW ops i fr = some (.indexAddr t x ix, some d, ty)) (htk : takeB .any ops listed s i = true) (hF : F w)
    (hx : Act.eval ⟨fr, ds⟩ x = .slice A n c) (hj : Act.eval ⟨fr, ds⟩ ix = .int kk j) (ht : elemB P t = some e) (hs : sizeB P e = some K.size) (h0 : 0 ≤ j) (h1 : j < (n : Int))
    (g : ∀ ad vs, Cs S w ad vs → K.rep S w vs z → AnyG P b k D ops F s fuel (listed.setIfInBounds i true) ⟨upd fr [(d, .pointer (some ad))], ds⟩ w) : AnyG P b k D ops F s (fuel + 1) listed ⟨fr, ds⟩ w := by
  subst hn hz; exact AnyG.ixR t x ix d ty e kk j hr h htk hF hx hj ht hs h0 h1 g
theorem AnyG.slR_n {F : World → Prop} {s : List Nat} {fuel : Nat} {listed : Array Bool} (t : TypeId) (x : Operand) (lo hi : Option Operand) (d : Tmp) (ty : TypeId) (e : TypeId) (j1 j2 : Int) {A : Option Addr} {n c : Nat} {xs : List α} (zs : List α) (hn : xs.length = n) (hz : sl xs j1 j2 = zs) (hr : Rd K S w A c xs)
    (h : opAtW ops i fr = some (.slice t x lo hi none, some d, ty)) (htk : takeB .any ops listed s i = true) (hF : F w)
    (hx : Act.eval ⟨fr, ds⟩ x = .slice A n c) (ht : elemB P t = some e) (hs : sizeB P e = some K.size) (hlo : Bnd (Act.eval ⟨fr, ds⟩) lo j1 0) (hhi : Bnd (Act.eval ⟨fr, ds⟩) hi j2 n)
    (h0 : 0 ≤ j1) (h1 : j1 ≤ j2) (h2 : j2 ≤ (n : Int))
    (g : ∀ A' c', Rd K S w A' c' zs → AnyG P b k D ops F s fuel (listed.setIfInBounds i true) ⟨upd fr [(d, .slice A' zs.length c')], ds⟩ w) : AnyG P b k D ops F s (fuel + 1) listed ⟨fr, ds⟩ w := by
  subst hn hz; exact AnyG.slR t x lo hi d ty e j1 j2 hr h htk hF hx ht hs hlo hhi h0 h1 h2 g
/-! ### Rows of one's own -/
theorem Op_.ixO_n [Inhabited α] (t : TypeId) (x ix : Operand) (d : Tmp) (ty : TypeId) (e : TypeId) (kk : IntKind) (j : Int) (m : Nat) (n c : Nat) {G : Option Nat} {cap kz : Nat} {xs : List α} {cs : List Value} (z : α) (hn : xs.length = n) (hz : gi xs j = z) (hp : Hp N w0 S w L)
    (hL : L[m]? = some (G, .row e cs cap kz)) (he : Els K S w cs xs) (h : VStep P (.indexAddr t x ix) d ty fr ds w X Y)
    (hx : Act.eval ⟨fr, ds⟩ x = .slice (Gp G) n c) (hj : Act.eval ⟨fr, ds⟩ ix = .int kk j) (ht : elemB P t = some e) (hs : sizeB P e = some K.size) (hsz : 0 < K.size) (h0 : 0 ≤ j) (h1 : j < (n : Int))
    (g : ∀ bl vs, G = some bl → K.rep S w vs z → (∀ q v, vs[q]? = some v → w.cell? (Addr.add ⟨bl, j.toNat * K.size, none⟩ q) = some v) →
      Y (upd fr [(d, .pointer (some ⟨bl, j.toNat * K.size, none⟩))]) w) : X := by
  subst hn hz; exact Op_.ixO t x ix d ty e kk j m c hp hL he h hx hj ht hs hsz h0 h1 g
theorem Op_.ap_n {K : Kd α} (t : TypeId) (x y : Operand) (d : Tmp) (ty : TypeId) (e : TypeId) (q : Nat) (zv : Value) (bytes : Nat) (n c m : Nat) (xs ys zs : List α) (XA : Option Addr) (mc : Nat) {kz : Nat} {cs news : List Value} {G : Option Nat} (hn : xs.length = n) (hm : ys.length = m) (hz : xs ++ ys = zs) (hp : Hp N w0 S w L)
    (hL : L[q]? = some (G, .row e cs (c * K.size) kz)) (he : Els K S w cs xs) (h : VStep P (.call { callee := .builtin .append, args := #[x, y], argTypes := #[t, t] }) d ty fr ds w X Y)
    (hx : Act.eval ⟨fr, ds⟩ x = .slice (Gp G) n c) (hy : Act.eval ⟨fr, ds⟩ y = .slice XA m mc) (ht : elemB P t = some e) (hinf : infoB P e = some (some zv, K.size, bytes)) (hzs : zv.cells.size = K.size) (h0 : 0 < K.size)
    (hsn : Els K S w news ys) (hsrc : news ≠ [] → ∃ a, XA = some a ∧ ∀ j u, news[j]? = some u → w.cell? (a.add j) = some u) (hby : (zs.length : Int) * bytes ≤ 140737488355328) (h63 : (zs.length : Int) ≤ 9223372036854775807)
    (g : ∀ w' G' c' cs', Ext S w S w' → Hp N w0 S w' (L.set q (G', .row e cs' (c' * K.size) kz)) → Els K S w' cs' zs → Y (upd fr [(d, .slice (Gp G') zs.length c')]) w') :
    X := by
  subst hn hm hz; exact Op_.ap t x y d ty e q zv bytes c xs ys XA mc hp hL he h hx hy ht hinf hzs h0 hsn hsrc hby h63 g
/-! ### Arrays -/
/-! ### Texts -/
end
end Go.Gx
