/-
 The rules with a header's own length and with names for data; arrays as values. Generic: names no program.
-/
import Derived.Test.YtbclkjbkebebeaaGreatGA
import Derived.ChangeKeysEq
namespace Go.Gx
open Go.RowKit
theorem bind_some' {α β : Type} {x : Option α} {f : α → Option β} {r : β} {C : Prop} (h : (x >>= f) = some r) (g : ∀ y, x = some y → f y = some r → C) : C :=
 let ⟨y, h1, h2⟩ := bind_some h
 g y h1 h2
theorem let_some {α β : Type} {x : α} {f : α → Option β} {r : β} {C : Prop} (h : (some x >>= f) = some r) (g : ∀ y, x = y → f y = some r → C) : C := g x rfl h
theorem ite_some {α : Type} {c : Prop} [Decidable c] {x y : Option α} {r : α} {C : Prop} (h : (if c then x else y) = some r) (ht : c → x = some r → C) (hf : ¬ c → y = some r → C) : C := by
 by_cases hc : c
 ·rw [if_pos hc] at h; exact ht hc h
 ·rw [if_neg hc] at h; exact hf hc h
theorem guard_some' {α : Type} {c : Prop} [Decidable c] {x : Option α} {r : α} {C : Prop} (h : (if c then x else none) = some r) (g : c → x = some r → C) : C :=
 let ⟨h1, h2⟩ := guard_some h
 g h1 h2
section
variable {P : Program} {X : Prop} {Y : Array Value → World → Prop} {b : Frame} {k : List Item} {w : World} {D : List Frame → Machine → Prop} {ops : Array Oper} {i : Nat} {rest : List Nat} {fr : Array Value} {ds : List Deferred}
variable {N : Nat} {w0 : World} {S : Fz} {L : List Ent} {α : Type} {K : Kd α}
/-! ### Slices that are read -/
theorem Op_.ixR_n [Inhabited α] (t : TypeId) (x ix : Operand) (d : Tmp) (ty : TypeId) (e : TypeId) (kk : IntKind) (j : Int) {A : Option Addr} {n c : Nat} {xs : List α} (z : α) (hn : xs.length = n) (hz : gi xs j = z) (hr : Rd K S w A c xs) (h : VStep P (.indexAddr t x ix) d ty fr ds w X Y)
  (hx : Act.eval ⟨fr, ds⟩ x = .slice A n c) (hj : Act.eval ⟨fr, ds⟩ ix = .int kk j) (ht : elemB P t = some e) (hs : sizeB P e = some K.size) (h0 : 0 ≤ j) (h1 : j < (n : Int))
  (g : ∀ ad vs, Cs S w ad vs → K.rep S w vs z → Y (upd fr [(d, .pointer (some ad))]) w) : X := by
 subst hn hz; exact Op_.ixR t x ix d ty e kk j hr h hx hj ht hs h0 h1 g
theorem Op_.slR_n (t : TypeId) (x : Operand) (lo hi : Option Operand) (d : Tmp) (ty : TypeId) (e : TypeId) (j1 j2 : Int) {A : Option Addr} {n c : Nat} {xs : List α} (zs : List α) (hn : xs.length = n) (hz : sl xs j1 j2 = zs) (hr : Rd K S w A c xs) (h : VStep P (.slice t x lo hi none) d ty fr ds w X Y)
  (hx : Act.eval ⟨fr, ds⟩ x = .slice A n c) (ht : elemB P t = some e) (hs : sizeB P e = some K.size) (hlo : Bnd (Act.eval ⟨fr, ds⟩) lo j1 0) (hhi : Bnd (Act.eval ⟨fr, ds⟩) hi j2 n)
  (h0 : 0 ≤ j1) (h1 : j1 ≤ j2) (h2 : j2 ≤ (n : Int))
  (g : ∀ A' c', Rd K S w A' c' zs → Y (upd fr [(d, .slice A' zs.length c')]) w) : X := by
 subst hn hz; exact Op_.slR t x lo hi d ty e j1 j2 hr h hx ht hs hlo hhi h0 h1 h2 g
theorem AnyG.ixR_n [Inhabited α] {F : World → Prop} {s : List Nat} {fuel : Nat} {listed : Array Bool} (t : TypeId) (x ix : Operand) (d : Tmp) (ty : TypeId) (e : TypeId) (kk : IntKind) (j : Int) {A : Option Addr} {n c : Nat} {xs : List α} (z : α) (hn : xs.length = n) (hz : gi xs j = z) (hr : Rd K S w A c xs)
  (h : opAtW ops i fr = some (.indexAddr t x ix, some d, ty)) (htk : takeB .any ops listed s i = true) (hF : F w)
  (hx : Act.eval ⟨fr, ds⟩ x = .slice A n c) (hj : Act.eval ⟨fr, ds⟩ ix = .int kk j) (ht : elemB P t = some e) (hs : sizeB P e = some K.size) (h0 : 0 ≤ j) (h1 : j < (n : Int))
  (g : ∀ ad vs, Cs S w ad vs → K.rep S w vs z → AnyG P b k D ops F s fuel (listed.setIfInBounds i true) ⟨upd fr [(d, .pointer (some ad))], ds⟩ w) : AnyG P b k D ops F s (fuel + 1) listed ⟨fr, ds⟩ w := by
 subst hn hz; exact AnyG.ixR t x ix d ty e kk j hr h htk hF hx hj ht hs h0 h1 g
theorem AnyG.slR_n {F : World → Prop} {s : List Nat} {fuel : Nat} {listed : Array Bool} (t : TypeId) (x : Operand) (lo hi : Option Operand) (d : Tmp) (ty : TypeId) (e : TypeId) (j1 j2 : Int) {A : Option Addr} {n c : Nat} {xs : List α} (zs : List α) (hn : xs.length = n) (hz : sl xs j1 j2 = zs) (hr : Rd K S w A c xs)
  (h : opAtW ops i fr = some (.slice t x lo hi none, some d, ty)) (htk : takeB .any ops listed s i = true) (hF : F w)
  (hx : Act.eval ⟨fr, ds⟩ x = .slice A n c) (ht : elemB P t = some e) (hs : sizeB P e = some K.size) (hlo : Bnd (Act.eval ⟨fr, ds⟩) lo j1 0) (hhi : Bnd (Act.eval ⟨fr, ds⟩) hi j2 n)
  (h0 : 0 ≤ j1) (h1 : j1 ≤ j2) (h2 : j2 ≤ (n : Int))
  (g : ∀ A' c', Rd K S w A' c' zs → AnyG P b k D ops F s fuel (listed.setIfInBounds i true) ⟨upd fr [(d, .slice A' zs.length c')], ds⟩ w) : AnyG P b k D ops F s (fuel + 1) listed ⟨fr, ds⟩ w := by
 subst hn hz; exact AnyG.slR t x lo hi d ty e j1 j2 hr h htk hF hx ht hs hlo hhi h0 h1 h2 g
/-! ### Rows of one's own -/
theorem Op_.ixO_n [Inhabited α] (t : TypeId) (x ix : Operand) (d : Tmp) (ty : TypeId) (e : TypeId) (kk : IntKind) (j : Int) (m : Nat) (n c : Nat) {G : Option Nat} {cap kz : Nat} {xs : List α} {cs : List Value} (z : α) (hn : xs.length = n) (hz : gi xs j = z) (hp : Hp N w0 S w L)
  (hL : L[m]? = some (G, .row e cs cap kz)) (he : Els K S w cs xs) (h : VStep P (.indexAddr t x ix) d ty fr ds w X Y)
  (hx : Act.eval ⟨fr, ds⟩ x = .slice (Gp G) n c) (hj : Act.eval ⟨fr, ds⟩ ix = .int kk j) (ht : elemB P t = some e) (hs : sizeB P e = some K.size) (hsz : 0 < K.size) (h0 : 0 ≤ j) (h1 : j < (n : Int))
  (g : ∀ bl vs, G = some bl → K.rep S w vs z → (∀ q v, vs[q]? = some v → w.cell? (Addr.add ⟨bl, j.toNat * K.size, none⟩ q) = some v) →
   Y (upd fr [(d, .pointer (some ⟨bl, j.toNat * K.size, none⟩))]) w) : X := by
 subst hn hz; exact Op_.ixO t x ix d ty e kk j m c hp hL he h hx hj ht hs hsz h0 h1 g
theorem Op_.stE_n (t : TypeId) (x y : Operand) (ty : TypeId) (m : Nat) {e : TypeId} {g : Nat} {cap : Nat} {xs : List α} {cs : List Value} (j : Int) (u : Value) (us : List Value) (z : α) (zs : List α) (n : Nat) (hn : xs.length = n) (hz : si xs j z = zs) (hp : Hp N w0 S w L)
  {kz : Nat} (hL : L[m]? = some (some g, .row e cs cap kz)) (he : Els K S w cs xs) (h : SStep P (.store t x y) ty fr ds w X Y) (hx : Act.eval ⟨fr, ds⟩ x = .pointer (some ⟨g, j.toNat * K.size, none⟩)) (hy : Act.eval ⟨fr, ds⟩ y = u)
  (hu : u.cells = us.toArray) (hr : K.rep S w us z) (hs : sizeB P t = some K.size) (h0 : 0 ≤ j) (h1 : j < (n : Int)) (hkz : kz ≤ j.toNat * K.size)
  (gg : ∀ w' cs', Ext S w S w' → Hp N w0 S w' (L.set m (some g, .row e cs' cap kz)) → Els K S w' cs' zs → zs.length = n → Y fr w') :
  X := by
 subst hn hz
 exact Op_.stE t x y ty m j u us z hp hL he h hx hy hu hr hs (by omega) hkz fun w' cs' h1 h2 h3 => gg w' cs' h1 h2 h3 (si_length _ _ _)
theorem Op_.ap_n {K : Kd α} (t : TypeId) (x y : Operand) (d : Tmp) (ty : TypeId) (e : TypeId) (q : Nat) (zv : Value) (bytes : Nat) (n c m : Nat) (xs ys zs : List α) (XA : Option Addr) (mc : Nat) {kz : Nat} {cs news : List Value} {G : Option Nat} (hn : xs.length = n) (hm : ys.length = m) (hz : xs ++ ys = zs) (hp : Hp N w0 S w L)
  (hL : L[q]? = some (G, .row e cs (c * K.size) kz)) (he : Els K S w cs xs) (h : VStep P (.call { callee := .builtin .append, args := #[x, y], argTypes := #[t, t] }) d ty fr ds w X Y)
  (hx : Act.eval ⟨fr, ds⟩ x = .slice (Gp G) n c) (hy : Act.eval ⟨fr, ds⟩ y = .slice XA m mc) (ht : elemB P t = some e) (hinf : infoB P e = some (some zv, K.size, bytes)) (hzs : zv.cells.size = K.size) (h0 : 0 < K.size)
  (hsn : Els K S w news ys) (hsrc : news ≠ [] → ∃ a, XA = some a ∧ ∀ j u, news[j]? = some u → w.cell? (a.add j) = some u) (hby : (zs.length : Int) * bytes ≤ 140737488355328) (h63 : (zs.length : Int) ≤ 9223372036854775807)
  (g : ∀ w' G' c' cs', Ext S w S w' → Hp N w0 S w' (L.set q (G', .row e cs' (c' * K.size) kz)) → Els K S w' cs' zs → Y (upd fr [(d, .slice (Gp G') zs.length c')]) w') :
  X := by
 subst hn hm hz; exact Op_.ap t x y d ty e q zv bytes c xs ys XA mc hp hL he h hx hy ht hinf hzs h0 hsn hsrc hby h63 g
theorem Op_.mk_n (t : TypeId) (xl xc : Operand) (d : Tmp) (ty : TypeId) (e : TypeId) (kl kc : IntKind) (l c : Int) (zv : Value) (zs : List Value) (bytes : Nat) (z : α) (ys : List α) (hy : List.replicate l.toNat z = ys) (hp : Hp N w0 S w L) (h : VStep P (.makeSlice t xl xc) d ty fr ds w X Y)
  (hl : Act.eval ⟨fr, ds⟩ xl = .int kl l) (hc : Act.eval ⟨fr, ds⟩ xc = .int kc c) (ht : elemB P t = some e) (hinf : infoB P e = some (some zv, K.size, bytes)) (hzs : zv.cells = zs.toArray)
  (hk : ∀ S' w', K.rep S' w' zs z) (h0 : 0 ≤ l) (h1 : l ≤ c) (hby : (bytes : Int) * c ≤ 140737488355328) (h63 : c ≤ 9223372036854775807)
  (g : ∀ bl w' cs, Ext S w S w' → Hp N w0 S w' ((some bl, .row e cs (c.toNat * K.size) 0) :: L) → Els K S w' cs ys →
   Y (upd fr [(d, .slice (Gp (some bl)) ys.length c.toNat)]) w') : X := by
 subst hy; exact Op_.mk t xl xc d ty e kl kc l c zv zs bytes z hp h hl hc ht hinf hzs (hk S) h0 h1 hby h63 g
theorem Hp.trunc (h : Hp N w0 S w L) (j : Nat) {G : Option Nat} {e : TypeId} {cs : List Value} {cap : Nat} {xs : List α} (hj : L[j]? = some (G, .row e cs cap 0)) (he : Els K S w cs xs) (m : Nat) :
  Hp N w0 S w (L.set j (G, .row e (cs.take (m * K.size)) cap 0)) ∧ Els K S w (cs.take (m * K.size)) (xs.take m) := by
 refine ⟨?_, he.take m⟩
 have hat := h.mem j hj
 refine Hp.back hj ?_
 have hf := h.front j _ hj
 refine ⟨hf.below, hf.le, hf.fz, hf.nd, hf.np, hf.ge, fun x hx => ?_⟩
 rcases List.mem_cons.1 hx with rfl | hx
 ·cases G with
  | none =>
   obtain ⟨h1, h2, h3⟩ := hat
   exact ⟨by rw [h1]; simp, h2, h3⟩
  | some g =>
   obtain ⟨cur, a1, a2, a3, a4, a5, a6⟩ := hat
   refine ⟨cur, a1, a2, ?_, by simp only [List.length_take]; omega, a5, Nat.zero_le _⟩
   conv => rhs; rw [← a3]
   rw [List.take_take, List.length_take]
 ·exact hf.at_ x (.tail _ hx)
/-! ### Arrays -/
/-! ### Texts -/
theorem Op_.b2s_n (src dst : TypeId) (x : Operand) (d : Tmp) (ty e : TypeId) {A : Option Addr} {n c : Nat} {xs : List Int} (z : ByteArray) (hn : xs.length = n) (hz : Gx.b2s xs = z) (hr : Rd (kInt .u8) S w A c xs) (h : VStep P (.convert src dst x) d ty fr ds w X Y) (hx : Act.eval ⟨fr, ds⟩ x = .slice A n c)
  (hs : elemB P src = some e) (he : intB P e = some .u8) (hd : strB P dst = true) (g : Y (upd fr [(d, .string z)]) w) : X := by
 subst hn hz; exact Op_.b2s src dst x d ty e hr h hx hs he hd g
theorem Op_.s2b_n (src dst : TypeId) (x : Operand) (d : Tmp) (ty e : TypeId) (s : ByteArray) (zs : List Int) (hz : Gx.s2b s = zs) (hp : Hp N w0 S w L) (h : VStep P (.convert src dst x) d ty fr ds w X Y) (hx : Act.eval ⟨fr, ds⟩ x = .string s) (hs : strB P src = true) (he : elemB P dst = some e) (hk : intB P e = some .u8)
  (g : ∀ S' w' A c, Ext S w S' w' → Hp N w0 S' w' L → Rd (kInt .u8) S' w' A c zs → Y (upd fr [(d, .slice A zs.length c)]) w') : X := by
 subst hz; exact Op_.s2b src dst x d ty e s hp h hx hs he hk g
theorem Op_.slS_n (t : TypeId) (x : Operand) (lo hi : Option Operand) (d : Tmp) (ty : TypeId) (s : ByteArray) (j1 j2 : Int) (z : ByteArray) (hz : Gx.ss s j1 j2 = z) (h : VStep P (.slice t x lo hi none) d ty fr ds w X Y) (hx : Act.eval ⟨fr, ds⟩ x = .string s) (ht : strB P t = true)
  (hlo : Bnd (Act.eval ⟨fr, ds⟩) lo j1 0) (hhi : Bnd (Act.eval ⟨fr, ds⟩) hi j2 s.size) (h0 : 0 ≤ j1) (h1 : j1 ≤ j2) (h2 : j2 ≤ (s.size : Int))
  (g : Y (upd fr [(d, .string z)]) w) : X := by
 subst hz; exact Op_.slS t x lo hi d ty s j1 j2 h hx ht hlo hhi h0 h1 h2 g
end
end Go.Gx
