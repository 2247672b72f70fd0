/-
 The rules with a header's own length and with names for data; arrays as values. Generic: names no program.
-/
import Derived.Test.YtdccklkdakfnaaaGreatGA
import Derived.ChangeKeysEq
namespace Go.Gx
open Go.RowKit
theorem bind_some' {α β : Type} {x : Option α} {f : α → Option β} {r : β} {C : Prop} (h : (x >>= f) = some r) (g : ∀ y, x = some y → f y = some r → C) : C :=
 let ⟨y, h1, h2⟩ := bind_some h
 g y h1 h2
theorem let_some {α β : Type} {x : α} {f : α → Option β} {r : β} {C : Prop} (h : (some x >>= f) = some r) (g : ∀ y, x = y → f y = some r → C) : C := g x rfl h
theorem ite_some {α : Type} {c : Prop} [Decidable c] {x y : Option α} {r : α} {C : Prop} (h : (if c then x else y) = some r) (ht : c → x = some r → C) (hf : ¬ c → y = some r → C) : C := by
 by_cases hc : c
 ·rw [if_pos hc] at h; exact ht hc h
 ·rw [if_neg hc] at h; exact hf hc h
theorem guard_some' {α : Type} {c : Prop} [Decidable c] {x : Option α} {r : α} {C : Prop} (h : (if c then x else none) = some r) (g : c → x = some r → C) : C :=
 let ⟨h1, h2⟩ := guard_some h
 g h1 h2
section
variable {P : Program} {X : Prop} {Y : Array Value → World → Prop} {b : Frame} {k : List Item} {w : World} {D : List Frame → Machine → Prop} {ops : Array Oper} {i : Nat} {rest : List Nat} {fr : Array Value} {ds : List Deferred}
variable {N : Nat} {w0 : World} {S : Fz} {L : List Ent} {α : Type} {K : Kd α}
/-! ### Slices that are read -/
theorem Op_.ixR_n [Inhabited α] (t : TypeId) (x ix : Operand) (d : Tmp) (ty : TypeId) (e : TypeId) (kk : IntKind) (j : Int) {A : Option Addr} {n c : Nat} {xs : List α} (z : α) (hn : xs.length = n) (hz : gi xs j = z) (hr : Rd K S w A c xs) (h : VStep P (.indexAddr t x ix) d ty fr ds w X Y)
  (hx : Act.eval ⟨fr, ds⟩ x = .slice A n c) (hj : Act.eval ⟨fr, ds⟩ ix = .int kk j) (ht : elemB P t = some e) (hs : sizeB P e = some K.size) (h0 : 0 ≤ j) (h1 : j < (n : Int))
  (g : ∀ ad vs, Cs S w ad vs → K.rep S w vs z → Y (upd fr [(d, .pointer (some ad))]) w) : X := by
 subst hn hz; exact Op_.ixR t x ix d ty e kk j hr h hx hj ht hs h0 h1 g
theorem Op_.slR_n (t : TypeId) (x : Operand) (lo hi : Option Operand) (d : Tmp) (ty : TypeId) (e : TypeId) (j1 j2 : Int) {A : Option Addr} {n c : Nat} {xs : List α} (zs : List α) (hn : xs.length = n) (hz : sl xs j1 j2 = zs) (hr : Rd K S w A c xs) (h : VStep P (.slice t x lo hi none) d ty fr ds w X Y)
  (hx : Act.eval ⟨fr, ds⟩ x = .slice A n c) (ht : elemB P t = some e) (hs : sizeB P e = some K.size) (hlo : Bnd (Act.eval ⟨fr, ds⟩) lo j1 0) (hhi : Bnd (Act.eval ⟨fr, ds⟩) hi j2 n)
  (h0 : 0 ≤ j1) (h1 : j1 ≤ j2) (h2 : j2 ≤ (n : Int))
  (g : ∀ A' c', Rd K S w A' c' zs → Y (upd fr [(d, .slice A' zs.length c')]) w) : X := by
 subst hn hz; exact Op_.slR t x lo hi d ty e j1 j2 hr h hx ht hs hlo hhi h0 h1 h2 g
theorem AnyG.ixR_n [Inhabited α] {F : World → Prop} {s : List Nat} {fuel : Nat} {listed : Array Bool} (t : TypeId) (x ix : Operand) (d : Tmp) (ty : TypeId) (e : TypeId) (kk : IntKind) (j : Int) {A : Option Addr} {n c : Nat} {xs : List α} (z : α) (hn : xs.length = n) (hz : gi xs j = z) (hr : Rd K S w A c xs)
  (h : opAtW ops i fr = some (.indexAddr t x ix, some d, ty)) (htk : takeB .any ops listed s i = true) (hF : F w)
  (hx : Act.eval ⟨fr, ds⟩ x = .slice A n c) (hj : Act.eval ⟨fr, ds⟩ ix = .int kk j) (ht : elemB P t = some e) (hs : sizeB P e = some K.size) (h0 : 0 ≤ j) (h1 : j < (n : Int))
  (g : ∀ ad vs, Cs S w ad vs → K.rep S w vs z → AnyG P b k D ops F s fuel (listed.setIfInBounds i true) ⟨upd fr [(d, .pointer (some ad))], ds⟩ w) : AnyG P b k D ops F s (fuel + 1) listed ⟨fr, ds⟩ w := by
 subst hn hz; exact AnyG.ixR t x ix d ty e kk j hr h htk hF hx hj ht hs h0 h1 g
theorem AnyG.slR_n {F : World → Prop} {s : List Nat} {fuel : Nat} {listed : Array Bool} (t : TypeId) (x : Operand) (lo hi : Option Operand) (d : Tmp) (ty : TypeId) (e : TypeId) (j1 j2 : Int) {A : Option Addr} {n c : Nat} {xs : List α} (zs : List α) (hn : xs.length = n) (hz : sl xs j1 j2 = zs) (hr : Rd K S w A c xs)
  (h : opAtW ops i fr = some (.slice t x lo hi none, some d, ty)) (htk : takeB .any ops listed s i = true) (hF : F w)
  (hx : Act.eval ⟨fr, ds⟩ x = .slice A n c) (ht : elemB P t = some e) (hs : sizeB P e = some K.size) (hlo : Bnd (Act.eval ⟨fr, ds⟩) lo j1 0) (hhi : Bnd (Act.eval ⟨fr, ds⟩) hi j2 n)
  (h0 : 0 ≤ j1) (h1 : j1 ≤ j2) (h2 : j2 ≤ (n : Int))
  (g : ∀ A' c', Rd K S w A' c' zs → AnyG P b k D ops F s fuel (listed.setIfInBounds i true) ⟨upd fr [(d, .slice A' zs.length c')], ds⟩ w) : AnyG P b k D ops F s (fuel + 1) listed ⟨fr, ds⟩ w := by
 subst hn hz; exact AnyG.slR t x lo hi d ty e j1 j2 hr h htk hF hx ht hs hlo hhi h0 h1 h2 g
/-! ### Rows of one's own -/
theorem Op_.ixO_n [Inhabited α] (t : TypeId) (x ix : Operand) (d : Tmp) (ty : TypeId) (e : TypeId) (kk : IntKind) (j : Int) (m : Nat) (n c : Nat) {G : Option Nat} {cap kz : Nat} {xs : List α} {cs : List Value} (z : α) (hn : xs.length = n) (hz : gi xs j = z) (hp : Hp N w0 S w L)
  (hL : L[m]? = some (G, .row e cs cap kz)) (he : Els K S w cs xs) (h : VStep P (.indexAddr t x ix) d ty fr ds w X Y)
  (hx : Act.eval ⟨fr, ds⟩ x = .slice (Gp G) n c) (hj : Act.eval ⟨fr, ds⟩ ix = .int kk j) (ht : elemB P t = some e) (hs : sizeB P e = some K.size) (hsz : 0 < K.size) (h0 : 0 ≤ j) (h1 : j < (n : Int))
  (g : ∀ bl vs, G = some bl → K.rep S w vs z → (∀ q v, vs[q]? = some v → w.cell? (Addr.add ⟨bl, j.toNat * K.size, none⟩ q) = some v) →
   Y (upd fr [(d, .pointer (some ⟨bl, j.toNat * K.size, none⟩))]) w) : X := by
 subst hn hz; exact Op_.ixO t x ix d ty e kk j m c hp hL he h hx hj ht hs hsz h0 h1 g
theorem Op_.ixA_n [Inhabited α] (t : TypeId) (x ix : Operand) (d : Tmp) (ty : TypeId) (e : TypeId) (n : Nat) (kk : IntKind) (j : Int) (m : Nat) {g : Nat} {t' : TypeId} {cap kz : Nat} {xs : List α} {cs : List Value} (z : α) (hz : gi xs j = z) (hp : Hp N w0 S w L)
  (hL : L[m]? = some (some g, .row t' cs cap kz)) (he : Els K S w cs xs) (hn : xs.length = n) (h : VStep P (.indexAddr t x ix) d ty fr ds w X Y) (hx : Act.eval ⟨fr, ds⟩ x = .pointer (some ⟨g, 0, none⟩)) (hj : Act.eval ⟨fr, ds⟩ ix = .int kk j)
  (ht : arrB P t = some (n, e)) (hs : sizeB P e = some K.size) (h0 : 0 ≤ j) (h1 : j < (n : Int))
  (g' : ∀ vs, K.rep S w vs z → (∀ q v, vs[q]? = some v → w.cell? (Addr.add ⟨g, j.toNat * K.size, none⟩ q) = some v) → Y (upd fr [(d, .pointer (some ⟨g, j.toNat * K.size, none⟩))]) w) : X := by
 subst hz; exact Op_.ixA t x ix d ty e n kk j m hp hL he hn h hx hj ht hs h0 h1 g'
theorem Op_.stE_n (t : TypeId) (x y : Operand) (ty : TypeId) (m : Nat) {e : TypeId} {g : Nat} {cap : Nat} {xs : List α} {cs : List Value} (j : Int) (u : Value) (us : List Value) (z : α) (zs : List α) (n : Nat) (hn : xs.length = n) (hz : si xs j z = zs) (hp : Hp N w0 S w L)
  {kz : Nat} (hL : L[m]? = some (some g, .row e cs cap kz)) (he : Els K S w cs xs) (h : SStep P (.store t x y) ty fr ds w X Y) (hx : Act.eval ⟨fr, ds⟩ x = .pointer (some ⟨g, j.toNat * K.size, none⟩)) (hy : Act.eval ⟨fr, ds⟩ y = u)
  (hu : u.cells = us.toArray) (hr : K.rep S w us z) (hs : sizeB P t = some K.size) (h0 : 0 ≤ j) (h1 : j < (n : Int)) (hkz : kz ≤ j.toNat * K.size)
  (gg : ∀ w' cs', Ext S w S w' → Hp N w0 S w' (L.set m (some g, .row e cs' cap kz)) → Els K S w' cs' zs → zs.length = n → Y fr w') :
  X := by
 subst hn hz
 exact Op_.stE t x y ty m j u us z hp hL he h hx hy hu hr hs (by omega) hkz fun w' cs' h1 h2 h3 => gg w' cs' h1 h2 h3 (si_length _ _ _)
theorem Op_.ap_n {K : Kd α} (t : TypeId) (x y : Operand) (d : Tmp) (ty : TypeId) (e : TypeId) (q : Nat) (zv : Value) (bytes : Nat) (n c m : Nat) (xs ys zs : List α) (XA : Option Addr) (mc : Nat) {kz : Nat} {cs news : List Value} {G : Option Nat} (hn : xs.length = n) (hm : ys.length = m) (hz : xs ++ ys = zs) (hp : Hp N w0 S w L)
  (hL : L[q]? = some (G, .row e cs (c * K.size) kz)) (he : Els K S w cs xs) (h : VStep P (.call { callee := .builtin .append, args := #[x, y], argTypes := #[t, t] }) d ty fr ds w X Y)
  (hx : Act.eval ⟨fr, ds⟩ x = .slice (Gp G) n c) (hy : Act.eval ⟨fr, ds⟩ y = .slice XA m mc) (ht : elemB P t = some e) (hinf : infoB P e = some (some zv, K.size, bytes)) (hzs : zv.cells.size = K.size) (h0 : 0 < K.size)
  (hsn : Els K S w news ys) (hsrc : news ≠ [] → ∃ a, XA = some a ∧ ∀ j u, news[j]? = some u → w.cell? (a.add j) = some u) (hby : (zs.length : Int) * bytes ≤ 140737488355328) (h63 : (zs.length : Int) ≤ 9223372036854775807)
  (g : ∀ w' G' c' cs', Ext S w S w' → Hp N w0 S w' (L.set q (G', .row e cs' (c' * K.size) kz)) → Els K S w' cs' zs → Y (upd fr [(d, .slice (Gp G') zs.length c')]) w') :
  X := by
 subst hn hm hz; exact Op_.ap t x y d ty e q zv bytes c xs ys XA mc hp hL he h hx hy ht hinf hzs h0 hsn hsrc hby h63 g
theorem Op_.apz_n (t tn : TypeId) (x y : Operand) (d : Tmp) (ty : TypeId) (e : TypeId) (q : Nat) (zv : Value) (bytes : Nat) (n c : Nat) (xs : List α) (z : α) (zs : List α) (kn kq : IntKind) (m : Int) {kz : Nat} {cs : List Value} {G : Option Nat} (hn : xs.length = n) (hz' : xs ++ List.replicate m.toNat z = zs) (hp : Hp N w0 S w L)
  (hL : L[q]? = some (G, .row e cs (c * K.size) kz)) (he : Els K S w cs xs) (h : VStep P (.call { callee := .builtin .append, args := #[x, y], argTypes := #[t, tn] }) d ty fr ds w X Y)
  (hx : Act.eval ⟨fr, ds⟩ x = .slice (Gp G) n c) (hy : Act.eval ⟨fr, ds⟩ y = .int kq m) (ht : elemB P t = some e) (htn : intB P tn = some kn) (hinf : infoB P e = some (some zv, 1, bytes)) (hzs : zv.cells = #[zv]) (h1 : zv.oneCell' = true) (hK : K.size = 1)
  (hz : ∀ S w, K.rep S w [zv] z) (h0 : 0 ≤ m) (hby : ((n : Int) + m) * bytes ≤ 140737488355328) (h63 : (n : Int) + m ≤ 1099511627776)
  (g : ∀ w' G' c' cs', Ext S w S w' → Hp N w0 S w' (L.set q (G', .row e cs' (c' * K.size) kz)) → Els K S w' cs' zs → Y (upd fr [(d, .slice (Gp G') zs.length c')]) w') :
  X := by
 subst hn hz'; exact Op_.apz t tn x y d ty e q zv bytes c xs z kn kq m hp hL he h hx hy ht htn hinf hzs h1 hK hz h0 hby h63 g
theorem Op_.mk_n (t : TypeId) (xl xc : Operand) (d : Tmp) (ty : TypeId) (e : TypeId) (kl kc : IntKind) (l c : Int) (zv : Value) (zs : List Value) (bytes : Nat) (z : α) (ys : List α) (hy : List.replicate l.toNat z = ys) (hp : Hp N w0 S w L) (h : VStep P (.makeSlice t xl xc) d ty fr ds w X Y)
  (hl : Act.eval ⟨fr, ds⟩ xl = .int kl l) (hc : Act.eval ⟨fr, ds⟩ xc = .int kc c) (ht : elemB P t = some e) (hinf : infoB P e = some (some zv, K.size, bytes)) (hzs : zv.cells = zs.toArray)
  (hk : ∀ S' w', K.rep S' w' zs z) (h0 : 0 ≤ l) (h1 : l ≤ c) (hby : (bytes : Int) * c ≤ 140737488355328) (h63 : c ≤ 9223372036854775807)
  (g : ∀ bl w' cs, Ext S w S w' → Hp N w0 S w' ((some bl, .row e cs (c.toNat * K.size) 0) :: L) → Els K S w' cs ys →
   Y (upd fr [(d, .slice (Gp (some bl)) ys.length c.toNat)]) w') : X := by
 subst hy; exact Op_.mk t xl xc d ty e kl kc l c zv zs bytes z hp h hl hc ht hinf hzs (hk S) h0 h1 hby h63 g
theorem Hp.trunc (h : Hp N w0 S w L) (j : Nat) {G : Option Nat} {e : TypeId} {cs : List Value} {cap : Nat} {xs : List α} (hj : L[j]? = some (G, .row e cs cap 0)) (he : Els K S w cs xs) (m : Nat) :
  Hp N w0 S w (L.set j (G, .row e (cs.take (m * K.size)) cap 0)) ∧ Els K S w (cs.take (m * K.size)) (xs.take m) := by
 refine ⟨?_, he.take m⟩
 have hat := h.mem j hj
 refine Hp.back hj ?_
 have hf := h.front j _ hj
 refine ⟨hf.below, hf.le, hf.fz, hf.nd, hf.np, hf.ge, fun x hx => ?_⟩
 rcases List.mem_cons.1 hx with rfl | hx
 ·cases G with
  | none =>
   obtain ⟨h1, h2, h3⟩ := hat
   exact ⟨by rw [h1]; simp, h2, h3⟩
  | some g =>
   obtain ⟨cur, a1, a2, a3, a4, a5, a6⟩ := hat
   refine ⟨cur, a1, a2, ?_, by simp only [List.length_take]; omega, a5, Nat.zero_le _⟩
   conv => rhs; rw [← a3]
   rw [List.take_take, List.length_take]
 ·exact hf.at_ x (.tail _ hx)
theorem Op_.slO (t : TypeId) (x : Operand) (hi : Operand) (d : Tmp) (ty : TypeId) (e : TypeId) (kk : IntKind) (j2 : Int) (m : Nat) {G : Option Nat} {n c : Nat} {xs : List α} {cs : List Value} {cap : Nat} (zs : List α) (hn : xs.length = n) (hz : sl xs 0 j2 = zs) (hp : Hp N w0 S w L) (hL : L[m]? = some (G, .row e cs cap 0)) (hcap : cap = c * K.size) (hsz : 0 < K.size) (he : Els K S w cs xs) (h : VStep P (.slice t x none (some hi) none) d ty fr ds w X Y)
  (hx : Act.eval ⟨fr, ds⟩ x = .slice (Gp G) n c) (ht : elemB P t = some e) (hs : sizeB P e = some K.size) (hhi : Act.eval ⟨fr, ds⟩ hi = .int kk j2) (h0 : 0 ≤ j2) (h2 : j2 ≤ (n : Int))
  (g : ∀ cs', Hp N w0 S w (L.set m (G, .row e cs' cap 0)) → Els K S w cs' zs → Y (upd fr [(d, .slice (Gp G) zs.length c)]) w) : X := by
 subst hn hz
 obtain ⟨q, rfl⟩ := Int.eq_ofNat_of_zero_le h0
 obtain ⟨h3, h4⟩ := hp.trunc m hL he q
 have hsl : sl xs 0 (q : Int) = xs.take q := by simp [sl]
 rw [hsl] at g
 have hlen : (xs.take q).length = q := by rw [List.length_take]; omega
 rw [hlen] at g
 refine h _ _ ?_ (g _ h3 h4)
 have hle : xs.length ≤ c := by
  have hat := hp.mem m hL
  have hl := he.length
  cases G with
  | none =>
   obtain ⟨h1, h2, h3⟩ := hat
   rw [h1] at hl
   have : xs.length * K.size = 0 := by simpa using hl.symm
   rcases Nat.mul_eq_zero.1 this with h | h <;> omega
  | some g =>
   obtain ⟨cur, a1, a2, a3, a4, a5, a6⟩ := hat
   rw [hl, hcap] at a4
   exact Nat.le_of_mul_le_mul_right a4 hsz
 have hrun := run_sliceAt (P := P) (A := Gp G) (n := xs.length) (c := c) (l := 0) (m := q) (ρ := Act.eval ⟨fr, ds⟩) (lo := none) (hi := some hi) w ht hs Bnd.no (Bnd.at_ kk hhi) (by omega) (by omega)
 simp only [Option.map_none, Option.map_some] at hrun
 simp only [execOp, mkO, hx, Option.map_none, Option.map_some, Sem.run_bind, hrun, Result.andThen_ok, Sem.run_pure, Nat.sub_zero]
 congr 2
 split
 ·rfl
 ·cases G <;> simp [Gp, Addr.add]
/-! ### Arrays -/
theorem cpy_length (xs : List α) (lo dl : Nat) (ys : List α) (h : lo + dl ≤ xs.length) : (cpy xs lo dl ys).length = xs.length := by
 simp only [cpy, List.length_append, List.length_take, List.length_drop]; omega
theorem part_one {e : TypeId} {vs : List Value} {j : Nat} {v : Value} (w : World) (ha : aggB P e = some false) (hv : vs[j]? = some v) : (part e vs.toArray j).run P w = .ok v w := by
 unfold part
 rw [Sem.run_bind, run_isAgg w ha]
 simp [hv]
theorem run_eqItems {e : TypeId} {k : IntKind} (dd : Nat) (w : World) (he : intB P e = some k) (hs : sizeB P e = some 1) (ha : aggB P e = some false) (xs ys : List Int) (hl : xs.length = ys.length) : ∀ (is : List Nat), (∀ i ∈ is, i < xs.length) →
  (Op.eqItems (dd + 1) e (P.cellsOf e) (xs.map (Value.int k)).toArray (ys.map (Value.int k)).toArray is).run P w = .ok (is.all fun i => xs[i]? == ys[i]?) w
 | [], _ => by simp [Op.eqItems]
 | i :: is, hi => by
  have h1 := hi i (by simp)
  have h2 : i < ys.length := by omega
  have hc : P.cellsOf e = 1 := by
   unfold sizeB at hs
   unfold Program.cellsOf
   obtain ⟨z, hz1, hz2⟩ := Option.map_eq_some_iff.1 hs
   simp [hz1, hz2]
  have ih := run_eqItems dd w he hs ha xs ys hl is fun j hj => hi j (by simp [hj])
  have p1 := part_one (P := P) (e := e) (vs := xs.map (Value.int k)) (j := i * P.cellsOf e) (v := .int k xs[i]) w ha (by rw [hc, Nat.mul_one]; simp [h1])
  have p2 := part_one (P := P) (e := e) (vs := ys.map (Value.int k)) (j := i * P.cellsOf e) (v := .int k ys[i]) w ha (by rw [hc, Nat.mul_one]; simp [h2])
  have p3 : (Op.equalIn (dd + 1) e (.int k xs[i]) (.int k ys[i])).run P w = .ok (xs[i] == ys[i]) w := by simp [Op.equalIn, run_underlying' w (intB_spec he)]
  simp only [Op.eqItems, Sem.run_bind, p1, p2, p3, Result.andThen_ok]
  simp only [List.all_cons, List.getElem?_eq_getElem h1, List.getElem?_eq_getElem h2]
  by_cases hq : xs[i] = ys[i]
  ·simp only [hq, beq_self_eq_true, Bool.not_true, Bool.false_eq_true, if_false, Bool.true_and]; exact ih
  ·have : (xs[i] == ys[i]) = false := by simpa using hq
   have h' : (some xs[i] == some ys[i]) = false := by simpa using hq
   simp [this, h']
theorem all_eq_iff (xs ys : List Int) (n : Nat) (h1 : xs.length = n) (h2 : ys.length = n) : ((List.range n).all fun i => xs[i]? == ys[i]?) = decide (xs = ys) := by
 rw [Bool.eq_iff_iff, decide_eq_true_eq, List.all_eq_true]
 constructor
 ·intro h
  apply List.ext_getElem? 
  intro i
  by_cases hi : i < n
  ·simpa using h i (by simpa using hi)
  ·rw [List.getElem?_eq_none (by omega), List.getElem?_eq_none (by omega)]
 ·rintro rfl i _
  simp
theorem eqGuard_arr {o : BinOp} {t : TypeId} {x y : Operand} {xs ys : Array Value} (w : World) (hg : P.eqGuardType P.depth t = false) : (eqGuard o t x y (.agg xs) (.agg ys)).run P w = .ok () w := by
 unfold eqGuard
 cases o <;> simp [hg]
theorem run_eqA {o : BinOp} {t e : TypeId} {n : Nat} {k : IntKind} {x y : Operand} {t2 d : TypeId} {ty : TypeId} {us vs : List Value} {xs ys : List Int} (ho : o = .eql ∨ o = .neq) (w : World) (hx : Act.eval ⟨fr, ds⟩ x = .agg us.toArray) (hy : Act.eval ⟨fr, ds⟩ y = .agg vs.toArray) (ht : arrB P t = some (n, e)) (he : intB P e = some k) (hs : sizeB P e = some 1) (ha : aggB P e = some false)
  (hg : P.eqGuardType P.depth t = false) (h1 : us = xs.map (Value.int k)) (h2 : vs = ys.map (Value.int k)) (l1 : xs.length = n) (l2 : ys.length = n) :
  (execOp (Act.eval ⟨fr, ds⟩) (mkO (.binOp o t x y t2) (some d) ty)).run P w = .ok (.value (.bool (if o = .eql then decide (xs = ys) else !decide (xs = ys)))) w := by
 subst h1 h2
 have hi : ∃ inf, P.info? e = some inf := by
  unfold sizeB at hs
  obtain ⟨z, hz1, hz2⟩ := Option.map_eq_some_iff.1 hs
  exact ⟨z, hz1⟩
 obtain ⟨inf, hi⟩ := hi
 have hq := run_eqItems (P := P) 9998 w he hs ha xs ys (by omega) (List.range n) (by intro i hi; simp at hi; omega)
 rw [all_eq_iff xs ys n l1 l2] at hq
 have hr : (Op.equal t (.agg (xs.map (Value.int k)).toArray) (.agg (ys.map (Value.int k)).toArray)).run P w = .ok (decide (xs = ys)) w := by
  unfold Op.equal
  rw [show Op.maxDepth = 9999 + 1 from rfl, run_equalIn_array w 9999 _ _ (arrB_spec ht) hi]
  exact hq
 rcases ho with rfl | rfl
 ·simp [execOp, mkO, hx, hy, eqGuard_arr w hg, binOp, hr]
 ·simp [execOp, mkO, hx, hy, eqGuard_arr w hg, binOp, hr]
theorem Op_.eqA (t : TypeId) (x y : Operand) (t2 : TypeId) (d : Tmp) (ty e : TypeId) (n : Nat) (k : IntKind) {us vs : List Value} {xs ys : List Int} (h : VStep P (.binOp .eql t x y t2) d ty fr ds w X Y) (hx : Act.eval ⟨fr, ds⟩ x = .agg us.toArray) (hy : Act.eval ⟨fr, ds⟩ y = .agg vs.toArray) (ht : arrB P t = some (n, e)) (he : intB P e = some k) (hs : sizeB P e = some 1) (ha : aggB P e = some false)
  (hg : P.eqGuardType P.depth t = false) (h1 : Els (kInt k) S w us xs) (h2 : Els (kInt k) S w vs ys) (l1 : xs.length = n) (l2 : ys.length = n)
  (g : Y (upd fr [(d, .bool (decide (xs = ys)))]) w) : X :=
 h _ _ (run_eqA (.inl rfl) w hx hy ht he hs ha hg (els_bytes h1) (els_bytes h2) l1 l2) g
theorem AnyG.eqA {F : World → Prop} {s : List Nat} {fuel : Nat} {listed : Array Bool} (o : BinOp) (t : TypeId) (x y : Operand) (t2 : TypeId) (d : Tmp) (ty e : TypeId) (n : Nat) (kk : IntKind) {us vs : List Value} {xs ys : List Int} (ho : o = .eql ∨ o = .neq) (h : opAtW ops i fr = some (.binOp o t x y t2, some d, ty)) (htk : takeB .any ops listed s i = true) (hF : F w)
  (hx : Act.eval ⟨fr, ds⟩ x = .agg us.toArray) (hy : Act.eval ⟨fr, ds⟩ y = .agg vs.toArray) (ht : arrB P t = some (n, e)) (he : intB P e = some kk) (hs : sizeB P e = some 1) (ha : aggB P e = some false)
  (hg : P.eqGuardType P.depth t = false) (h1 : Els (kInt kk) S w us xs) (h2 : Els (kInt kk) S w vs ys) (l1 : xs.length = n) (l2 : ys.length = n)
  (g : AnyG P b k D ops F s fuel (listed.setIfInBounds i true) ⟨upd fr [(d, .bool (if o = .eql then decide (xs = ys) else !decide (xs = ys)))], ds⟩ w) : AnyG P b k D ops F s (fuel + 1) listed ⟨fr, ds⟩ w :=
 .val _ _ _ _ h htk (fun w' _ => run_eqA ho w' hx hy ht he hs ha hg (els_bytes h1) (els_bytes h2) l1 l2) hF g
/-! ### Texts -/
theorem Op_.b2s_n (src dst : TypeId) (x : Operand) (d : Tmp) (ty e : TypeId) {A : Option Addr} {n c : Nat} {xs : List Int} (z : ByteArray) (hn : xs.length = n) (hz : Gx.b2s xs = z) (hr : Rd (kInt .u8) S w A c xs) (h : VStep P (.convert src dst x) d ty fr ds w X Y) (hx : Act.eval ⟨fr, ds⟩ x = .slice A n c)
  (hs : elemB P src = some e) (he : intB P e = some .u8) (hd : strB P dst = true) (g : Y (upd fr [(d, .string z)]) w) : X := by
 subst hn hz; exact Op_.b2s src dst x d ty e hr h hx hs he hd g
theorem Op_.cat_n (t : TypeId) (x y : Operand) (t2 : TypeId) (d : Tmp) (ty : TypeId) (s u z : ByteArray) (hz : s ++ u = z) (h : VStep P (.binOp .add t x y t2) d ty fr ds w X Y) (hx : Act.eval ⟨fr, ds⟩ x = .string s) (hy : Act.eval ⟨fr, ds⟩ y = .string u) (h1 : (s.size : Int) + (u.size : Int) ≤ 1099511627776)
  (g : Y (upd fr [(d, .string z)]) w) : X := by
 subst hz; exact Op_.cat t x y t2 d ty s u h hx hy h1 g
theorem Op_.slS_n (t : TypeId) (x : Operand) (lo hi : Option Operand) (d : Tmp) (ty : TypeId) (s : ByteArray) (j1 j2 : Int) (z : ByteArray) (hz : Gx.ss s j1 j2 = z) (h : VStep P (.slice t x lo hi none) d ty fr ds w X Y) (hx : Act.eval ⟨fr, ds⟩ x = .string s) (ht : strB P t = true)
  (hlo : Bnd (Act.eval ⟨fr, ds⟩) lo j1 0) (hhi : Bnd (Act.eval ⟨fr, ds⟩) hi j2 s.size) (h0 : 0 ≤ j1) (h1 : j1 ≤ j2) (h2 : j2 ≤ (s.size : Int))
  (g : Y (upd fr [(d, .string z)]) w) : X := by
 subst hz; exact Op_.slS t x lo hi d ty s j1 j2 h hx ht hlo hhi h0 h1 h2 g
end
end Go.Gx
