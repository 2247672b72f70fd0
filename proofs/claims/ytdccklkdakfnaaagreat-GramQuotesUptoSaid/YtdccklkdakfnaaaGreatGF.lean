/-
 What a walk of package strings' Builder meets: pointers turned to unsafe ones and back, a pointer held against itself, a text appended, bytes that become a text. Generic: names no program.
-/
import Derived.Test.YtdccklkdakfnaaaGreatGE
import Derived.Lib.Builder
import Derived.Lib.UnsafeStr
import Derived.Lib.AppendStr
set_option linter.unusedVariables false
namespace Go.Gx
open Go.RowKit
theorem els_ints {kk : IntKind} {S : Fz} {w : World} : ∀ xs : List Int, Els (kInt kk) S w (xs.map (Value.int kk)) xs
 | [] => .nil
 | x :: xs => Els.cons (K := kInt kk) (vs := [.int kk x]) rfl (els_ints xs)
theorem strCells_s2b (s : ByteArray) : Lib.strCells s = (Gx.s2b s).map (Value.int .u8) := by
 simp [Lib.strCells, Gx.s2b]
theorem els_str {S : Fz} {w : World} (s : ByteArray) : Els (kInt .u8) S w (Lib.strCells s) (Gx.s2b s) := by
 rw [strCells_s2b]; exact els_ints _
theorem s2b_length (s : ByteArray) : (Gx.s2b s).length = s.size := by simp only [Gx.s2b, List.length_map, Array.length_toList]; rfl
theorem shape_row {S : Fz} {w : World} {g : Nat} {t : TypeId} {cs : List Value} {cap k : Nat} (h : (Blk.row t cs cap k).At S w (some g)) : w.shape? g = some (t, cap) := by
 obtain ⟨cur, hh, hs, _⟩ := h
 unfold World.shape?
 rw [hh, ← hs]
def toUB (P : Program) (src dst : TypeId) : Bool :=
 match P.underlying src, P.underlying dst with
 | some (.pointer t), some .unsafePointer => (match P.info? t with | some j => j.size != 0 | none => false)
 | _, _ => false
def frUB (P : Program) (src dst e : TypeId) (cap o : Nat) : Bool :=
 match P.underlying src, P.underlying dst with
 | some .unsafePointer, some (.pointer u) => (P.info? u).isSome && liesAt P P.depth e (cap / P.cellsOf e) o u 1
 | _, _ => false
def ptrB (P : Program) (t : TypeId) : Bool :=
 match P.underlying t with
 | some (.pointer e) => (P.info? e).isSome
 | _ => false
def ptrTo (P : Program) (t : TypeId) : Option TypeId :=
 match P.underlying t with
 | some (.pointer e) => some e
 | _ => none
section
variable {P : Program} {X : Prop} {Y : Array Value → World → Prop} {w : World} {fr : Array Value} {ds : List Deferred}
variable {N : Nat} {w0 : World} {S : Fz} {L : List Ent}
theorem Op_.toU (src dst : TypeId) (x : Operand) (d : Tmp) (ty : TypeId) (j g o : Nat) {t' : TypeId} {cs : List Value} {cap kk : Nat} (hp : Hp N w0 S w L) (hL : L[j]? = some (some g, .row t' cs cap kk))
  (h : VStep P (.convert src dst x) d ty fr ds w X Y) (hx : Act.eval ⟨fr, ds⟩ x = .pointer (some ⟨g, o, none⟩)) (ht : toUB P src dst = true) (ho : decide (o < cap) = true)
  (gg : Y (upd fr [(d, .pointer (some ⟨g, o, none⟩))]) w) : X := by
 unfold toUB at ht
 split at ht
 ·rename_i t hs hd
  split at ht
  ·rename_i i hi
   have hsh := shape_row (hp.mem j hL)
   refine h _ _ ?_ gg
   have hr := Lib.run_to_unsafe (P := P) w (src := src) (dst := dst) (t := t) (j := i) (e := t') (cells := cap) ⟨g, o, none⟩ hs hd hi (by simpa using ht) hsh (of_decide_eq_true ho)
   simp [execOp, mkO, hx, hr]
  ·cases ht
 ·cases ht
theorem Op_.frU (src dst : TypeId) (x : Operand) (d : Tmp) (ty : TypeId) (j g o : Nat) {t' : TypeId} {cs : List Value} {cap kk : Nat} (hp : Hp N w0 S w L) (hL : L[j]? = some (some g, .row t' cs cap kk))
  (h : VStep P (.convert src dst x) d ty fr ds w X Y) (hx : Act.eval ⟨fr, ds⟩ x = .pointer (some ⟨g, o, none⟩)) (ht : frUB P src dst t' cap o = true)
  (gg : Y (upd fr [(d, .pointer (some ⟨g, o, none⟩))]) w) : X := by
 unfold frUB at ht
 split at ht
 ·rename_i u hs hd
  rw [Bool.and_eq_true] at ht
  obtain ⟨i, hi⟩ := Option.isSome_iff_exists.1 ht.1
  have hsh := shape_row (hp.mem j hL)
  refine h _ _ ?_ gg
  have hr := Lib.run_from_unsafe (P := P) w (src := src) (dst := dst) (u := u) (j := i) (e := t') (cells := cap) ⟨g, o, none⟩ hs hd hi hsh ht.2
  simp [execOp, mkO, hx, hr]
 ·cases ht
theorem Op_.neqP (t : TypeId) (x y : Operand) (t2 : TypeId) (d : Tmp) (ty : TypeId) (a : Addr) (h : VStep P (.binOp .neq t x y t2) d ty fr ds w X Y) (hx : Act.eval ⟨fr, ds⟩ x = .pointer (some a)) (hy : Act.eval ⟨fr, ds⟩ y = .pointer (some a))
  (ht : ptrB P t = true) (gg : Y (upd fr [(d, .bool false)]) w) : X := by
 unfold ptrB at ht
 split at ht
 ·rename_i e hu
  obtain ⟨i, hi⟩ := Option.isSome_iff_exists.1 ht
  refine h _ _ ?_ gg
  have hr := Lib.run_neq_ptr_same (P := P) w (tp := t) (te := e) (j := i) a hu hi
  simp [execOp, mkO, hx, hy, eqGuard, hr]
 ·cases ht
theorem append_own_str {e t u ty : TypeId} {inf : TypeInfo} {c n kz : Nat} {cs : List Value} {G : Option Nat} (hp : Hp N w0 S w L) (q : Nat) (hL : L[q]? = some (G, .row e cs (c * 1) kz))
  (ht : elemB P t = some e) (hu' : strB P u = true) (hi : P.info? e = some inf) (hz : inf.zero = some (.int .u8 0)) (hsz : inf.size = 1) (hn : cs.length = n) (s : ByteArray)
  (hby : (n + s.size) * inf.bytes ≤ 140737488355328) (h63 : n + s.size ≤ 9223372036854775807) :
  ∃ w' G' c', (Builtin.append_ #[t, u] ty #[.slice (Gp G) n c, .string s]).run P w = .ok (.slice (Gp G') (n + s.size) c') w' ∧ Ext S w S w' ∧ Hp N w0 S w' (L.set q (G', .row e (cs ++ Lib.strCells s) (c' * 1) kz)) := by
 have hu := elemB_spec ht
 have hus := strB_spec hu'
 have hsl := Lib.strCells_length s
 have hzs : (Value.int IntKind.u8 0).cells.size = 1 := rfl
 have hat := hp.mem q hL
 by_cases hm0 : s.size = 0
 ·have hnil : Lib.strCells s = [] := List.eq_nil_of_length_eq_zero (by omega)
  have hset : L.set q (G, .row e (cs ++ Lib.strCells s) (c * 1) kz) = L := by
   obtain ⟨hlt, he⟩ := List.getElem?_eq_some_iff.1 hL
   rw [hnil, List.append_nil, ← he]; exact List.set_getElem_self hlt
  refine ⟨w, G, c, ?_, Ext.refl _ _, by rw [hset]; exact hp⟩
  have hnc : n ≤ c := by
   cases G with
   | none =>
    have := hat.1
    rw [this] at hn
    simp at hn; omega
   | some g =>
    obtain ⟨_, _, _, _, hl, _, _⟩ := hat
    omega
  have hf := Lib.run_firstCells_string (P := P) w 1 s
  rw [hm0, hnil] at hf
  cases G with
  | none => simp [Builtin.append_, run_underlying hu, run_underlying hus, sizeOf, typeInfo, hi, hsz, Builtin.lenOf, Gp, hnc, hm0, hf]
  | some g => simp [Builtin.append_, run_underlying hu, run_underlying hus, sizeOf, typeInfo, hi, hsz, Builtin.lenOf, Gp, hnc, hm0, hf, storeCells]
 ·cases G with
  | none =>
   obtain ⟨hcs, hc0, hkz⟩ := hat
   subst hcs hkz
   simp at hn hc0
   subst hn hc0
   have hr := Go.run_append_nil_string (P := P) w t u ty e inf (.int .u8 0) hu hus hi hz s (by omega) (by omega) (by simp at hby; omega)
   have e1 : (s.data.map fun b => Value.int .u8 b.toNat) = (Lib.strCells s).toArray := by
    apply Array.ext'
    simp [Lib.strCells]
   rw [e1] at hr
   refine ⟨_, some w.heap.size, grownCap w s.size 0 e, by rw [Nat.zero_add]; exact hr, Ext.draw.trans (Ext.alloc _ _ _), ?_⟩
   refine Hp.back hL ?_
   have hf := (hp.front q _ hL).drop.draw
   have hcap := grownCap_ge w s.size 0 e
   refine hf.alloc_ (.cells ((Lib.strCells s).toArray ++ Builtin.zeroCells (Value.int .u8 0).cells (grownCap w s.size 0 e - s.size)) e) (.row e ([] ++ Lib.strCells s) (grownCap w s.size 0 e * 1) 0) ⟨_, heap_new _ _, ?_, by simp, ?_, ?_, Nat.zero_le _⟩
   ·simp only [Array.size_append, List.size_toArray, size_zeroCells, hzs, hsl]; omega
   ·simp only [List.nil_append, hsl]; omega
   ·rw [hf.fz _ (Nat.le_refl _)]; exact Nat.le_refl _
  | some g =>
   obtain ⟨cur, hh, hs, htk, hl, hf, hk⟩ := hat
   by_cases hroom : n + s.size ≤ c
   ·have hfit : cs.length + (Lib.strCells s).length ≤ c * 1 := by omega
    have hr := Lib.run_append_room_string (P := P) w t u ty e inf hu hus hi hsz g n c cur hh s hroom (by omega)
    rw [← hn, ← hsl] at hr
    obtain ⟨hx, hp'⟩ := setRow_hp (hp.front q _ hL) hh hs htk hf hk hfit (cur.toList.take cs.length ++ Lib.strCells s ++ cur.toList.drop (cs.length + (Lib.strCells s).length)).toArray rfl
    refine ⟨_, some g, c, ?_, hx, hp'.back hL⟩
    rw [← hn, ← hsl]
    exact hr
   ·have holds : ∀ j u, cs[j]? = some u → w.cell? ((⟨g, 0, none⟩ : Addr).add j) = some u := fun j u hj => by
     have := (hp.mem q hL).cell j u hj
     have e1 : Addr.add ⟨g, 0, none⟩ j = ⟨g, j, none⟩ := by unfold Addr.add; split <;> simp_all
     rw [e1]; exact this
    have hr := Lib.run_append_grow_string (P := P) w t u ty e inf (.int .u8 0) hu hus hi hz ⟨g, 0, none⟩ n c cs (by rw [hsz]; omega) holds s (by omega) (by omega) (growslice_fits (by omega) hby)
    refine ⟨_, some w.heap.size, _, hr, Ext.draw.trans (Ext.alloc _ _ _), ?_⟩
    refine Hp.back hL ?_
    have hfr := (hp.front q _ hL).drop.draw
    have hcap := grownCap_ge w (n + s.size) c e
    refine hfr.alloc_ (.cells (cs.toArray ++ (Lib.strCells s).toArray ++ Builtin.zeroCells (Value.int .u8 0).cells (grownCap w (n + s.size) c e - (n + s.size))) e) (.row e (cs ++ Lib.strCells s) (grownCap w (n + s.size) c e * 1) kz) ⟨_, heap_new _ _, ?_, ?_, ?_, ?_, by simp; omega⟩
    ·simp only [Array.size_append, List.size_toArray, size_zeroCells, hzs, hn, hsl]; omega
    ·rw [Array.toList_append, List.take_append_of_le_length (by simp)]
     simp only [Array.toList_append]
     exact List.take_length
    ·rw [List.length_append, hn, hsl]; omega
    ·rw [hfr.fz _ (Nat.le_refl _)]; exact Nat.zero_le _
theorem Op_.apS (t u : TypeId) (x y : Operand) (d : Tmp) (ty : TypeId) (e : TypeId) (q : Nat) (bytes : Nat) (n c : Nat) (xs zs : List Int) (s : ByteArray) {kz : Nat} {cs : List Value} {G : Option Nat} (hn : xs.length = n) (hz : xs ++ Gx.s2b s = zs) (hp : Hp N w0 S w L)
  (hL : L[q]? = some (G, .row e cs (c * (kInt .u8).size) kz)) (he : Els (kInt .u8) S w cs xs) (h : VStep P (.call { callee := .builtin .append, args := #[x, y], argTypes := #[t, u] }) d ty fr ds w X Y)
  (hx : Act.eval ⟨fr, ds⟩ x = .slice (Gp G) n c) (hy : Act.eval ⟨fr, ds⟩ y = .string s) (ht : elemB P t = some e) (hu : strB P u = true) (hinf : infoB P e = some (some (.int .u8 0), 1, bytes))
  (hby : (zs.length : Int) * bytes ≤ 140737488355328) (h63 : (zs.length : Int) ≤ 9223372036854775807)
  (g : ∀ w' G' c' cs', Ext S w S w' → Hp N w0 S w' (L.set q (G', .row e cs' (c' * (kInt .u8).size) kz)) → Els (kInt .u8) S w' cs' zs → Y (upd fr [(d, .slice (Gp G') zs.length c')]) w') : X := by
 subst hn hz
 obtain ⟨inf, hi, hz, hsz, rfl⟩ := infoB_spec hinf
 have hl := he.length
 rw [show (kInt .u8).size = 1 from rfl, Nat.mul_one] at hl
 have e1 : xs.length + s.size = (xs ++ Gx.s2b s).length := by rw [List.length_append, s2b_length]
 obtain ⟨w', G', c', hr, hx', hp'⟩ := append_own_str (P := P) (t := t) (u := u) (ty := ty) hp q hL ht hu hi hz hsz hl s (by rw [e1]; exact Int.ofNat_le.1 (by rw [Int.natCast_mul]; exact hby)) (by rw [e1]; omega)
 refine h _ _ ?_ (g w' G' c' _ hx' hp' ((he.append (els_str s)).ext hx'))
 rw [← e1]
 simp [execOp, mkO, hx, hy, resolve, invoke, builtin, hr]
theorem Op_.ssd (t : TypeId) (x : Operand) (d : Tmp) (ty : TypeId) (e : TypeId) (q n c : Nat) {kz : Nat} {cs : List Value} {G : Option Nat} (hp : Hp N w0 S w L) (hL : L[q]? = some (G, .row e cs (c * (kInt .u8).size) kz))
  (h : VStep P (.call { callee := .builtin .unsafeSliceData, args := #[x], argTypes := #[t] }) d ty fr ds w X Y) (hx : Act.eval ⟨fr, ds⟩ x = .slice (Gp G) n c) (ht : ptrTo P ty = some e)
  (g : ∀ pv w', Ext S w S w' → Hp N w0 S w' L → ((c ≠ 0 ∧ pv = Gp G) ∨ c = 0) → Y (upd fr [(d, .pointer pv)]) w') : X := by
 have hpt : P.underlying ty = some (.pointer e) := by
  unfold ptrTo at ht
  split at ht
  ·rename_i u hu; cases ht; exact hu
  ·cases ht
 have hat := hp.mem q hL
 cases G with
 | none =>
  have hc : c = 0 := by have := hat.2.1; simpa [kInt, Kd.of] using this
  refine h _ _ ?_ (g none w (Ext.refl _ _) hp (.inr hc))
  simp [execOp, mkO, hx, resolve, invoke, builtin, Gp, Lib.run_unsafeSliceData_nil]
 | some b =>
  by_cases hc : c = 0
  ·subst hc
   have hr := Lib.run_unsafeSliceData_zero (P := P) w #[t] ty e hpt ⟨b, 0, none⟩ n _ (shape_row hat)
   refine h _ _ ?_ (g (some ⟨w.heap.size, 0, none⟩) (w.alloc (.view ⟨b, 0, none⟩ e)) (Ext.alloc _ _ _) (hp.allocObj _ rfl).drop (.inr rfl))
   simp [execOp, mkO, hx, resolve, invoke, builtin, Gp, hr]
  ·have hr := Lib.run_unsafeSliceData_row (P := P) w #[t] ty ⟨b, 0, none⟩ n c hc
   refine h _ _ ?_ (g (Gp (some b)) w (Ext.refl _ _) hp (.inl ⟨hc, rfl⟩))
   simp [execOp, mkO, hx, resolve, invoke, builtin, Gp, hr]
theorem run_loadBytesI {w : World} : ∀ (l : List Int) (a : Addr) (acc : ByteArray), (∀ j x, l[j]? = some x → w.cell? (a.add j) = some (.int .u8 x)) →
  (loadBytes a acc l.length).run P w = .ok ⟨acc.data ++ (l.map fun x => x.toNat.toUInt8).toArray⟩ w
 | [], a, acc, _ => by simp [loadBytes]
 | x :: l, a, acc, h => by
  have h0 : w.cell? a = some (.int .u8 x) := by
   have := h 0 x rfl
   simpa [Addr.add] using this
  have ih := run_loadBytesI l (a.add 1) (acc.push x.toNat.toUInt8) (fun j y hy => by
   have := h (j + 1) y (by simpa using hy)
   have e : (a.add 1).add j = a.add (j + 1) := by
    unfold Addr.add
    by_cases hj : j = 0
    ·subst hj; simp
    ·simp [hj]; omega
   rw [e]; exact this)
  simp only [List.length_cons, loadBytes, Sem.run_bind, run_load, h0, Result.andThen]
  rw [ih]
  congr 1
  apply ByteArray.ext
  simp [ByteArray.push]
theorem freezeN_heap_eq (w : World) (g n : Nat) (cur : Array Value) (e : TypeId) (hn : n ≠ 0) (h : w.heap[g]? = some (.cells cur e (0, 0))) : (w.freeze ⟨g, 0, none⟩ n).heap[g]? = some (.cells cur e (0, n)) := by
 unfold World.freeze
 rw [if_neg hn]
 simp only [Array.getElem?_modify, if_true, h, Option.map_some]
 simp
theorem Op_.ustr (tp ti : TypeId) (x y : Operand) (d : Tmp) (ty : TypeId) (e : TypeId) (m : Nat) {n c kz : Nat} {cs : List Value} {G : Option Nat} {xs : List Int} {pv : Option Addr} (zs : ByteArray) (hn : xs.length = n) (hz : Gx.b2s xs = zs) (hp : Hp N w0 S w L) (hL : L[m]? = some (G, .row e cs (c * (kInt .u8).size) kz)) (he : Els (kInt .u8) S w cs xs)
  (hpv : (c ≠ 0 ∧ pv = Gp G) ∨ c = 0) (h63 : (n : Int) ≤ 9223372036854775807)
  (h : VStep P (.call { callee := .builtin .unsafeString, args := #[x, y], argTypes := #[tp, ti] }) d ty fr ds w X Y) (hx : Act.eval ⟨fr, ds⟩ x = .pointer pv) (hy : Act.eval ⟨fr, ds⟩ y = .int .i64 (n : Int)) (ht : ptrTo P tp = some e) (hc : P.cellsOf e = 1)
  (gg : ∀ S' w', Ext S w S' w' → Hp N w0 S' w' (L.eraseIdx m) → Rd (kInt .u8) S' w' (Gp G) c xs → Y (upd fr [(d, .string zs)]) w') : X := by
 subst hn hz
 have hpt : P.underlying tp = some (.pointer e) := by
  unfold ptrTo at ht
  split at ht
  ·rename_i u hu; cases ht; exact hu
  ·cases ht
 have hat := hp.mem m hL
 have hcs := els_bytes he
 have hlen := he.length
 rw [show (kInt .u8).size = 1 from rfl, Nat.mul_one] at hlen
 by_cases h0 : xs.length = 0
 ·have hxs : xs = [] := List.eq_nil_of_length_eq_zero h0
  subst hxs
  obtain ⟨S', k1, k2, k3⟩ := hp.freezeRd m hL he (by decide)
  have k4 : Hp N w0 S' w (L.eraseIdx m) := by
   have hlt := (List.getElem?_eq_some_iff.1 hL).1
   have := (k2.front m (G, .row e cs (c * (kInt .u8).size) cs.length) (by simp [hlt])).drop
   rw [List.eraseIdx_set_eq] at this
   exact this
  refine h _ _ ?_ (gg S' w k1 k4 k3)
  have hr := Lib.run_unsafeString_none (P := P) w tp ti ty pv
  have hb : Gx.b2s [] = .empty := rfl
  simp [execOp, mkO, hx, hy, resolve, invoke, builtin, hr, hb]
 ·-- some bytes: the row's own address
  have hcap : xs.length ≤ c := by
   cases G with
   | none => have := hat.1; rw [hcs] at this; simp at this; simp [this] at h0
   | some g => obtain ⟨_, _, _, _, hl, _, _⟩ := hat; rw [hlen] at hl; simpa [kInt, Kd.of] using hl
  have hpv' : pv = Gp G := by
   rcases hpv with h | h
   ·exact h.2
   ·omega
  cases G with
  | none => have := hat.1; rw [hcs] at this; simp at this; simp [this] at h0
  | some g =>
   obtain ⟨cur, hh, hs, htk, hl, hf, hk'⟩ := hat
   have hglt : g < w.heap.size := (Array.getElem?_eq_some_iff.1 hh).1
   have hfront := hp.front m _ hL
   have hNg : N ≤ g := hfront.ge g (mem_ids (List.mem_cons_self ..))
   have hw := freezeN_heap_eq w g xs.length cur e h0 hh
   have hne := fun b (hb : b ≠ g) => freeze_heap_ne w ⟨g, 0, none⟩ xs.length b hb
   have hsz : (w.freeze ⟨g, 0, none⟩ xs.length).heap.size = w.heap.size := by unfold World.freeze; split <;> simp
   have hcell : ∀ b i v, w.cell? ⟨b, i, none⟩ = some v → (w.freeze ⟨g, 0, none⟩ xs.length).cell? ⟨b, i, none⟩ = some v := by
    intro b i v hv
    by_cases hb : b = g
    ·subst hb
     simp only [World.cell?, hh] at hv
     simp only [World.cell?, hw]
     exact hv
    ·simp only [World.cell?, hne b hb] at hv ⊢
     exact hv
   have hsh : w.shape? g = some (e, c * (kInt .u8).size) := shape_row (hp.mem m hL)
   have hcells : ∀ j v, cs[j]? = some v → w.cell? ((⟨g, 0, none⟩ : Addr).add j) = some v := fun j v hj => by
    have := (hp.mem m hL).cell j v hj
    have e1 : Addr.add ⟨g, 0, none⟩ j = ⟨g, j, none⟩ := by unfold Addr.add; split <;> simp_all
    rw [e1]; exact this
   have hlb := run_loadBytesI (P := P) (w := w) xs ⟨g, 0, none⟩ .empty (fun j x hj => hcells j _ (by rw [hcs, List.getElem?_map, hj]; rfl))
   have hlies := Lib.liesAt_bytes (P := P) hc (c * (kInt .u8).size / P.cellsOf e) xs.length (by rw [hc]; simp [kInt, Kd.of]; exact hcap)
   refine h _ _ ?_ (gg (fzSet S g cs.length) (w.freeze ⟨g, 0, none⟩ xs.length) ?_ ?_ ?_)
   ·have hneg : ¬ (xs.length : Int) < 0 := by omega
    have h63' : ¬ (9223372036854775807 : Int) < (xs.length : Int) := by omega
    have hmax : IntKind.i64.max = 9223372036854775807 := rfl
    have hdef : Builtin.unsafeString_ #[tp, ti] ty #[.pointer (some ⟨g, 0, none⟩), .int .i64 (xs.length : Int)] =
      (do
       let n ← asInt (.int .i64 (xs.length : Int))
       if n < 0 then runtimePanic (.error "unsafe.String: len out of range")
       if n > IntKind.i64.max then unsupported (.unsafePointer "String: a length above the largest int")
       if n = 0 then pure (.string .empty)
       else if ← variablesAt ⟨g, 0, none⟩ (← elemOf tp) n.toNat then do
        let s ← loadBytes ⟨g, 0, none⟩ .empty n.toNat
        freeze ⟨g, 0, none⟩ n.toNat
        pure (.string s)
       else unsupported (.unsafePointer "String: not so many bytes at ptr")) := rfl
    have hrun : (Builtin.unsafeString_ #[tp, ti] ty #[.pointer (some ⟨g, 0, none⟩), .int .i64 (xs.length : Int)]).run P w = .ok (.string (Gx.b2s xs)) (w.freeze ⟨g, 0, none⟩ xs.length) := by
     rw [hdef]
     simp [asInt, asIntOf, hmax, h63', hneg, h0, variablesAt, hsh, elemOf, run_underlying hpt, hlies, hlb, Gx.b2s]
    rw [hpv'] at hx
    simp [execOp, mkO, hx, hy, resolve, invoke, builtin, Gp, hrun]
   ·exact ⟨fun b => by rw [fzSet_app]; split <;> omega, fun b i v _ hv => hcell b i v hv, fun _ => List.prefix_refl _⟩
   ·have hd := hfront.drop
    refine ⟨hp.below.trans ⟨?_, ?_, ?_, Nat.le_of_eq hsz.symm, fun b hb => hne b (by omega)⟩, by rw [hsz]; exact hp.le, fun b hb => ?_, hd.nd, hd.np, hd.ge, fun z hz => ?_⟩
    ·unfold World.freeze; split <;> rfl
    ·unfold World.freeze; split <;> rfl
    ·unfold World.freeze; split <;> rfl
    ·rw [hsz] at hb
     rw [fzSet_app, if_neg (by omega)]
     exact hp.fz b hb
    ·refine (hd.at_ z hz).kept fun b hb => ?_
     have hbg : b ≠ g := by
      intro e1; subst e1
      have hn := hfront.nd
      rw [List.flatMap_cons, ids_row, List.singleton_append, List.nodup_cons] at hn
      exact hn.1 (List.mem_flatMap.2 ⟨z, hz, hb⟩)
     refine ⟨hne b hbg, ?_⟩
     rw [fzSet_app, if_neg hbg]
     exact Nat.le_refl _
   ·refine ⟨hcap, (fun e1 => by simp [Gp] at e1), fun a ha => ?_⟩
    simp only [Gp, Option.map_some, Option.some.injEq] at ha
    subst ha
    refine ⟨cs, ?_, fun _ => ⟨rfl, fun q v hq => ⟨?_, ?_⟩⟩⟩
    ·exact he.ext (S' := S) ⟨fun _ => Nat.le_refl _, fun b i v _ hv => hcell b i v hv, fun _ => List.prefix_refl _⟩ |>.ext ⟨fun b => by rw [fzSet_app]; split <;> omega, fun _ _ _ _ hv => hv, fun _ => List.prefix_refl _⟩
    ·simp only [fzSet_app, if_pos, Nat.zero_add]
     have := (List.getElem?_eq_some_iff.1 hq).1
     omega
    ·rw [Nat.zero_add]
     have := (hp.mem m hL).cell q v hq
     exact hcell _ _ _ this
end
end Go.Gx
