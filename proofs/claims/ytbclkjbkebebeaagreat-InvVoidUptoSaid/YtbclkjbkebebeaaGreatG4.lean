/-
 Rows of one's own: frozen, appended to, copied into. Ranges over functions. Generic: names no program.
-/
import Derived.Test.YtbclkjbkebebeaaGreatG3
namespace Go.Gx
open Go.RowKit
section
variable {N : Nat} {w0 w w' : World} {S S' : Fz} {L L' : List Ent} {α : Type} {K : Kd α}
theorem Hp.freezeRd (h : Hp N w0 S w L) (j : Nat) {G : Option Nat} {e : TypeId} {cs : List Value} {c kz : Nat} {xs : List α} (hj : L[j]? = some (G, .row e cs (c * K.size) kz)) (he : Els K S w cs xs) (hsz : 0 < K.size) :
  ∃ S', Ext S w S' w ∧ Hp N w0 S' w (L.set j (G, .row e cs (c * K.size) cs.length)) ∧ Rd K S' w (Gp G) c xs := by
 have hat := h.mem j hj
 cases G with
 | none =>
  obtain ⟨h1, h2, h3⟩ := hat
  refine ⟨S, Ext.refl _ _, ?_, ?_⟩
  ·refine Hp.back hj ?_
   have hf := h.front j _ hj
   refine ⟨hf.below, hf.le, hf.fz, hf.nd, hf.np, hf.ge, fun x hx => ?_⟩
   rcases List.mem_cons.1 hx with rfl | hx
   ·exact ⟨h1, h2, by rw [h1]; rfl⟩
   ·exact hf.at_ x (.tail _ hx)
  ·have hl := he.length
   rw [h1] at hl
   have hc : c = 0 := by rcases Nat.mul_eq_zero.1 h2 with h | h <;> omega
   have : xs.length = 0 := by rcases Nat.mul_eq_zero.1 hl.symm with h | h <;> omega
   have : xs = [] := List.eq_nil_of_length_eq_zero this
   subst this
   exact Rd.nil fun _ => hc
 | some g =>
  obtain ⟨hx, hp⟩ := h.freeze j hj cs.length (Nat.le_refl _)
  have hkz : max kz cs.length = cs.length := by
   obtain ⟨_, _, _, _, _, _, hk⟩ := hat; omega
  rw [hkz] at hp
  refine ⟨_, hx, hp, ?_, fun e => by simp [Gp] at e, ?_⟩
  ·obtain ⟨_, _, _, _, hl, _, _⟩ := hat
   rw [he.length] at hl
   exact Nat.le_of_mul_le_mul_right hl hsz
  ·intro a ha
   simp only [Gp, Option.map_some, Option.some.injEq] at ha
   subst ha
   refine ⟨cs, he.ext hx, fun _ => ⟨rfl, fun q v hq => ⟨?_, ?_⟩⟩⟩
   ·simp only [fzSet_app, if_pos, Nat.zero_add]
    have := (List.getElem?_eq_some_iff.1 hq).1
    omega
   ·rw [Nat.zero_add]; exact hat.cell q v hq
theorem Hp.nilRow (h : Hp N w0 S w L) (e : TypeId) : Hp N w0 S w ((none, .row e [] 0 0) :: L) :=
 ⟨h.below, h.le, h.fz, h.nd, h.np, h.ge, fun x hx => by
  rcases List.mem_cons.1 hx with rfl | hx
  ·exact ⟨rfl, rfl, rfl⟩
  ·exact h.at_ x hx⟩
theorem Els.length_eq {cs : List Value} {xs : List α} {n : Nat} (hl : cs.length = n) (h : Els K S w cs xs) : xs.length * K.size = n := by rw [← h.length]; exact hl
theorem At_part {g : Nat} {t : TypeId} {us vs ws : List Value} {cap k : Nat} (h : (Blk.row t (us ++ (vs ++ ws)) cap k).At S w (some g)) (o : Nat) (ho : us.length = o) : ∀ j v, vs[j]? = some v → w.cell? (Addr.add ⟨g, o, none⟩ j) = some v := by
 intro j v hj
 have e1 : Addr.add ⟨g, o, none⟩ j = ⟨g, o + j, none⟩ := by unfold Addr.add; split <;> simp_all
 rw [e1]
 refine h.cell (o + j) v ?_
 rw [List.getElem?_append_right (by omega), List.getElem?_append_left (by have := (List.getElem?_eq_some_iff.1 hj).1; omega)]
 rw [← ho, Nat.add_sub_cancel_left]
 exact hj
end
section
variable {P : Program} {X : Prop} {Y : Array Value → World → Prop} {b : Frame} {k : List Item} {w : World} {D : List Frame → Machine → Prop} {ops : Array Oper} {i : Nat} {rest : List Nat} {fr : Array Value} {ds : List Deferred}
variable {N : Nat} {w0 : World} {S : Fz} {L : List Ent} {α : Type} {K : Kd α}
theorem setRow_hp {g : Nat} {e : TypeId} {cap kz : Nat} {cs news : List Value} {cur : Array Value} (hp : Hp N w0 S w ((some g, .row e cs cap kz) :: L)) (hh : w.heap[g]? = some (.cells cur e (0, 0))) (hs : cur.size = cap)
  (ht : cur.toList.take cs.length = cs) (hf : S g ≤ kz) (hk : kz ≤ cs.length) (hfit : cs.length + news.length ≤ cap) (new : Array Value)
  (hnew : new.toList = cur.toList.take cs.length ++ news ++ cur.toList.drop (cs.length + news.length)) :
  Ext S w S (w.setRow g new) ∧ Hp N w0 S (w.setRow g new) ((some g, .row e (cs ++ news) cap kz) :: L) := by
 rw [ht] at hnew
 refine ⟨⟨fun _ => Nat.le_refl _, fun b i v hi hv => ?_, fun _ => List.prefix_refl _⟩, ?_⟩
 ·by_cases hb : b = g
  ·subst hb
   have hlt : i < cs.length := by omega
   simp only [World.cell?, hh] at hv
   simp only [World.cell?, setRow_heap w b cur new e _ hh]
   have e1 : cur.toList[i]? = some v := by simpa using hv
   have e2 : new.toList[i]? = some v := by
    rw [hnew, List.append_assoc, List.getElem?_append_left hlt, ← e1]
    conv => rhs; rw [← List.take_append_drop cs.length cur.toList, ht, List.getElem?_append_left hlt]
   simpa using e2
  ·have : (w.setRow g new).heap[b]? = w.heap[b]? := setRow_other w g b new hb
   simp only [World.cell?, this]
   exact hv
 ·refine hp.write _ rfl rfl rfl (by simp [World.setRow]) (fun b hb => setRow_other w g b new hb) (fun _ _ => rfl) ?_
  refine ⟨new, setRow_heap w g cur new e _ hh, ?_, ?_, by simpa using hfit, hf, by simp; omega⟩
  ·have := congrArg List.length hnew
   simp only [Array.length_toList, List.length_append, List.length_drop] at this
   omega
  ·rw [hnew, List.take_left]
theorem append_own {e t ty : TypeId} {inf : TypeInfo} {zv : Value} {c n m sz kz : Nat} {cs news : List Value} {G : Option Nat} {X : Option Addr} {mc : Nat} (hp : Hp N w0 S w L) (q : Nat) (hL : L[q]? = some (G, .row e cs (c * sz) kz))
  (ht : elemB P t = some e) (hi : P.info? e = some inf) (hz : inf.zero = some zv) (hzs : zv.cells.size = sz) (hsz : inf.size = sz) (h0 : 0 < sz) (hn : cs.length = n * sz) (hm : news.length = m * sz)
  (hsrc : news ≠ [] → ∃ a, X = some a ∧ ∀ j u, news[j]? = some u → w.cell? (a.add j) = some u) (h1 : ∀ u ∈ news, u.oneCell' = true) (hby : (n + m) * inf.bytes ≤ 140737488355328) (h63 : n + m ≤ 9223372036854775807) :
  ∃ w' G' c', (Builtin.append_ #[t, t] ty #[.slice (Gp G) n c, .slice X m mc]).run P w = .ok (.slice (Gp G') (n + m) c') w' ∧ Ext S w S w' ∧ Hp N w0 S w' (L.set q (G', .row e (cs ++ news) (c' * sz) kz)) := by
 have hu := elemB_spec ht
 have hset : news = [] → L.set q (G, .row e (cs ++ news) (c * sz) kz) = L := by
  rintro rfl
  obtain ⟨hlt, he⟩ := List.getElem?_eq_some_iff.1 hL
  rw [List.append_nil, ← he]; exact List.set_getElem_self hlt
 have hat := hp.mem q hL
 by_cases hm0 : m = 0
 ·subst hm0
  have hnil : news = [] := List.eq_nil_of_length_eq_zero (by simpa using hm)
  refine ⟨w, G, c, ?_, Ext.refl _ _, by rw [hset hnil]; exact hp⟩
  have hnc : n ≤ c := by
   cases G with
   | none =>
    have := hat.1
    rw [this] at hn
    have hn' : n * sz = 0 := by simpa using hn.symm
    have : n = 0 := by rcases Nat.mul_eq_zero.1 hn' with h | h <;> omega
    omega
   | some g =>
    obtain ⟨_, _, _, _, hl, _, _⟩ := hat
    rw [hn] at hl
    exact Nat.le_of_mul_le_mul_right hl h0
  cases G with
  | none => cases X <;> simp [Builtin.append_, run_underlying hu, sizeOf, typeInfo, hi, Builtin.lenOf, Builtin.firstCells, loadCells, loadCellsFrom, Gp, hnc]
  | some g => cases X <;> simp [Builtin.append_, run_underlying hu, sizeOf, typeInfo, hi, Builtin.lenOf, Builtin.firstCells, loadCells, loadCellsFrom, Gp, hnc, storeCells]
 ·have hne : news ≠ [] := by
   rintro rfl
   have hm' : m * sz = 0 := by simpa using hm.symm
   rcases Nat.mul_eq_zero.1 hm' with h | h <;> omega
  obtain ⟨a, rfl, hcells⟩ := hsrc hne
  cases G with
  | none =>
   obtain ⟨hcs, hc0, hkz⟩ := hat
   subst hcs hkz
   have hn' : n * sz = 0 := by simpa using hn.symm
   have hn0 : n = 0 := by rcases Nat.mul_eq_zero.1 hn' with h | h <;> omega
   have hc0' : c = 0 := by rcases Nat.mul_eq_zero.1 hc0 with h | h <;> omega
   subst hn0 hc0'
   subst hsz
   have hr := run_append_nil (P := P) w t ty e inf zv hu hi hz a m mc news hm hcells (by omega) (by omega) (by simp at hby; omega)
   refine ⟨w.drew.alloc (.cells (news.toArray ++ Builtin.zeroCells zv.cells (grownCap w m 0 e - m)) e), some w.heap.size, grownCap w m 0 e, by rw [Nat.zero_add]; exact hr, Ext.draw.trans (Ext.alloc _ _ _), ?_⟩
   refine Hp.back hL ?_
   have hf := (hp.front q _ hL).drop.draw
   have hcap := grownCap_ge w m 0 e
   refine hf.alloc_ (.cells (news.toArray ++ Builtin.zeroCells zv.cells (grownCap w m 0 e - m)) e) (.row e ([] ++ news) (grownCap w m 0 e * inf.size) 0) ⟨_, heap_new _ _, ?_, by simp, ?_, ?_, Nat.zero_le _⟩
   ·simp only [Array.size_append, List.size_toArray, size_zeroCells, hzs, hm, ← Nat.add_mul]; congr 1; omega
   ·simp only [List.nil_append, hm]; exact Nat.mul_le_mul_right _ hcap
   ·rw [hf.fz _ (Nat.le_refl _)]; exact Nat.le_refl _
  | some g =>
   obtain ⟨cur, hh, hs, htk, hl, hf, hk⟩ := hat
   subst hsz
   by_cases hroom : n + m ≤ c
   ·have hfit : cs.length + news.length ≤ c * inf.size := by rw [hn, hm, ← Nat.add_mul]; exact Nat.mul_le_mul_right _ hroom
    have hr := run_append_room (P := P) w t ty e inf hu hi g n c cur hh a m mc news hm hcells h1 hroom (by rw [hs, ← hn]; exact hfit)
    rw [← hn] at hr
    obtain ⟨hx, hp'⟩ := setRow_hp (hp.front q _ hL) hh hs htk hf hk hfit (cur.toList.take cs.length ++ news ++ cur.toList.drop (cs.length + news.length)).toArray rfl
    exact ⟨_, some g, c, hr, hx, hp'.back hL⟩
   ·have holds : ∀ j u, cs[j]? = some u → w.cell? ((⟨g, 0, none⟩ : Addr).add j) = some u := fun j u hj => by
     have := (hp.mem q hL).cell j u hj
     have e1 : Addr.add ⟨g, 0, none⟩ j = ⟨g, j, none⟩ := by unfold Addr.add; split <;> simp_all
     rw [e1]; exact this
    have hr := run_append_grow (P := P) w t ty e inf zv hu hi hz ⟨g, 0, none⟩ n c cs hn holds a m mc news hm hcells (by omega) (by omega) (growslice_fits (by omega) hby)
    refine ⟨_, some w.heap.size, _, hr, Ext.draw.trans (Ext.alloc _ _ _), ?_⟩
    refine Hp.back hL ?_
    have hfr := (hp.front q _ hL).drop.draw
    have hcap := grownCap_ge w (n + m) c e
    refine hfr.alloc_ (.cells (cs.toArray ++ news.toArray ++ Builtin.zeroCells zv.cells (grownCap w (n + m) c e - (n + m))) e) (.row e (cs ++ news) (grownCap w (n + m) c e * inf.size) kz) ⟨_, heap_new _ _, ?_, ?_, ?_, ?_, by simp; omega⟩
    ·simp only [Array.size_append, List.size_toArray, size_zeroCells, hzs, hn, hm, ← Nat.add_mul]; congr 1; omega
    ·rw [Array.toList_append, List.take_append_of_le_length (by simp)]
     simp only [Array.toList_append]
     exact List.take_length
    ·rw [List.length_append, hn, hm, ← Nat.add_mul]; exact Nat.mul_le_mul_right _ hcap
    ·rw [hfr.fz _ (Nat.le_refl _)]; exact Nat.zero_le _
theorem Op_.ap {K : Kd α} (t : TypeId) (x y : Operand) (d : Tmp) (ty : TypeId) (e : TypeId) (q : Nat) (zv : Value) (bytes : Nat) (c : Nat) (xs ys : List α) (XA : Option Addr) (mc : Nat) {kz : Nat} {cs news : List Value} {G : Option Nat} (hp : Hp N w0 S w L)
  (hL : L[q]? = some (G, .row e cs (c * K.size) kz)) (he : Els K S w cs xs) (h : VStep P (.call { callee := .builtin .append, args := #[x, y], argTypes := #[t, t] }) d ty fr ds w X Y)
  (hx : Act.eval ⟨fr, ds⟩ x = .slice (Gp G) xs.length c) (hy : Act.eval ⟨fr, ds⟩ y =   .slice XA ys.length mc) (ht : elemB P t = some e) (hinf : infoB P e = some (some zv, K.size, bytes)) (hzs : zv.cells.size = K.size) (h0 : 0 < K.size)
  (hn : Els K S w news ys) (hsrc : news ≠ [] → ∃ a, XA = some a ∧ ∀ j u, news[j]? = some u → w.cell? (a.add j) = some u) (hby : ((xs ++ ys).length : Int) * bytes ≤ 140737488355328) (h63 : ((xs ++ ys).length : Int) ≤ 9223372036854775807)
  (g : ∀ w' G' c' cs', Ext S w S w' → Hp N w0 S w' (L.set q (G', .row e cs' (c' * K.size) kz)) → Els K S w' cs' (xs ++ ys) → Y (upd fr [(d, .slice (Gp G') (xs ++ ys).length c')]) w') :
  X := by
 obtain ⟨inf, hi, hz, hsz, rfl⟩ := infoB_spec hinf
 have e1 : xs.length + ys.length = (xs ++ ys).length := by simp
 obtain ⟨w', G', c', hr, hx', hp'⟩ := append_own (P := P) (t := t) (ty := ty) (mc := mc) hp q hL ht hi hz hzs hsz h0 he.length hn.length hsrc hn.one (by rw [e1]; exact Int.ofNat_le.1 (by rw [Int.natCast_mul]; exact hby)) (by rw [e1]; omega)
 refine h _ _ ?_ (g w' G' c' _ hx' hp' ((he.append hn).ext hx'))
 rw [← e1]
 simp [execOp, mkO, hx, hy, resolve, invoke, builtin, hr]
theorem src_rd {S : Fz} {w : World} {A : Option Addr} {c : Nat} {ys : List α} (h : Rd K S w A c ys) : ∃ news, Els K S w news ys ∧ (news ≠ [] → ∃ a, A = some a ∧ ∀ j u, news[j]? = some u → w.cell? (a.add j) = some u) := by
 cases A with
 | none =>
  have h1 := h.1
  rw [h.2.1 rfl] at h1
  have : ys = [] := List.eq_nil_of_length_eq_zero (by omega)
  subst this
  exact ⟨[], .nil, fun h => absurd rfl h⟩
 | some a =>
  obtain ⟨cs, h1, h2⟩ := h.2.2 a rfl
  exact ⟨cs, h1, fun _ => ⟨a, rfl, fun j u hj => h2.cell j u hj⟩⟩
theorem src_own (hp : Hp N w0 S w L) {q : Nat} {G : Option Nat} {e : TypeId} {cs : List Value} {cap kz : Nat} (hL : L[q]? = some (G, .row e cs cap kz)) : cs ≠ [] → ∃ a, Gp G = some a ∧ ∀ j u, cs[j]? = some u → w.cell? (a.add j) = some u := by
 intro hne
 have hat := hp.mem q hL
 cases G with
 | none => exact absurd hat.1 hne
 | some g =>
  refine ⟨⟨g, 0, none⟩, rfl, fun j u hj => ?_⟩
  have e1 : Addr.add ⟨g, 0, none⟩ j = ⟨g, j, none⟩ := by unfold Addr.add; split <;> simp_all
  rw [e1]; exact hat.cell j u hj
end
end Go.Gx
