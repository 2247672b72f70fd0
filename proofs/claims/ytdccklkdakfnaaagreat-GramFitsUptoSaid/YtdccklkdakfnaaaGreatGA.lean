/-
 Zeros appended; arrays: cuts, copies, whole loads and stores; results in memory. Generic: names no program.
-/
import Derived.Test.YtdccklkdakfnaaaGreatG9
import Derived.Lib.AppendZerosOnto
namespace Go.Gx
open Go.RowKit
section
variable {P : Program} {X : Prop} {Y : Array Value → World → Prop} {w : World} {fr : Array Value} {ds : List Deferred}
variable {N : Nat} {w0 : World} {S : Fz} {L : List Ent} {α : Type} {K : Kd α}
theorem zeroCells_one (z : Value) (m : Nat) : (Builtin.zeroCells #[z] m).toList = List.replicate m z := by
 apply List.ext_getElem?
 intro i
 by_cases hi : i < m
 ·simp [Builtin.zeroCells, hi, Nat.mod_one]
 ·simp [Builtin.zeroCells, hi]
theorem append_zeros_own {e t tn ty : TypeId} {inf : TypeInfo} {zv : Value} {kn kq : IntKind} {c n m kz : Nat} {cs : List Value} {G : Option Nat} (hp : Hp N w0 S w L) (q : Nat) (hL : L[q]? = some (G, .row e cs (c * 1) kz))
  (ht : elemB P t = some e) (htn : intB P tn = some kn) (hi : P.info? e = some inf) (hz : inf.zero = some zv) (hzs : zv.cells = #[zv]) (hsz : inf.size = 1) (hn : cs.length = n)
  (h1 : zv.oneCell' = true) (hby : (n + m) * inf.bytes ≤ 140737488355328) (h63 : n + m ≤ 1099511627776) :
  ∃ w' G' c', (Builtin.append_ #[t, tn] ty #[.slice (Gp G) n c, .int kq m]).run P w = .ok (.slice (Gp G') (n + m) c') w' ∧ Ext S w S w' ∧ Hp N w0 S w' (L.set q (G', .row e (cs ++ List.replicate m zv) (c' * 1) kz)) := by
 have hu := elemB_spec ht
 have hun := intB_spec htn
 have hat := hp.mem q hL
 have hw : IntKind.i64.wrap (m : Int) = m := by rw [IntKind.wrap_i64]; omega
 have hneg : ¬ ((m : Int) < 0) := by omega
 have hw0 : IntKind.i64.wrap 0 = 0 := rfl
 have h48 : m * inf.bytes ≤ 281474976710656 := by
  have := Nat.mul_le_mul_right inf.bytes (show m ≤ n + m by omega)
  omega
 have h48i : ¬ (281474976710656 < (m : Int) * (inf.bytes : Int)) := by
  rw [← Int.natCast_mul]
  omega
 by_cases hroom : n + m ≤ c
 ·cases G with
  | none =>
   obtain ⟨hcs, hc0, hkz⟩ := hat
   have hm0 : m = 0 := by omega
   subst hm0
   refine ⟨w, none, c, ?_, Ext.refl _ _, ?_⟩
   ·simp [Builtin.append_, run_underlying hu, run_underlying hun, sizeOf, typeInfo, hi, asInt, asIntOf, hw0, Gp, show n ≤ c by omega]
   ·obtain ⟨hlt, he⟩ := List.getElem?_eq_some_iff.1 hL
    simp only [List.replicate_zero, List.append_nil]
    rw [← he, List.set_getElem_self hlt]; exact hp
  | some g =>
   obtain ⟨cur, hh, hs, htk, hl, hf, hk⟩ := hat
   have hfit : cs.length + (List.replicate m zv).length ≤ c * 1 := by simp; omega
   obtain ⟨hx, hp'⟩ := setRow_hp (hp.front q _ hL) hh hs htk hf hk hfit (cur.toList.take cs.length ++ List.replicate m zv ++ cur.toList.drop (cs.length + (List.replicate m zv).length)).toArray rfl
   refine ⟨_, some g, c, ?_, hx, hp'.back hL⟩
   have hst := run_storeCells_at P g n e (List.replicate m zv) 0 cur w hh (by simp [hs]; omega) (by intro v hv; rw [(List.mem_replicate.1 hv).2]; exact h1)
   simp only [Nat.add_zero] at hst
   have hadd : Addr.add ⟨g, 0, none⟩ n = ⟨g, n, none⟩ := by unfold Addr.add; split <;> simp_all
   by_cases hm0 : m = 0
   ·subst hm0
    have hst0 : storeCells (⟨g, n, none⟩ : Addr) [] 0 = pure () := rfl
    simp only [List.replicate_zero] at hst
    simp [Builtin.append_, run_underlying hu, run_underlying hun, sizeOf, typeInfo, hi, hsz, asInt, asIntOf, hw0, Gp, show n ≤ c by omega, hadd, hst, hn]
   ·simp [Builtin.append_, run_underlying hu, run_underlying hun, sizeOf, typeInfo, hi, hsz, asInt, asIntOf, hw, hneg, h48i, Gp, hroom, hm0, zeroValue, hz, hzs, zeroCells_one, hadd, hst, hn]
 ·have hm0 : 0 < m := by
   rcases Nat.eq_zero_or_pos m with h | h
   ·subst h
    exfalso
    cases G with
    | none => have := hat.1; subst this; simp at hn; omega
    | some g => obtain ⟨_, _, _, _, hl, _, _⟩ := hat; omega
   ·exact h
  have hold : (Builtin.firstCells inf.size n (.slice (Gp G) n c)).run P w.drew = .ok cs.toArray w.drew := by
   cases G with
   | none => have := hat.1; subst this; simp at hn; subst hn; rfl
   | some g =>
    refine run_firstCells_some (P := P) w.drew inf.size n ⟨g, 0, none⟩ n c cs (by rw [hsz]; omega) fun j u hj => ?_
    have := hat.cell j u hj
    have e1 : Addr.add ⟨g, 0, none⟩ j = ⟨g, j, none⟩ := by unfold Addr.add; split <;> simp_all
    rw [e1]; exact this
  have hr := Lib.run_append_grow_zeros (P := P) w t tn ty e inf zv kq kn hu hun hi hz (Gp G) n c cs hold m hm0 (by omega) (by omega) (by omega) h48 (growslice_fits (by omega) hby)
  refine ⟨_, some w.heap.size, _, hr, Ext.draw.trans (Ext.alloc _ _ _), ?_⟩
  refine Hp.back hL ?_
  have hkz : kz ≤ cs.length := by
   cases G with
   | none => have := hat.2.2; omega
   | some g => obtain ⟨_, _, _, _, _, _, hk⟩ := hat; exact hk
  have hfr := (hp.front q _ hL).drop.draw
  have hcap := grownCap_ge w (n + m) c e
  refine hfr.alloc_ (.cells (cs.toArray ++ Builtin.zeroCells zv.cells m ++ Builtin.zeroCells zv.cells (grownCap w (n + m) c e - (n + m))) e) (.row e (cs ++ List.replicate m zv) (grownCap w (n + m) c e * 1) kz) ⟨_, heap_new _ _, ?_, ?_, ?_, ?_, by simp; omega⟩
  ·simp only [Array.size_append, List.size_toArray, size_zeroCells, hzs, hn]; simp; omega
  ·rw [Array.toList_append, List.take_append_of_le_length (by simp [size_zeroCells, hzs])]
   rw [Array.toList_append, hzs, zeroCells_one]
   simp
   exact List.take_of_length_le (by simp)
  ·simp; omega
  ·rw [hfr.fz _ (Nat.le_refl _)]; exact Nat.zero_le _
theorem Op_.apz (t tn : TypeId) (x y : Operand) (d : Tmp) (ty : TypeId) (e : TypeId) (q : Nat) (zv : Value) (bytes : Nat) (c : Nat) (xs : List α) (z : α) (kn kq : IntKind) (m : Int) {kz : Nat} {cs : List Value} {G : Option Nat} (hp : Hp N w0 S w L)
  (hL : L[q]? = some (G, .row e cs (c * K.size) kz)) (he : Els K S w cs xs) (h : VStep P (.call { callee := .builtin .append, args := #[x, y], argTypes := #[t, tn] }) d ty fr ds w X Y)
  (hx : Act.eval ⟨fr, ds⟩ x = .slice (Gp G) xs.length c) (hy : Act.eval ⟨fr, ds⟩ y = .int kq m) (ht : elemB P t = some e) (htn : intB P tn = some kn) (hinf : infoB P e = some (some zv, 1, bytes)) (hzs : zv.cells = #[zv]) (h1 : zv.oneCell' = true) (hK : K.size = 1)
  (hz : ∀ S w, K.rep S w [zv] z) (h0 : 0 ≤ m) (hby : ((xs.length : Int) + m) * bytes ≤ 140737488355328) (h63 : (xs.length : Int) + m ≤ 1099511627776)
  (g : ∀ w' G' c' cs', Ext S w S w' → Hp N w0 S w' (L.set q (G', .row e cs' (c' * K.size) kz)) → Els K S w' cs' (xs ++ List.replicate m.toNat z) → Y (upd fr [(d, .slice (Gp G') (xs ++ List.replicate m.toNat z).length c')]) w') :
  X := by
 obtain ⟨inf, hi, hz', hsz, rfl⟩ := infoB_spec hinf
 obtain ⟨m, rfl⟩ := Int.eq_ofNat_of_zero_le h0
 have hlen := he.length
 rw [hK] at hlen hL
 obtain ⟨w', G', c', hr, hx', hp'⟩ := append_zeros_own (P := P) (t := t) (tn := tn) (ty := ty) (kq := kq) (m := m) hp q hL ht htn hi hz' hzs hsz (n := xs.length) (by omega) h1 (by exact Int.ofNat_le.1 (by rw [Int.natCast_mul]; exact hby)) (by omega)
 have hE : Els K S w' (cs ++ List.replicate m zv) (xs ++ List.replicate m z) := (he.ext hx').append (Els.rep1 (hz _ _) m)
 refine h _ _ ?_ (g w' G' c' _ hx' (by rw [hK]; exact hp') hE)
 simp [execOp, mkO, resolve, invoke, builtin, hx, hy, hr]
/-! ### Arrays, whose elements are one cell each -/
theorem take3 (A B C : List Value) (n : Nat) (h : A.length + B.length ≤ n) : (A ++ B ++ C).take n = A ++ (B ++ C.take (n - (A.length + B.length))) := by
 rw [List.append_assoc, List.take_append, List.take_of_length_le (by omega), List.take_append, List.take_of_length_le (by omega), Nat.sub_sub]
theorem Op_.stA (t : TypeId) (x y : Operand) (ty : TypeId) (j g n : Nat) (vs : List Value) {t' : TypeId} {cs : List Value} (hp : Hp N w0 S w L) (hj : L[j]? = some (some g, .row t' cs n 0)) (hn : cs.length = n) (h : SStep P (.store t x y) ty fr ds w X Y)
  (hx : Act.eval ⟨fr, ds⟩ x = .pointer (some ⟨g, 0, none⟩)) (hy : Act.eval ⟨fr, ds⟩ y = .agg vs.toArray) (hs : sizeB P t = some n) (hl : vs.length = n) (h1 : ∀ v ∈ vs, v.oneCell' = true)
  (g' : ∀ w', Ext S w S w' → Hp N w0 S w' (L.set j (some g, .row t' vs n 0)) → Y fr w') : X := by
 obtain ⟨w', hr, hx', hp'⟩ := run_stores (P := P) (g := g) vs 0 0 cs w L j hp hj (Nat.zero_le _) (by omega) h1
 have e : cs.take (0 + 0) ++ (vs ++ cs.drop (0 + 0 + vs.length)) = vs := by simp; omega
 rw [e] at hp'
 refine h _ ?_ (g' w' hx' hp')
 simp [execOp, mkO, hx, hy, Instr.storeAt, Instr.sureAddr, storeVar, run_sizeOf w hs, Value.cells, hl, hr]
/-! ### Results in memory -/
def resV (fr : Array Value) : ResultVar → Sem Value
 | .tmp t => pure (fr.getD t undef)
 | .cell a t => do loadVar t (← asAddr (fr.getD a undef))
theorem results_eq (fn : Func) (fr : Array Value) : results fn fr = (do let vs ← fn.results.mapM (resV fr); pure (if h : vs.size = 1 then vs[0] else .tuple vs)) := by
 unfold results
 congr 1
theorem resV_tmp {P : Program} {w : World} {fr : Array Value} {q : Tmp} {v : Value} (h : fr.getD q undef = v) : (resV fr (.tmp q)).run P w = .ok v w := by simp [resV, h]
theorem resV_cell {P : Program} {w : World} {fr : Array Value} {q : Tmp} {t : TypeId} {v : Value} (ad : Addr) (h : fr.getD q undef = .pointer (some ad)) (h1 : (loadVar t ad).run P w = .ok v w) : (resV fr (.cell q t)).run P w = .ok v w := by simp [resV, h, asAddr, h1]
theorem results_n1 {P : Program} {w : World} {fn : Func} {fr : Array Value} {a : ResultVar} {va : Value} (h : fn.results = #[a]) (ha : (resV fr a).run P w = .ok va w) : (results fn fr).run P w = .ok va w := by
 rw [results_eq]; simp [h, ha]
theorem results_n2 {P : Program} {w : World} {fn : Func} {fr : Array Value} {a b : ResultVar} {va vb : Value} (h : fn.results = #[a, b]) (ha : (resV fr a).run P w = .ok va w) (hb : (resV fr b).run P w = .ok vb w) : (results fn fr).run P w = .ok (.tuple #[va, vb]) w := by
 rw [results_eq]; simp [h, ha, hb]
theorem results_n3 {P : Program} {w : World} {fn : Func} {fr : Array Value} {a b c : ResultVar} {va vb vc : Value} (h : fn.results = #[a, b, c]) (ha : (resV fr a).run P w = .ok va w) (hb : (resV fr b).run P w = .ok vb w) (hc : (resV fr c).run P w = .ok vc w) : (results fn fr).run P w = .ok (.tuple #[va, vb, vc]) w := by
 rw [results_eq]; simp [h, ha, hb, hc]
theorem Els.len1 {S : Fz} {w : World} {K : Kd α} {cs : List Value} {xs : List α} {n : Nat} (he : Els K S w cs xs) (hl : cs.length = n) (hK : K.size = 1) : xs.length = n := by
 have := he.length
 rw [hK, Nat.mul_one] at this
 omega
end
end Go.Gx
