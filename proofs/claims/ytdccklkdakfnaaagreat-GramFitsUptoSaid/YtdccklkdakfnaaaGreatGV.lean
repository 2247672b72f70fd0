/-
 Windows of rows of one's own, and what is copied into them. Generic: names no program.
-/
import Derived.Test.YtdccklkdakfnaaaGreatGB
import Derived.Laws.CopyRow
import Derived.Laws.Append
set_option linter.unusedVariables false
set_option linter.unusedSectionVars false
namespace Go.Gx
open Go.RowKit
def winA (G : Option Nat) (l c s : Nat) : Option Addr := if c = l then Gp G else (Gp G).map (·.add (l * s))
theorem winA_zero (G : Option Nat) (c s : Nat) : winA G 0 c s = Gp G := by
 unfold winA
 split
 ·rfl
 ·cases G with
  | none => rfl
  | some g => simp [Gp, Addr.add]
section
variable {P : Program} {N : Nat} {w0 w : World} {S : Fz} {L : List Ent} {α : Type} {K : Kd α} {fr : Array Value} {ds : List Deferred} {X : Prop} {Y : Array Value → World → Prop}
theorem run_copyN (w : World) (t1 t2 ty e : TypeId) (s g o dl dc : Nat) (a : Addr) (m mc : Nat) (cur : Array Value) (t : TypeId) (cs : List Value) (hu : P.underlying t1 = some (.slice e)) (hs : sizeB P e = some s)
  (hg : w.heap[g]? = some (.cells cur t (0, 0))) (hn : cs.length = Nat.min m dl * s) (hsrc : ∀ j v, cs[j]? = some v → w.cell? (a.add j) = some v) (hfit : o + cs.length ≤ cur.size) (h1 : ∀ v ∈ cs, v.oneCell' = true) :
  (Builtin.copy_ #[t1, t2] ty #[.slice (some ⟨g, o, none⟩) dl dc, .slice (some a) m mc]).run P w = .ok (goInt (Nat.min m dl)) (w.setRow g (cur.toList.take o ++ cs ++ cur.toList.drop (o + cs.length)).toArray) := by
 have hl := run_loadCells_list (P := P) w a cs hsrc
 have hst := run_storeCells_at P g o t cs 0 cur w hg (by simpa using hfit) h1
 rw [hn] at hl
 simp [Builtin.copy_, run_underlying hu, Builtin.lenOf, Builtin.firstCells, run_sizeOf w hs, hl, hst]
theorem run_copy0 (w : World) (t1 t2 ty e : TypeId) (s : Nat) (A XA : Option Addr) (dl dc m mc : Nat) (hu : P.underlying t1 = some (.slice e)) (hs : sizeB P e = some s) (h0 : Nat.min m dl = 0) :
  (Builtin.copy_ #[t1, t2] ty #[.slice A dl dc, .slice XA m mc]).run P w = .ok (goInt 0) w := by
 cases A <;> cases XA <;> simp [Builtin.copy_, run_underlying hu, Builtin.lenOf, Builtin.firstCells, run_sizeOf w hs, h0, storeCells, loadCells, loadCellsFrom]
theorem row_fit {G : Option Nat} {e : TypeId} {cs : List Value} {c : Nat} {xs : List α} (hsz : 0 < K.size) (h : Blk.At S w G (.row e cs (c * K.size) 0)) (he : Els K S w cs xs) : xs.length ≤ c := by
 have hl := he.length
 cases G with
 | none =>
  rw [h.1] at hl
  have : xs.length * K.size = 0 := by simpa using hl.symm
  rcases Nat.mul_eq_zero.1 this with h | h <;> omega
 | some g =>
  obtain ⟨cur, a1, a2, a3, a4, a5, a6⟩ := h
  rw [hl] at a4
  exact Nat.le_of_mul_le_mul_right a4 hsz
theorem slV_run {t : TypeId} {x : Operand} {lo hi : Option Operand} {d : Tmp} {ty e : TypeId} {j1 j2 : Int} {q : Nat} {G : Option Nat} {n c : Nat} {xs : List α} {cs : List Value} (hn : xs.length = n) (hp : Hp N w0 S w L) (hL : L[q]? = some (G, .row e cs (c * K.size) 0)) (hsz : 0 < K.size) (he : Els K S w cs xs)
  (hx : Act.eval ⟨fr, ds⟩ x = .slice (Gp G) n c) (ht : elemB P t = some e) (hs : sizeB P e = some K.size) (hlo : Bnd (Act.eval ⟨fr, ds⟩) lo j1 0) (hhi : Bnd (Act.eval ⟨fr, ds⟩) hi j2 n)
  (h0 : 0 ≤ j1) (h1 : j1 ≤ j2) (h2 : j2 ≤ (n : Int)) (w1 : World) :
  (execOp (Act.eval ⟨fr, ds⟩) (mkO (.slice t x lo hi none) (some d) ty)).run P w1 = .ok (.value (.slice (winA G j1.toNat c K.size) (j2.toNat - j1.toNat) (c - j1.toNat))) w1 := by
 subst hn
 obtain ⟨l, rfl⟩ := Int.eq_ofNat_of_zero_le h0
 obtain ⟨m, rfl⟩ := Int.eq_ofNat_of_zero_le (show 0 ≤ j2 by omega)
 have hc := row_fit hsz (hp.mem q hL) he
 have hrun := run_sliceAt (P := P) (A := Gp G) (n := xs.length) (c := c) (l := l) (m := m) w1 ht hs hlo hhi (by omega) (by omega)
 simp [execOp, mkO, hx, hrun, winA]
theorem Op_.slV (t : TypeId) (x : Operand) (lo hi : Option Operand) (d : Tmp) (ty e : TypeId) (j1 j2 : Int) (q : Nat) {G : Option Nat} {n c : Nat} {xs : List α} {cs : List Value} (hn : xs.length = n) (hp : Hp N w0 S w L) (hL : L[q]? = some (G, .row e cs (c * K.size) 0)) (hsz : 0 < K.size) (he : Els K S w cs xs)
  (h : VStep P (.slice t x lo hi none) d ty fr ds w X Y) (hx : Act.eval ⟨fr, ds⟩ x = .slice (Gp G) n c) (ht : elemB P t = some e) (hs : sizeB P e = some K.size) (hlo : Bnd (Act.eval ⟨fr, ds⟩) lo j1 0) (hhi : Bnd (Act.eval ⟨fr, ds⟩) hi j2 n)
  (h0 : 0 ≤ j1) (h1 : j1 ≤ j2) (h2 : j2 ≤ (n : Int))
  (g : Y (upd fr [(d, .slice (winA G j1.toNat c K.size) (j2.toNat - j1.toNat) (c - j1.toNat))]) w) : X :=
 h _ _ (slV_run hn hp hL hsz he hx ht hs hlo hhi h0 h1 h2 w) g
theorem AnyG.slV {b : Frame} {k : List Item} {D : List Frame → Machine → Prop} {ops : Array Oper} {i : Nat} {F : World → Prop} {s : List Nat} {fuel : Nat} {listed : Array Bool} (t : TypeId) (x : Operand) (lo hi : Option Operand) (d : Tmp) (ty e : TypeId) (j1 j2 : Int) (q : Nat) {G : Option Nat} {n c : Nat} {xs : List α} {cs : List Value} (hn : xs.length = n) (hp : Hp N w0 S w L) (hL : L[q]? = some (G, .row e cs (c * K.size) 0)) (hsz : 0 < K.size) (he : Els K S w cs xs)
  (h : opAtW ops i fr = some (.slice t x lo hi none, some d, ty)) (htk : takeB .any ops listed s i = true) (hF : F w) (hx : Act.eval ⟨fr, ds⟩ x = .slice (Gp G) n c) (ht : elemB P t = some e) (hs : sizeB P e = some K.size) (hlo : Bnd (Act.eval ⟨fr, ds⟩) lo j1 0) (hhi : Bnd (Act.eval ⟨fr, ds⟩) hi j2 n)
  (h0 : 0 ≤ j1) (h1 : j1 ≤ j2) (h2 : j2 ≤ (n : Int))
  (g : AnyG P b k D ops F s fuel (listed.setIfInBounds i true) ⟨upd fr [(d, .slice (winA G j1.toNat c K.size) (j2.toNat - j1.toNat) (c - j1.toNat))], ds⟩ w) : AnyG P b k D ops F s (fuel + 1) listed ⟨fr, ds⟩ w :=
 .val _ _ _ _ h htk (fun w' _ => slV_run hn hp hL hsz he hx ht hs hlo hhi h0 h1 h2 w') hF g
theorem slP_run {t : TypeId} {x : Operand} {hi : Option Operand} {d : Tmp} {ty e : TypeId} {j2 : Int} {q : Nat} {G : Option Nat} {n c : Nat} {xs : List α} {cs : List Value} (hn : xs.length = n) (hp : Hp N w0 S w L) (hL : L[q]? = some (G, .row e cs (c * K.size) 0)) (hsz : 0 < K.size) (he : Els K S w cs xs)
  (hx : Act.eval ⟨fr, ds⟩ x = .slice (Gp G) n c) (ht : elemB P t = some e) (hs : sizeB P e = some K.size) (hhi : Bnd (Act.eval ⟨fr, ds⟩) hi j2 n) (h0 : 0 ≤ j2) (h2 : j2 ≤ (n : Int)) (w1 : World) :
  (execOp (Act.eval ⟨fr, ds⟩) (mkO (.slice t x none hi none) (some d) ty)).run P w1 = .ok (.value (.slice (Gp G) j2.toNat c)) w1 := by
 have := slV_run (d := d) (ty := ty) hn hp hL hsz he hx ht hs Bnd.no hhi (Int.le_refl 0) h0 h2 w1
 rw [show (0 : Int).toNat = 0 from rfl, winA_zero, Nat.sub_zero, Nat.sub_zero] at this
 exact this
theorem Op_.slP (t : TypeId) (x : Operand) (hi : Option Operand) (d : Tmp) (ty e : TypeId) (j2 : Int) (q : Nat) {G : Option Nat} {n c : Nat} {xs : List α} {cs : List Value} (hn : xs.length = n) (hp : Hp N w0 S w L) (hL : L[q]? = some (G, .row e cs (c * K.size) 0)) (hsz : 0 < K.size) (he : Els K S w cs xs)
  (h : VStep P (.slice t x none hi none) d ty fr ds w X Y) (hx : Act.eval ⟨fr, ds⟩ x = .slice (Gp G) n c) (ht : elemB P t = some e) (hs : sizeB P e = some K.size) (hhi : Bnd (Act.eval ⟨fr, ds⟩) hi j2 n) (h0 : 0 ≤ j2) (h2 : j2 ≤ (n : Int))
  (g : Y (upd fr [(d, .slice (Gp G) j2.toNat c)]) w) : X :=
 h _ _ (slP_run hn hp hL hsz he hx ht hs hhi h0 h2 w) g
theorem AnyG.slP {b : Frame} {k : List Item} {D : List Frame → Machine → Prop} {ops : Array Oper} {i : Nat} {F : World → Prop} {s : List Nat} {fuel : Nat} {listed : Array Bool} (t : TypeId) (x : Operand) (hi : Option Operand) (d : Tmp) (ty e : TypeId) (j2 : Int) (q : Nat) {G : Option Nat} {n c : Nat} {xs : List α} {cs : List Value} (hn : xs.length = n) (hp : Hp N w0 S w L) (hL : L[q]? = some (G, .row e cs (c * K.size) 0)) (hsz : 0 < K.size) (he : Els K S w cs xs)
  (h : opAtW ops i fr = some (.slice t x none hi none, some d, ty)) (htk : takeB .any ops listed s i = true) (hF : F w) (hx : Act.eval ⟨fr, ds⟩ x = .slice (Gp G) n c) (ht : elemB P t = some e) (hs : sizeB P e = some K.size) (hhi : Bnd (Act.eval ⟨fr, ds⟩) hi j2 n) (h0 : 0 ≤ j2) (h2 : j2 ≤ (n : Int))
  (g : AnyG P b k D ops F s fuel (listed.setIfInBounds i true) ⟨upd fr [(d, .slice (Gp G) j2.toNat c)], ds⟩ w) : AnyG P b k D ops F s (fuel + 1) listed ⟨fr, ds⟩ w :=
 .val _ _ _ _ h htk (fun w' _ => slP_run hn hp hL hsz he hx ht hs hhi h0 h2 w') hF g
theorem Op_.slN (t : TypeId) (x : Operand) (lo hi : Option Operand) (d : Tmp) (ty e : TypeId) {sz : Nat} (h : VStep P (.slice t x lo hi none) d ty fr ds w X Y) (hx : Act.eval ⟨fr, ds⟩ x = .slice none 0 0) (ht : elemB P t = some e) (hs : sizeB P e = some sz)
  (hlo : Bnd (Act.eval ⟨fr, ds⟩) lo 0 0) (hhi : Bnd (Act.eval ⟨fr, ds⟩) hi 0 (0 : Nat)) (g : Y (upd fr [(d, .slice none 0 0)]) w) : X := by
 refine h _ _ ?_ g
 have hrun := run_sliceAt (P := P) (A := none) (n := 0) (c := 0) (l := 0) (m := 0) w ht hs hlo hhi (by omega) (by omega)
 simp [execOp, mkO, hx, hrun]
theorem src_win (hp : Hp N w0 S w L) {q : Nat} {G : Option Nat} {e : TypeId} {cs : List Value} {c l m : Nat} {xs : List α} (hL : L[q]? = some (G, .row e cs (c * K.size) 0)) (hsz : 0 < K.size) (he : Els K S w cs xs) (h1 : l ≤ m) (h2 : m ≤ xs.length) :
  ∃ news, Els K S w news ((xs.take m).drop l) ∧ (news ≠ [] → ∃ a, winA G l c K.size = some a ∧ ∀ j u, news[j]? = some u → w.cell? (a.add j) = some u) := by
 have hfit := row_fit hsz (hp.mem q hL) he
 refine ⟨(cs.take (m * K.size)).drop (l * K.size), (he.take m).drop l, fun hne => ?_⟩
 have hso := src_own hp hL
 have hlen := he.length
 have hlt : l < m := by
  rcases Nat.lt_or_ge l m with h | h
  ·exact h
  ·exfalso; apply hne
   have : l = m := by omega
   subst this
   apply List.drop_eq_nil_of_le
   rw [List.length_take]; omega
 have hcl : ¬ c = l := by omega
 have hcs : cs ≠ [] := by
  intro h
  rw [h] at hne
  simp at hne
 obtain ⟨a, ha, hcell⟩ := hso hcs
 cases G with
 | none => cases ha
 | some g =>
  have ha' : a = ⟨g, 0, none⟩ := by simpa [Gp] using ha.symm
  subst ha'
  refine ⟨⟨g, l * K.size, none⟩, ?_, fun j u hj => ?_⟩
  ·unfold winA
   rw [if_neg hcl]
   have hadd : Addr.add ⟨g, 0, none⟩ (l * K.size) = ⟨g, l * K.size, none⟩ := by unfold Addr.add; split <;> simp_all
   exact congrArg some hadd
  ·rw [List.getElem?_drop, List.getElem?_take] at hj
   split at hj
   ·have := hcell (l * K.size + j) u hj
    have e1 : Addr.add ⟨g, 0, none⟩ (l * K.size + j) = Addr.add ⟨g, l * K.size, none⟩ j := by
     unfold Addr.add
     split <;> split <;> simp_all
    rw [← e1]; exact this
   ·cases hj
theorem src_winI (hp : Hp N w0 S w L) {q : Nat} {G : Option Nat} {e : TypeId} {cs : List Value} {c n : Nat} {j1 j2 : Int} {xs : List α} (hn : xs.length = n) (hL : L[q]? = some (G, .row e cs (c * K.size) 0)) (hsz : 0 < K.size) (he : Els K S w cs xs) (h0 : 0 ≤ j1) (h1 : j1 ≤ j2) (h2 : j2 ≤ (n : Int)) :
  ∃ news, Els K S w news (sl xs j1 j2) ∧ (news ≠ [] → ∃ a, winA G j1.toNat c K.size = some a ∧ ∀ j u, news[j]? = some u → w.cell? (a.add j) = some u) ∧ (sl xs j1 j2).length = j2.toNat - j1.toNat := by
 obtain ⟨news, a, b⟩ := src_win hp hL hsz he (l := j1.toNat) (m := j2.toNat) (by omega) (by omega)
 exact ⟨news, a, b, by simp only [sl, List.length_drop, List.length_take]; omega⟩
theorem Op_.cpV (t1 t2 : TypeId) (x y : Operand) (d : Tmp) (ty e : TypeId) (q l dl dc : Nat) (ys zs : List α) (m : Nat) (XA : Option Addr) (mc : Nat) {G : Option Nat} {n c : Nat} {cs news : List Value} {xs : List α} (hn : xs.length = n) (hm : ys.length = m) (hz : cpy xs l dl ys = zs) (hp : Hp N w0 S w L) (hL : L[q]? = some (G, .row e cs (c * K.size) 0)) (he : Els K S w cs xs)
  (h : VStep P (.call { callee := .builtin .copy, args := #[x, y], argTypes := #[t1, t2] }) d ty fr ds w X Y) (hx : Act.eval ⟨fr, ds⟩ x = .slice (winA G l c K.size) dl dc) (hy : Act.eval ⟨fr, ds⟩ y = .slice XA m mc)
  (ht : elemB P t1 = some e) (hs : sizeB P e = some K.size) (hsz : 0 < K.size) (hfit : l + dl ≤ n) (hnw : Els K S w news ys) (hsrc : news ≠ [] → ∃ a, XA = some a ∧ ∀ j u, news[j]? = some u → w.cell? (a.add j) = some u)
  (g' : ∀ w' cs', Ext S w S w' → Hp N w0 S w' (L.set q (G, .row e cs' (c * K.size) 0)) → Els K S w' cs' zs → Y (upd fr [(d, .int .i64 ((min m dl : Nat) : Int))]) w') : X := by
 subst hn hm hz
 have hu := elemB_spec ht
 have hc := row_fit hsz (hp.mem q hL) he
 by_cases h0 : Nat.min ys.length dl = 0
 ·have key := run_copy0 (P := P) w t1 t2 ty e K.size (winA G l c K.size) XA dl dc ys.length mc hu hs h0
  have e0 : cpy xs l dl ys = xs := by
   have : ys.take dl = [] := by
    apply List.eq_nil_of_length_eq_zero
    rw [List.length_take, Nat.min_comm]; exact h0
   have h0' : min ys.length dl = 0 := h0
   simp only [cpy, this, h0', List.nil_append, Nat.add_zero, List.take_append_drop]
  have hset : L.set q (G, .row e cs (c * K.size) 0) = L := by
   apply List.ext_getElem?
   intro i
   rw [List.getElem?_set]
   split
   ·rename_i hqi
    subst hqi
    split
    ·exact hL.symm
    ·rename_i hlt
     rw [List.getElem?_eq_none (by omega)]
   ·rfl
  refine h _ _ ?_ (g' w cs (Ext.refl _ _) (by rw [hset]; exact hp) (by rw [e0]; exact he))
  have h0' : min ys.length dl = 0 := h0
  simp [execOp, mkO, resolve, invoke, builtin, hx, hy, key, goInt, h0']
 ·have hk : 0 < Nat.min ys.length dl := Nat.pos_of_ne_zero h0
  have hdl : 0 < dl := Nat.lt_of_lt_of_le hk (Nat.min_le_right _ _)
  have hyl : 0 < ys.length := Nat.lt_of_lt_of_le hk (Nat.min_le_left _ _)
  have hcl : ¬ c = l := by omega
  have hnl := hnw.length
  have hcsl := he.length
  have hne : news ≠ [] := by
   intro h'
   rw [h'] at hnl
   have : ys.length * K.size = 0 := by simpa using hnl.symm
   rcases Nat.mul_eq_zero.1 this with h | h <;> omega
  obtain ⟨a, rfl, hcell⟩ := hsrc hne
  cases G with
  | none =>
   have := (hp.mem q hL).1
   rw [this] at hcsl
   have : xs.length * K.size = 0 := by simpa using hcsl.symm
   rcases Nat.mul_eq_zero.1 this with h | h <;> omega
  | some g =>
   obtain ⟨cur, hh, hcs, htk, hlc, hf, hkz⟩ := hp.mem q hL
   have hwin : winA (some g) l c K.size = some ⟨g, l * K.size, none⟩ := by
    unfold winA
    rw [if_neg hcl]
    have hadd : Addr.add ⟨g, 0, none⟩ (l * K.size) = ⟨g, l * K.size, none⟩ := by unfold Addr.add; split <;> simp_all
    exact congrArg some hadd
   rw [hwin] at hx
   have hmin : (news.take (dl * K.size)).length = Nat.min ys.length dl * K.size := by
    rw [List.length_take, hnl, Nat.min_comm]
    show min (ys.length * K.size) (dl * K.size) = min ys.length dl * K.size
    rcases Nat.le_total ys.length dl with h | h
    ·rw [Nat.min_eq_left h, Nat.min_eq_left (Nat.mul_le_mul_right _ h)]
    ·rw [Nat.min_eq_right h, Nat.min_eq_right (Nat.mul_le_mul_right _ h)]
   have hfit2 : (l + dl) * K.size ≤ xs.length * K.size := Nat.mul_le_mul_right _ hfit
   rw [Nat.add_mul] at hfit2
   have hmd : Nat.min ys.length dl * K.size ≤ dl * K.size := Nat.mul_le_mul_right _ (Nat.min_le_right _ _)
   have hcz : cur.size = c * K.size := hcs
   have key := run_copyN (P := P) w t1 t2 ty e K.size g (l * K.size) dl dc a ys.length mc cur e (news.take (dl * K.size)) hu hs hh hmin
    (fun j v hj => hcell j v (by rw [List.getElem?_take] at hj; split at hj; exact hj; cases hj)) (by rw [hmin, hcz]; omega) (fun v hv => hnw.one v (List.mem_of_mem_take hv))
   have hE0 : ∀ w', Ext S w S w' → Els K S w' (cs.take (l * K.size) ++ (news.take (dl * K.size) ++ cs.drop (l * K.size + (news.take (dl * K.size)).length))) (cpy xs l dl ys) := by
    intro w' hx'
    have a1 := he.take l
    have a2 := hnw.take dl
    have a3 := he.drop (l + min ys.length dl)
    unfold cpy
    rw [hmin]
    rw [Nat.add_mul] at a3
    exact (a1.ext hx').append ((a2.ext hx').append (a3.ext hx'))
   have hlen : (cs.take (l * K.size) ++ (news.take (dl * K.size) ++ cs.drop (l * K.size + (news.take (dl * K.size)).length))).length = cs.length := by
    simp only [List.length_append, List.length_drop, hmin]
    rw [List.length_take]
    omega
   have hx' : Ext S w S (w.setRow g (cur.toList.take (l * K.size) ++ news.take (dl * K.size) ++ cur.toList.drop (l * K.size + (news.take (dl * K.size)).length)).toArray) := by
    refine ⟨fun _ => Nat.le_refl _, fun b i v hi hv => ?_, fun _ => List.prefix_refl _⟩
    by_cases hb : b = g
    ·subst hb; omega
    ·have : (w.setRow g (cur.toList.take (l * K.size) ++ news.take (dl * K.size) ++ cur.toList.drop (l * K.size + (news.take (dl * K.size)).length)).toArray).heap[b]? = w.heap[b]? := setRow_other w g b _ hb
     simp only [World.cell?, this]
     exact hv
   have hp' : Hp N w0 S (w.setRow g (cur.toList.take (l * K.size) ++ news.take (dl * K.size) ++ cur.toList.drop (l * K.size + (news.take (dl * K.size)).length)).toArray) (L.set q (some g, .row e (cs.take (l * K.size) ++ (news.take (dl * K.size) ++ cs.drop (l * K.size + (news.take (dl * K.size)).length))) (c * K.size) 0)) := by
    refine Hp.back hL ((hp.front q _ hL).write _ rfl rfl rfl (by simp [World.setRow]) (fun b hb => setRow_other w g b _ hb) (fun _ _ => rfl) ?_)
    have hcur : cs.length ≤ cur.toList.length := by have := Array.length_toList (xs := cur); omega
    refine ⟨_, setRow_heap w g cur _ e _ hh, ?_, ?_, by rw [hlen]; exact hlc, hf, Nat.zero_le _⟩
    ·simp only [List.size_toArray, List.length_append, List.length_drop, hmin, Array.length_toList] at hcur ⊢
     rw [List.length_take, Array.length_toList]
     omega
    ·rw [hlen]
     have e1 : cs.take (l * K.size) = cur.toList.take (l * K.size) := by
      conv => lhs; rw [← htk, List.take_take, Nat.min_eq_left (by omega)]
     have e2 : cs.drop (l * K.size + (news.take (dl * K.size)).length) = (cur.toList.drop (l * K.size + (news.take (dl * K.size)).length)).take (cs.length - (l * K.size + (news.take (dl * K.size)).length)) := by
      conv => lhs; rw [← htk, List.drop_take]
     have hlo : (cur.toList.take (l * K.size)).length = l * K.size := by rw [List.length_take]; omega
     rw [e1, e2, take3 _ _ _ _ (by rw [hlo, hmin]; omega), hlo]
   refine h _ _ ?_ (g' _ _ hx' hp' (hE0 _ hx'))
   simp [execOp, mkO, resolve, invoke, builtin, hx, hy, key, goInt]
theorem Op_.cpO (t1 t2 : TypeId) (x y : Operand) (d : Tmp) (ty e : TypeId) (q : Nat) (ys zs : List α) (m : Nat) (XA : Option Addr) (mc : Nat) {G : Option Nat} {n c : Nat} {cs news : List Value} {xs : List α} (hn : xs.length = n) (hm : ys.length = m) (hz : cpy xs 0 n ys = zs) (hp : Hp N w0 S w L) (hL : L[q]? = some (G, .row e cs (c * K.size) 0)) (he : Els K S w cs xs)
  (h : VStep P (.call { callee := .builtin .copy, args := #[x, y], argTypes := #[t1, t2] }) d ty fr ds w X Y) (hx : Act.eval ⟨fr, ds⟩ x = .slice (Gp G) n c) (hy : Act.eval ⟨fr, ds⟩ y = .slice XA m mc)
  (ht : elemB P t1 = some e) (hs : sizeB P e = some K.size) (hsz : 0 < K.size) (hnw : Els K S w news ys) (hsrc : news ≠ [] → ∃ a, XA = some a ∧ ∀ j u, news[j]? = some u → w.cell? (a.add j) = some u)
  (g' : ∀ w' cs', Ext S w S w' → Hp N w0 S w' (L.set q (G, .row e cs' (c * K.size) 0)) → Els K S w' cs' zs → Y (upd fr [(d, .int .i64 ((min m n : Nat) : Int))]) w') : X :=
 Op_.cpV t1 t2 x y d ty e q 0 n c ys zs m XA mc hn hm hz hp hL he h (by rw [winA_zero]; exact hx) hy ht hs hsz (by omega) hnw hsrc g'
end
end Go.Gx
