/-
 The rules of elements, cuts, appends, makes, ranges over functions. Generic: names no program.
-/
import Derived.Test.YtbclkjbkebebeaaGreatG2
namespace Go.Gx
open Go.RowKit
theorem gi_at {α : Type} [Inhabited α] (xs : List α) {j : Int} (h : j.toNat < xs.length) : gi xs j = xs[j.toNat] := by
 unfold gi; simp [List.getD_eq_getElem?_getD, h]
def Gp (G : Option Nat) : Option Addr := G.map fun b => ⟨b, 0, none⟩
section
variable {P : Program} {X : Prop} {Y : Array Value → World → Prop} {b : Frame} {k : List Item} {w : World} {D : List Frame → Machine → Prop} {ops : Array Oper} {i : Nat} {rest : List Nat} {fr : Array Value} {ds : List Deferred}
variable {N : Nat} {w0 : World} {S : Fz} {L : List Ent} {α : Type} {K : Kd α}
theorem elemB_spec {t e : TypeId} (h : elemB P t = some e) : P.underlying t = some (.slice e) := by
 unfold elemB at h
 split at h
 ·rename_i hu; cases h; exact hu
 ·cases h
def infoB (P : Program) (t : TypeId) : Option (Option Value × Nat × Nat) := (P.info? t).map fun i => (i.zero, i.size, i.bytes)
theorem infoB_spec {t : TypeId} {z : Value} {n m : Nat} (h : infoB P t = some (some z, n, m)) : ∃ i, P.info? t = some i ∧ i.zero = some z ∧ i.size = n ∧ i.bytes = m := by
 obtain ⟨i, hi, e⟩ := Option.map_eq_some_iff.1 h
 simp only [Prod.mk.injEq] at e
 exact ⟨i, hi, e.1, e.2.1, e.2.2⟩
theorem run_indexAt {t e : TypeId} {sz : Nat} {a : Addr} {n c : Nat} {kk : IntKind} {j : Int} (w : World) (ht : elemB P t = some e) (hs : sizeB P e = some sz) (h0 : 0 ≤ j) (h1 : j < n) :
  (Instr.indexAt t (.slice (some a) n c) (.int kk j)).run P w = .ok (.pointer (some (a.add (j.toNat * sz)))) w := by
 have hu := elemB_spec ht
 simp [Instr.indexAt, asIntOf, run_underlying' w hu, h0, h1, run_sizeOf w hs]
theorem Op_.ixR [Inhabited α] (t : TypeId) (x ix : Operand) (d : Tmp) (ty : TypeId) (e : TypeId) (kk : IntKind) (j : Int) {A : Option Addr} {c : Nat} {xs : List α} (hr : Rd K S w A c xs) (h : VStep P (.indexAddr t x ix) d ty fr ds w X Y)
  (hx : Act.eval ⟨fr, ds⟩ x = .slice A xs.length c) (hj : Act.eval ⟨fr, ds⟩ ix = .int kk j) (ht : elemB P t = some e) (hs : sizeB P e = some K.size) (h0 : 0 ≤ j) (h1 : j < xs.length)
  (g : ∀ ad vs, Cs S w ad vs → K.rep S w vs (gi xs j) → Y (upd fr [(d, .pointer (some ad))]) w) : X := by
 have hlt : j.toNat < xs.length := by omega
 cases A with
 | none => have := hr.1; have := hr.2.1 rfl; omega
 | some a =>
  obtain ⟨cs, he, hc⟩ := hr.2.2 a rfl
  obtain ⟨us, vs, ws, e1, hl, hv⟩ := he.at_ j.toNat hlt
  rw [e1] at hc
  have hcc := (Cs.add hc).left
  rw [hl] at hcc
  refine h _ _ ?_ (g _ vs hcc (by rw [gi_at xs hlt]; exact hv))
  simp [execOp, mkO, hx, hj, run_indexAt w ht hs h0 h1]
theorem Op_.ixO [Inhabited α] (t : TypeId) (x ix : Operand) (d : Tmp) (ty : TypeId) (e : TypeId) (kk : IntKind) (j : Int) (m : Nat) (c : Nat) {G : Option Nat} {cap kz : Nat} {xs : List α} {cs : List Value} (hp : Hp N w0 S w L)
  (hL : L[m]? = some (G, .row e cs cap kz)) (he : Els K S w cs xs) (h : VStep P (.indexAddr t x ix) d ty fr ds w X Y)
  (hx : Act.eval ⟨fr, ds⟩ x = .slice (Gp G) xs.length c) (hj : Act.eval ⟨fr, ds⟩ ix = .int kk j) (ht : elemB P t = some e) (hs : sizeB P e = some K.size) (hsz : 0 < K.size) (h0 : 0 ≤ j) (h1 : j < xs.length)
  (g : ∀ bl vs, G = some bl → K.rep S w vs (gi xs j) → (∀ q v, vs[q]? = some v → w.cell? (Addr.add ⟨bl, j.toNat * K.size, none⟩ q) = some v) →
   Y (upd fr [(d, .pointer (some ⟨bl, j.toNat * K.size, none⟩))]) w) : X := by
 have hlt : j.toNat < xs.length := by omega
 have hat := hp.mem m hL
 cases G with
 | none =>
  exfalso
  have h2 := he.length
  rw [hat.1] at h2
  have : 0 < xs.length * K.size := Nat.mul_pos (by omega) hsz
  simp at h2
  omega
 | some bl =>
  obtain ⟨us, vs, ws, e1, hl, hv⟩ := he.at_ j.toNat hlt
  refine h _ _ ?_ (g bl vs rfl (by rw [gi_at xs hlt]; exact hv) ?_)
  ·simp only [Gp, Option.map_some] at hx
   simp only [execOp, mkO, hx, hj, run_indexAt w ht hs h0 h1, Sem.run_bind, Result.andThen_ok, Sem.run_pure]
   congr 4
   unfold Addr.add
   split <;> simp_all
  ·intro q v hq
   have hcell := hat.cell (j.toNat * K.size + q) v (by
    rw [e1, ← hl, List.getElem?_append_right (by omega), Nat.add_sub_cancel_left, List.getElem?_append_left (List.getElem?_eq_some_iff.1 hq).1]
    exact hq)
   have : Addr.add ⟨bl, j.toNat * K.size, none⟩ q = ⟨bl, j.toNat * K.size + q, none⟩ := by unfold Addr.add; split <;> simp_all
   rw [this]; exact hcell
theorem Op_.stE (t : TypeId) (x y : Operand) (ty : TypeId) (m : Nat) {e : TypeId} {g : Nat} {cap : Nat} {xs : List α} {cs : List Value} (j : Int) (u : Value) (us : List Value) (z : α) (hp : Hp N w0 S w L)
  {kz : Nat} (hL : L[m]? = some (some g, .row e cs cap kz)) (he : Els K S w cs xs) (h : SStep P (.store t x y) ty fr ds w X Y) (hx : Act.eval ⟨fr, ds⟩ x = .pointer (some ⟨g, j.toNat * K.size, none⟩)) (hy : Act.eval ⟨fr, ds⟩ y = u)
  (hu : u.cells = us.toArray) (hr : K.rep S w us z) (hs : sizeB P t = some K.size) (h1 : j.toNat < xs.length) (hkz : kz ≤ j.toNat * K.size)
  (gg : ∀ w' cs', Ext S w S w' → Hp N w0 S w' (L.set m (some g, .row e cs' cap kz)) → Els K S w' cs' (si xs j z) → Y fr w') :
  X := by
 have hl := he.length
 have hsz := K.len hr
 have hmul : (j.toNat + 1) * K.size ≤ xs.length * K.size := Nat.mul_le_mul_right _ (by omega)
 rw [Nat.succ_mul] at hmul
 refine Op_.st _ _ _ _ m g (j.toNat * K.size) u us hp hL h hx hy hu (by rw [hsz]; exact hs) hkz (by omega) (K.one hr) fun w' hx' hp' => gg w' _ hx' hp' ?_
 have := (he.set j.toNat h1 hr).ext hx'
 rw [hsz]
 rw [Nat.succ_mul] at this
 exact this
def Bnd (ρ : Operand → Value) (o : Option Operand) (j dflt : Int) : Prop := (o = none ∧ j = dflt) ∨ ∃ x kk, o = some x ∧ ρ x = .int kk j
theorem Bnd.no {ρ : Operand → Value} {j : Int} : Bnd ρ none j j := .inl ⟨rfl, rfl⟩
theorem Bnd.at_ {ρ : Operand → Value} {x : Operand} {j d : Int} (kk : IntKind) (h : ρ x = .int kk j) : Bnd ρ (some x) j d := .inr ⟨x, kk, rfl, h⟩
theorem run_sliceAt {t e : TypeId} {sz : Nat} {A : Option Addr} {n c l m : Nat} {ρ : Operand → Value} {lo hi : Option Operand} (w : World) (ht : elemB P t = some e) (hs : sizeB P e = some sz) (hlo : Bnd ρ lo l 0) (hhi : Bnd ρ hi m n)
  (h1 : l ≤ m) (h2 : m ≤ c) :
  (Instr.sliceAt t (.slice A n c) (lo.map ρ) (hi.map ρ) none).run P w = .ok (.slice (if c = l then A else A.map (·.add (l * sz))) (m - l) (c - l)) w := by
 have hu := elemB_spec ht
 have hl : ((l : Int) ≤ (m : Int)) := by omega
 have hm : ((m : Int) ≤ (c : Int)) := by omega
 rcases hlo with ⟨rfl, e0⟩ | ⟨x, kx, rfl, ex⟩ <;> rcases hhi with ⟨rfl, e1⟩ | ⟨y, ky, rfl, ey⟩
 ·have : l = 0 := by omega
  have : m = n := by omega
  subst l m
  simp [Instr.sliceAt, Instr.slice, Instr.sliceBounds, run_underlying' w hu, run_sizeOf w hs]
 ·have : l = 0 := by omega
  subst l
  simp [Instr.sliceAt, Instr.slice, Instr.sliceBounds, Instr.sliceBound, asIntOf, run_underlying' w hu, run_sizeOf w hs, ey, h2]
 ·have : m = n := by omega
  subst m
  simp [Instr.sliceAt, Instr.slice, Instr.sliceBounds, Instr.sliceBound, asIntOf, run_underlying' w hu, run_sizeOf w hs, ex, h1]
 ·simp [Instr.sliceAt, Instr.slice, Instr.sliceBounds, Instr.sliceBound, asIntOf, run_underlying' w hu, run_sizeOf w hs, ex, ey, h1, h2]
theorem Op_.slR (t : TypeId) (x : Operand) (lo hi : Option Operand) (d : Tmp) (ty : TypeId) (e : TypeId) (j1 j2 : Int) {A : Option Addr} {c : Nat} {xs : List α} (hr : Rd K S w A c xs) (h : VStep P (.slice t x lo hi none) d ty fr ds w X Y)
  (hx : Act.eval ⟨fr, ds⟩ x = .slice A xs.length c) (ht : elemB P t = some e) (hs : sizeB P e = some K.size) (hlo : Bnd (Act.eval ⟨fr, ds⟩) lo j1 0) (hhi : Bnd (Act.eval ⟨fr, ds⟩) hi j2 xs.length)
  (h0 : 0 ≤ j1) (h1 : j1 ≤ j2) (h2 : j2 ≤ xs.length)
  (g : ∀ A' c', Rd K S w A' c' (sl xs j1 j2) → Y (upd fr [(d, .slice A' (sl xs j1 j2).length c')]) w) : X := by
 obtain ⟨l, rfl⟩ := Int.eq_ofNat_of_zero_le h0
 obtain ⟨m, rfl⟩ := Int.eq_ofNat_of_zero_le (show 0 ≤ j2 by omega)
 have hc := hr.1
 have := g _ _ (hr.cut l m (by omega) (by omega))
 refine h _ _ ?_ this
 have hlen : ((xs.take m).drop l).length = m - l := by simp; omega
 have hrun := run_sliceAt (P := P) (A := A) (n := xs.length) (c := c) (l := l) (m := m) w ht hs hlo hhi (by omega) (by omega)
 simp [execOp, mkO, hx, hrun, sl, hlen]
theorem Op_.made (op : Op) (d : Tmp) (ty : TypeId) (vf : Nat → Value) (t : TypeId) (cs : List Value) (hp : Hp N w0 S w L) (h : VStep P (op) d ty fr ds w X Y)
  (hr : (execOp (Act.eval ⟨fr, ds⟩) (mkO op (some d) ty)).run P w = .ok (.value (vf w.heap.size)) (w.alloc (.cells cs.toArray t)))
  (g : ∀ bl w', Ext S w S w' → Hp N w0 S w' ((some bl, .row t cs cs.length 0) :: L) → Y (upd fr [(d, vf bl)]) w') :
  X :=
 h _ _ hr (g _ _ (Ext.alloc S w _) (hp.alloc t cs))
theorem Els.replicate {zs : List Value} {z : α} (h : K.rep S w zs z) : ∀ n, Els K S w (List.replicate n zs).flatten (List.replicate n z)
 | 0 => by simp; exact .nil
 | n + 1 => by simp only [List.replicate_succ, List.flatten_cons]; exact .cons h (Els.replicate h n)
theorem madeCells_flatten (zs : List Value) (n : Nat) : (madeCells zs.toArray (n * zs.length)).toList = (List.replicate n zs).flatten := by
 apply List.ext_getElem?
 intro j
 have hlen : (List.replicate n zs).flatten.length = n * zs.length := by simp
 by_cases hj : j < n * zs.length
 ·have hpos : 0 < zs.length := by
   rcases Nat.eq_zero_or_pos zs.length with h | h
   ·simp [h] at hj
   ·exact h
  have hq : j % zs.length < zs.length := Nat.mod_lt _ hpos
  have e1 : (madeCells zs.toArray (n * zs.length)).toList[j]? = some zs[j % zs.length] := by
   simp [madeCells, hj, hq]
  rw [e1]
  clear e1
  have key : ∀ (n j : Nat), j < n * zs.length → (List.replicate n zs).flatten[j]? = some (zs[j % zs.length]'(Nat.mod_lt _ hpos)) := by
   intro n
   induction n with
   | zero => intro j h; simp at h
   | succ n ih =>
    intro j h
    simp only [List.replicate_succ, List.flatten_cons]
    by_cases hjl : j < zs.length
    ·rw [List.getElem?_append_left hjl]
     simp [Nat.mod_eq_of_lt hjl, hjl]
    ·rw [List.getElem?_append_right (by omega), ih _ (by rw [Nat.succ_mul] at h; omega)]
     congr 1
     congr 1
     conv => rhs; rw [Nat.mod_eq_sub_mod (by omega)]
  exact (key n j hj).symm
 ·rw [List.getElem?_eq_none (by simp [madeCells]; omega), List.getElem?_eq_none (by rw [hlen]; omega)]
theorem Op_.mk (t : TypeId) (xl xc : Operand) (d : Tmp) (ty : TypeId) (e : TypeId) (kl kc : IntKind) (l c : Int) (zv : Value) (zs : List Value) (bytes : Nat) (z : α) (hp : Hp N w0 S w L) (h : VStep P (.makeSlice t xl xc) d ty fr ds w X Y)
  (hl : Act.eval ⟨fr, ds⟩ xl = .int kl l) (hc : Act.eval ⟨fr, ds⟩ xc = .int kc c) (ht : elemB P t = some e) (hinf : infoB P e = some (some zv, K.size, bytes)) (hzs : zv.cells = zs.toArray)
  (hk : ∀ w', K.rep S w' zs z) (h0 : 0 ≤ l) (h1 : l ≤ c) (hby : (bytes : Int) * c ≤ 140737488355328) (h63 : c ≤ 9223372036854775807)
  (g : ∀ bl w' cs, Ext S w S w' → Hp N w0 S w' ((some bl, .row e cs (c.toNat * K.size) 0) :: L) → Els K S w' cs (List.replicate l.toNat z) →
   Y (upd fr [(d, .slice (Gp (some bl)) (List.replicate l.toNat z).length c.toNat)]) w') :
  X := by
 have hu := elemB_spec ht
 obtain ⟨inf, hi, hz, hsz, rfl⟩ := infoB_spec hinf
 have hsl := K.len (hk w)
 have hr := run_make (P := P) w t e inf zv hu hi hz kl kc l c h0 h1 (by omega) h63
 rw [hzs, hsz] at hr
 refine h (.slice (some ⟨w.heap.size, 0, none⟩) l.toNat c.toNat) (w.alloc (.cells (madeCells zs.toArray (c.toNat * K.size)) e)) ?_ ?_
 ·simp only [execOp, mkO, hl, hc, Sem.run_bind, hr, Result.andThen_ok, Sem.run_pure]
 ·have hgo := g w.heap.size (w.alloc (.cells (madeCells zs.toArray (c.toNat * K.size)) e)) (List.replicate l.toNat zs).flatten (Ext.alloc S w _)
  have hcells := madeCells_flatten zs c.toNat
  rw [hsl] at hcells
  have hle : l.toNat ≤ c.toNat := by omega
  have htake : (List.replicate c.toNat zs).flatten.take (l.toNat * K.size) = (List.replicate l.toNat zs).flatten := by
   obtain ⟨q, hq⟩ : ∃ q, c.toNat = l.toNat + q := ⟨c.toNat - l.toNat, by omega⟩
   rw [hq, ← List.replicate_append_replicate, List.flatten_append]
   have : (List.replicate l.toNat zs).flatten.length = l.toNat * K.size := by simp [hsl]
   rw [← this, List.take_left]
  have := hgo (hp.alloc_ _ _ ⟨_, heap_new w _, by simp [size_madeCells], by
   rw [hcells]; simp only [List.length_flatten, List.map_replicate, List.sum_replicate_nat, hsl]; exact htake, by
   simp only [List.length_flatten, List.map_replicate, List.sum_replicate_nat, hsl]; exact Nat.mul_le_mul_right _ hle, by rw [hp.fz _ (Nat.le_refl _)]; exact Nat.le_refl _, Nat.zero_le _⟩) (Els.replicate (hk _) _)
  simpa [Gp] using this
end
end Go.Gx
