/-
  Zeros appended; arrays: cuts, copies, whole loads and stores; results in memory. Generic: names no program.
-/
import Derived.Test.YtbmbligkbbfpbaaG9
import Derived.Lib.AppendZerosOnto
namespace Go.Gx
open Go.RowKit

section
variable {P : Program} {X : Prop} {Y : Array Value → World → Prop} {w : World} {fr : Array Value} {ds : List Deferred}
variable {N : Nat} {w0 : World} {S : Fz} {L : List Ent} {α : Type} {K : Kd α}

theorem zeroCells_one (z : Value) (m : Nat) : (Builtin.zeroCells #[z] m).toList = List.replicate m z := by
  apply List.ext_getElem?
  intro i
  by_cases hi : i < m
  · simp [Builtin.zeroCells, hi, Nat.mod_one]
  · simp [Builtin.zeroCells, hi]
theorem append_zeros_own {e t tn ty : TypeId} {inf : TypeInfo} {zv : Value} {kn kq : IntKind} {c n m kz : Nat} {cs : List Value} {G : Option Nat} (hp : Hp N w0 S w L) (q : Nat) (hL : L[q]? = some (G, .row e cs (c * 1) kz))
    (ht : elemB P t = some e) (htn : intB P tn = some kn) (hi : P.info? e = some inf) (hz : inf.zero = some zv) (hzs : zv.cells = #[zv]) (hsz : inf.size = 1) (hn : cs.length = n)
    (h1 : zv.oneCell' = true) (hby : (n + m) * inf.bytes ≤ 140737488355328) (h63 : n + m ≤ 1099511627776) :
    ∃ w' G' c', (Builtin.append_ #[t, tn] ty #[.slice (Gp G) n c, .int kq m]).run P w = .ok (.slice (Gp G') (n + m) c') w' ∧ Ext S w S w' ∧ Hp N w0 S w' (L.set q (G', .row e (cs ++ List.replicate m zv) (c' * 1) kz)) := by
  have hu := elemB_spec ht
  have hun := intB_spec htn
  have hat := hp.mem q hL
  have hw : IntKind.i64.wrap (m : Int) = m := by rw [IntKind.wrap_i64]; omega
  have hneg : ¬ ((m : Int) < 0) := by omega
  have hw0 : IntKind.i64.wrap 0 = 0 := rfl
  have h48 : m * inf.bytes ≤ 281474976710656 := by
    have := Nat.mul_le_mul_right inf.bytes (show m ≤ n + m by omega)
    omega
  have h48i : ¬ (281474976710656 < (m : Int) * (inf.bytes : Int)) := by
    rw [← Int.natCast_mul]
    omega
  by_cases hroom : n + m ≤ c
  · cases G with
    | none =>
      obtain ⟨hcs, hc0, hkz⟩ := hat
      have hm0 : m = 0 := by omega
      subst hm0
      refine ⟨w, none, c, ?_, Ext.refl _ _, ?_⟩
      · simp [Builtin.append_, run_underlying hu, run_underlying hun, sizeOf, typeInfo, hi, asInt, asIntOf, hw0, Gp, show n ≤ c by omega]
      · obtain ⟨hlt, he⟩ := List.getElem?_eq_some_iff.1 hL
        simp only [List.replicate_zero, List.append_nil]
        rw [← he, List.set_getElem_self hlt]; exact hp
    | some g =>
      obtain ⟨cur, hh, hs, htk, hl, hf, hk⟩ := hat
      have hfit : cs.length + (List.replicate m zv).length ≤ c * 1 := by simp; omega
      obtain ⟨hx, hp'⟩ := setRow_hp (hp.front q _ hL) hh hs htk hf hk hfit (cur.toList.take cs.length ++ List.replicate m zv ++ cur.toList.drop (cs.length + (List.replicate m zv).length)).toArray rfl
      refine ⟨_, some g, c, ?_, hx, hp'.back hL⟩
      have hst := run_storeCells_at P g n e (List.replicate m zv) 0 cur w hh (by simp [hs]; omega) (by intro v hv; rw [(List.mem_replicate.1 hv).2]; exact h1)
      simp only [Nat.add_zero] at hst
      have hadd : Addr.add ⟨g, 0, none⟩ n = ⟨g, n, none⟩ := by unfold Addr.add; split <;> simp_all
      by_cases hm0 : m = 0
      · subst hm0
        have hst0 : storeCells (⟨g, n, none⟩ : Addr) [] 0 = pure () := rfl
        simp only [List.replicate_zero] at hst
        simp [Builtin.append_, run_underlying hu, run_underlying hun, sizeOf, typeInfo, hi, hsz, asInt, asIntOf, hw0, Gp, show n ≤ c by omega, hadd, hst, hn]
      · simp [Builtin.append_, run_underlying hu, run_underlying hun, sizeOf, typeInfo, hi, hsz, asInt, asIntOf, hw, hneg, h48i, Gp, hroom, hm0, zeroValue, hz, hzs, zeroCells_one, hadd, hst, hn]
  · have hm0 : 0 < m := by
      rcases Nat.eq_zero_or_pos m with h | h
      · subst h
        exfalso
        cases G with
        | none => have := hat.1; subst this; simp at hn; omega
        | some g => obtain ⟨_, _, _, _, hl, _, _⟩ := hat; omega
      · exact h
    have hold : (Builtin.firstCells inf.size n (.slice (Gp G) n c)).run P w.drew = .ok cs.toArray w.drew := by
      cases G with
      | none => have := hat.1; subst this; simp at hn; subst hn; rfl
      | some g =>
        refine run_firstCells_some (P := P) w.drew inf.size n ⟨g, 0, none⟩ n c cs (by rw [hsz]; omega) fun j u hj => ?_
        have := hat.cell j u hj
        have e1 : Addr.add ⟨g, 0, none⟩ j = ⟨g, j, none⟩ := by unfold Addr.add; split <;> simp_all
        rw [e1]; exact this
    have hr := Lib.run_append_grow_zeros (P := P) w t tn ty e inf zv kq kn hu hun hi hz (Gp G) n c cs hold m hm0 (by omega) (by omega) (by omega) h48 (growslice_fits (by omega) hby)
    refine ⟨_, some w.heap.size, _, hr, Ext.draw.trans (Ext.alloc _ _ _), ?_⟩
    refine Hp.back hL ?_
    have hkz : kz ≤ cs.length := by
      cases G with
      | none => have := hat.2.2; omega
      | some g => obtain ⟨_, _, _, _, _, _, hk⟩ := hat; exact hk
    have hfr := (hp.front q _ hL).drop.draw
    have hcap := grownCap_ge w (n + m) c e
    refine hfr.alloc_ (.cells (cs.toArray ++ Builtin.zeroCells zv.cells m ++ Builtin.zeroCells zv.cells (grownCap w (n + m) c e - (n + m))) e) (.row e (cs ++ List.replicate m zv) (grownCap w (n + m) c e * 1) kz) ⟨_, heap_new _ _, ?_, ?_, ?_, ?_, by simp; omega⟩
    · simp only [Array.size_append, List.size_toArray, size_zeroCells, hzs, hn]; simp; omega
    · rw [Array.toList_append, List.take_append_of_le_length (by simp [size_zeroCells, hzs])]
      rw [Array.toList_append, hzs, zeroCells_one]
      simp
      exact List.take_of_length_le (by simp)
    · simp; omega
    · rw [hfr.fz _ (Nat.le_refl _)]; exact Nat.zero_le _
/-- append(l, make([]T, m)...): l a row of one's own whose elements are one cell each. -/
theorem Op_.apz (t tn : TypeId) (x y : Operand) (d : Tmp) (ty : TypeId) (e : TypeId) (q : Nat) (zv : Value) (bytes : Nat) (c : Nat) (xs : List α) (z : α) (kn kq : IntKind) (m : Int) {kz : Nat} {cs : List Value} {G : Option Nat} (hp : Hp N w0 S w L)
    (hL : L[q]? = some (G, .row e cs (c * K.size) kz)) (he : Els K S w cs xs) (h : VStep P (.call { callee := .builtin .append, args := #[x, y], argTypes := #[t, tn] }) d ty fr ds w X Y)
    (hx : Act.eval ⟨fr, ds⟩ x = .slice (Gp G) xs.length c) (hy : Act.eval ⟨fr, ds⟩ y = .int kq m) (ht : elemB P t = some e) (htn : intB P tn = some kn) (hinf : infoB P e = some (some zv, 1, bytes)) (hzs : zv.cells = #[zv]) (h1 : zv.oneCell' = true) (hK : K.size = 1)
    (hz : ∀ S w, K.rep S w [zv] z) (h0 : 0 ≤ m) (hby : ((xs.length : Int) + m) * bytes ≤ 140737488355328) (h63 : (xs.length : Int) + m ≤ 1099511627776)
    (g : ∀ w' G' c' cs', Ext S w S w' → Hp N w0 S w' (L.set q (G', .row e cs' (c' * K.size) kz)) → Els K S w' cs' (xs ++ List.replicate m.toNat z) → Y (upd fr [(d, .slice (Gp G') (xs ++ List.replicate m.toNat z).length c')]) w') :
    X := by
  obtain ⟨inf, hi, hz', hsz, rfl⟩ := infoB_spec hinf
  obtain ⟨m, rfl⟩ := Int.eq_ofNat_of_zero_le h0
  have hlen := he.length
  rw [hK] at hlen hL
  obtain ⟨w', G', c', hr, hx', hp'⟩ := append_zeros_own (P := P) (t := t) (tn := tn) (ty := ty) (kq := kq) (m := m) hp q hL ht htn hi hz' hzs hsz (n := xs.length) (by omega) h1 (by exact Int.ofNat_le.1 (by rw [Int.natCast_mul]; exact hby)) (by omega)
  have hE : Els K S w' (cs ++ List.replicate m zv) (xs ++ List.replicate m z) := (he.ext hx').append (Els.rep1 (hz _ _) m)
  refine h _ _ ?_ (g w' G' c' _ hx' (by rw [hK]; exact hp') hE)
  simp [execOp, mkO, resolve, invoke, builtin, hx, hy, hr]

/-! ### Arrays, whose elements are one cell each -/
theorem take3 (A B C : List Value) (n : Nat) (h : A.length + B.length ≤ n) : (A ++ B ++ C).take n = A ++ (B ++ C.take (n - (A.length + B.length))) := by
  rw [List.append_assoc, List.take_append, List.take_of_length_le (by omega), List.take_append, List.take_of_length_le (by omega), Nat.sub_sub]
theorem Hp.freezeWin (h : Hp N w0 S w L) (j : Nat) {g : Nat} {t : TypeId} {cs : List Value} {n kz : Nat} {xs : List α} (hj : L[j]? = some (some g, .row t cs n kz)) (he : Els K S w cs xs) (hn : cs.length = n) (hK : K.size = 1) (lo hi k' : Nat)
    (h1 : lo ≤ hi) (h2 : hi ≤ k') (h3 : kz ≤ k') (h4 : k' ≤ n) :
    ∃ S', Ext S w S' w ∧ Hp N w0 S' w (L.set j (some g, .row t cs n k')) ∧ Rd K S' w (some ⟨g, lo, none⟩) (n - lo) (sl xs (lo : Int) (hi : Int)) := by
  obtain ⟨hx, hp⟩ := h.freeze j hj k' (by omega)
  have hkz : max kz k' = k' := by omega
  rw [hkz] at hp
  have hlen := he.length
  rw [hK, Nat.mul_one] at hlen
  refine ⟨_, hx, hp, ?_, (fun e => by cases e), fun a ha => ?_⟩
  · simp only [sl, Int.toNat_natCast, List.length_drop, List.length_take]; omega
  · cases ha
    have e1 := (he.take hi).drop lo
    rw [hK, Nat.mul_one, Nat.mul_one] at e1
    refine ⟨(cs.take hi).drop lo, ?_, fun _ => ⟨rfl, fun q v hq => ⟨?_, ?_⟩⟩⟩
    · simp only [sl, Int.toNat_natCast]; exact e1.ext hx
    · have := (List.getElem?_eq_some_iff.1 hq).1
      simp only [List.length_drop, List.length_take] at this
      simp only [fzSet, if_pos]
      omega
    · rw [List.getElem?_drop, List.getElem?_take] at hq
      split at hq
      · exact (h.mem j hj).cell (lo + q) v hq
      · cases hq
theorem run_sliceArr {t e : TypeId} {n g l m : Nat} {ρ : Operand → Value} {lo hi : Option Operand} (w : World) (ht : arrB P t = some (n, e)) (hs : sizeB P e = some 1) (hlo : Bnd ρ lo l 0) (hhi : Bnd ρ hi m n) (h1 : l ≤ m) (h2 : m ≤ n) (h3 : l < n) :
    (Instr.sliceAt t (.pointer (some ⟨g, 0, none⟩)) (lo.map ρ) (hi.map ρ) none).run P w = .ok (.slice (some ⟨g, l, none⟩) (m - l) (n - l)) w := by
  have hu := arrB_spec ht
  have hl : ((l : Int) ≤ (m : Int)) := by omega
  have hm : ((m : Int) ≤ (n : Int)) := by omega
  have hne : ¬ n = l := by omega
  have hadd : Addr.add ⟨g, 0, none⟩ l = ⟨g, l, none⟩ := by unfold Addr.add; split <;> simp_all
  rcases hlo with ⟨rfl, e0⟩ | ⟨x, kx, rfl, ex⟩ <;> rcases hhi with ⟨rfl, e1⟩ | ⟨y, ky, rfl, ey⟩
  · have : l = 0 := by omega
    have : m = n := by omega
    subst l m
    simp [Instr.sliceAt, Instr.sliceBounds, Instr.sureAddr, run_underlying' w hu, run_sizeOf w hs, hadd]
  · have : l = 0 := by omega
    subst l
    simp [Instr.sliceAt, Instr.sliceBounds, Instr.sliceBound, Instr.sureAddr, asIntOf, run_underlying' w hu, run_sizeOf w hs, ey, h2, hadd]
  · have : m = n := by omega
    subst m
    simp [Instr.sliceAt, Instr.sliceBounds, Instr.sliceBound, Instr.sureAddr, asIntOf, run_underlying' w hu, run_sizeOf w hs, ex, h1, hne, hadd]
  · simp [Instr.sliceAt, Instr.sliceBounds, Instr.sliceBound, Instr.sureAddr, asIntOf, run_underlying' w hu, run_sizeOf w hs, ex, ey, h1, h2, hne, hadd]
/-- A cut of an array, as a slice that is read. -/
theorem slA_run {t e : TypeId} {n g l m : Nat} {x : Operand} {lo hi : Option Operand} {d : Tmp} {ty : TypeId} {xs : List α} (hx : Act.eval ⟨fr, ds⟩ x = .pointer (some ⟨g, 0, none⟩)) (ht : arrB P t = some (n, e)) (hs : sizeB P e = some 1)
    (hlo : Bnd (Act.eval ⟨fr, ds⟩) lo l 0) (hhi : Bnd (Act.eval ⟨fr, ds⟩) hi m n) (h1 : l ≤ m) (h2 : m ≤ n) (h3 : l < n) (hl : xs.length = n) (w : World) :
    (execOp (Act.eval ⟨fr, ds⟩) (mkO (.slice t x lo hi none) (some d) ty)).run P w = .ok (.value (.slice (some ⟨g, l, none⟩) (sl xs (l : Int) (m : Int)).length (n - l))) w := by
  have hrun := run_sliceArr (P := P) (g := g) w ht hs hlo hhi h1 h2 h3
  have hlen : (sl xs (l : Int) (m : Int)).length = m - l := by simp only [sl, Int.toNat_natCast, List.length_drop, List.length_take]; omega
  rw [hlen]
  simp [execOp, mkO, hx, hrun]
theorem Op_.slA (t : TypeId) (x : Operand) (lo hi : Option Operand) (d : Tmp) (ty : TypeId) (e : TypeId) (n g l m : Nat) (xs : List α) (h : VStep P (.slice t x lo hi none) d ty fr ds w X Y) (hx : Act.eval ⟨fr, ds⟩ x = .pointer (some ⟨g, 0, none⟩)) (ht : arrB P t = some (n, e)) (hs : sizeB P e = some 1)
    (hlo : Bnd (Act.eval ⟨fr, ds⟩) lo l 0) (hhi : Bnd (Act.eval ⟨fr, ds⟩) hi m n) (h1 : l ≤ m) (h2 : m ≤ n) (h3 : l < n) (hl : xs.length = n) (g' : Y (upd fr [(d, .slice (some ⟨g, l, none⟩) (sl xs (l : Int) (m : Int)).length (n - l))]) w) : X :=
  h _ _ (slA_run hx ht hs hlo hhi h1 h2 h3 hl w) g'
theorem AnyG.slA {b : Frame} {k : List Item} {D : List Frame → Machine → Prop} {ops : Array Oper} {i : Nat} {F : World → Prop} {s : List Nat} {fuel : Nat} {listed : Array Bool} (t : TypeId) (x : Operand) (lo hi : Option Operand) (d : Tmp) (ty : TypeId) (e : TypeId) (n g l m : Nat) (xs : List α)
    (h : opAtW ops i fr = some (.slice t x lo hi none, some d, ty)) (htk : takeB .any ops listed s i = true) (hF : F w) (hx : Act.eval ⟨fr, ds⟩ x = .pointer (some ⟨g, 0, none⟩)) (ht : arrB P t = some (n, e)) (hs : sizeB P e = some 1)
    (hlo : Bnd (Act.eval ⟨fr, ds⟩) lo l 0) (hhi : Bnd (Act.eval ⟨fr, ds⟩) hi m n) (h1 : l ≤ m) (h2 : m ≤ n) (h3 : l < n) (hl : xs.length = n)
    (g' : AnyG P b k D ops F s fuel (listed.setIfInBounds i true) ⟨upd fr [(d, .slice (some ⟨g, l, none⟩) (sl xs (l : Int) (m : Int)).length (n - l))], ds⟩ w) : AnyG P b k D ops F s (fuel + 1) listed ⟨fr, ds⟩ w :=
  .val _ _ _ _ h htk (fun w' _ => slA_run hx ht hs hlo hhi h1 h2 h3 hl w') hF g'
/-- copy(x, y): x a window of a row of one's own. -/
theorem Op_.cp (t1 t2 : TypeId) (x y : Operand) (d : Tmp) (ty e : TypeId) (q g lo dl dc : Nat) (ys : List α) (XA : Option Addr) (mc : Nat) {t' : TypeId} {cap kz : Nat} {cs news : List Value} {xs : List α} (hp : Hp N w0 S w L) (hL : L[q]? = some (some g, .row t' cs cap kz)) (he : Els K S w cs xs)
    (h : VStep P (.call { callee := .builtin .copy, args := #[x, y], argTypes := #[t1, t2] }) d ty fr ds w X Y) (hx : Act.eval ⟨fr, ds⟩ x = .slice (some ⟨g, lo, none⟩) dl dc) (hy : Act.eval ⟨fr, ds⟩ y = .slice XA ys.length mc)
    (ht : elemB P t1 = some e) (hs : sizeB P e = some 1) (hK : K.size = 1) (hkz : kz ≤ lo) (hfit : lo + dl ≤ cs.length) (hn : Els K S w news ys) (hsrc : news ≠ [] → ∃ a, XA = some a ∧ ∀ j u, news[j]? = some u → w.cell? (a.add j) = some u) (hnil : XA = none → mc = 0)
    (g' : ∀ w' cs', Ext S w S w' → Hp N w0 S w' (L.set q (some g, .row t' cs' cap kz)) → Els K S w' cs' (cpy xs lo dl ys) → cs'.length = cs.length → Y (upd fr [(d, .int .i64 ((min ys.length dl : Nat) : Int))]) w') : X := by
  have hu := elemB_spec ht
  obtain ⟨cur, hh, hcs, htk, hl, hf, hk⟩ := hp.mem q hL
  have hnl := hn.length
  rw [hK, Nat.mul_one] at hnl
  have hcl := he.length
  rw [hK, Nat.mul_one] at hcl
  have hmin : (news.take dl).length = Nat.min ys.length dl := by rw [List.length_take, hnl, Nat.min_comm]
  have hi : ∃ inf, P.info? e = some inf ∧ inf.size = 1 := by
    unfold sizeB at hs
    obtain ⟨i, h1, h2⟩ := Option.map_eq_some_iff.1 hs
    exact ⟨i, h1, h2⟩
  obtain ⟨inf, hinf, hisz⟩ := hi
  have hE0 : ∀ w', Ext S w S w' → Els K S w' (cs.take lo ++ (news.take dl ++ cs.drop (lo + (news.take dl).length))) (cpy xs lo dl ys) := by
    intro w' hx'
    have a1 := he.take lo
    have a2 := hn.take dl
    have a3 := he.drop (lo + min ys.length dl)
    rw [hK, Nat.mul_one] at a1 a2 a3
    unfold cpy
    rw [hmin]
    exact (a1.ext hx').append ((a2.ext hx').append (a3.ext hx'))
  have hlen : (cs.take lo ++ (news.take dl ++ cs.drop (lo + (news.take dl).length))).length = cs.length := by
    simp only [List.length_append, List.length_take, List.length_drop]; omega
  -- the world that is come to
  have key : (Builtin.copy_ #[t1, t2] ty #[.slice (some ⟨g, lo, none⟩) dl dc, .slice XA ys.length mc]).run P w =
      .ok (goInt (Nat.min ys.length dl)) (w.setRow g (cur.toList.take lo ++ news.take dl ++ cur.toList.drop (lo + (news.take dl).length)).toArray) := by
    by_cases hne : news = []
    · have hy0 : ys.length = 0 := by rw [← hnl, hne]; rfl
      rw [hne, hy0]
      have : (cur.toList.take lo ++ List.take dl ([] : List Value) ++ cur.toList.drop (lo + (List.take dl ([] : List Value)).length)).toArray = cur := by simp
      rw [this, setRow_self w g cur _ _ hh]
      cases XA with
      | none => simp [Builtin.copy_, run_underlying hu, Builtin.lenOf, Builtin.firstCells, sizeOf, typeInfo, hinf, storeCells]
      | some a => simp [Builtin.copy_, run_underlying hu, Builtin.lenOf, Builtin.firstCells, sizeOf, typeInfo, hinf, storeCells, loadCells, loadCellsFrom]
    · obtain ⟨a, rfl, hcell⟩ := hsrc hne
      have := run_copy_row (P := P) w t1 t2 ty e g lo dl dc a ys.length mc cur t' (news.take dl) hu (by rw [hinf]; simp [hisz]) hh hmin
        (fun j v hj => hcell j v (by rw [List.getElem?_take] at hj; split at hj; exact hj; cases hj)) (by rw [hmin, hcs]; have : Nat.min ys.length dl ≤ dl := Nat.min_le_right _ _; omega) (fun v hv => hn.one v (List.mem_of_mem_take hv))
      rw [hmin] at this ⊢
      exact this
  -- the row
  have hx' : Ext S w S (w.setRow g (cur.toList.take lo ++ news.take dl ++ cur.toList.drop (lo + (news.take dl).length)).toArray) := by
    refine ⟨fun _ => Nat.le_refl _, fun b i v hi hv => ?_⟩
    by_cases hb : b = g
    · subst hb
      have hlt : i < lo := by omega
      simp only [World.cell?, hh] at hv
      simp only [World.cell?, setRow_heap w b cur _ t' _ hh]
      have e1 : cur.toList[i]? = some v := by simpa using hv
      have hil : i < cur.toList.length := (List.getElem?_eq_some_iff.1 e1).1
      have e2 : (cur.toList.take lo ++ news.take dl ++ cur.toList.drop (lo + (news.take dl).length))[i]? = some v := by
        rw [List.append_assoc, List.getElem?_append_left (by rw [List.length_take]; omega), List.getElem?_take, if_pos hlt]; exact e1
      simpa using e2
    · have : (w.setRow g (cur.toList.take lo ++ news.take dl ++ cur.toList.drop (lo + (news.take dl).length)).toArray).heap[b]? = w.heap[b]? := setRow_other w g b _ hb
      simp only [World.cell?, this]
      exact hv
  have hp' : Hp N w0 S (w.setRow g (cur.toList.take lo ++ news.take dl ++ cur.toList.drop (lo + (news.take dl).length)).toArray) (L.set q (some g, .row t' (cs.take lo ++ (news.take dl ++ cs.drop (lo + (news.take dl).length))) cap kz)) := by
    refine Hp.back hL ((hp.front q _ hL).write _ rfl rfl rfl (by simp [World.setRow]) (fun b hb => setRow_other w g b _ hb) (fun _ _ => rfl) ?_)
    have hdl : (news.take dl).length ≤ dl := by rw [List.length_take]; omega
    have hcur : cs.length ≤ cur.toList.length := by have := Array.length_toList (xs := cur); omega
    refine ⟨_, setRow_heap w g cur _ t' _ hh, ?_, ?_, by rw [hlen]; exact hl, hf, by rw [hlen]; omega⟩
    · simp only [List.size_toArray, List.length_append, List.length_take, List.length_drop, Array.length_toList] at hcur ⊢
      omega
    · rw [hlen]
      have e1 : cs.take lo = cur.toList.take lo := by
        conv => lhs; rw [← htk, List.take_take, Nat.min_eq_left (by omega)]
      have e2 : cs.drop (lo + (news.take dl).length) = (cur.toList.drop (lo + (news.take dl).length)).take (cs.length - (lo + (news.take dl).length)) := by
        conv => lhs; rw [← htk, List.drop_take]
      have hlo : (cur.toList.take lo).length = lo := by rw [List.length_take]; omega
      rw [e1, e2, take3 _ _ _ _ (by rw [hlo]; omega), hlo]
  refine h _ _ ?_ (g' _ _ hx' hp' (hE0 _ hx') hlen)
  simp [execOp, mkO, resolve, invoke, builtin, hx, hy, key, goInt]
/-- A whole array stored. -/
theorem Op_.stA (t : TypeId) (x y : Operand) (ty : TypeId) (j g n : Nat) (vs : List Value) {t' : TypeId} {cs : List Value} (hp : Hp N w0 S w L) (hj : L[j]? = some (some g, .row t' cs n 0)) (hn : cs.length = n) (h : SStep P (.store t x y) ty fr ds w X Y)
    (hx : Act.eval ⟨fr, ds⟩ x = .pointer (some ⟨g, 0, none⟩)) (hy : Act.eval ⟨fr, ds⟩ y = .agg vs.toArray) (hs : sizeB P t = some n) (hl : vs.length = n) (h1 : ∀ v ∈ vs, v.oneCell' = true)
    (g' : ∀ w', Ext S w S w' → Hp N w0 S w' (L.set j (some g, .row t' vs n 0)) → Y fr w') : X := by
  obtain ⟨w', hr, hx', hp'⟩ := run_stores (P := P) (g := g) vs 0 0 cs w L j hp hj (Nat.zero_le _) (by omega) h1
  have e : cs.take (0 + 0) ++ (vs ++ cs.drop (0 + 0 + vs.length)) = vs := by simp; omega
  rw [e] at hp'
  refine h _ ?_ (g' w' hx' hp')
  simp [execOp, mkO, hx, hy, Instr.storeAt, Instr.sureAddr, storeVar, run_sizeOf w hs, Value.cells, hl, hr]

/-! ### Results in memory -/
def resV (fr : Array Value) : ResultVar → Sem Value
  | .tmp t => pure (fr.getD t undef)
  | .cell a t => do loadVar t (← asAddr (fr.getD a undef))
theorem results_eq (fn : Func) (fr : Array Value) : results fn fr = (do let vs ← fn.results.mapM (resV fr); pure (if h : vs.size = 1 then vs[0] else .tuple vs)) := by
  unfold results
  congr 1
theorem resV_tmp {P : Program} {w : World} {fr : Array Value} {q : Tmp} {v : Value} (h : fr.getD q undef = v) : (resV fr (.tmp q)).run P w = .ok v w := by simp [resV, h]
theorem resV_cell {P : Program} {w : World} {fr : Array Value} {q : Tmp} {t : TypeId} {v : Value} (ad : Addr) (h : fr.getD q undef = .pointer (some ad)) (h1 : (loadVar t ad).run P w = .ok v w) : (resV fr (.cell q t)).run P w = .ok v w := by simp [resV, h, asAddr, h1]
theorem results_n1 {P : Program} {w : World} {fn : Func} {fr : Array Value} {a : ResultVar} {va : Value} (h : fn.results = #[a]) (ha : (resV fr a).run P w = .ok va w) : (results fn fr).run P w = .ok va w := by
  rw [results_eq]; simp [h, ha]
theorem results_n2 {P : Program} {w : World} {fn : Func} {fr : Array Value} {a b : ResultVar} {va vb : Value} (h : fn.results = #[a, b]) (ha : (resV fr a).run P w = .ok va w) (hb : (resV fr b).run P w = .ok vb w) : (results fn fr).run P w = .ok (.tuple #[va, vb]) w := by
  rw [results_eq]; simp [h, ha, hb]
theorem results_n3 {P : Program} {w : World} {fn : Func} {fr : Array Value} {a b c : ResultVar} {va vb vc : Value} (h : fn.results = #[a, b, c]) (ha : (resV fr a).run P w = .ok va w) (hb : (resV fr b).run P w = .ok vb w) (hc : (resV fr c).run P w = .ok vc w) : (results fn fr).run P w = .ok (.tuple #[va, vb, vc]) w := by
  rw [results_eq]; simp [h, ha, hb, hc]
theorem results_n4 {P : Program} {w : World} {fn : Func} {fr : Array Value} {a b c d : ResultVar} {va vb vc vd : Value} (h : fn.results = #[a, b, c, d]) (ha : (resV fr a).run P w = .ok va w) (hb : (resV fr b).run P w = .ok vb w) (hc : (resV fr c).run P w = .ok vc w) (hd : (resV fr d).run P w = .ok vd w) : (results fn fr).run P w = .ok (.tuple #[va, vb, vc, vd]) w := by
  rw [results_eq]; simp [h, ha, hb, hc, hd]
theorem Els.len1 {S : Fz} {w : World} {K : Kd α} {cs : List Value} {xs : List α} {n : Nat} (he : Els K S w cs xs) (hl : cs.length = n) (hK : K.size = 1) : xs.length = n := by
  have := he.length
  rw [hK, Nat.mul_one] at this
  omega
end
end Go.Gx
