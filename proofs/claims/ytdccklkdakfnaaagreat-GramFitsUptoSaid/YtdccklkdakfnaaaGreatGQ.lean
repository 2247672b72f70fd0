/-
 Structs of numbers, and of arrays of numbers, held against each other. Generic: names no program.
-/
import Derived.Test.YtdccklkdakfnaaaGreatGZ
import Derived.Laws.StructEq
set_option linter.unusedVariables false
namespace Go.Gx
open Go.RowKit
def mkV : List IntKind → List Int → List Value
 | k :: ks, x :: xs => .int k x :: mkV ks xs
 | _, _ => []
theorem mkV_len : ∀ {ks : List IntKind} {xs : List Int}, xs.length = ks.length → (mkV ks xs).length = ks.length
 | [], [], _ => rfl
 | k :: ks, x :: xs, h => by simp only [mkV, List.length_cons]; rw [mkV_len (by simpa using h)]
 | [], _ :: _, h => by simp at h
 | _ :: _, [], h => by simp at h
theorem mkV_app : ∀ {ks ls : List IntKind} {xs : List Int}, xs.length = (ks ++ ls).length → mkV (ks ++ ls) xs = mkV ks (xs.take ks.length) ++ mkV ls (xs.drop ks.length)
 | [], ls, xs, h => by cases xs <;> cases ls <;> simp [mkV]
 | k :: ks, ls, [], h => by simp at h
 | k :: ks, ls, x :: xs, h => by
  simp only [List.cons_append, mkV, List.length_cons, List.take_succ_cons, List.drop_succ_cons]
  rw [mkV_app (by simpa using h)]
theorem mkV_rep (k : IntKind) : ∀ (n : Nat) (xs : List Int), xs.length = n → mkV (List.replicate n k) xs = xs.map (Value.int k)
 | 0, [], _ => rfl
 | 0, _ :: _, h => by simp at h
 | n + 1, [], h => by simp at h
 | n + 1, x :: xs, h => by
  simp only [List.replicate_succ, mkV, List.map_cons]
  rw [mkV_rep k n xs (by simpa using h)]
def fldK (P : Program) (f : Field) : Option (List IntKind) :=
 if f.name = "_" then none else
 match intB P f.type with
 | some k => if aggB P f.type = some false then some [k] else none
 | none => match arrB P f.type with
  | some (n, e) => match intB P e with
   | some k => if sizeB P e = some 1 ∧ aggB P e = some false ∧ aggB P f.type = some true ∧ sizeB P f.type = some n then some (List.replicate n k) else none
   | none => none
  | none => none
def fldsK (P : Program) : Nat → List Field → Option (List IntKind)
 | _, [] => some []
 | off, f :: fs => if f.offset = off then match fldK P f with
  | some ks => (fldsK P (off + ks.length) fs).map (ks ++ ·)
  | none => none
  else none
variable {P : Program}
theorem run_eqFld (dd : Nat) (w : World) {f : Field} {ks : List IntKind} (h : fldK P f = some ks) (A B X Y C D : List Value) (xs ys : List Int) (ha : A.length = f.offset) (hb : B.length = f.offset) (hx : xs.length = ks.length) (hy : ys.length = ks.length) :
  f.name ≠ "_" ∧ ∃ a b, (part f.type (A ++ (mkV ks xs ++ C)).toArray f.offset).run P w = .ok a w ∧ (part f.type (B ++ (mkV ks ys ++ D)).toArray f.offset).run P w = .ok b w ∧ (Op.equalIn (dd + 2) f.type a b).run P w = .ok (decide (xs = ys)) w := by
 unfold fldK at h
 split at h
 ·cases h
 ·rename_i hn
  refine ⟨hn, ?_⟩
  split at h
  ·rename_i k hk
   split at h
   ·rename_i hg
    cases h
    match xs, ys, hx, hy with
    | [x], [y], _, _ =>
     have p1 := part_one (P := P) (e := f.type) (vs := A ++ (mkV [k] [x] ++ C)) (j := f.offset) (v := .int k x) w hg (by rw [← ha]; simp [mkV])
     have p2 := part_one (P := P) (e := f.type) (vs := B ++ (mkV [k] [y] ++ D)) (j := f.offset) (v := .int k y) w hg (by rw [← hb]; simp [mkV])
     refine ⟨_, _, p1, p2, ?_⟩
     have : (Op.equalIn (dd + 2) f.type (.int k x) (.int k y)).run P w = .ok (x == y) w := by simp [Op.equalIn, run_underlying' w (intB_spec hk)]
     rw [this]
     congr 1
     by_cases e : x = y
     ·simp [e]
     ·simp [e]
   ·cases h
  ·split at h
   ·rename_i n e hr
    split at h
    ·rename_i k hk
     split at h
     ·rename_i hc
      obtain ⟨c1, c2, c3, c4⟩ := hc
      cases h
      rw [List.length_replicate] at hx hy
      rw [mkV_rep k n xs hx, mkV_rep k n ys hy]
      have pt : ∀ (A C : List Value) (zs : List Int), A.length = f.offset → zs.length = n → (part f.type (A ++ (zs.map (Value.int k) ++ C)).toArray f.offset).run P w = .ok (.agg (zs.map (Value.int k)).toArray) w := by
       intro A C zs h1 h2
       unfold part
       rw [Sem.run_bind, run_isAgg w c3]
       simp only [Result.andThen_ok, if_true, Sem.run_bind, run_sizeOf w c4, Sem.run_pure]
       congr 2
       have : (A ++ (zs.map (Value.int k) ++ C)).toArray.extract f.offset (f.offset + n) = (zs.map (Value.int k)).toArray := by
        apply Array.ext'
        rw [Array.toList_extract]
        simp only [List.extract_eq_take_drop]
        rw [← h1, List.drop_left, Nat.add_sub_cancel_left, ← h2, List.take_left' (by simp)]
       rw [this]
      refine ⟨_, _, pt A C xs ha hx, pt B D ys hb hy, ?_⟩
      have hi : ∃ inf, P.info? e = some inf := by
       unfold sizeB at c1
       obtain ⟨z, hz1, hz2⟩ := Option.map_eq_some_iff.1 c1
       exact ⟨z, hz1⟩
      obtain ⟨inf, hi⟩ := hi
      have hq := run_eqItems (P := P) dd w hk c1 c2 xs ys (by omega) (List.range n) (by intro i hi; simp at hi; omega)
      rw [all_eq_iff xs ys n hx hy] at hq
      rw [run_equalIn_array w (dd + 1) _ _ (arrB_spec hr) hi]
      exact hq
     ·cases h
    ·cases h
   ·cases h
theorem run_eqFlds (dd : Nat) (w : World) : ∀ (fs : List Field) (off : Nat) (ks : List IntKind) (A B : List Value) (xs ys : List Int), fldsK P off fs = some ks → A.length = off → B.length = off → xs.length = ks.length → ys.length = ks.length →
  (Op.eqFields (dd + 2) (A ++ mkV ks xs).toArray (B ++ mkV ks ys).toArray fs).run P w = .ok (decide (xs = ys)) w
 | [], off, ks, A, B, xs, ys, h, ha, hb, hx, hy => by
  cases h
  rw [List.length_nil, List.length_eq_zero_iff] at hx hy
  subst hx hy
  simp [Op.eqFields]
 | f :: fs, off, ks, A, B, xs, ys, h, ha, hb, hx, hy => by
  rw [fldsK] at h
  split at h
  ·rename_i ho
   split at h
   ·rename_i ks1 h1
    obtain ⟨ks2, h2, rfl⟩ := Option.map_eq_some_iff.1 h
    rw [mkV_app hx, mkV_app hy]
    rw [List.length_append] at hx hy
    have lx : (xs.take ks1.length).length = ks1.length := by rw [List.length_take]; omega
    have ly : (ys.take ks1.length).length = ks1.length := by rw [List.length_take]; omega
    obtain ⟨hn, a, b, p1, p2, p3⟩ := run_eqFld dd w h1 A B [] [] (mkV ks2 (xs.drop ks1.length)) (mkV ks2 (ys.drop ks1.length)) (xs.take ks1.length) (ys.take ks1.length) (by omega) (by omega) lx ly
    have ih := run_eqFlds dd w fs (off + ks1.length) ks2 (A ++ mkV ks1 (xs.take ks1.length)) (B ++ mkV ks1 (ys.take ks1.length)) (xs.drop ks1.length) (ys.drop ks1.length) h2 (by rw [List.length_append, mkV_len lx]; omega) (by rw [List.length_append, mkV_len ly]; omega) (by rw [List.length_drop]; omega) (by rw [List.length_drop]; omega)
    rw [List.append_assoc, List.append_assoc] at ih
    simp only [Op.eqFields, hn, ne_eq, not_false_eq_true, if_true, Sem.run_bind, p1, p2, p3, Result.andThen_ok]
    by_cases e : xs.take ks1.length = ys.take ks1.length
    ·rw [decide_eq_true e]
     simp only [Bool.not_true, Bool.false_eq_true, if_false]
     rw [ih]
     congr 1
     rw [decide_eq_decide]
     constructor
     ·intro h
      rw [← List.take_append_drop ks1.length xs, ← List.take_append_drop ks1.length ys, e, h]
     ·intro h; rw [h]
    ·rw [decide_eq_false e]
     have : xs ≠ ys := fun h => e (by rw [h])
     simp [this]
   ·cases h
  ·cases h
def stB (P : Program) (t : TypeId) : Option (List Field) :=
 match P.underlying t with
 | some (.struct fs) => some fs.toList
 | _ => none
def eqK (P : Program) (t : TypeId) : Option (List IntKind) :=
 match stB P t with
 | some fs => if P.stoodInHeld t = false ∧ P.eqGuardType P.depth t = false then fldsK P 0 fs else none
 | none => none
theorem eqK_spec {t : TypeId} {ks : List IntKind} (h : eqK P t = some ks) : ∃ fs, stB P t = some fs ∧ P.stoodInHeld t = false ∧ P.eqGuardType P.depth t = false ∧ fldsK P 0 fs = some ks := by
 unfold eqK at h
 split at h
 ·rename_i fs hfs
  split at h
  ·rename_i hc
   exact ⟨fs, hfs, hc.1, hc.2, h⟩
  ·cases h
 ·cases h
theorem run_eqS {fr : Array Value} {ds : List Deferred} {o : BinOp} {t : TypeId} {x y : Operand} {t2 d : TypeId} {ty : TypeId} {fs : List Field} {ks : List IntKind} {us vs : List Value} {xs ys : List Int} (ho : o = .eql ∨ o = .neq) (w : World) (hx : Act.eval ⟨fr, ds⟩ x = .agg us.toArray) (hy : Act.eval ⟨fr, ds⟩ y = .agg vs.toArray)
  (ht : stB P t = some fs) (hp : P.stoodInHeld t = false) (hk : fldsK P 0 fs = some ks) (hg : P.eqGuardType P.depth t = false) (h1 : us = mkV ks xs) (h2 : vs = mkV ks ys) (l1 : xs.length = ks.length) (l2 : ys.length = ks.length) :
  (execOp (Act.eval ⟨fr, ds⟩) (mkO (.binOp o t x y t2) (some d) ty)).run P w = .ok (.value (.bool (if o = .eql then decide (xs = ys) else !decide (xs = ys)))) w := by
 subst h1 h2
 have hu : P.underlying t = some (.struct (P.fieldsOf t)) ∧ (P.fieldsOf t).toList = fs := by
  unfold stB at ht
  split at ht
  ·rename_i gs hgs
   cases ht
   simp [Program.fieldsOf, hgs]
  ·cases ht
 have hr : (Op.equal t (.agg (mkV ks xs).toArray) (.agg (mkV ks ys).toArray)).run P w = .ok (decide (xs = ys)) w := by
  unfold Op.equal
  rw [show Op.maxDepth = 9999 + 1 from rfl, run_equalIn_struct w 9999 t _ _ hu.1 hp, hu.2]
  exact run_eqFlds 9997 w fs 0 ks [] [] xs ys hk rfl rfl l1 l2
 rcases ho with rfl | rfl
 ·simp [execOp, mkO, hx, hy, eqGuard_arr w hg, binOp, hr]
 ·simp [execOp, mkO, hx, hy, eqGuard_arr w hg, binOp, hr]
section
variable {fr : Array Value} {ds : List Deferred} {w : World} {X : Prop} {Y : Array Value → World → Prop}
theorem Op_.eqS (t : TypeId) (x y : Operand) (t2 : TypeId) (d : Tmp) (ty : TypeId) (ks : List IntKind) {us vs : List Value} (xs ys : List Int) (h : VStep P (.binOp .eql t x y t2) d ty fr ds w X Y) (hx : Act.eval ⟨fr, ds⟩ x = .agg us.toArray) (hy : Act.eval ⟨fr, ds⟩ y = .agg vs.toArray)
  (hk : eqK P t = some ks) (h1 : us = mkV ks xs) (h2 : vs = mkV ks ys) (l1 : xs.length = ks.length) (l2 : ys.length = ks.length)
  (g : Y (upd fr [(d, .bool (decide (xs = ys)))]) w) : X := by
 obtain ⟨fs, f1, f2, f3, f4⟩ := eqK_spec hk
 exact h _ _ (run_eqS (.inl rfl) w hx hy f1 f2 f4 f3 h1 h2 l1 l2) g
end
end Go.Gx
