/-
 The library's Compact, by the library's contract: rows of one's own. Generic: names no program.
-/
import Derived.Test.YtbclkjbkebebeaaGreatGK
import Derived.Shelf.Slices.CompactS
set_option linter.unusedVariables false
set_option linter.unusedSectionVars false
namespace Go.Gx
open Go.RowKit
theorem cmpR_snoc {α : Type} [DecidableEq α] : ∀ (p : α) (l : List α) (x : α), cmpR p (l ++ [x]) = cmpR p l ++ (if (p :: l).getLast? = some x then [] else [x])
 | p, [], x => by
  by_cases h : x = p
  ·subst h; simp [cmpR]
  ·have : ¬ p = x := fun e => h e.symm
   simp [cmpR, h, this]
 | p, y :: ys, x => by
  have ih := fun q => cmpR_snoc q ys x
  have e : (p :: y :: ys).getLast? = (y :: ys).getLast? := rfl
  rw [e]
  show cmpR p (y :: (ys ++ [x])) = _
  by_cases h : y = p
  ·subst h
   simp only [cmpR, if_true, ih]
  ·simp only [cmpR, h, if_false, ih, List.cons_append]
theorem cmpL_snoc {α : Type} [DecidableEq α] (l : List α) (x : α) : cmpL (l ++ [x]) = cmpL l ++ (if l.getLast? = some x then [] else [x]) := by
 cases l with
 | nil => simp [cmpL, cmpR]
 | cons y ys => simp only [List.cons_append, cmpL, cmpR_snoc]
theorem cmpR_map {α β : Type} [DecidableEq α] [DecidableEq β] (f : α → β) (hf : ∀ x y, f x = f y → x = y) : ∀ (p : α) (l : List α), cmpR (f p) (l.map f) = (cmpR p l).map f
 | p, [] => rfl
 | p, y :: ys => by
  simp only [List.map_cons, cmpR]
  by_cases h : y = p
  ·subst h; simp only [if_true]; exact cmpR_map f hf y ys
  ·have : ¬ f y = f p := fun e => h (hf _ _ e)
   simp only [h, this, if_false, List.map_cons]
   rw [cmpR_map f hf y ys]
theorem cmpL_map {α β : Type} [DecidableEq α] [DecidableEq β] (f : α → β) (hf : ∀ x y, f x = f y → x = y) (l : List α) : cmpL (l.map f) = (cmpL l).map f := by
 cases l with
 | nil => rfl
 | cons y ys => simp only [List.map_cons, cmpL, cmpR_map f hf]
theorem compact_eq (zs : List (List UInt8)) : Lib.compact zs = cmpL zs := by
 have key : ∀ m, m ≤ zs.length → Lib.compactUpTo zs.toArray m = cmpL (zs.take m) := by
  intro m
  induction m with
  | zero => intro _; rfl
  | succ m ih =>
   intro hm
   rw [Lib.compactUpTo_succ, ih (by omega), List.take_succ_eq_append_getElem (by omega), cmpL_snoc]
   congr 1
   have e1 : (zs.toArray)[m]! = zs[m] := by simp [show m < zs.length by omega]
   rw [e1]
   cases m with
   | zero => simp [Lib.keeps]
   | succ k =>
    have e2 : (zs.toArray)[k + 1 - 1]! = zs[k] := by simp [show k < zs.length by omega]
    have e3 : (zs.take (k + 1)).getLast? = some zs[k] := by
     rw [List.getLast?_eq_getElem?, List.length_take, Nat.min_eq_left (by omega), Nat.add_sub_cancel, List.getElem?_take, if_pos (by omega), List.getElem?_eq_getElem (by omega)]
    rw [e3]
    unfold Lib.keeps
    rw [e1, e2]
    by_cases h : zs[k + 1] = zs[k]
    ·simp [h]
    ·have : ¬ zs[k] = zs[k + 1] := fun e => h e.symm
     simp [h, this]
 have := key zs.length (Nat.le_refl _)
 rw [List.take_length] at this
 exact this
theorem cmpR_len {α : Type} [DecidableEq α] : ∀ (p : α) (l : List α), (cmpR p l).length ≤ l.length
 | p, [] => Nat.le_refl _
 | p, y :: ys => by
  simp only [cmpR]
  split
  ·exact Nat.le_succ_of_le (cmpR_len p ys)
  ·simp only [List.length_cons]; have := cmpR_len y ys; omega
theorem cmpL_len {α : Type} [DecidableEq α] (l : List α) : (cmpL l).length ≤ l.length := by
 cases l with
 | nil => exact Nat.le_refl _
 | cons y ys => simp only [cmpL, List.length_cons]; have := cmpR_len y ys; omega
theorem toL_inj (x y : ByteArray) (h : x.data.toList = y.data.toList) : x = y := by
 cases x; cases y
 simpa using Array.toList_inj.1 h
section
variable {N : Nat} {w0 w : World} {S : Fz} {L : List Ent} {e : TypeId} {cs : List Value}
theorem compactS_calls {P : Program} {ρ : Shelf.Ren} (hl : Go.Proofs.Lays.n194 P ρ) {G : Option Nat} {n c : Nat} {xs zs : List ByteArray} (hp : Hp N w0 S w ((G, .row e cs (c * kStr.size) 0) :: L)) (he : Els kStr S w cs xs) (hn : xs.length = n) (hz : cmpL xs = zs) (hsz : (n : Int) ≤ 1099511627776) :
  Calls P (ρ.f 194) #[.slice (Gp G) n c] w (Rets fun v w' => v = .slice (Gp G) zs.length c ∧ Ext S w S w' ∧ ∃ cs', Hp N w0 S w' ((G, .row e cs' (c * kStr.size) 0) :: L) ∧ Els kStr S w' cs' zs) := by
 subst hn hz
 have hcs := els_ofS he
 cases G with
 | none =>
  have h0 := (hp.mem 0 rfl).1
  rw [hcs, List.map_eq_nil_iff] at h0
  subst h0
  exact (Go.Proofs.Any.slices_Compact_string_empty hl _ c w).mono fun q w' ⟨hq, hw⟩ => ⟨_, hq, rfl, by rw [hw]; exact Ext.refl _ _, cs, by rw [hw]; exact hp, by rw [hw]; exact he⟩
 | some g =>
  have hm : cs = (xs.map (·.data.toList)).toArray.toList.map Go.Proofs.encStr := by rw [hcs]; simp [Go.Proofs.encStr]
  have hcl : xs.length ≤ c := by
   obtain ⟨cur, a1, a2, a3, a4, a5, a6⟩ := hp.mem 0 rfl
   rw [hcs, List.length_map] at a4
   have : kStr.size = 1 := rfl
   rw [this] at a4
   omega
  have := Go.Proofs.Any.slices_Compact_string hl g 0 c (xs.map (·.data.toList)) w (holds_of hp hm) (by simp; omega) (by simpa using hcl)
  rw [List.length_map, compact_eq, cmpL_map _ toL_inj] at this
  refine this.mono fun q w' ⟨hq, k, hw⟩ => ?_
  have hle := cmpL_len xs
  have hgr : ∀ w1 : World, Sort.grow w1 #[] = w1 := fun w1 => by simp [Sort.grow]
  obtain ⟨hx, hp'⟩ := put_hp (enc := Go.Proofs.encStr) hp ((cmpL xs).map (fun x : ByteArray => x.data.toList) ++ List.replicate (xs.length - ((cmpL xs).map (fun x : ByteArray => x.data.toList)).length) []).toArray (by rw [hcs]; simp; omega) k #[]
  rw [hgr, ← hw] at hx hp'
  have e5 : (((cmpL xs).map (fun x : ByteArray => x.data.toList) ++ List.replicate (xs.length - ((cmpL xs).map (fun x : ByteArray => x.data.toList)).length) []).toArray.toList.map Go.Proofs.encStr) = (cmpL xs ++ List.replicate (xs.length - (cmpL xs).length) (⟨#[]⟩ : ByteArray)).map Value.string := by
   simp [Go.Proofs.encStr]
  rw [e5] at hp'
  obtain ⟨h3, h4⟩ := hp'.trunc (K := kStr) 0 rfl (els_mkS _) (cmpL xs).length
  rw [List.take_left'] at h4
  ·refine ⟨_, ?_, rfl, hx, _, h3, h4⟩
   rw [hq, List.length_map]
   rfl
  ·rfl
end
end Go.Gx
