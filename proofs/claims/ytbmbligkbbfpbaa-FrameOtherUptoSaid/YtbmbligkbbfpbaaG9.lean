/-
  Marks, zeros appended, copies, texts appended. Generic: names no program.
-/
import Derived.Test.YtbmbligkbbfpbaaG8
namespace Go.Gx
open Go.RowKit

theorem Hp.nilRow' {N : Nat} {w0 w : World} {S : Fz} {L : List Ent} {m : Nat} (h : Hp N w0 S w L) (e : TypeId) : Hp N w0 S w ((none, .row e [] (0 * m) 0) :: L) := by
  rw [Nat.zero_mul]; exact h.nilRow e
theorem Rd.isnil {α : Type} {K : Kd α} {S : Fz} {w : World} {A : Option Addr} {c : Nat} {xs : List α} (h : Rd K S w A c xs) : (A = none ∧ xs = [] ∧ c = 0) ∨ ∃ a, A = some a := by
  cases A with
  | none =>
    refine .inl ⟨rfl, ?_, h.2.1 rfl⟩
    have h1 := h.1
    rw [h.2.1 rfl] at h1
    exact List.eq_nil_of_length_eq_zero (by omega)
  | some a => exact .inr ⟨a, rfl⟩
theorem si_length {α : Type} (xs : List α) (j : Int) (x : α) : (si xs j x).length = xs.length := by simp [si]
theorem Goes.jumpW {P : Program} {b : Frame} {k : List Item} {w : World} {D : List Frame → Machine → Prop} {fr : Array Value} {ds : List Deferred} (n : Nat) (live live' : List (Nat × Value)) (h : fr = lfr n live (fun i => fr.getD i undef)) (he : live = live') (g : ∀ junk, Goes P b k ⟨lfr n live' junk, ds⟩ w D) : Goes P b k ⟨fr, ds⟩ w D := by
  subst he
  rw [h]
  exact g _
section
variable {P : Program} {X : Prop} {Y : Array Value → World → Prop} {w : World} {fr : Array Value} {ds : List Deferred}
variable {N : Nat} {w0 : World} {S : Fz} {L : List Ent} {α : Type} {K : Kd α}

theorem freeze_heap_ne (w : World) (a : Addr) (n b : Nat) (h : b ≠ a.block) : (w.freeze a n).heap[b]? = w.heap[b]? := by
  unfold World.freeze
  split
  · rfl
  · simp only [Array.getElem?_modify]
    rw [if_neg (Ne.symm h)]
theorem freeze_heap_eq (w : World) (g o : Nat) (cur : Array Value) (e : TypeId) (h : w.heap[g]? = some (.cells cur e (0, 0))) : (w.freeze ⟨g, o, none⟩ 1).heap[g]? = some (.cells cur e (o, o + 1)) := by
  unfold World.freeze
  rw [if_neg (by decide)]
  simp only [Array.getElem?_modify, if_true, h, Option.map_some]
  rfl
/-- A literal's bytes, converted to their own type: the row bears a mark from now on; it is read. -/
theorem Op_.mks (t : TypeId) (x : Operand) (d : Tmp) (ty : TypeId) (e : TypeId) (m : Nat) {g : Nat} {cs : List Value} {c kz : Nat} {xs : List Int} (hp : Hp N w0 S w L) (hL : L[m]? = some (some g, .row e cs (c * (kInt .u8).size) kz)) (he : Els (kInt .u8) S w cs xs)
    (h : VStep P (.convert t t x) d ty fr ds w X Y) (hx : Act.eval ⟨fr, ds⟩ x = .slice (Gp (some g)) xs.length c) (ht : elemB P t = some e) (hk : intB P e = some .u8)
    (gg : ∀ S' w', Ext S w S' w' → Hp N w0 S' w' (L.eraseIdx m) → Rd (kInt .u8) S' w' (Gp (some g)) c xs → Y (upd fr [(d, .slice (Gp (some g)) xs.length c)]) w') : X := by
  obtain ⟨cur, hh, hs, htk, hl, hf, hk'⟩ := hp.mem m hL
  have hglt : g < w.heap.size := (Array.getElem?_eq_some_iff.1 hh).1
  have hfront := hp.front m _ hL
  have hNg : N ≤ g := hfront.ge g (by simp)
  have hw := freeze_heap_eq w g cur.size cur e hh
  have hne := fun b (hb : b ≠ g) => freeze_heap_ne w ⟨g, cur.size, none⟩ 1 b hb
  have hsz : (w.freeze ⟨g, cur.size, none⟩ 1).heap.size = w.heap.size := by unfold World.freeze; split <;> simp
  have hcell : ∀ b i v, w.cell? ⟨b, i, none⟩ = some v → (w.freeze ⟨g, cur.size, none⟩ 1).cell? ⟨b, i, none⟩ = some v := by
    intro b i v hv
    by_cases hb : b = g
    · subst hb
      simp only [World.cell?, hh] at hv
      simp only [World.cell?, hw]
      exact hv
    · simp only [World.cell?, hne b hb] at hv ⊢
      exact hv
  refine h _ _ ?_ (gg (fzSet S g cs.length) (w.freeze ⟨g, cur.size, none⟩ 1) ?_ ?_ ?_)
  · have hsh : w.shape? g = some (e, cur.size) := by unfold World.shape?; rw [hh]
    simp only [execOp, mkO, hx, Gp, Option.map_some]
    simp [convert, run_underlying' w (elemB_spec ht), run_underlying' w (intB_spec hk), markStringish, hsh]
  · exact ⟨fun b => by unfold fzSet; split <;> omega, fun b i v _ hv => hcell b i v hv⟩
  · have hd := hfront.drop
    refine ⟨hp.below.trans ⟨?_, ?_, ?_, Nat.le_of_eq hsz.symm, fun b hb => hne b (by omega)⟩, by rw [hsz]; exact hp.le, fun b hb => ?_, hd.nd, hd.ge, fun z hz => ?_⟩
    · unfold World.freeze; split <;> rfl
    · unfold World.freeze; split <;> rfl
    · unfold World.freeze; split <;> rfl
    · rw [hsz] at hb
      unfold fzSet
      rw [if_neg (by omega)]
      exact hp.fz b hb
    · refine (hd.at_ z hz).kept fun b hb => ?_
      have hbg : b ≠ g := by
        intro e1; subst e1
        have hn := hfront.nd
        simp only [List.filterMap_cons, List.nodup_cons] at hn
        exact hn.1 (List.mem_filterMap.2 ⟨z, hz, hb⟩)
      refine ⟨hne b hbg, ?_⟩
      unfold fzSet
      rw [if_neg hbg]
      exact Nat.le_refl _
  · have hlen := he.length
    have hKs : (kInt .u8).size = 1 := rfl
    rw [hKs, Nat.mul_one] at hlen
    rw [hKs, Nat.mul_one] at hl
    refine ⟨by omega, (fun e1 => by simp [Gp] at e1), fun a ha => ?_⟩
    simp only [Gp, Option.map_some, Option.some.injEq] at ha
    subst ha
    refine ⟨cs, ?_, fun _ => ⟨rfl, fun q v hq => ⟨?_, ?_⟩⟩⟩
    · exact he.ext (S' := S) ⟨fun _ => Nat.le_refl _, fun b i v _ hv => hcell b i v hv⟩ |>.ext ⟨fun b => by unfold fzSet; split <;> omega, fun _ _ _ _ hv => hv⟩
    · simp only [fzSet, if_pos, Nat.zero_add]
      have := (List.getElem?_eq_some_iff.1 hq).1
      omega
    · rw [Nat.zero_add]
      exact hcell _ _ _ ((hp.mem m hL).cell q v hq)
end
end Go.Gx
