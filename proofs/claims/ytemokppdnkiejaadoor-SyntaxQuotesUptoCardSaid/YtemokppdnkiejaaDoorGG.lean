/-
  Tables that package variables hold; the library's Itoa. Generic: names no program.
-/
import Derived.Test.YtemokppdnkiejaaDoorGZ
import Derived.Test.YtemokppdnkiejaaDoorGI
import Derived.Shelf.Strconv.Itoa3
import Derived.Shelf.Strings.OnBuilder
import Derived.Shelf.Strings.Repeat
import Derived.Lib.LaidTab
set_option linter.unusedVariables false
namespace Go.Gx
open Go.RowKit
structure Tab (N : Nat) (w0 : World) (g : Nat) (k : IntKind) (zs : List Int) : Prop where
  lt : g < N
  blk : ∃ t f, w0.heap[g]? = some (.cells (zs.map (Value.int k)).toArray t f)
section
variable {P : Program} {N : Nat} {w0 w : World} {S : Fz} {L : List Ent} {g : Nat} {k : IntKind} {zs : List Int} {name : String}
theorem Tab.to (h : Tab N w0 g k zs) {zs' : List Int} (e : zs = zs') : Tab N w0 g k zs' := e ▸ h
theorem Tab.of (hn : P.globalNamed name = some g) (h : Lib.TabIs P w name k zs) : Tab w.heap.size w g k zs := by
  unfold Lib.TabIs World.var? at h
  rw [hn] at h
  simp only [Option.bind_some] at h
  split at h
  · rename_i cs t f hh
    cases h
    exact ⟨(Array.getElem?_eq_some_iff.1 hh).1, t, f, hh⟩
  · cases h
theorem Tab.is (h : Tab N w0 g k zs) (hp : Hp N w0 S w L) (hn : P.globalNamed name = some g) : Lib.TabIs P w name k zs := by
  obtain ⟨hlt, t, f, hb⟩ := h
  unfold Lib.TabIs World.var?
  rw [hn]
  simp only [Option.bind_some]
  rw [hp.below.block g hlt, hb]
theorem Tab.cell (h : Tab N w0 g k zs) (hp : Hp N w0 S w L) (j : Int) (h0 : 0 ≤ j) (h1 : j < (zs.length : Int)) : w.cell? ⟨g, j.toNat, none⟩ = some (.int k (gi zs j)) := by
  obtain ⟨hlt, t, f, hb⟩ := h
  have hlt' : j.toNat < zs.length := by omega
  simp only [World.cell?]
  rw [hp.below.block g hlt, hb]
  simp [gi_at zs hlt', hlt']
end
section
variable {P : Program} {fr : Array Value} {ds : List Deferred} {w : World} {X : Prop} {Y : Array Value → World → Prop}
theorem Op_.ixG (t : TypeId) (x ix : Operand) (d : Tmp) (ty : TypeId) (e : TypeId) (n : Nat) (kk : IntKind) (j : Int) (g : Nat) (h : VStep P (.indexAddr t x ix) d ty fr ds w X Y) (hx : Act.eval ⟨fr, ds⟩ x = .pointer (some ⟨g, 0, none⟩)) (hj : Act.eval ⟨fr, ds⟩ ix = .int kk j) (ht : arrB P t = some (n, e)) (hs : sizeB P e = some 1)
    (h0 : 0 ≤ j) (h1 : j < (n : Int)) (gg : Y (upd fr [(d, .pointer (some ⟨g, j.toNat, none⟩))]) w) : X := by
  have hadd : Addr.add ⟨g, 0, none⟩ (j.toNat * 1) = ⟨g, j.toNat, none⟩ := by unfold Addr.add; split <;> simp_all
  refine h _ _ ?_ gg
  simp only [execOp, mkO, hx, hj, Instr.indexAt, asIntOf, Sem.run_bind, run_underlying' w (arrB_spec ht), Result.andThen_ok, Sem.run_pure, Instr.sureAddr, run_sizeOf w hs, h0, h1, and_self, if_true, hadd]
end
theorem Hp.grown {N : Nat} {w0 w w' : World} {S : Fz} {L : List Ent} (h : Hp N w0 S w L) (hb : Below w.heap.size w w') : Hp N w0 S w' L :=
  ⟨h.below.trans (hb.mono h.le), Nat.le_trans h.le hb.size, fun b hb' => h.fz b (Nat.le_trans hb.size hb'), h.nd, h.ge, fun x hx => (h.at_ x hx).kept fun b hbx => by
    have hlt : b < w.heap.size := h.lt (List.mem_filterMap.2 ⟨x, hx, hbx⟩)
    exact ⟨hb.block b hlt, Nat.le_refl _⟩⟩
theorem Ext.grown {S : Fz} {w w' : World} (hb : Below w.heap.size w w') : Ext S w S w' :=
  ⟨fun _ => Nat.le_refl _, fun b i v _ hv => by
    rw [← hv]
    refine hb.cell ?_
    simp only [World.cell?] at hv
    split at hv
    · rename_i hh; exact (Array.getElem?_eq_some_iff.1 hh).1
    · cases hv⟩
theorem rep_calls {P : Program} {ρ : Shelf.Ren} (hl : Go.Proofs.Lays.n105 P ρ) (hx : Go.Proofs.Builder.Extra P ρ) {N : Nat} {w0 w : World} {S : Fz} {L : List Ent} (hp : Hp N w0 S w L) (s : ByteArray) (n : Int) (h0 : 0 ≤ n) (h1 : n ≤ 9223372036854775807) (h2 : (s.size : Int) * n ≤ 140737488355328) :
    Calls P (ρ.f 105) #[.string s, .int .i64 n] w (Rets fun v w' => v = .string (repB s n) ∧ Ext S w S w' ∧ Hp N w0 S w' L) := by
  obtain ⟨m, rfl⟩ := Int.eq_ofNat_of_zero_le h0
  refine (Go.Proofs.Any.strings_Repeat hl hx s m w (by omega) (by omega)).mono fun e w' ⟨he, hw⟩ => ⟨_, he, ?_, Ext.grown hw, hp.grown hw⟩
  simp [repB]
end Go.Gx
