/-
  Zeros appended; arrays: cuts, copies, whole loads and stores; results in memory. Generic: names no program.
-/
import Derived.Test.YtemokppdnkiejaaGreatG9
import Derived.Lib.AppendZerosOnto
namespace Go.Gx
open Go.RowKit
section
variable {P : Program} {X : Prop} {Y : Array Value → World → Prop} {w : World} {fr : Array Value} {ds : List Deferred}
variable {N : Nat} {w0 : World} {S : Fz} {L : List Ent} {α : Type} {K : Kd α}
/-! ### Arrays, whose elements are one cell each -/
theorem Op_.stA (t : TypeId) (x y : Operand) (ty : TypeId) (j g n : Nat) (vs : List Value) {t' : TypeId} {cs : List Value} (hp : Hp N w0 S w L) (hj : L[j]? = some (some g, .row t' cs n 0)) (hn : cs.length = n) (h : SStep P (.store t x y) ty fr ds w X Y)
    (hx : Act.eval ⟨fr, ds⟩ x = .pointer (some ⟨g, 0, none⟩)) (hy : Act.eval ⟨fr, ds⟩ y = .agg vs.toArray) (hs : sizeB P t = some n) (hl : vs.length = n) (h1 : ∀ v ∈ vs, v.oneCell' = true)
    (g' : ∀ w', Ext S w S w' → Hp N w0 S w' (L.set j (some g, .row t' vs n 0)) → Y fr w') : X := by
  obtain ⟨w', hr, hx', hp'⟩ := run_stores (P := P) (g := g) vs 0 0 cs w L j hp hj (Nat.zero_le _) (by omega) h1
  have e : cs.take (0 + 0) ++ (vs ++ cs.drop (0 + 0 + vs.length)) = vs := by simp; omega
  rw [e] at hp'
  refine h _ ?_ (g' w' hx' hp')
  simp [execOp, mkO, hx, hy, Instr.storeAt, Instr.sureAddr, storeVar, run_sizeOf w hs, Value.cells, hl, hr]
/-! ### Results in memory -/
def resV (fr : Array Value) : ResultVar → Sem Value
  | .tmp t => pure (fr.getD t undef)
  | .cell a t => do loadVar t (← asAddr (fr.getD a undef))
theorem results_eq (fn : Func) (fr : Array Value) : results fn fr = (do let vs ← fn.results.mapM (resV fr); pure (if h : vs.size = 1 then vs[0] else .tuple vs)) := by
  unfold results
  congr 1
theorem resV_tmp {P : Program} {w : World} {fr : Array Value} {q : Tmp} {v : Value} (h : fr.getD q undef = v) : (resV fr (.tmp q)).run P w = .ok v w := by simp [resV, h]
theorem resV_cell {P : Program} {w : World} {fr : Array Value} {q : Tmp} {t : TypeId} {v : Value} (ad : Addr) (h : fr.getD q undef = .pointer (some ad)) (h1 : (loadVar t ad).run P w = .ok v w) : (resV fr (.cell q t)).run P w = .ok v w := by simp [resV, h, asAddr, h1]
theorem results_n1 {P : Program} {w : World} {fn : Func} {fr : Array Value} {a : ResultVar} {va : Value} (h : fn.results = #[a]) (ha : (resV fr a).run P w = .ok va w) : (results fn fr).run P w = .ok va w := by
  rw [results_eq]; simp [h, ha]
theorem results_n2 {P : Program} {w : World} {fn : Func} {fr : Array Value} {a b : ResultVar} {va vb : Value} (h : fn.results = #[a, b]) (ha : (resV fr a).run P w = .ok va w) (hb : (resV fr b).run P w = .ok vb w) : (results fn fr).run P w = .ok (.tuple #[va, vb]) w := by
  rw [results_eq]; simp [h, ha, hb]
theorem results_n3 {P : Program} {w : World} {fn : Func} {fr : Array Value} {a b c : ResultVar} {va vb vc : Value} (h : fn.results = #[a, b, c]) (ha : (resV fr a).run P w = .ok va w) (hb : (resV fr b).run P w = .ok vb w) (hc : (resV fr c).run P w = .ok vc w) : (results fn fr).run P w = .ok (.tuple #[va, vb, vc]) w := by
  rw [results_eq]; simp [h, ha, hb, hc]
theorem Els.len1 {S : Fz} {w : World} {K : Kd α} {cs : List Value} {xs : List α} {n : Nat} (he : Els K S w cs xs) (hl : cs.length = n) (hK : K.size = 1) : xs.length = n := by
  have := he.length
  rw [hK, Nat.mul_one] at this
  omega
end
end Go.Gx
