/-
 An index that no call made has and does nothing: what the pure functions say.
-/
import Derived.Test.YtbclkjbkebebeaaGreatOIv
set_option linter.unusedVariables false
set_option linter.unusedSimpArgs false
namespace Go.Proofs.YtbclkjbkebebeaaGreat
open Go.Gx
theorem gn_end {α : Type} [Inhabited α] (l : List α) (a : α) : gn (l ++ [a]) l.length = a := by simp [gn]
theorem srtS_nil : srtS [] = [] := by simp [srtS]
def mkZ (e : Z) : Z := {e with zb := e.zb ++ [[]], ze := e.ze ++ [[]], zg := e.zg ++ [[]], zi := e.zi ++ [[]], zj := e.zj ++ [⟨⟨some e.zi.length⟩⟩], zh := e.zh ++ [⟨some e.ze.length, some e.zb.length, some e.zg.length, some e.zj.length, 0, 0⟩]}
theorem mkC (e : Z) : M.a15 e = some (e.zh.length, mkZ e) := rfl
section
variable {e : Z} {x : Nat} (hx : gn e.zd x = ⟨none, none, none⟩)
include hx
theorem is_v : M.a7 x e = some false := by unfold M.a7; rw [hx]; rfl
theorem fit_v (n : ByteArray) (q : T64) : M.a50 x n q e = some ([], 1, e) := by unfold M.a50; rw [is_v hx]; rfl
theorem find_v (l : List T55) : M.a51 x l e = some (0, false) := by unfold M.a51; rw [is_v hx]; rfl
theorem add_v (i : Int) (l : List T55) : M.a16 x i l e = some (1, e) := by unfold M.a16; rw [is_v hx]; rfl
theorem drop_v (i : Int) : M.a57 x i e = some (1, e) := by unfold M.a57; rw [is_v hx]; rfl
theorem copy_v : M.a58 x e = some (none, e) := by unfold M.a58; rw [is_v hx]; rfl
theorem all_v : M.a1n x e = some [] := by unfold M.a1n; rw [is_v hx]; rfl
theorem len_v : M.a5a x e = some 0 := by unfold M.a5a; rw [is_v hx]; rfl
theorem col_v (n : ByteArray) : M.a12 x n e = some (some e.zh.length, mkZ e) := by unfold M.a12; rw [is_v hx]; exact congrArg (fun r => r >>= fun y61 => some (some y61.1, y61.2)) (mkC e)
theorem values_v (n : ByteArray) : M.a1x x n e = some ([], mkZ e) := by
 have h1 : (gn (mkZ e).zh e.zh.length).values = some e.ze.length := by rw [show (mkZ e).zh = e.zh ++ [_] from rfl, gn_end]
 have h2 : gn (mkZ e).ze e.ze.length = [] := gn_end _ _
 unfold M.a1x
 rw [col_v hx]
 show (match (gn (mkZ e).zh e.zh.length).values with | none => _ | some y25 => _) = _
 rw [h1]
 show (M.a2s e.ze.length (mkZ e) >>= fun y37 => some (y37, mkZ e)) = _
 unfold M.a2s M.a3o M.a3n M.a3m
 rw [h2, M.a4]
 show (if ((0 : Nat) : Int) ≤ 1099511627776 then some (srtS []) else none) >>= _ = _
 rw [if_pos (by omega), srtS_nil]
 rfl
theorem list_v (n : ByteArray) : ∃ ps, M.a1p x n (⟨#[]⟩ : ByteArray) e = some ([], ps) ∧ ps.zd = e.zd := by
 have h1 : (gn (mkZ e).zh e.zh.length).values = some e.ze.length := by rw [show (mkZ e).zh = e.zh ++ [_] from rfl, gn_end]
 have h2 : gn (mkZ e).ze e.ze.length = [] := gn_end _ _
 refine ⟨{mkZ e with zf := (mkZ e).zf ++ [[]]}, ?_, rfl⟩
 unfold M.a1p
 rw [col_v hx]
 show (if _ then _ else _) = _
 rw [if_pos (by simp)]
 have ha := all_v (e := {mkZ e with zf := (mkZ e).zf ++ [[]]}) (x := x) hx
 show (M.a1n x {mkZ e with zf := (mkZ e).zf ++ [[]]} >>= _) = _
 rw [ha]
 show M.a1o (some e.zh.length, (mkZ e).zf.length, [], ((0 : Nat) : Int), 0, {mkZ e with zf := (mkZ e).zf ++ [[]]}) = _
 rw [M.a1o, if_neg (by omega)]
 show (match (gn (mkZ e).zh e.zh.length).values with | none => _ | some y85 => _) = _
 rw [h1]
 show M.a1 ((mkZ e).zf.length, e.ze.length, gn (mkZ e).ze e.ze.length, {mkZ e with zf := (mkZ e).zf ++ [[]]}) = _
 rw [h2, M.a1]
 unfold M.a2q M.a2o M.a3h M.a3g M.a3f M.a2p
 simp only [bnd, gn_end]
 rw [M.a3]
 simp only [bnd]
 rw [sortU [] (by simp)]
 simp [bnd, srtI]
end
theorem void_law (hw : ∃ z, M.a2u Z0 = some (true, z)) (x0 : Int) (x1 : List T55) (x2 : ByteArray) : ∃ ps, M.a5b x0 x1 x2 Z0 = some (true, ps) := by
 obtain ⟨z, hw⟩ := hw
 have hx : gn (z.zd ++ [(⟨none, none, none⟩ : T80)]) z.zd.length = ⟨none, none, none⟩ := gn_end _ _
 have hc : ∀ e : Z, M.a59 x2 e = some (0, mkZ e) := fun e => by
  unfold M.a59 M.a70 M.a9
  rw [bnd, mkC, bnd, bnd]
  have : (gn (mkZ e).zh e.zh.length).size = 0 := by rw [show (mkZ e).zh = e.zh ++ [_] from rfl, gn_end]
  show some ((gn (mkZ e).zh e.zh.length).size, mkZ e) = _
  rw [this]
 generalize he : ({z with zd := z.zd ++ [(⟨none, none, none⟩ : T80)]} : Z) = e
 have hx1 : gn e.zd z.zd.length = ⟨none, none, none⟩ := by rw [← he]; exact hx
 have hx2 : gn (mkZ (mkZ e)).zd z.zd.length = ⟨none, none, none⟩ := hx1
 obtain ⟨ps, hl, hp⟩ := list_v hx2 x2
 have hx3 : gn ps.zd z.zd.length = ⟨none, none, none⟩ := by rw [hp]; exact hx1
 refine ⟨ps, ?_⟩
 unfold M.a5b
 rw [hw, bnd]
 simp only [he]
 unfold M.a5r M.a6c M.a6d M.a6e M.a6x M.a6y M.a6z M.a71 M.a9
 simp only [if_true, bnd, fit_v hx1, find_v hx1, add_v hx1, drop_v hx1, copy_v hx1, all_v hx1, values_v hx1, hc, hl, len_v hx3]
 simp
 decide
end Go.Proofs.YtbclkjbkebebeaaGreat
