/-
  From what a law's function computes to the statement about its calls: whatever the arguments within the bound, it returns true, and they read as before.
-/

import Derived.Test.YtemokppdnkiejaaWSyn

import Derived.Test.YtemokppdnkiejaaGR

set_option linter.unusedVariables false

namespace Go.Proofs.Ytemokppdnkiejaa

open Go.ChangeShapes Go.WideShapes Go.ChangeAt Go.RowKit Go.Gx

def PureSyntaxReads : Prop := ∀ (x0 : ByteArray), (fun s => s.size ≤ maxLen) x0 → x0.size + 1 ≤ 1048576 → M.tidepolelaw10_SyntaxReads x0 = some true

set_option maxRecDepth 100000 in
theorem syntaxReads_contract (hpure : PureSyntaxReads) (H : Type) (enc : TypeId × Value → H) (W : World) (base : Nat) (args : Array Value) (ds gs : List (DataW H)) (before : List MemPlace)
    (hval : ∀ (j : Nat) t v, Try.f3.params[j]? = some t → args[j]? = some v → Value.okWide Try.prog W .any base t v)
    (hW : DataW.Whole enc Try.prog Try.f3.params.toList Rows.syntaxReadsSpec.vars false W args.toList ds gs before) (hk : Rows.uptoSmall H (ds ++ gs) = true) :
    Calls Try.prog 3 args W fun e W' => ∃ v, e = .returned v ∧ Rows.syntaxReadsSpec.post enc Try.prog Try.f3 false true false false W args v W' := by
  have hW' := hW
  obtain ⟨p, q, hA0, hV, rfl, hfz, hnd⟩ := hW
  have hA : DataW.TrodAll enc Try.prog W 0 (fun _ => true) true Try.f3.params.toList args.toList ds p := hA0
  rw [Try.params3] at hA hval
  obtain ⟨v0, vs0, d0, ds0, p0, q0, hargs, rfl, rfl, h0, r0⟩ := trodAll_cons hA
  obtain ⟨rfl, rfl, rfl⟩ := trodAll_nil r0
  obtain rfl : args = #[v0] := by cases args; simp_all
  obtain ⟨rfl, rfl⟩ := trodVars_none hV
  obtain ⟨x0, k0, o0, b0⟩ := Opens.arg (opens_str (by kernel_rfl)) (by kernel_rfl) (hval 0 9 v0 rfl rfl) h0
  obtain rfl : v0 = .string x0 := by injection k0
  have hk2 := of_decide_eq_true hk
  simp only [List.append_nil, Rows.uptoBulkAll] at hk2
  have hm := hpure x0 o0 (by omega)
  refine contract_of hW' rfl rfl rfl rfl (by kernel_rfl) (tb := 4) (by kernel_rfl) (by kernel_rfl) (by kernel_rfl) ?_
  refine Calls.mono (Gx.W.tidepolelaw10_SyntaxReads x0 true hm W.heap.size W (all W) W []  (Hp.init W) ) ?_
  rintro e W' ⟨v, rfl, hpost⟩
  obtain ⟨S', rfl, hx, hp⟩ := hpost
  exact ⟨_, rfl, rfl, hp.below⟩

set_option maxRecDepth 100000 in
theorem syntaxReads_lifted (hpure : PureSyntaxReads) (os : Os) (started : os.Started) (H : Type) (enc : TypeId × Value → H) (F : Stop.Interp) :
    ReturnsInHanded {} Try.checked os 3 .any ((Rows.OpenSpec.upto Rows.syntaxReadsSpec).pre6 enc Try.prog Try.f3 Rows.syntaxReadsUptoRow.domain false) (((Rows.OpenSpec.upto Rows.syntaxReadsSpec).at F).post enc Try.prog Try.f3 false true false false) := by
  refine returnsInHanded_of_cond (C := Try.checked) (s := Rows.OpenSpec.upto Rows.syntaxReadsSpec) (k := Rows.uptoSmall) rfl (by kernel_rfl) started (by kernel_rfl) Try.func3
    (OpenSpec.witness (enc := enc) (C := Try.checked) (s := Rows.OpenSpec.upto Rows.syntaxReadsSpec) (k := Rows.uptoSmall) rfl false ⟨#[], #[.string .empty], []⟩ 8 (by kernel_rfl) (by kernel_rfl) (by kernel_rfl)
      (x := ([.lit (.string [])], [], [])) (by kernel_rfl) rfl (by kernel_rfl)) ?_
  intro W base args ds gs before hval hW _ hk _
  exact syntaxReads_contract hpure H enc W base args ds gs before hval hW hk

theorem syntaxReads_said (hpure : PureSyntaxReads) : Rows.SyntaxReadsUptoSaid :=
  OpenClaim.holds_of_cond 3 Try.f3 rfl rfl rfl rfl rfl rfl rfl ⟨rfl, rfl, rfl, rfl, rfl⟩ rfl rfl rfl rfl rfl (by kernel_rfl) Try.func3 (by kernel_rfl)
    (of_decide_eq_true (by kernel_rfl)) (by unfold Func.isWrapper; first | (rw [if_pos (by decide +kernel)]; kernel_rfl) | (rw [if_neg (by decide +kernel)]; exact ⟨rfl, rfl⟩))
    (fun os started H enc _ F => syntaxReads_lifted hpure os started H enc F)

end Go.Proofs.Ytemokppdnkiejaa
