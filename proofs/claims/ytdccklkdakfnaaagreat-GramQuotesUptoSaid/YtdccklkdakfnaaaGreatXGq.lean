/-
 From what a law's function computes to the statement about its calls: whatever the arguments within the bound, it returns true, and they read as before.
-/

import Derived.Test.YtdccklkdakfnaaaGreatWGq

import Derived.Test.YtdccklkdakfnaaaGreatGS

set_option linter.unusedVariables false

namespace Go.Proofs.YtdccklkdakfnaaaGreat

open Go.ChangeShapes Go.WideShapes Go.ChangeAt Go.RowKit Go.Gx

def PureGramQuotes : Prop := ∀ (x0 : ByteArray), (fun s => s.size ≤ maxLen) x0 → x0.size + 1 ≤ 1048576 → M.a4h x0 = some true

set_option maxRecDepth 100000 in
theorem gramQuotes_contract (hpure : PureGramQuotes) (H : Type) (enc : TypeId × Value → H) (W : World) (base : Nat) (args : Array Value) (ds gs : List (DataW H)) (before : List MemPlace)
  (hval : ∀ (j : Nat) t v, Tryz.f4.params[j]? = some t → args[j]? = some v → Value.okWide Tryz.prog W .any base t v)
  (hW : DataW.Whole enc Tryz.prog Tryz.f4.params.toList Rows.gramQuotesSpec.vars false W args.toList ds gs before) (hk : Rows.uptoSmall H (ds ++ gs) = true) :
  Calls Tryz.prog 4 args W fun e W' => ∃ v, e = .returned v ∧ Rows.gramQuotesSpec.post enc Tryz.prog Tryz.f4 false true false false W args v W' := by
 have hW' := hW
 obtain ⟨p, q, hA0, hV, rfl, hfz, hnd⟩ := hW
 have hA : DataW.TrodAll enc Tryz.prog W 0 (fun _ => true) true Tryz.f4.params.toList args.toList ds p := hA0
 rw [Tryz.params4] at hA hval
 obtain ⟨v0, vs0, d0, ds0, p0, q0, hargs, rfl, rfl, h0, r0⟩ := trodAll_cons hA
 obtain ⟨rfl, rfl, rfl⟩ := trodAll_nil r0
 obtain rfl : args = #[v0] := by cases args; simp_all
 obtain ⟨rfl, rfl⟩ := trodVars_none hV
 obtain ⟨x0, k0, o0, b0⟩ := Opens.arg (opens_str (by kernel_rfl)) (by kernel_rfl) (hval 0 9 v0 rfl rfl) h0
 obtain rfl : v0 = .string x0 := by injection k0
 have hk2 := of_decide_eq_true hk
 simp only [List.append_nil, Rows.uptoBulkAll] at hk2
 have hm := hpure x0 o0 (by omega)
 refine contract_of hW' rfl rfl rfl rfl (by kernel_rfl) (tb := 4) (by kernel_rfl) (by kernel_rfl) (by kernel_rfl) ?_
 refine Calls.mono (Gx.W.z5h x0 true hm  (Hp.init W) ) ?_
 rintro e W' ⟨v, rfl, hpost⟩
 obtain ⟨S', rfl, hx, hp⟩ := hpost
 exact ⟨_, rfl, rfl, hp.below⟩

set_option maxRecDepth 100000 in
theorem gramQuotes_lifted (hpure : PureGramQuotes) (os : Os) (started : os.Started) (H : Type) (enc : TypeId × Value → H) (F : Stop.Interp) :
  ReturnsInHanded {} Tryz.checked os 4 .any ((Rows.OpenSpec.upto Rows.gramQuotesSpec).pre6 enc Tryz.prog Tryz.f4 Rows.gramQuotesUptoRow.domain false) (((Rows.OpenSpec.upto Rows.gramQuotesSpec).at F).post enc Tryz.prog Tryz.f4 false true false false) := by
 refine returnsInHanded_of_cond (C := Tryz.checked) (s := Rows.OpenSpec.upto Rows.gramQuotesSpec) (k := Rows.uptoSmall) rfl (by kernel_rfl) started (by kernel_rfl) Tryz.func4
  (OpenSpec.witness (enc := enc) (C := Tryz.checked) (s := Rows.OpenSpec.upto Rows.gramQuotesSpec) (k := Rows.uptoSmall) rfl false ⟨#[], #[.string .empty], []⟩ 8 (by kernel_rfl) (by kernel_rfl) (by kernel_rfl)
   (x := ([.lit (.string [])], [], [])) (by kernel_rfl) rfl (by kernel_rfl)) ?_
 intro W base args ds gs before hval hW _ hk _
 exact gramQuotes_contract hpure H enc W base args ds gs before hval hW hk

theorem gramQuotes_joined : joinedFacts Tryz.pinned.checked.prog 4 Tryz.f4 (Rows.OpenSpec.upto Rows.gramQuotesSpec).bare Rows.gramQuotesUptoRow = true := by
 unfold joinedFacts; simp only [Bool.and_eq_true]; (repeat' apply And.intro); all_goals kernel_rfl

theorem gramQuotes_said (hpure : PureGramQuotes) : Rows.GramQuotesUptoSaid :=
 OpenClaim.holds_of_cond 4 Tryz.f4 rfl rfl rfl rfl rfl rfl rfl ⟨rfl, rfl, rfl, rfl, rfl⟩ rfl rfl rfl rfl rfl (by kernel_rfl) Tryz.func4 gramQuotes_joined
  (of_decide_eq_true (by kernel_rfl)) (by unfold Func.isWrapper; first | (rw [if_pos (by decide +kernel)]; kernel_rfl) | (rw [if_neg (by decide +kernel)]; exact ⟨rfl, rfl⟩))
  (fun os started H enc _ F => gramQuotes_lifted hpure os started H enc F)

end Go.Proofs.YtdccklkdakfnaaaGreat
