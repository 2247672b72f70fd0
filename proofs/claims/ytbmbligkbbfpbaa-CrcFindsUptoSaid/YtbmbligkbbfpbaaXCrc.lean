/-
  From what a law's function computes to the statement about its calls: whatever the arguments within the bound, it returns true, and they read as before.
-/

import Derived.Test.YtbmbligkbbfpbaaWCrc

import Derived.Test.YtbmbligkbbfpbaaGR

set_option linter.unusedVariables false

namespace Go.Proofs.Ytbmbligkbbfpbaa

open Go.ChangeShapes Go.WideShapes Go.ChangeAt Go.RowKit Go.Gx

def PureCrcSums : Prop := ∀ (x0 : Int) (x1 : List Int), (okInt .u32) x0 → (okSl (okInt .u8)) x1 → 1 + (bkSl (fun _ => 1)) x1 ≤ 1048576 → M.tidepolelaw02_CrcSums x0 x1 = some true

theorem crcSums_contract (hpure : PureCrcSums) (H : Type) (enc : TypeId × Value → H) (W : World) (base : Nat) (args : Array Value) (ds gs : List (DataW H)) (before : List MemPlace)
    (hval : ∀ (j : Nat) t v, Try.f3.params[j]? = some t → args[j]? = some v → Value.okWide Try.prog W .any base t v)
    (hW : DataW.Whole enc Try.prog Try.f3.params.toList Rows.crcSumsSpec.vars false W args.toList ds gs before) (hk : Rows.uptoSmall H (ds ++ gs) = true) :
    Calls Try.prog 3 args W fun e W' => ∃ v, e = .returned v ∧ Rows.crcSumsSpec.post enc Try.prog Try.f3 false true false false W args v W' := by
  have hW' := hW
  obtain ⟨p, q, hA0, hV, rfl, hfz, hnd⟩ := hW
  have hA : DataW.TrodAll enc Try.prog W 0 (fun _ => true) true Try.f3.params.toList args.toList ds p := hA0
  rw [Try.params3] at hA hval
  obtain ⟨v0, vs0, d0, ds0, p0, q0, hargs, rfl, rfl, h0, r0⟩ := trodAll_cons hA
  obtain ⟨v1, vs1, d1, ds1, p1, q1, rfl, rfl, rfl, h1, r1⟩ := trodAll_cons r0
  obtain ⟨rfl, rfl, rfl⟩ := trodAll_nil r1
  obtain rfl : args = #[v0, v1] := by cases args; simp_all
  obtain ⟨rfl, rfl⟩ := trodVars_none hV
  obtain ⟨x0, k0, o0, b0⟩ := Opens.arg (opens_int (by kernel_rfl)) (by kernel_rfl) (hval 0 22 v0 rfl rfl) h0
  obtain rfl : v0 = .int .u32 x0 := by injection k0
  obtain ⟨x1, k1, o1, b1⟩ := Opens.arg (opens_slice (K := (kInt .u8)) (e := 5) (by kernel_rfl) (by kernel_rfl) (opens_int (by kernel_rfl))) (by kernel_rfl) (hval 1 23 v1 rfl rfl) h1
  obtain ⟨Ax1, cx1, e1, fx1⟩ := k1
  obtain rfl : v1 = .slice Ax1 x1.length cx1 := by injection e1
  have hk2 := of_decide_eq_true hk
  simp only [List.append_nil, Rows.uptoBulkAll] at hk2
  have hm := hpure x0 x1 o0 o1 (by omega)
  refine contract_of hW' rfl rfl rfl rfl (by kernel_rfl) (tb := 4) (by kernel_rfl) (by kernel_rfl) (by kernel_rfl) ?_
  refine Calls.mono (Gx.W.tidepolelaw02_CrcSums x0 x1 true hm W.heap.size W (all W) W [] Ax1 cx1 (Hp.init W) fx1) ?_
  rintro e W' ⟨v, rfl, hpost⟩
  obtain ⟨S', rfl, hx, hp⟩ := hpost
  exact ⟨_, rfl, rfl, hp.below⟩

set_option maxRecDepth 100000 in
theorem crcSums_lifted (hpure : PureCrcSums) (os : Os) (started : os.Started) (H : Type) (enc : TypeId × Value → H) (F : Stop.Interp) :
    ReturnsInHanded {} Try.checked os 3 .any ((Rows.OpenSpec.upto Rows.crcSumsSpec).pre6 enc Try.prog Try.f3 Rows.crcSumsUptoRow.domain false) (((Rows.OpenSpec.upto Rows.crcSumsSpec).at F).post enc Try.prog Try.f3 false true false false) := by
  refine returnsInHanded_of_cond (C := Try.checked) (s := Rows.OpenSpec.upto Rows.crcSumsSpec) (k := Rows.uptoSmall) rfl (by kernel_rfl) started (by kernel_rfl) Try.func3
    (OpenSpec.witness (enc := enc) (C := Try.checked) (s := Rows.OpenSpec.upto Rows.crcSumsSpec) (k := Rows.uptoSmall) rfl false ⟨#[], #[.int .u32 0, .slice none 0 0], []⟩ 8 (by kernel_rfl) (by kernel_rfl) (by kernel_rfl)
      (x := ([.lit (.int .u32 0), .nil], [], [])) (by kernel_rfl) rfl (by kernel_rfl)) ?_
  intro W base args ds gs before hval hW _ hk _
  exact crcSums_contract hpure H enc W base args ds gs before hval hW hk

theorem crcSums_said (hpure : PureCrcSums) : Rows.CrcSumsUptoSaid :=
  OpenClaim.holds_of_cond 3 Try.f3 rfl rfl rfl rfl rfl rfl rfl ⟨rfl, rfl, rfl, rfl, rfl⟩ rfl rfl rfl rfl rfl (by kernel_rfl) Try.func3 (by kernel_rfl)
    (of_decide_eq_true (by kernel_rfl)) (by unfold Func.isWrapper; first | (rw [if_pos (by decide +kernel)]; kernel_rfl) | (rw [if_neg (by decide +kernel)]; exact ⟨rfl, rfl⟩))
    (fun os started H enc _ F => crcSums_lifted hpure os started H enc F)

def PureCrcSeals : Prop := ∀ (x0 : List Int) (x1 : Int), (okSl (okInt .u8)) x0 → (okInt .u32) x1 → (bkSl (fun _ => 1)) x0 + 1 ≤ 1048576 → M.tidepolelaw02_CrcSeals x0 x1 = some true

theorem crcSeals_contract (hpure : PureCrcSeals) (H : Type) (enc : TypeId × Value → H) (W : World) (base : Nat) (args : Array Value) (ds gs : List (DataW H)) (before : List MemPlace)
    (hval : ∀ (j : Nat) t v, Try.f4.params[j]? = some t → args[j]? = some v → Value.okWide Try.prog W .any base t v)
    (hW : DataW.Whole enc Try.prog Try.f4.params.toList Rows.crcSealsSpec.vars false W args.toList ds gs before) (hk : Rows.uptoSmall H (ds ++ gs) = true) :
    Calls Try.prog 4 args W fun e W' => ∃ v, e = .returned v ∧ Rows.crcSealsSpec.post enc Try.prog Try.f4 false true false false W args v W' := by
  have hW' := hW
  obtain ⟨p, q, hA0, hV, rfl, hfz, hnd⟩ := hW
  have hA : DataW.TrodAll enc Try.prog W 0 (fun _ => true) true Try.f4.params.toList args.toList ds p := hA0
  rw [Try.params4] at hA hval
  obtain ⟨v0, vs0, d0, ds0, p0, q0, hargs, rfl, rfl, h0, r0⟩ := trodAll_cons hA
  obtain ⟨v1, vs1, d1, ds1, p1, q1, rfl, rfl, rfl, h1, r1⟩ := trodAll_cons r0
  obtain ⟨rfl, rfl, rfl⟩ := trodAll_nil r1
  obtain rfl : args = #[v0, v1] := by cases args; simp_all
  obtain ⟨rfl, rfl⟩ := trodVars_none hV
  obtain ⟨x0, k0, o0, b0⟩ := Opens.arg (opens_slice (K := (kInt .u8)) (e := 5) (by kernel_rfl) (by kernel_rfl) (opens_int (by kernel_rfl))) (by kernel_rfl) (hval 0 23 v0 rfl rfl) h0
  obtain ⟨Ax0, cx0, e0, fx0⟩ := k0
  obtain rfl : v0 = .slice Ax0 x0.length cx0 := by injection e0
  obtain ⟨x1, k1, o1, b1⟩ := Opens.arg (opens_int (by kernel_rfl)) (by kernel_rfl) (hval 1 22 v1 rfl rfl) h1
  obtain rfl : v1 = .int .u32 x1 := by injection k1
  have hk2 := of_decide_eq_true hk
  simp only [List.append_nil, Rows.uptoBulkAll] at hk2
  have hm := hpure x0 x1 o0 o1 (by omega)
  refine contract_of hW' rfl rfl rfl rfl (by kernel_rfl) (tb := 4) (by kernel_rfl) (by kernel_rfl) (by kernel_rfl) ?_
  refine Calls.mono (Gx.W.tidepolelaw02_CrcSeals x0 x1 true hm W.heap.size W (all W) W [] Ax0 cx0 (Hp.init W) fx0) ?_
  rintro e W' ⟨v, rfl, hpost⟩
  obtain ⟨S', rfl, hx, hp⟩ := hpost
  exact ⟨_, rfl, rfl, hp.below⟩

set_option maxRecDepth 100000 in
theorem crcSeals_lifted (hpure : PureCrcSeals) (os : Os) (started : os.Started) (H : Type) (enc : TypeId × Value → H) (F : Stop.Interp) :
    ReturnsInHanded {} Try.checked os 4 .any ((Rows.OpenSpec.upto Rows.crcSealsSpec).pre6 enc Try.prog Try.f4 Rows.crcSealsUptoRow.domain false) (((Rows.OpenSpec.upto Rows.crcSealsSpec).at F).post enc Try.prog Try.f4 false true false false) := by
  refine returnsInHanded_of_cond (C := Try.checked) (s := Rows.OpenSpec.upto Rows.crcSealsSpec) (k := Rows.uptoSmall) rfl (by kernel_rfl) started (by kernel_rfl) Try.func4
    (OpenSpec.witness (enc := enc) (C := Try.checked) (s := Rows.OpenSpec.upto Rows.crcSealsSpec) (k := Rows.uptoSmall) rfl false ⟨#[], #[.slice none 0 0, .int .u32 0], []⟩ 8 (by kernel_rfl) (by kernel_rfl) (by kernel_rfl)
      (x := ([.nil, .lit (.int .u32 0)], [], [])) (by kernel_rfl) rfl (by kernel_rfl)) ?_
  intro W base args ds gs before hval hW _ hk _
  exact crcSeals_contract hpure H enc W base args ds gs before hval hW hk

theorem crcSeals_said (hpure : PureCrcSeals) : Rows.CrcSealsUptoSaid :=
  OpenClaim.holds_of_cond 4 Try.f4 rfl rfl rfl rfl rfl rfl rfl ⟨rfl, rfl, rfl, rfl, rfl⟩ rfl rfl rfl rfl rfl (by kernel_rfl) Try.func4 (by kernel_rfl)
    (of_decide_eq_true (by kernel_rfl)) (by unfold Func.isWrapper; first | (rw [if_pos (by decide +kernel)]; kernel_rfl) | (rw [if_neg (by decide +kernel)]; exact ⟨rfl, rfl⟩))
    (fun os started H enc _ F => crcSeals_lifted hpure os started H enc F)

def PureCrcFinds : Prop := ∀ (x0 : List Int) (x1 : Int) (x2 : Int), (okSl (okInt .u8)) x0 → (okInt .i64) x1 → (okInt .u32) x2 → (bkSl (fun _ => 1)) x0 + 1 + 1 ≤ 1048576 → M.tidepolelaw02_CrcFinds x0 x1 x2 = some true

theorem crcFinds_contract (hpure : PureCrcFinds) (H : Type) (enc : TypeId × Value → H) (W : World) (base : Nat) (args : Array Value) (ds gs : List (DataW H)) (before : List MemPlace)
    (hval : ∀ (j : Nat) t v, Try.f5.params[j]? = some t → args[j]? = some v → Value.okWide Try.prog W .any base t v)
    (hW : DataW.Whole enc Try.prog Try.f5.params.toList Rows.crcFindsSpec.vars false W args.toList ds gs before) (hk : Rows.uptoSmall H (ds ++ gs) = true) :
    Calls Try.prog 5 args W fun e W' => ∃ v, e = .returned v ∧ Rows.crcFindsSpec.post enc Try.prog Try.f5 false true false false W args v W' := by
  have hW' := hW
  obtain ⟨p, q, hA0, hV, rfl, hfz, hnd⟩ := hW
  have hA : DataW.TrodAll enc Try.prog W 0 (fun _ => true) true Try.f5.params.toList args.toList ds p := hA0
  rw [Try.params5] at hA hval
  obtain ⟨v0, vs0, d0, ds0, p0, q0, hargs, rfl, rfl, h0, r0⟩ := trodAll_cons hA
  obtain ⟨v1, vs1, d1, ds1, p1, q1, rfl, rfl, rfl, h1, r1⟩ := trodAll_cons r0
  obtain ⟨v2, vs2, d2, ds2, p2, q2, rfl, rfl, rfl, h2, r2⟩ := trodAll_cons r1
  obtain ⟨rfl, rfl, rfl⟩ := trodAll_nil r2
  obtain rfl : args = #[v0, v1, v2] := by cases args; simp_all
  obtain ⟨rfl, rfl⟩ := trodVars_none hV
  obtain ⟨x0, k0, o0, b0⟩ := Opens.arg (opens_slice (K := (kInt .u8)) (e := 5) (by kernel_rfl) (by kernel_rfl) (opens_int (by kernel_rfl))) (by kernel_rfl) (hval 0 23 v0 rfl rfl) h0
  obtain ⟨Ax0, cx0, e0, fx0⟩ := k0
  obtain rfl : v0 = .slice Ax0 x0.length cx0 := by injection e0
  obtain ⟨x1, k1, o1, b1⟩ := Opens.arg (opens_int (by kernel_rfl)) (by kernel_rfl) (hval 1 3 v1 rfl rfl) h1
  obtain rfl : v1 = .int .i64 x1 := by injection k1
  obtain ⟨x2, k2, o2, b2⟩ := Opens.arg (opens_int (by kernel_rfl)) (by kernel_rfl) (hval 2 22 v2 rfl rfl) h2
  obtain rfl : v2 = .int .u32 x2 := by injection k2
  have hk2 := of_decide_eq_true hk
  simp only [List.append_nil, Rows.uptoBulkAll] at hk2
  have hm := hpure x0 x1 x2 o0 o1 o2 (by omega)
  refine contract_of hW' rfl rfl rfl rfl (by kernel_rfl) (tb := 4) (by kernel_rfl) (by kernel_rfl) (by kernel_rfl) ?_
  refine Calls.mono (Gx.W.tidepolelaw02_CrcFinds x0 x1 x2 true hm W.heap.size W (all W) W [] Ax0 cx0 (Hp.init W) fx0) ?_
  rintro e W' ⟨v, rfl, hpost⟩
  obtain ⟨S', rfl, hx, hp⟩ := hpost
  exact ⟨_, rfl, rfl, hp.below⟩

set_option maxRecDepth 100000 in
theorem crcFinds_lifted (hpure : PureCrcFinds) (os : Os) (started : os.Started) (H : Type) (enc : TypeId × Value → H) (F : Stop.Interp) :
    ReturnsInHanded {} Try.checked os 5 .any ((Rows.OpenSpec.upto Rows.crcFindsSpec).pre6 enc Try.prog Try.f5 Rows.crcFindsUptoRow.domain false) (((Rows.OpenSpec.upto Rows.crcFindsSpec).at F).post enc Try.prog Try.f5 false true false false) := by
  refine returnsInHanded_of_cond (C := Try.checked) (s := Rows.OpenSpec.upto Rows.crcFindsSpec) (k := Rows.uptoSmall) rfl (by kernel_rfl) started (by kernel_rfl) Try.func5
    (OpenSpec.witness (enc := enc) (C := Try.checked) (s := Rows.OpenSpec.upto Rows.crcFindsSpec) (k := Rows.uptoSmall) rfl false ⟨#[], #[.slice none 0 0, .int .i64 0, .int .u32 0], []⟩ 8 (by kernel_rfl) (by kernel_rfl) (by kernel_rfl)
      (x := ([.nil, .lit (.int .i64 0), .lit (.int .u32 0)], [], [])) (by kernel_rfl) rfl (by kernel_rfl)) ?_
  intro W base args ds gs before hval hW _ hk _
  exact crcFinds_contract hpure H enc W base args ds gs before hval hW hk

theorem crcFinds_said (hpure : PureCrcFinds) : Rows.CrcFindsUptoSaid :=
  OpenClaim.holds_of_cond 5 Try.f5 rfl rfl rfl rfl rfl rfl rfl ⟨rfl, rfl, rfl, rfl, rfl⟩ rfl rfl rfl rfl rfl (by kernel_rfl) Try.func5 (by kernel_rfl)
    (of_decide_eq_true (by kernel_rfl)) (by unfold Func.isWrapper; first | (rw [if_pos (by decide +kernel)]; kernel_rfl) | (rw [if_neg (by decide +kernel)]; exact ⟨rfl, rfl⟩))
    (fun os started H enc _ F => crcFinds_lifted hpure os started H enc F)

def PureCrcOpens : Prop := ∀ (x0 : List Int), (okSl (okInt .u8)) x0 → (bkSl (fun _ => 1)) x0 ≤ 1048576 → M.tidepolelaw02_CrcOpens x0 = some true

theorem crcOpens_contract (hpure : PureCrcOpens) (H : Type) (enc : TypeId × Value → H) (W : World) (base : Nat) (args : Array Value) (ds gs : List (DataW H)) (before : List MemPlace)
    (hval : ∀ (j : Nat) t v, Try.f6.params[j]? = some t → args[j]? = some v → Value.okWide Try.prog W .any base t v)
    (hW : DataW.Whole enc Try.prog Try.f6.params.toList Rows.crcOpensSpec.vars false W args.toList ds gs before) (hk : Rows.uptoSmall H (ds ++ gs) = true) :
    Calls Try.prog 6 args W fun e W' => ∃ v, e = .returned v ∧ Rows.crcOpensSpec.post enc Try.prog Try.f6 false true false false W args v W' := by
  have hW' := hW
  obtain ⟨p, q, hA0, hV, rfl, hfz, hnd⟩ := hW
  have hA : DataW.TrodAll enc Try.prog W 0 (fun _ => true) true Try.f6.params.toList args.toList ds p := hA0
  rw [Try.params6] at hA hval
  obtain ⟨v0, vs0, d0, ds0, p0, q0, hargs, rfl, rfl, h0, r0⟩ := trodAll_cons hA
  obtain ⟨rfl, rfl, rfl⟩ := trodAll_nil r0
  obtain rfl : args = #[v0] := by cases args; simp_all
  obtain ⟨rfl, rfl⟩ := trodVars_none hV
  obtain ⟨x0, k0, o0, b0⟩ := Opens.arg (opens_slice (K := (kInt .u8)) (e := 5) (by kernel_rfl) (by kernel_rfl) (opens_int (by kernel_rfl))) (by kernel_rfl) (hval 0 23 v0 rfl rfl) h0
  obtain ⟨Ax0, cx0, e0, fx0⟩ := k0
  obtain rfl : v0 = .slice Ax0 x0.length cx0 := by injection e0
  have hk2 := of_decide_eq_true hk
  simp only [List.append_nil, Rows.uptoBulkAll] at hk2
  have hm := hpure x0 o0 (by omega)
  refine contract_of hW' rfl rfl rfl rfl (by kernel_rfl) (tb := 4) (by kernel_rfl) (by kernel_rfl) (by kernel_rfl) ?_
  refine Calls.mono (Gx.W.tidepolelaw02_CrcOpens x0 true hm W.heap.size W (all W) W [] Ax0 cx0 (Hp.init W) fx0) ?_
  rintro e W' ⟨v, rfl, hpost⟩
  obtain ⟨S', rfl, hx, hp⟩ := hpost
  exact ⟨_, rfl, rfl, hp.below⟩

set_option maxRecDepth 100000 in
theorem crcOpens_lifted (hpure : PureCrcOpens) (os : Os) (started : os.Started) (H : Type) (enc : TypeId × Value → H) (F : Stop.Interp) :
    ReturnsInHanded {} Try.checked os 6 .any ((Rows.OpenSpec.upto Rows.crcOpensSpec).pre6 enc Try.prog Try.f6 Rows.crcOpensUptoRow.domain false) (((Rows.OpenSpec.upto Rows.crcOpensSpec).at F).post enc Try.prog Try.f6 false true false false) := by
  refine returnsInHanded_of_cond (C := Try.checked) (s := Rows.OpenSpec.upto Rows.crcOpensSpec) (k := Rows.uptoSmall) rfl (by kernel_rfl) started (by kernel_rfl) Try.func6
    (OpenSpec.witness (enc := enc) (C := Try.checked) (s := Rows.OpenSpec.upto Rows.crcOpensSpec) (k := Rows.uptoSmall) rfl false ⟨#[], #[.slice none 0 0], []⟩ 8 (by kernel_rfl) (by kernel_rfl) (by kernel_rfl)
      (x := ([.nil], [], [])) (by kernel_rfl) rfl (by kernel_rfl)) ?_
  intro W base args ds gs before hval hW _ hk _
  exact crcOpens_contract hpure H enc W base args ds gs before hval hW hk

theorem crcOpens_said (hpure : PureCrcOpens) : Rows.CrcOpensUptoSaid :=
  OpenClaim.holds_of_cond 6 Try.f6 rfl rfl rfl rfl rfl rfl rfl ⟨rfl, rfl, rfl, rfl, rfl⟩ rfl rfl rfl rfl rfl (by kernel_rfl) Try.func6 (by kernel_rfl)
    (of_decide_eq_true (by kernel_rfl)) (by unfold Func.isWrapper; first | (rw [if_pos (by decide +kernel)]; kernel_rfl) | (rw [if_neg (by decide +kernel)]; exact ⟨rfl, rfl⟩))
    (fun os started H enc _ F => crcOpens_lifted hpure os started H enc F)

end Go.Proofs.Ytbmbligkbbfpbaa
