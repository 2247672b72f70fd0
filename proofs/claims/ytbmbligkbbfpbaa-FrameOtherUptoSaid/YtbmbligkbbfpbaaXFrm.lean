/-
  From what a law's function computes to the statement about its calls: whatever the arguments within the bound, it returns true, and they read as before.
-/

import Derived.Test.YtbmbligkbbfpbaaWFrm

import Derived.Test.YtbmbligkbbfpbaaGR

set_option linter.unusedVariables false

namespace Go.Proofs.Ytbmbligkbbfpbaa

open Go.ChangeShapes Go.WideShapes Go.ChangeAt Go.RowKit Go.Gx

def PureFrameWrites : Prop := ∀ (x0 : Int) (x1 : List (List Int)), (okInt .i64) x0 → (okSl (okSl (okInt .u8))) x1 → 1 + (bkSl (bkSl (fun _ => 1))) x1 ≤ 1048576 → M.tidepolelaw03_FrameWrites x0 x1 = some true

set_option maxRecDepth 100000 in
theorem frameWrites_contract (hpure : PureFrameWrites) (H : Type) (enc : TypeId × Value → H) (W : World) (base : Nat) (args : Array Value) (ds gs : List (DataW H)) (before : List MemPlace)
    (hval : ∀ (j : Nat) t v, Try.f7.params[j]? = some t → args[j]? = some v → Value.okWide Try.prog W .any base t v)
    (hW : DataW.Whole enc Try.prog Try.f7.params.toList Rows.frameWritesSpec.vars false W args.toList ds gs before) (hk : Rows.uptoSmall H (ds ++ gs) = true) :
    Calls Try.prog 7 args W fun e W' => ∃ v, e = .returned v ∧ Rows.frameWritesSpec.post enc Try.prog Try.f7 false true false false W args v W' := by
  have hW' := hW
  obtain ⟨p, q, hA0, hV, rfl, hfz, hnd⟩ := hW
  have hA : DataW.TrodAll enc Try.prog W 0 (fun _ => true) true Try.f7.params.toList args.toList ds p := hA0
  rw [Try.params7] at hA hval
  obtain ⟨v0, vs0, d0, ds0, p0, q0, hargs, rfl, rfl, h0, r0⟩ := trodAll_cons hA
  obtain ⟨v1, vs1, d1, ds1, p1, q1, rfl, rfl, rfl, h1, r1⟩ := trodAll_cons r0
  obtain ⟨rfl, rfl, rfl⟩ := trodAll_nil r1
  obtain rfl : args = #[v0, v1] := by cases args; simp_all
  obtain ⟨rfl, rfl⟩ := trodVars_none hV
  obtain ⟨x0, k0, o0, b0⟩ := Opens.arg (opens_int (by kernel_rfl)) (by kernel_rfl) (hval 0 3 v0 rfl rfl) h0
  obtain rfl : v0 = .int .i64 x0 := by injection k0
  obtain ⟨x1, k1, o1, b1⟩ := Opens.arg (opens_slice (K := (kSl (kInt .u8))) (e := 23) (by kernel_rfl) (by kernel_rfl) (opens_slice (K := (kInt .u8)) (e := 5) (by kernel_rfl) (by kernel_rfl) (opens_int (by kernel_rfl)))) (by kernel_rfl) (hval 1 41 v1 rfl rfl) h1
  obtain ⟨Ax1, cx1, e1, fx1⟩ := k1
  obtain rfl : v1 = .slice Ax1 x1.length cx1 := by injection e1
  have hk2 := of_decide_eq_true hk
  simp only [List.append_nil, Rows.uptoBulkAll] at hk2
  have hm := hpure x0 x1 o0 o1 (by omega)
  refine contract_of hW' rfl rfl rfl rfl (by kernel_rfl) (tb := 4) (by kernel_rfl) (by kernel_rfl) (by kernel_rfl) ?_
  refine Calls.mono (Gx.W.tidepolelaw03_FrameWrites x0 x1 true hm W.heap.size W (all W) W [] Ax1 x1.length cx1 (Hp.init W) fx1 rfl) ?_
  rintro e W' ⟨v, rfl, hpost⟩
  obtain ⟨S', rfl, hx, hp⟩ := hpost
  exact ⟨_, rfl, rfl, hp.below⟩

set_option maxRecDepth 100000 in
theorem frameWrites_lifted (hpure : PureFrameWrites) (os : Os) (started : os.Started) (H : Type) (enc : TypeId × Value → H) (F : Stop.Interp) :
    ReturnsInHanded {} Try.checked os 7 .any ((Rows.OpenSpec.upto Rows.frameWritesSpec).pre6 enc Try.prog Try.f7 Rows.frameWritesUptoRow.domain false) (((Rows.OpenSpec.upto Rows.frameWritesSpec).at F).post enc Try.prog Try.f7 false true false false) := by
  refine returnsInHanded_of_cond (C := Try.checked) (s := Rows.OpenSpec.upto Rows.frameWritesSpec) (k := Rows.uptoSmall) rfl (by kernel_rfl) started (by kernel_rfl) Try.func7
    (OpenSpec.witness (enc := enc) (C := Try.checked) (s := Rows.OpenSpec.upto Rows.frameWritesSpec) (k := Rows.uptoSmall) rfl false ⟨#[], #[.int .i64 0, .slice none 0 0], []⟩ 8 (by kernel_rfl) (by kernel_rfl) (by kernel_rfl)
      (x := ([.lit (.int .i64 0), .nil], [], [])) (by kernel_rfl) rfl (by kernel_rfl)) ?_
  intro W base args ds gs before hval hW _ hk _
  exact frameWrites_contract hpure H enc W base args ds gs before hval hW hk

theorem frameWrites_said (hpure : PureFrameWrites) : Rows.FrameWritesUptoSaid :=
  OpenClaim.holds_of_cond 7 Try.f7 rfl rfl rfl rfl rfl rfl rfl ⟨rfl, rfl, rfl, rfl, rfl⟩ rfl rfl rfl rfl rfl (by kernel_rfl) Try.func7 (by kernel_rfl)
    (of_decide_eq_true (by kernel_rfl)) (by unfold Func.isWrapper; first | (rw [if_pos (by decide +kernel)]; kernel_rfl) | (rw [if_neg (by decide +kernel)]; exact ⟨rfl, rfl⟩))
    (fun os started H enc _ F => frameWrites_lifted hpure os started H enc F)

def PureFrameBack : Prop := ∀ (x0 : Int) (x1 : List (List Int)) (x2 : List Int), (okInt .i64) x0 → (okSl (okSl (okInt .u8))) x1 → (okSl (okInt .u8)) x2 → 1 + (bkSl (bkSl (fun _ => 1))) x1 + (bkSl (fun _ => 1)) x2 ≤ 1048576 → M.tidepolelaw03_FrameBack x0 x1 x2 = some true

set_option maxRecDepth 100000 in
theorem frameBack_contract (hpure : PureFrameBack) (H : Type) (enc : TypeId × Value → H) (W : World) (base : Nat) (args : Array Value) (ds gs : List (DataW H)) (before : List MemPlace)
    (hval : ∀ (j : Nat) t v, Try.f8.params[j]? = some t → args[j]? = some v → Value.okWide Try.prog W .any base t v)
    (hW : DataW.Whole enc Try.prog Try.f8.params.toList Rows.frameBackSpec.vars false W args.toList ds gs before) (hk : Rows.uptoSmall H (ds ++ gs) = true) :
    Calls Try.prog 8 args W fun e W' => ∃ v, e = .returned v ∧ Rows.frameBackSpec.post enc Try.prog Try.f8 false true false false W args v W' := by
  have hW' := hW
  obtain ⟨p, q, hA0, hV, rfl, hfz, hnd⟩ := hW
  have hA : DataW.TrodAll enc Try.prog W 0 (fun _ => true) true Try.f8.params.toList args.toList ds p := hA0
  rw [Try.params8] at hA hval
  obtain ⟨v0, vs0, d0, ds0, p0, q0, hargs, rfl, rfl, h0, r0⟩ := trodAll_cons hA
  obtain ⟨v1, vs1, d1, ds1, p1, q1, rfl, rfl, rfl, h1, r1⟩ := trodAll_cons r0
  obtain ⟨v2, vs2, d2, ds2, p2, q2, rfl, rfl, rfl, h2, r2⟩ := trodAll_cons r1
  obtain ⟨rfl, rfl, rfl⟩ := trodAll_nil r2
  obtain rfl : args = #[v0, v1, v2] := by cases args; simp_all
  obtain ⟨rfl, rfl⟩ := trodVars_none hV
  obtain ⟨x0, k0, o0, b0⟩ := Opens.arg (opens_int (by kernel_rfl)) (by kernel_rfl) (hval 0 3 v0 rfl rfl) h0
  obtain rfl : v0 = .int .i64 x0 := by injection k0
  obtain ⟨x1, k1, o1, b1⟩ := Opens.arg (opens_slice (K := (kSl (kInt .u8))) (e := 23) (by kernel_rfl) (by kernel_rfl) (opens_slice (K := (kInt .u8)) (e := 5) (by kernel_rfl) (by kernel_rfl) (opens_int (by kernel_rfl)))) (by kernel_rfl) (hval 1 41 v1 rfl rfl) h1
  obtain ⟨Ax1, cx1, e1, fx1⟩ := k1
  obtain rfl : v1 = .slice Ax1 x1.length cx1 := by injection e1
  obtain ⟨x2, k2, o2, b2⟩ := Opens.arg (opens_slice (K := (kInt .u8)) (e := 5) (by kernel_rfl) (by kernel_rfl) (opens_int (by kernel_rfl))) (by kernel_rfl) (hval 2 23 v2 rfl rfl) h2
  obtain ⟨Ax2, cx2, e2, fx2⟩ := k2
  obtain rfl : v2 = .slice Ax2 x2.length cx2 := by injection e2
  have hk2 := of_decide_eq_true hk
  simp only [List.append_nil, Rows.uptoBulkAll] at hk2
  have hm := hpure x0 x1 x2 o0 o1 o2 (by omega)
  refine contract_of hW' rfl rfl rfl rfl (by kernel_rfl) (tb := 4) (by kernel_rfl) (by kernel_rfl) (by kernel_rfl) ?_
  refine Calls.mono (Gx.W.tidepolelaw03_FrameBack x0 x1 x2 true hm W.heap.size W (all W) W [] Ax1 x1.length cx1 Ax2 x2.length cx2 (Hp.init W) fx1 rfl fx2 rfl) ?_
  rintro e W' ⟨v, rfl, hpost⟩
  obtain ⟨S', rfl, hx, hp⟩ := hpost
  exact ⟨_, rfl, rfl, hp.below⟩

set_option maxRecDepth 100000 in
theorem frameBack_lifted (hpure : PureFrameBack) (os : Os) (started : os.Started) (H : Type) (enc : TypeId × Value → H) (F : Stop.Interp) :
    ReturnsInHanded {} Try.checked os 8 .any ((Rows.OpenSpec.upto Rows.frameBackSpec).pre6 enc Try.prog Try.f8 Rows.frameBackUptoRow.domain false) (((Rows.OpenSpec.upto Rows.frameBackSpec).at F).post enc Try.prog Try.f8 false true false false) := by
  refine returnsInHanded_of_cond (C := Try.checked) (s := Rows.OpenSpec.upto Rows.frameBackSpec) (k := Rows.uptoSmall) rfl (by kernel_rfl) started (by kernel_rfl) Try.func8
    (OpenSpec.witness (enc := enc) (C := Try.checked) (s := Rows.OpenSpec.upto Rows.frameBackSpec) (k := Rows.uptoSmall) rfl false ⟨#[], #[.int .i64 0, .slice none 0 0, .slice none 0 0], []⟩ 8 (by kernel_rfl) (by kernel_rfl) (by kernel_rfl)
      (x := ([.lit (.int .i64 0), .nil, .nil], [], [])) (by kernel_rfl) rfl (by kernel_rfl)) ?_
  intro W base args ds gs before hval hW _ hk _
  exact frameBack_contract hpure H enc W base args ds gs before hval hW hk

theorem frameBack_said (hpure : PureFrameBack) : Rows.FrameBackUptoSaid :=
  OpenClaim.holds_of_cond 8 Try.f8 rfl rfl rfl rfl rfl rfl rfl ⟨rfl, rfl, rfl, rfl, rfl⟩ rfl rfl rfl rfl rfl (by kernel_rfl) Try.func8 (by kernel_rfl)
    (of_decide_eq_true (by kernel_rfl)) (by unfold Func.isWrapper; first | (rw [if_pos (by decide +kernel)]; kernel_rfl) | (rw [if_neg (by decide +kernel)]; exact ⟨rfl, rfl⟩))
    (fun os started H enc _ F => frameBack_lifted hpure os started H enc F)

def PureFrameFronts : Prop := ∀ (x0 : Int) (x1 : List (List Int)) (x2 : Int) (x3 : Bool), (okInt .i64) x0 → (okSl (okSl (okInt .u8))) x1 → (okInt .i64) x2 → (fun _ => True) x3 → 1 + (bkSl (bkSl (fun _ => 1))) x1 + 1 + 1 ≤ 1048576 → M.tidepolelaw03_FrameFronts x0 x1 x2 x3 = some true

set_option maxRecDepth 100000 in
theorem frameFronts_contract (hpure : PureFrameFronts) (H : Type) (enc : TypeId × Value → H) (W : World) (base : Nat) (args : Array Value) (ds gs : List (DataW H)) (before : List MemPlace)
    (hval : ∀ (j : Nat) t v, Try.f9.params[j]? = some t → args[j]? = some v → Value.okWide Try.prog W .any base t v)
    (hW : DataW.Whole enc Try.prog Try.f9.params.toList Rows.frameFrontsSpec.vars false W args.toList ds gs before) (hk : Rows.uptoSmall H (ds ++ gs) = true) :
    Calls Try.prog 9 args W fun e W' => ∃ v, e = .returned v ∧ Rows.frameFrontsSpec.post enc Try.prog Try.f9 false true false false W args v W' := by
  have hW' := hW
  obtain ⟨p, q, hA0, hV, rfl, hfz, hnd⟩ := hW
  have hA : DataW.TrodAll enc Try.prog W 0 (fun _ => true) true Try.f9.params.toList args.toList ds p := hA0
  rw [Try.params9] at hA hval
  obtain ⟨v0, vs0, d0, ds0, p0, q0, hargs, rfl, rfl, h0, r0⟩ := trodAll_cons hA
  obtain ⟨v1, vs1, d1, ds1, p1, q1, rfl, rfl, rfl, h1, r1⟩ := trodAll_cons r0
  obtain ⟨v2, vs2, d2, ds2, p2, q2, rfl, rfl, rfl, h2, r2⟩ := trodAll_cons r1
  obtain ⟨v3, vs3, d3, ds3, p3, q3, rfl, rfl, rfl, h3, r3⟩ := trodAll_cons r2
  obtain ⟨rfl, rfl, rfl⟩ := trodAll_nil r3
  obtain rfl : args = #[v0, v1, v2, v3] := by cases args; simp_all
  obtain ⟨rfl, rfl⟩ := trodVars_none hV
  obtain ⟨x0, k0, o0, b0⟩ := Opens.arg (opens_int (by kernel_rfl)) (by kernel_rfl) (hval 0 3 v0 rfl rfl) h0
  obtain rfl : v0 = .int .i64 x0 := by injection k0
  obtain ⟨x1, k1, o1, b1⟩ := Opens.arg (opens_slice (K := (kSl (kInt .u8))) (e := 23) (by kernel_rfl) (by kernel_rfl) (opens_slice (K := (kInt .u8)) (e := 5) (by kernel_rfl) (by kernel_rfl) (opens_int (by kernel_rfl)))) (by kernel_rfl) (hval 1 41 v1 rfl rfl) h1
  obtain ⟨Ax1, cx1, e1, fx1⟩ := k1
  obtain rfl : v1 = .slice Ax1 x1.length cx1 := by injection e1
  obtain ⟨x2, k2, o2, b2⟩ := Opens.arg (opens_int (by kernel_rfl)) (by kernel_rfl) (hval 2 3 v2 rfl rfl) h2
  obtain rfl : v2 = .int .i64 x2 := by injection k2
  obtain ⟨x3, k3, o3, b3⟩ := Opens.arg (opens_bool (by kernel_rfl)) (by kernel_rfl) (hval 3 4 v3 rfl rfl) h3
  obtain rfl : v3 = .bool x3 := by injection k3
  have hk2 := of_decide_eq_true hk
  simp only [List.append_nil, Rows.uptoBulkAll] at hk2
  have hm := hpure x0 x1 x2 x3 o0 o1 o2 o3 (by omega)
  refine contract_of hW' rfl rfl rfl rfl (by kernel_rfl) (tb := 4) (by kernel_rfl) (by kernel_rfl) (by kernel_rfl) ?_
  refine Calls.mono (Gx.W.tidepolelaw03_FrameFronts x0 x1 x2 x3 true hm W.heap.size W (all W) W [] Ax1 x1.length cx1 (Hp.init W) fx1 rfl) ?_
  rintro e W' ⟨v, rfl, hpost⟩
  obtain ⟨S', rfl, hx, hp⟩ := hpost
  exact ⟨_, rfl, rfl, hp.below⟩

set_option maxRecDepth 100000 in
theorem frameFronts_lifted (hpure : PureFrameFronts) (os : Os) (started : os.Started) (H : Type) (enc : TypeId × Value → H) (F : Stop.Interp) :
    ReturnsInHanded {} Try.checked os 9 .any ((Rows.OpenSpec.upto Rows.frameFrontsSpec).pre6 enc Try.prog Try.f9 Rows.frameFrontsUptoRow.domain false) (((Rows.OpenSpec.upto Rows.frameFrontsSpec).at F).post enc Try.prog Try.f9 false true false false) := by
  refine returnsInHanded_of_cond (C := Try.checked) (s := Rows.OpenSpec.upto Rows.frameFrontsSpec) (k := Rows.uptoSmall) rfl (by kernel_rfl) started (by kernel_rfl) Try.func9
    (OpenSpec.witness (enc := enc) (C := Try.checked) (s := Rows.OpenSpec.upto Rows.frameFrontsSpec) (k := Rows.uptoSmall) rfl false ⟨#[], #[.int .i64 0, .slice none 0 0, .int .i64 0, .bool false], []⟩ 8 (by kernel_rfl) (by kernel_rfl) (by kernel_rfl)
      (x := ([.lit (.int .i64 0), .nil, .lit (.int .i64 0), .lit (.bool false)], [], [])) (by kernel_rfl) rfl (by kernel_rfl)) ?_
  intro W base args ds gs before hval hW _ hk _
  exact frameFronts_contract hpure H enc W base args ds gs before hval hW hk

theorem frameFronts_said (hpure : PureFrameFronts) : Rows.FrameFrontsUptoSaid :=
  OpenClaim.holds_of_cond 9 Try.f9 rfl rfl rfl rfl rfl rfl rfl ⟨rfl, rfl, rfl, rfl, rfl⟩ rfl rfl rfl rfl rfl (by kernel_rfl) Try.func9 (by kernel_rfl)
    (of_decide_eq_true (by kernel_rfl)) (by unfold Func.isWrapper; first | (rw [if_pos (by decide +kernel)]; kernel_rfl) | (rw [if_neg (by decide +kernel)]; exact ⟨rfl, rfl⟩))
    (fun os started H enc _ F => frameFronts_lifted hpure os started H enc F)

def PureFrameOther : Prop := ∀ (x0 : Int) (x1 : List (List Int)) (x2 : Int), (okInt .i64) x0 → (okSl (okSl (okInt .u8))) x1 → (okInt .i64) x2 → 1 + (bkSl (bkSl (fun _ => 1))) x1 + 1 ≤ 1048576 → M.tidepolelaw03_FrameOther x0 x1 x2 = some true

set_option maxRecDepth 100000 in
theorem frameOther_contract (hpure : PureFrameOther) (H : Type) (enc : TypeId × Value → H) (W : World) (base : Nat) (args : Array Value) (ds gs : List (DataW H)) (before : List MemPlace)
    (hval : ∀ (j : Nat) t v, Try.f10.params[j]? = some t → args[j]? = some v → Value.okWide Try.prog W .any base t v)
    (hW : DataW.Whole enc Try.prog Try.f10.params.toList Rows.frameOtherSpec.vars false W args.toList ds gs before) (hk : Rows.uptoSmall H (ds ++ gs) = true) :
    Calls Try.prog 10 args W fun e W' => ∃ v, e = .returned v ∧ Rows.frameOtherSpec.post enc Try.prog Try.f10 false true false false W args v W' := by
  have hW' := hW
  obtain ⟨p, q, hA0, hV, rfl, hfz, hnd⟩ := hW
  have hA : DataW.TrodAll enc Try.prog W 0 (fun _ => true) true Try.f10.params.toList args.toList ds p := hA0
  rw [Try.params10] at hA hval
  obtain ⟨v0, vs0, d0, ds0, p0, q0, hargs, rfl, rfl, h0, r0⟩ := trodAll_cons hA
  obtain ⟨v1, vs1, d1, ds1, p1, q1, rfl, rfl, rfl, h1, r1⟩ := trodAll_cons r0
  obtain ⟨v2, vs2, d2, ds2, p2, q2, rfl, rfl, rfl, h2, r2⟩ := trodAll_cons r1
  obtain ⟨rfl, rfl, rfl⟩ := trodAll_nil r2
  obtain rfl : args = #[v0, v1, v2] := by cases args; simp_all
  obtain ⟨rfl, rfl⟩ := trodVars_none hV
  obtain ⟨x0, k0, o0, b0⟩ := Opens.arg (opens_int (by kernel_rfl)) (by kernel_rfl) (hval 0 3 v0 rfl rfl) h0
  obtain rfl : v0 = .int .i64 x0 := by injection k0
  obtain ⟨x1, k1, o1, b1⟩ := Opens.arg (opens_slice (K := (kSl (kInt .u8))) (e := 23) (by kernel_rfl) (by kernel_rfl) (opens_slice (K := (kInt .u8)) (e := 5) (by kernel_rfl) (by kernel_rfl) (opens_int (by kernel_rfl)))) (by kernel_rfl) (hval 1 41 v1 rfl rfl) h1
  obtain ⟨Ax1, cx1, e1, fx1⟩ := k1
  obtain rfl : v1 = .slice Ax1 x1.length cx1 := by injection e1
  obtain ⟨x2, k2, o2, b2⟩ := Opens.arg (opens_int (by kernel_rfl)) (by kernel_rfl) (hval 2 3 v2 rfl rfl) h2
  obtain rfl : v2 = .int .i64 x2 := by injection k2
  have hk2 := of_decide_eq_true hk
  simp only [List.append_nil, Rows.uptoBulkAll] at hk2
  have hm := hpure x0 x1 x2 o0 o1 o2 (by omega)
  refine contract_of hW' rfl rfl rfl rfl (by kernel_rfl) (tb := 4) (by kernel_rfl) (by kernel_rfl) (by kernel_rfl) ?_
  refine Calls.mono (Gx.W.tidepolelaw03_FrameOther x0 x1 x2 true hm W.heap.size W (all W) W [] Ax1 x1.length cx1 (Hp.init W) fx1 rfl) ?_
  rintro e W' ⟨v, rfl, hpost⟩
  obtain ⟨S', rfl, hx, hp⟩ := hpost
  exact ⟨_, rfl, rfl, hp.below⟩

set_option maxRecDepth 100000 in
theorem frameOther_lifted (hpure : PureFrameOther) (os : Os) (started : os.Started) (H : Type) (enc : TypeId × Value → H) (F : Stop.Interp) :
    ReturnsInHanded {} Try.checked os 10 .any ((Rows.OpenSpec.upto Rows.frameOtherSpec).pre6 enc Try.prog Try.f10 Rows.frameOtherUptoRow.domain false) (((Rows.OpenSpec.upto Rows.frameOtherSpec).at F).post enc Try.prog Try.f10 false true false false) := by
  refine returnsInHanded_of_cond (C := Try.checked) (s := Rows.OpenSpec.upto Rows.frameOtherSpec) (k := Rows.uptoSmall) rfl (by kernel_rfl) started (by kernel_rfl) Try.func10
    (OpenSpec.witness (enc := enc) (C := Try.checked) (s := Rows.OpenSpec.upto Rows.frameOtherSpec) (k := Rows.uptoSmall) rfl false ⟨#[], #[.int .i64 0, .slice none 0 0, .int .i64 0], []⟩ 8 (by kernel_rfl) (by kernel_rfl) (by kernel_rfl)
      (x := ([.lit (.int .i64 0), .nil, .lit (.int .i64 0)], [], [])) (by kernel_rfl) rfl (by kernel_rfl)) ?_
  intro W base args ds gs before hval hW _ hk _
  exact frameOther_contract hpure H enc W base args ds gs before hval hW hk

theorem frameOther_said (hpure : PureFrameOther) : Rows.FrameOtherUptoSaid :=
  OpenClaim.holds_of_cond 10 Try.f10 rfl rfl rfl rfl rfl rfl rfl ⟨rfl, rfl, rfl, rfl, rfl⟩ rfl rfl rfl rfl rfl (by kernel_rfl) Try.func10 (by kernel_rfl)
    (of_decide_eq_true (by kernel_rfl)) (by unfold Func.isWrapper; first | (rw [if_pos (by decide +kernel)]; kernel_rfl) | (rw [if_neg (by decide +kernel)]; exact ⟨rfl, rfl⟩))
    (fun os started H enc _ F => frameOther_lifted hpure os started H enc F)

end Go.Proofs.Ytbmbligkbbfpbaa
