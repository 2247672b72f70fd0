/-
  From what a law's function computes to the statement about its calls: whatever the arguments within the bound, it returns true, and they read as before.
-/

import Derived.Test.YtgkijdahghfldaaWPst

import Derived.Test.YtgkijdahghfldaaGR

set_option linter.unusedVariables false

namespace Go.Proofs.Ytgkijdahghfldaa

open Go.ChangeShapes Go.WideShapes Go.ChangeAt Go.RowKit Go.Gx

def PurePostSets : Prop := ∀ (x0 : List Int) (x1 : List Int) (x2 : List Int), (okSl (okInt .u64)) x0 → (okSl (okInt .u64)) x1 → (okSl (okInt .u64)) x2 → (bkSl (fun _ => 1)) x0 + (bkSl (fun _ => 1)) x1 + (bkSl (fun _ => 1)) x2 ≤ 1048576 → M.tidepolelaw13_PostSets x0 x1 x2 = some true

set_option maxRecDepth 100000 in
theorem postSets_contract (hpure : PurePostSets) (H : Type) (enc : TypeId × Value → H) (W : World) (base : Nat) (args : Array Value) (ds gs : List (DataW H)) (before : List MemPlace)
    (hval : ∀ (j : Nat) t v, Try.f3.params[j]? = some t → args[j]? = some v → Value.okWide Try.prog W .any base t v)
    (hW : DataW.Whole enc Try.prog Try.f3.params.toList Rows.postSetsSpec.vars false W args.toList ds gs before) (hk : Rows.uptoSmall H (ds ++ gs) = true) :
    Calls Try.prog 3 args W fun e W' => ∃ v, e = .returned v ∧ Rows.postSetsSpec.post enc Try.prog Try.f3 false true false false W args v W' := by
  have hW' := hW
  obtain ⟨p, q, hA0, hV, rfl, hfz, hnd⟩ := hW
  have hA : DataW.TrodAll enc Try.prog W 0 (fun _ => true) true Try.f3.params.toList args.toList ds p := hA0
  rw [Try.params3] at hA hval
  obtain ⟨v0, vs0, d0, ds0, p0, q0, hargs, rfl, rfl, h0, r0⟩ := trodAll_cons hA
  obtain ⟨v1, vs1, d1, ds1, p1, q1, rfl, rfl, rfl, h1, r1⟩ := trodAll_cons r0
  obtain ⟨v2, vs2, d2, ds2, p2, q2, rfl, rfl, rfl, h2, r2⟩ := trodAll_cons r1
  obtain ⟨rfl, rfl, rfl⟩ := trodAll_nil r2
  obtain rfl : args = #[v0, v1, v2] := by cases args; simp_all
  obtain ⟨rfl, rfl⟩ := trodVars_none hV
  obtain ⟨x0, k0, o0, b0⟩ := Opens.arg (opens_slice (K := (kInt .u64)) (e := 35) (by kernel_rfl) (by kernel_rfl) (opens_int (by kernel_rfl))) (by kernel_rfl) (hval 0 22 v0 rfl rfl) h0
  obtain ⟨Ax0, cx0, e0, fx0⟩ := k0
  obtain rfl : v0 = .slice Ax0 x0.length cx0 := by injection e0
  obtain ⟨x1, k1, o1, b1⟩ := Opens.arg (opens_slice (K := (kInt .u64)) (e := 35) (by kernel_rfl) (by kernel_rfl) (opens_int (by kernel_rfl))) (by kernel_rfl) (hval 1 22 v1 rfl rfl) h1
  obtain ⟨Ax1, cx1, e1, fx1⟩ := k1
  obtain rfl : v1 = .slice Ax1 x1.length cx1 := by injection e1
  obtain ⟨x2, k2, o2, b2⟩ := Opens.arg (opens_slice (K := (kInt .u64)) (e := 35) (by kernel_rfl) (by kernel_rfl) (opens_int (by kernel_rfl))) (by kernel_rfl) (hval 2 22 v2 rfl rfl) h2
  obtain ⟨Ax2, cx2, e2, fx2⟩ := k2
  obtain rfl : v2 = .slice Ax2 x2.length cx2 := by injection e2
  have hk2 := of_decide_eq_true hk
  simp only [List.append_nil, Rows.uptoBulkAll] at hk2
  have hm := hpure x0 x1 x2 o0 o1 o2 (by omega)
  refine contract_of hW' rfl rfl rfl rfl (by kernel_rfl) (tb := 4) (by kernel_rfl) (by kernel_rfl) (by kernel_rfl) ?_
  refine Calls.mono (Gx.W.tidepolelaw13_PostSets x0 x1 x2 true hm W.heap.size W (all W) W [] Ax0 cx0 Ax1 cx1 Ax2 cx2 (Hp.init W) fx0 fx1 fx2) ?_
  rintro e W' ⟨v, rfl, hpost⟩
  obtain ⟨S', rfl, hx, hp⟩ := hpost
  exact ⟨_, rfl, rfl, hp.below⟩

set_option maxRecDepth 100000 in
theorem postSets_lifted (hpure : PurePostSets) (os : Os) (started : os.Started) (H : Type) (enc : TypeId × Value → H) (F : Stop.Interp) :
    ReturnsInHanded {} Try.checked os 3 .any ((Rows.OpenSpec.upto Rows.postSetsSpec).pre6 enc Try.prog Try.f3 Rows.postSetsUptoRow.domain false) (((Rows.OpenSpec.upto Rows.postSetsSpec).at F).post enc Try.prog Try.f3 false true false false) := by
  refine returnsInHanded_of_cond (C := Try.checked) (s := Rows.OpenSpec.upto Rows.postSetsSpec) (k := Rows.uptoSmall) rfl (by kernel_rfl) started (by kernel_rfl) Try.func3
    (OpenSpec.witness (enc := enc) (C := Try.checked) (s := Rows.OpenSpec.upto Rows.postSetsSpec) (k := Rows.uptoSmall) rfl false ⟨#[], #[.slice none 0 0, .slice none 0 0, .slice none 0 0], []⟩ 8 (by kernel_rfl) (by kernel_rfl) (by kernel_rfl)
      (x := ([.nil, .nil, .nil], [], [])) (by kernel_rfl) rfl (by kernel_rfl)) ?_
  intro W base args ds gs before hval hW _ hk _
  exact postSets_contract hpure H enc W base args ds gs before hval hW hk

theorem postSets_said (hpure : PurePostSets) : Rows.PostSetsUptoSaid :=
  OpenClaim.holds_of_cond 3 Try.f3 rfl rfl rfl rfl rfl rfl rfl ⟨rfl, rfl, rfl, rfl, rfl⟩ rfl rfl rfl rfl rfl (by kernel_rfl) Try.func3 (by kernel_rfl)
    (of_decide_eq_true (by kernel_rfl)) (by unfold Func.isWrapper; first | (rw [if_pos (by decide +kernel)]; kernel_rfl) | (rw [if_neg (by decide +kernel)]; exact ⟨rfl, rfl⟩))
    (fun os started H enc _ F => postSets_lifted hpure os started H enc F)

def PurePostGoes : Prop := ∀ (x0 : List Int) (x1 : Int), (okSl (okInt .u64)) x0 → (okInt .i64) x1 → (bkSl (fun _ => 1)) x0 + 1 ≤ 1048576 → M.tidepolelaw13_PostGoes x0 x1 = some true

set_option maxRecDepth 100000 in
theorem postGoes_contract (hpure : PurePostGoes) (H : Type) (enc : TypeId × Value → H) (W : World) (base : Nat) (args : Array Value) (ds gs : List (DataW H)) (before : List MemPlace)
    (hval : ∀ (j : Nat) t v, Try.f4.params[j]? = some t → args[j]? = some v → Value.okWide Try.prog W .any base t v)
    (hW : DataW.Whole enc Try.prog Try.f4.params.toList Rows.postGoesSpec.vars false W args.toList ds gs before) (hk : Rows.uptoSmall H (ds ++ gs) = true) :
    Calls Try.prog 4 args W fun e W' => ∃ v, e = .returned v ∧ Rows.postGoesSpec.post enc Try.prog Try.f4 false true false false W args v W' := by
  have hW' := hW
  obtain ⟨p, q, hA0, hV, rfl, hfz, hnd⟩ := hW
  have hA : DataW.TrodAll enc Try.prog W 0 (fun _ => true) true Try.f4.params.toList args.toList ds p := hA0
  rw [Try.params4] at hA hval
  obtain ⟨v0, vs0, d0, ds0, p0, q0, hargs, rfl, rfl, h0, r0⟩ := trodAll_cons hA
  obtain ⟨v1, vs1, d1, ds1, p1, q1, rfl, rfl, rfl, h1, r1⟩ := trodAll_cons r0
  obtain ⟨rfl, rfl, rfl⟩ := trodAll_nil r1
  obtain rfl : args = #[v0, v1] := by cases args; simp_all
  obtain ⟨rfl, rfl⟩ := trodVars_none hV
  obtain ⟨x0, k0, o0, b0⟩ := Opens.arg (opens_slice (K := (kInt .u64)) (e := 35) (by kernel_rfl) (by kernel_rfl) (opens_int (by kernel_rfl))) (by kernel_rfl) (hval 0 22 v0 rfl rfl) h0
  obtain ⟨Ax0, cx0, e0, fx0⟩ := k0
  obtain rfl : v0 = .slice Ax0 x0.length cx0 := by injection e0
  obtain ⟨x1, k1, o1, b1⟩ := Opens.arg (opens_int (by kernel_rfl)) (by kernel_rfl) (hval 1 3 v1 rfl rfl) h1
  obtain rfl : v1 = .int .i64 x1 := by injection k1
  have hk2 := of_decide_eq_true hk
  simp only [List.append_nil, Rows.uptoBulkAll] at hk2
  have hm := hpure x0 x1 o0 o1 (by omega)
  refine contract_of hW' rfl rfl rfl rfl (by kernel_rfl) (tb := 4) (by kernel_rfl) (by kernel_rfl) (by kernel_rfl) ?_
  refine Calls.mono (Gx.W.tidepolelaw13_PostGoes x0 x1 true hm W.heap.size W (all W) W [] Ax0 cx0 (Hp.init W) fx0) ?_
  rintro e W' ⟨v, rfl, hpost⟩
  obtain ⟨S', rfl, hx, hp⟩ := hpost
  exact ⟨_, rfl, rfl, hp.below⟩

set_option maxRecDepth 100000 in
theorem postGoes_lifted (hpure : PurePostGoes) (os : Os) (started : os.Started) (H : Type) (enc : TypeId × Value → H) (F : Stop.Interp) :
    ReturnsInHanded {} Try.checked os 4 .any ((Rows.OpenSpec.upto Rows.postGoesSpec).pre6 enc Try.prog Try.f4 Rows.postGoesUptoRow.domain false) (((Rows.OpenSpec.upto Rows.postGoesSpec).at F).post enc Try.prog Try.f4 false true false false) := by
  refine returnsInHanded_of_cond (C := Try.checked) (s := Rows.OpenSpec.upto Rows.postGoesSpec) (k := Rows.uptoSmall) rfl (by kernel_rfl) started (by kernel_rfl) Try.func4
    (OpenSpec.witness (enc := enc) (C := Try.checked) (s := Rows.OpenSpec.upto Rows.postGoesSpec) (k := Rows.uptoSmall) rfl false ⟨#[], #[.slice none 0 0, .int .i64 0], []⟩ 8 (by kernel_rfl) (by kernel_rfl) (by kernel_rfl)
      (x := ([.nil, .lit (.int .i64 0)], [], [])) (by kernel_rfl) rfl (by kernel_rfl)) ?_
  intro W base args ds gs before hval hW _ hk _
  exact postGoes_contract hpure H enc W base args ds gs before hval hW hk

theorem postGoes_said (hpure : PurePostGoes) : Rows.PostGoesUptoSaid :=
  OpenClaim.holds_of_cond 4 Try.f4 rfl rfl rfl rfl rfl rfl rfl ⟨rfl, rfl, rfl, rfl, rfl⟩ rfl rfl rfl rfl rfl (by kernel_rfl) Try.func4 (by kernel_rfl)
    (of_decide_eq_true (by kernel_rfl)) (by unfold Func.isWrapper; first | (rw [if_pos (by decide +kernel)]; kernel_rfl) | (rw [if_neg (by decide +kernel)]; exact ⟨rfl, rfl⟩))
    (fun os started H enc _ F => postGoes_lifted hpure os started H enc F)

def PurePostLists : Prop := ∀ (x0 : List (List Int)) (x1 : List Int) (x2 : List Int) (x3 : Int), (okSl (okSl (okInt .u64))) x0 → (okSl (okInt .u64)) x1 → (okSl (okInt .u64)) x2 → (okInt .u64) x3 → (bkSl (bkSl (fun _ => 1))) x0 + (bkSl (fun _ => 1)) x1 + (bkSl (fun _ => 1)) x2 + 1 ≤ 1048576 → M.tidepolelaw13_PostLists x0 x1 x2 x3 = some true

set_option maxRecDepth 100000 in
theorem postLists_contract (hpure : PurePostLists) (H : Type) (enc : TypeId × Value → H) (W : World) (base : Nat) (args : Array Value) (ds gs : List (DataW H)) (before : List MemPlace)
    (hval : ∀ (j : Nat) t v, Try.f5.params[j]? = some t → args[j]? = some v → Value.okWide Try.prog W .any base t v)
    (hW : DataW.Whole enc Try.prog Try.f5.params.toList Rows.postListsSpec.vars false W args.toList ds gs before) (hk : Rows.uptoSmall H (ds ++ gs) = true) :
    Calls Try.prog 5 args W fun e W' => ∃ v, e = .returned v ∧ Rows.postListsSpec.post enc Try.prog Try.f5 false true false false W args v W' := by
  have hW' := hW
  obtain ⟨p, q, hA0, hV, rfl, hfz, hnd⟩ := hW
  have hA : DataW.TrodAll enc Try.prog W 0 (fun _ => true) true Try.f5.params.toList args.toList ds p := hA0
  rw [Try.params5] at hA hval
  obtain ⟨v0, vs0, d0, ds0, p0, q0, hargs, rfl, rfl, h0, r0⟩ := trodAll_cons hA
  obtain ⟨v1, vs1, d1, ds1, p1, q1, rfl, rfl, rfl, h1, r1⟩ := trodAll_cons r0
  obtain ⟨v2, vs2, d2, ds2, p2, q2, rfl, rfl, rfl, h2, r2⟩ := trodAll_cons r1
  obtain ⟨v3, vs3, d3, ds3, p3, q3, rfl, rfl, rfl, h3, r3⟩ := trodAll_cons r2
  obtain ⟨rfl, rfl, rfl⟩ := trodAll_nil r3
  obtain rfl : args = #[v0, v1, v2, v3] := by cases args; simp_all
  obtain ⟨rfl, rfl⟩ := trodVars_none hV
  obtain ⟨x0, k0, o0, b0⟩ := Opens.arg (opens_slice (K := (kSl (kInt .u64))) (e := 22) (by kernel_rfl) (by kernel_rfl) (opens_slice (K := (kInt .u64)) (e := 35) (by kernel_rfl) (by kernel_rfl) (opens_int (by kernel_rfl)))) (by kernel_rfl) (hval 0 38 v0 rfl rfl) h0
  obtain ⟨Ax0, cx0, e0, fx0⟩ := k0
  obtain rfl : v0 = .slice Ax0 x0.length cx0 := by injection e0
  obtain ⟨x1, k1, o1, b1⟩ := Opens.arg (opens_slice (K := (kInt .u64)) (e := 35) (by kernel_rfl) (by kernel_rfl) (opens_int (by kernel_rfl))) (by kernel_rfl) (hval 1 22 v1 rfl rfl) h1
  obtain ⟨Ax1, cx1, e1, fx1⟩ := k1
  obtain rfl : v1 = .slice Ax1 x1.length cx1 := by injection e1
  obtain ⟨x2, k2, o2, b2⟩ := Opens.arg (opens_slice (K := (kInt .u64)) (e := 35) (by kernel_rfl) (by kernel_rfl) (opens_int (by kernel_rfl))) (by kernel_rfl) (hval 2 22 v2 rfl rfl) h2
  obtain ⟨Ax2, cx2, e2, fx2⟩ := k2
  obtain rfl : v2 = .slice Ax2 x2.length cx2 := by injection e2
  obtain ⟨x3, k3, o3, b3⟩ := Opens.arg (opens_int (by kernel_rfl)) (by kernel_rfl) (hval 3 35 v3 rfl rfl) h3
  obtain rfl : v3 = .int .u64 x3 := by injection k3
  have hk2 := of_decide_eq_true hk
  simp only [List.append_nil, Rows.uptoBulkAll] at hk2
  have hm := hpure x0 x1 x2 x3 o0 o1 o2 o3 (by omega)
  refine contract_of hW' rfl rfl rfl rfl (by kernel_rfl) (tb := 4) (by kernel_rfl) (by kernel_rfl) (by kernel_rfl) ?_
  refine Calls.mono (Gx.W.tidepolelaw13_PostLists x0 x1 x2 x3 true hm W.heap.size W (all W) W [] Ax0 cx0 Ax1 cx1 Ax2 cx2 (Hp.init W) fx0 fx1 fx2) ?_
  rintro e W' ⟨v, rfl, hpost⟩
  obtain ⟨S', rfl, hx, hp⟩ := hpost
  exact ⟨_, rfl, rfl, hp.below⟩

set_option maxRecDepth 100000 in
theorem postLists_lifted (hpure : PurePostLists) (os : Os) (started : os.Started) (H : Type) (enc : TypeId × Value → H) (F : Stop.Interp) :
    ReturnsInHanded {} Try.checked os 5 .any ((Rows.OpenSpec.upto Rows.postListsSpec).pre6 enc Try.prog Try.f5 Rows.postListsUptoRow.domain false) (((Rows.OpenSpec.upto Rows.postListsSpec).at F).post enc Try.prog Try.f5 false true false false) := by
  refine returnsInHanded_of_cond (C := Try.checked) (s := Rows.OpenSpec.upto Rows.postListsSpec) (k := Rows.uptoSmall) rfl (by kernel_rfl) started (by kernel_rfl) Try.func5
    (OpenSpec.witness (enc := enc) (C := Try.checked) (s := Rows.OpenSpec.upto Rows.postListsSpec) (k := Rows.uptoSmall) rfl false ⟨#[], #[.slice none 0 0, .slice none 0 0, .slice none 0 0, .int .u64 0], []⟩ 8 (by kernel_rfl) (by kernel_rfl) (by kernel_rfl)
      (x := ([.nil, .nil, .nil, .lit (.int .u64 0)], [], [])) (by kernel_rfl) rfl (by kernel_rfl)) ?_
  intro W base args ds gs before hval hW _ hk _
  exact postLists_contract hpure H enc W base args ds gs before hval hW hk

theorem postLists_said (hpure : PurePostLists) : Rows.PostListsUptoSaid :=
  OpenClaim.holds_of_cond 5 Try.f5 rfl rfl rfl rfl rfl rfl rfl ⟨rfl, rfl, rfl, rfl, rfl⟩ rfl rfl rfl rfl rfl (by kernel_rfl) Try.func5 (by kernel_rfl)
    (of_decide_eq_true (by kernel_rfl)) (by unfold Func.isWrapper; first | (rw [if_pos (by decide +kernel)]; kernel_rfl) | (rw [if_neg (by decide +kernel)]; exact ⟨rfl, rfl⟩))
    (fun os started H enc _ F => postLists_lifted hpure os started H enc F)

end Go.Proofs.Ytgkijdahghfldaa
