/-
  From what a law's function computes to the statement about its calls: whatever the arguments within the bound, it returns true, and they read as before.
-/

import Derived.Test.YtgkijdahghfldaaWPi

import Derived.Test.YtgkijdahghfldaaGS

set_option linter.unusedVariables false

namespace Go.Proofs.Ytgkijdahghfldaa

open Go.ChangeShapes Go.WideShapes Go.ChangeAt Go.RowKit Go.Gx

def okT53 (y : T53) : Prop := ((fun y => (okInt .i64) y.1 ∧ (fun y => (fun s => s.size ≤ maxLen) y.1 ∧ (okInt .u64) y.2) y.2) : Int × ByteArray × Int → Prop) (y.Do, y.Key, y.N)

theorem opT53 : ∀ n, OpensN n Try.prog 54 kT53 okT53 (fun _ => 1) := by
  intro n
  induction n with
  | zero => exact OpensN.zero
  | succ n ih => exact OpensN.weakb (OpensN.weak (ok' := okT53) ((OpensN.struct (fun (s : T53) => (s.Do, s.Key, s.N)) (fun (a : Int × ByteArray × Int) => (⟨a.1, a.2.1, a.2.2⟩ : T53)) (fun _ => rfl) Try.underlying54 (by kernel_rfl) (FldsN.cons (K := (kInt .i64)) rfl (by kernel_rfl) (Opens.at_ (opens_int (by kernel_rfl))) (FldsN.cons (K := kStr) rfl (by kernel_rfl) (Opens.at_ (opens_str (by kernel_rfl))) (FldsN.one (K := (kInt .u64)) rfl (by kernel_rfl) (Opens.at_ (opens_int (by kernel_rfl)))))))) (fun y h => h)) (fun _ => Nat.succ_le_succ (Nat.zero_le _))

def PurePostIndexes : Prop := ∀ (x0 : List T53) (x1 : ByteArray), (okSl okT53) x0 → (fun s => s.size ≤ maxLen) x1 → (bkSl (fun _ => 1)) x0 + x1.size + 1 ≤ 1048576 → ∃ ps, M.tidepolelaw13_PostIndexes x0 x1 [] = some (true, ps)

set_option maxRecDepth 100000 in
theorem postIndexes_contract (hpure : PurePostIndexes) (H : Type) (enc : TypeId × Value → H) (W : World) (base : Nat) (args : Array Value) (ds gs : List (DataW H)) (before : List MemPlace)
    (hval : ∀ (j : Nat) t v, Try.f6.params[j]? = some t → args[j]? = some v → Value.okWide Try.prog W .any base t v)
    (hW : DataW.Whole enc Try.prog Try.f6.params.toList Rows.postIndexesSpec.vars false W args.toList ds gs before) (hk : Rows.uptoSmall H (ds ++ gs) = true) :
    Calls Try.prog 6 args W fun e W' => ∃ v, e = .returned v ∧ Rows.postIndexesSpec.post enc Try.prog Try.f6 false true false false W args v W' := by
  have hW' := hW
  obtain ⟨p, q, hA0, hV, rfl, hfz, hnd⟩ := hW
  have hA : DataW.TrodAll enc Try.prog W 0 (fun _ => true) true Try.f6.params.toList args.toList ds p := hA0
  rw [Try.params6] at hA hval
  obtain ⟨v0, vs0, d0, ds0, p0, q0, hargs, rfl, rfl, h0, r0⟩ := trodAll_cons hA
  obtain ⟨v1, vs1, d1, ds1, p1, q1, rfl, rfl, rfl, h1, r1⟩ := trodAll_cons r0
  obtain ⟨rfl, rfl, rfl⟩ := trodAll_nil r1
  obtain rfl : args = #[v0, v1] := by cases args; simp_all
  obtain ⟨rfl, rfl⟩ := trodVars_none hV
  obtain ⟨x0, k0, o0, b0⟩ := Opens.arg (opens_slice (K := kT53) (e := 54) (by kernel_rfl) (by kernel_rfl) (opens_of_n opT53)) (by kernel_rfl) (hval 0 46 v0 rfl rfl) h0
  obtain ⟨Ax0, cx0, e0, fx0⟩ := k0
  obtain rfl : v0 = .slice Ax0 x0.length cx0 := by injection e0
  obtain ⟨x1, k1, o1, b1⟩ := Opens.arg (opens_str (by kernel_rfl)) (by kernel_rfl) (hval 1 9 v1 rfl rfl) h1
  obtain rfl : v1 = .string x1 := by injection k1
  have hk2 := of_decide_eq_true hk
  simp only [List.append_nil, Rows.uptoBulkAll] at hk2
  obtain ⟨ps, hm⟩ := hpure x0 x1 o0 o1 (by omega)
  refine contract_of hW' rfl rfl rfl rfl (by kernel_rfl) (tb := 4) (by kernel_rfl) (by kernel_rfl) (by kernel_rfl) ?_
  refine Calls.mono (Gx.W.z30 x0 x1 [] (true, ps) hm Ax0 x0.length cx0 [] (Hp.pool0 (Hp.init W) 65 rfl (by simp [pid, Blk.pno])) fx0 rfl (Pl.nil _ _ _)) ?_
  rintro e W' ⟨v, rfl, hpost⟩
  obtain ⟨S', _, rfl, hx, hp, _⟩ := hpost
  exact ⟨_, rfl, rfl, hp.below⟩

set_option maxRecDepth 100000 in
theorem postIndexes_lifted (hpure : PurePostIndexes) (os : Os) (started : os.Started) (H : Type) (enc : TypeId × Value → H) (F : Stop.Interp) :
    ReturnsInHanded {} Try.checked os 6 .any ((Rows.OpenSpec.upto Rows.postIndexesSpec).pre6 enc Try.prog Try.f6 Rows.postIndexesUptoRow.domain false) (((Rows.OpenSpec.upto Rows.postIndexesSpec).at F).post enc Try.prog Try.f6 false true false false) := by
  refine returnsInHanded_of_cond (C := Try.checked) (s := Rows.OpenSpec.upto Rows.postIndexesSpec) (k := Rows.uptoSmall) rfl (by kernel_rfl) started (by kernel_rfl) Try.func6
    (OpenSpec.witness (enc := enc) (C := Try.checked) (s := Rows.OpenSpec.upto Rows.postIndexesSpec) (k := Rows.uptoSmall) rfl false ⟨#[], #[.slice none 0 0, .string .empty], []⟩ 8 (by kernel_rfl) (by kernel_rfl) (by kernel_rfl)
      (x := ([.nil, .lit (.string [])], [], [])) (by kernel_rfl) rfl (by kernel_rfl)) ?_
  intro W base args ds gs before hval hW _ hk _
  exact postIndexes_contract hpure H enc W base args ds gs before hval hW hk

theorem postIndexes_said (hpure : PurePostIndexes) : Rows.PostIndexesUptoSaid :=
  OpenClaim.holds_of_cond 6 Try.f6 rfl rfl rfl rfl rfl rfl rfl ⟨rfl, rfl, rfl, rfl, rfl⟩ rfl rfl rfl rfl rfl (by kernel_rfl) Try.func6 (by kernel_rfl)
    (of_decide_eq_true (by kernel_rfl)) (by unfold Func.isWrapper; first | (rw [if_pos (by decide +kernel)]; kernel_rfl) | (rw [if_neg (by decide +kernel)]; exact ⟨rfl, rfl⟩))
    (fun os started H enc _ F => postIndexes_lifted hpure os started H enc F)

def PurePostVoid : Prop := ∀ (x0 : ByteArray) (x1 : Int), (fun s => s.size ≤ maxLen) x0 → (okInt .u64) x1 → x0.size + 1 + 1 ≤ 1048576 → ∃ ps, M.tidepolelaw13_PostVoid x0 x1 [] = some (true, ps)

set_option maxRecDepth 100000 in
theorem postVoid_contract (hpure : PurePostVoid) (H : Type) (enc : TypeId × Value → H) (W : World) (base : Nat) (args : Array Value) (ds gs : List (DataW H)) (before : List MemPlace)
    (hval : ∀ (j : Nat) t v, Try.f7.params[j]? = some t → args[j]? = some v → Value.okWide Try.prog W .any base t v)
    (hW : DataW.Whole enc Try.prog Try.f7.params.toList Rows.postVoidSpec.vars false W args.toList ds gs before) (hk : Rows.uptoSmall H (ds ++ gs) = true) :
    Calls Try.prog 7 args W fun e W' => ∃ v, e = .returned v ∧ Rows.postVoidSpec.post enc Try.prog Try.f7 false true false false W args v W' := by
  have hW' := hW
  obtain ⟨p, q, hA0, hV, rfl, hfz, hnd⟩ := hW
  have hA : DataW.TrodAll enc Try.prog W 0 (fun _ => true) true Try.f7.params.toList args.toList ds p := hA0
  rw [Try.params7] at hA hval
  obtain ⟨v0, vs0, d0, ds0, p0, q0, hargs, rfl, rfl, h0, r0⟩ := trodAll_cons hA
  obtain ⟨v1, vs1, d1, ds1, p1, q1, rfl, rfl, rfl, h1, r1⟩ := trodAll_cons r0
  obtain ⟨rfl, rfl, rfl⟩ := trodAll_nil r1
  obtain rfl : args = #[v0, v1] := by cases args; simp_all
  obtain ⟨rfl, rfl⟩ := trodVars_none hV
  obtain ⟨x0, k0, o0, b0⟩ := Opens.arg (opens_str (by kernel_rfl)) (by kernel_rfl) (hval 0 9 v0 rfl rfl) h0
  obtain rfl : v0 = .string x0 := by injection k0
  obtain ⟨x1, k1, o1, b1⟩ := Opens.arg (opens_int (by kernel_rfl)) (by kernel_rfl) (hval 1 35 v1 rfl rfl) h1
  obtain rfl : v1 = .int .u64 x1 := by injection k1
  have hk2 := of_decide_eq_true hk
  simp only [List.append_nil, Rows.uptoBulkAll] at hk2
  obtain ⟨ps, hm⟩ := hpure x0 x1 o0 o1 (by omega)
  refine contract_of hW' rfl rfl rfl rfl (by kernel_rfl) (tb := 4) (by kernel_rfl) (by kernel_rfl) (by kernel_rfl) ?_
  refine Calls.mono (Gx.W.z3m x0 x1 [] (true, ps) hm [] (Hp.pool0 (Hp.init W) 65 rfl (by simp [pid, Blk.pno])) (Pl.nil _ _ _)) ?_
  rintro e W' ⟨v, rfl, hpost⟩
  obtain ⟨S', _, rfl, hx, hp, _⟩ := hpost
  exact ⟨_, rfl, rfl, hp.below⟩

set_option maxRecDepth 100000 in
theorem postVoid_lifted (hpure : PurePostVoid) (os : Os) (started : os.Started) (H : Type) (enc : TypeId × Value → H) (F : Stop.Interp) :
    ReturnsInHanded {} Try.checked os 7 .any ((Rows.OpenSpec.upto Rows.postVoidSpec).pre6 enc Try.prog Try.f7 Rows.postVoidUptoRow.domain false) (((Rows.OpenSpec.upto Rows.postVoidSpec).at F).post enc Try.prog Try.f7 false true false false) := by
  refine returnsInHanded_of_cond (C := Try.checked) (s := Rows.OpenSpec.upto Rows.postVoidSpec) (k := Rows.uptoSmall) rfl (by kernel_rfl) started (by kernel_rfl) Try.func7
    (OpenSpec.witness (enc := enc) (C := Try.checked) (s := Rows.OpenSpec.upto Rows.postVoidSpec) (k := Rows.uptoSmall) rfl false ⟨#[], #[.string .empty, .int .u64 0], []⟩ 8 (by kernel_rfl) (by kernel_rfl) (by kernel_rfl)
      (x := ([.lit (.string []), .lit (.int .u64 0)], [], [])) (by kernel_rfl) rfl (by kernel_rfl)) ?_
  intro W base args ds gs before hval hW _ hk _
  exact postVoid_contract hpure H enc W base args ds gs before hval hW hk

theorem postVoid_said (hpure : PurePostVoid) : Rows.PostVoidUptoSaid :=
  OpenClaim.holds_of_cond 7 Try.f7 rfl rfl rfl rfl rfl rfl rfl ⟨rfl, rfl, rfl, rfl, rfl⟩ rfl rfl rfl rfl rfl (by kernel_rfl) Try.func7 (by kernel_rfl)
    (of_decide_eq_true (by kernel_rfl)) (by unfold Func.isWrapper; first | (rw [if_pos (by decide +kernel)]; kernel_rfl) | (rw [if_neg (by decide +kernel)]; exact ⟨rfl, rfl⟩))
    (fun os started H enc _ F => postVoid_lifted hpure os started H enc F)

end Go.Proofs.Ytgkijdahghfldaa
