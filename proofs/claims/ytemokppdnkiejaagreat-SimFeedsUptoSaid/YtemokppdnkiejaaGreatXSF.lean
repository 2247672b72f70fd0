/-
  From what a law's function computes to the statement about its calls: whatever the arguments within the bound, it returns true, and they read as before.
-/

import Derived.Test.YtemokppdnkiejaaGreatWSF

import Derived.Test.YtemokppdnkiejaaGreatGS

set_option linter.unusedVariables false

namespace Go.Proofs.YtemokppdnkiejaaGreat

open Go.ChangeShapes Go.WideShapes Go.ChangeAt Go.RowKit Go.Gx

def okT45 (y : T45) : Prop := ((fun y => (okInt .i64) y.1 ∧ (fun y => (okArr 4 (okInt .u64)) y.1 ∧ (fun y => (okInt .i64) y.1 ∧ (okInt .i64) y.2) y.2) y.2) : Int × (List Int) × Int × Int → Prop) (y.Op, y.Set, y.X, y.Y)

theorem opT45 : ∀ n, OpensN n Tryz.prog 46 kT45 okT45 (fun _ => 1) := by
  intro n
  induction n with
  | zero => exact OpensN.zero
  | succ n ih => exact OpensN.weakb (OpensN.weak (ok' := okT45) ((OpensN.struct (fun (s : T45) => (s.Op, s.Set, s.X, s.Y)) (fun (a : Int × (List Int) × Int × Int) => (⟨a.1, a.2.1, a.2.2.1, a.2.2.2⟩ : T45)) (fun _ => rfl) Tryz.underlying46 (by kernel_rfl) (FldsN.cons (K := (kInt .i64)) rfl (by kernel_rfl) (Opens.at_ (opens_int (by kernel_rfl))) (FldsN.cons (K := (kArr 4 (kInt .u64))) rfl (by kernel_rfl) (OpensN.mono (OpensN.array (K := (kInt .u64)) (e := 42) (by kernel_rfl) (by kernel_rfl) (by kernel_rfl) (Opens.at_ (opens_int (by kernel_rfl)))) (Nat.le_succ n)) (FldsN.cons (K := (kInt .i64)) rfl (by kernel_rfl) (Opens.at_ (opens_int (by kernel_rfl))) (FldsN.one (K := (kInt .i64)) rfl (by kernel_rfl) (Opens.at_ (opens_int (by kernel_rfl))))))))) (fun y h => h)) (fun _ => Nat.succ_le_succ (Nat.zero_le _))

def PureSimFeeds : Prop := ∀ (x0 : List T45) (x1 : List Int) (x2 : List Bool), (okSl okT45) x0 → (okSl (okInt .u8)) x1 → (okSl (fun _ => True)) x2 → (bkSl (fun _ => 1)) x0 + (bkSl (fun _ => 1)) x1 + (bkSl (fun _ => 1)) x2 ≤ 1048576 → M.tidepolelaw12_SimFeeds x0 x1 x2 = some true

set_option maxRecDepth 100000 in
theorem simFeeds_contract (hpure : PureSimFeeds) (H : Type) (enc : TypeId × Value → H) (W : World) (base : Nat) (args : Array Value) (ds gs : List (DataW H)) (before : List MemPlace)
    (hval : ∀ (j : Nat) t v, Tryz.f3.params[j]? = some t → args[j]? = some v → Value.okWide Tryz.prog W .any base t v)
    (hW : DataW.Whole enc Tryz.prog Tryz.f3.params.toList Rows.simFeedsSpec.vars false W args.toList ds gs before) (hk : Rows.uptoSmall H (ds ++ gs) = true) :
    Calls Tryz.prog 3 args W fun e W' => ∃ v, e = .returned v ∧ Rows.simFeedsSpec.post enc Tryz.prog Tryz.f3 false true false false W args v W' := by
  have hW' := hW
  obtain ⟨p, q, hA0, hV, rfl, hfz, hnd⟩ := hW
  have hA : DataW.TrodAll enc Tryz.prog W 0 (fun _ => true) true Tryz.f3.params.toList args.toList ds p := hA0
  rw [Tryz.params3] at hA hval
  obtain ⟨v0, vs0, d0, ds0, p0, q0, hargs, rfl, rfl, h0, r0⟩ := trodAll_cons hA
  obtain ⟨v1, vs1, d1, ds1, p1, q1, rfl, rfl, rfl, h1, r1⟩ := trodAll_cons r0
  obtain ⟨v2, vs2, d2, ds2, p2, q2, rfl, rfl, rfl, h2, r2⟩ := trodAll_cons r1
  obtain ⟨rfl, rfl, rfl⟩ := trodAll_nil r2
  obtain rfl : args = #[v0, v1, v2] := by cases args; simp_all
  obtain ⟨rfl, rfl⟩ := trodVars_none hV
  obtain ⟨x0, k0, o0, b0⟩ := Opens.arg (opens_slice (K := kT45) (e := 46) (by kernel_rfl) (by kernel_rfl) (opens_of_n opT45)) (by kernel_rfl) (hval 0 22 v0 rfl rfl) h0
  obtain ⟨Ax0, cx0, e0, fx0⟩ := k0
  obtain rfl : v0 = .slice Ax0 x0.length cx0 := by injection e0
  obtain ⟨x1, k1, o1, b1⟩ := Opens.arg (opens_slice (K := (kInt .u8)) (e := 5) (by kernel_rfl) (by kernel_rfl) (opens_int (by kernel_rfl))) (by kernel_rfl) (hval 1 23 v1 rfl rfl) h1
  obtain ⟨Ax1, cx1, e1, fx1⟩ := k1
  obtain rfl : v1 = .slice Ax1 x1.length cx1 := by injection e1
  obtain ⟨x2, k2, o2, b2⟩ := Opens.arg (opens_slice (K := kBool) (e := 4) (by kernel_rfl) (by kernel_rfl) (opens_bool (by kernel_rfl))) (by kernel_rfl) (hval 2 24 v2 rfl rfl) h2
  obtain ⟨Ax2, cx2, e2, fx2⟩ := k2
  obtain rfl : v2 = .slice Ax2 x2.length cx2 := by injection e2
  have hk2 := of_decide_eq_true hk
  simp only [List.append_nil, Rows.uptoBulkAll] at hk2
  have hm := hpure x0 x1 x2 o0 o1 o2 (by omega)
  refine contract_of hW' rfl rfl rfl rfl (by kernel_rfl) (tb := 4) (by kernel_rfl) (by kernel_rfl) (by kernel_rfl) ?_
  refine Calls.mono (Gx.W.z5g x0 x1 x2 true hm Ax0 x0.length cx0 Ax1 x1.length cx1 Ax2 x2.length cx2 (Hp.init W) fx0 rfl fx1 rfl fx2 rfl) ?_
  rintro e W' ⟨v, rfl, hpost⟩
  obtain ⟨S', rfl, hx, hp⟩ := hpost
  exact ⟨_, rfl, rfl, hp.below⟩

set_option maxRecDepth 100000 in
theorem simFeeds_lifted (hpure : PureSimFeeds) (os : Os) (started : os.Started) (H : Type) (enc : TypeId × Value → H) (F : Stop.Interp) :
    ReturnsInHanded {} Tryz.checked os 3 .any ((Rows.OpenSpec.upto Rows.simFeedsSpec).pre6 enc Tryz.prog Tryz.f3 Rows.simFeedsUptoRow.domain false) (((Rows.OpenSpec.upto Rows.simFeedsSpec).at F).post enc Tryz.prog Tryz.f3 false true false false) := by
  refine returnsInHanded_of_cond (C := Tryz.checked) (s := Rows.OpenSpec.upto Rows.simFeedsSpec) (k := Rows.uptoSmall) rfl (by kernel_rfl) started (by kernel_rfl) Tryz.func3
    (OpenSpec.witness (enc := enc) (C := Tryz.checked) (s := Rows.OpenSpec.upto Rows.simFeedsSpec) (k := Rows.uptoSmall) rfl false ⟨#[], #[.slice none 0 0, .slice none 0 0, .slice none 0 0], []⟩ 8 (by kernel_rfl) (by kernel_rfl) (by kernel_rfl)
      (x := ([.nil, .nil, .nil], [], [])) (by kernel_rfl) rfl (by kernel_rfl)) ?_
  intro W base args ds gs before hval hW _ hk _
  exact simFeeds_contract hpure H enc W base args ds gs before hval hW hk

theorem simFeeds_said (hpure : PureSimFeeds) : Rows.SimFeedsUptoSaid :=
  OpenClaim.holds_of_cond 3 Tryz.f3 rfl rfl rfl rfl rfl rfl rfl ⟨rfl, rfl, rfl, rfl, rfl⟩ rfl rfl rfl rfl rfl (by kernel_rfl) Tryz.func3 (by kernel_rfl)
    (of_decide_eq_true (by kernel_rfl)) (by unfold Func.isWrapper; first | (rw [if_pos (by decide +kernel)]; kernel_rfl) | (rw [if_neg (by decide +kernel)]; exact ⟨rfl, rfl⟩))
    (fun os started H enc _ F => simFeeds_lifted hpure os started H enc F)

end Go.Proofs.YtemokppdnkiejaaGreat
