/-
  From what a law's function computes to the statement about its calls: whatever the arguments within the bound, it returns true, and they read as before.
-/

import Derived.Test.YtemokppdnkiejaaWSim

import Derived.Test.YtemokppdnkiejaaGS

set_option linter.unusedVariables false

namespace Go.Proofs.Ytemokppdnkiejaa

open Go.ChangeShapes Go.WideShapes Go.ChangeAt Go.RowKit Go.Gx

def okT27N : Nat → T27 → Prop
  | 0 => fun _ => True
  | n + 1 => fun y => ((fun y => (okInt .i64) y.1 ∧ (fun y => (okArr 4 (okInt .u64)) y.1 ∧ (fun y => (okSlM (okT27N n)) y.1 ∧ (fun y => (okInt .i64) y.1 ∧ (okInt .i64) y.2) y.2) y.2) y.2) : Int × (List Int) × (List T27) × Int × Int → Prop) (y.Kind, y.Set, y.L, y.Min, y.Max)

def okT27 (y : T27) : Prop := ∀ n, okT27N n y

theorem opT27 : ∀ n, OpensN n Try.prog 28 kT27 okT27 (fun _ => 1) := by
  intro n
  induction n with
  | zero => exact OpensN.zero
  | succ n ih => exact OpensN.weakb (OpensN.weak (ok' := okT27) (OpensN.conv (fun h => kT27_close h) (OpensN.struct (fun (s : T27) => (s.Kind, s.Set, s.L, s.Min, s.Max)) (fun (a : Int × (List Int) × (List T27) × Int × Int) => (⟨a.1, a.2.1, a.2.2.1, a.2.2.2.1, a.2.2.2.2⟩ : T27)) (fun _ => rfl) Try.underlying28 (by kernel_rfl) (FldsN.cons (K := (kInt .i64)) rfl (by kernel_rfl) (Opens.at_ (opens_int (by kernel_rfl))) (FldsN.cons (K := (kArr 4 (kInt .u64))) rfl (by kernel_rfl) (OpensN.mono (OpensN.array (K := (kInt .u64)) (e := 23) (by kernel_rfl) (by kernel_rfl) (by kernel_rfl) (Opens.at_ (opens_int (by kernel_rfl)))) (Nat.le_succ n)) (FldsN.cons (K := (kSl kT27)) rfl (by kernel_rfl) (OpensN.mono (OpensN.sliceM (K := kT27) (e := 28) (by kernel_rfl) (by kernel_rfl) ih) (Nat.le_succ n)) (FldsN.cons (K := (kInt .i64)) rfl (by kernel_rfl) (Opens.at_ (opens_int (by kernel_rfl))) (FldsN.one (K := (kInt .i64)) rfl (by kernel_rfl) (Opens.at_ (opens_int (by kernel_rfl)))))))))) (fun y h => by
    intro m
    cases m with
    | zero => trivial
    | succ m => exact ⟨h.1, ⟨h.2.1, ⟨⟨h.2.2.1.1, fun z hz => h.2.2.1.2 z hz m⟩, ⟨h.2.2.2.1, h.2.2.2.2⟩⟩⟩⟩)) (fun _ => Nat.succ_le_succ (Nat.zero_le _))

def PureSimMeans : Prop := ∀ (x0 : T27) (x1 : ByteArray), okT27 x0 → (fun s => s.size ≤ maxLen) x1 → 1 + x1.size + 1 ≤ 1048576 → M.tidepolelaw12_SimMeans x0 x1 = some true

set_option maxRecDepth 100000 in
theorem simMeans_contract (hpure : PureSimMeans) (H : Type) (enc : TypeId × Value → H) (W : World) (base : Nat) (args : Array Value) (ds gs : List (DataW H)) (before : List MemPlace)
    (hval : ∀ (j : Nat) t v, Try.f4.params[j]? = some t → args[j]? = some v → Value.okWide Try.prog W .any base t v)
    (hW : DataW.Whole enc Try.prog Try.f4.params.toList Rows.simMeansSpec.vars false W args.toList ds gs before) (hk : Rows.uptoSmall H (ds ++ gs) = true) :
    Calls Try.prog 4 args W fun e W' => ∃ v, e = .returned v ∧ Rows.simMeansSpec.post enc Try.prog Try.f4 false true false false W args v W' := by
  have hW' := hW
  obtain ⟨p, q, hA0, hV, rfl, hfz, hnd⟩ := hW
  have hA : DataW.TrodAll enc Try.prog W 0 (fun _ => true) true Try.f4.params.toList args.toList ds p := hA0
  rw [Try.params4] at hA hval
  obtain ⟨v0, vs0, d0, ds0, p0, q0, hargs, rfl, rfl, h0, r0⟩ := trodAll_cons hA
  obtain ⟨v1, vs1, d1, ds1, p1, q1, rfl, rfl, rfl, h1, r1⟩ := trodAll_cons r0
  obtain ⟨rfl, rfl, rfl⟩ := trodAll_nil r1
  obtain rfl : args = #[v0, v1] := by cases args; simp_all
  obtain ⟨rfl, rfl⟩ := trodVars_none hV
  obtain ⟨cs0, x0, e0, k0, o0, b0⟩ := Opens.argS (opens_of_n opT27) Try.underlying28 (hval 0 28 v0 rfl rfl) h0
  have q5001 := k0
  obtain ⟨_, _, rfl, rfl, ⟨_, _, rfl, ⟨l5002, f5003⟩, ⟨_, _, rfl, ⟨A5004, c5005, rfl, f5006⟩, ⟨_, _, rfl, rfl, rfl⟩⟩⟩⟩ := kT27_open q5001
  obtain rfl := els_lit4' f5003 l5002
  subst e0
  obtain ⟨x1, k1, o1, b1⟩ := Opens.arg (opens_str (by kernel_rfl)) (by kernel_rfl) (hval 1 9 v1 rfl rfl) h1
  obtain rfl : v1 = .string x1 := by injection k1
  have hk2 := of_decide_eq_true hk
  simp only [List.append_nil, Rows.uptoBulkAll] at hk2
  have hm := hpure x0 x1 o0 o1 (by omega)
  refine contract_of hW' rfl rfl rfl rfl (by kernel_rfl) (tb := 4) (by kernel_rfl) (by kernel_rfl) (by kernel_rfl) ?_
  refine Calls.mono (Gx.W.z57 x0 x1 true hm A5004 x0.L.length c5005 (Hp.init W) l5002 f5006 rfl) ?_
  rintro e W' ⟨v, rfl, hpost⟩
  obtain ⟨S', rfl, hx, hp⟩ := hpost
  exact ⟨_, rfl, rfl, hp.below⟩

set_option maxRecDepth 100000 in
theorem simMeans_lifted (hpure : PureSimMeans) (os : Os) (started : os.Started) (H : Type) (enc : TypeId × Value → H) (F : Stop.Interp) :
    ReturnsInHanded {} Try.checked os 4 .any ((Rows.OpenSpec.upto Rows.simMeansSpec).pre6 enc Try.prog Try.f4 Rows.simMeansUptoRow.domain false) (((Rows.OpenSpec.upto Rows.simMeansSpec).at F).post enc Try.prog Try.f4 false true false false) := by
  refine returnsInHanded_of_cond (C := Try.checked) (s := Rows.OpenSpec.upto Rows.simMeansSpec) (k := Rows.uptoSmall) rfl (by kernel_rfl) started (by kernel_rfl) Try.func4
    (OpenSpec.witness (enc := enc) (C := Try.checked) (s := Rows.OpenSpec.upto Rows.simMeansSpec) (k := Rows.uptoSmall) rfl false ⟨#[], #[.agg #[.int .i64 0, .int .u64 0, .int .u64 0, .int .u64 0, .int .u64 0, .slice none 0 0, .int .i64 0, .int .i64 0], .string .empty], []⟩ 8 (by kernel_rfl) (by kernel_rfl) (by kernel_rfl)
      (x := ([.agg [.lit (.int .i64 0), .agg [.lit (.int .u64 0), .lit (.int .u64 0), .lit (.int .u64 0), .lit (.int .u64 0)], .nil, .lit (.int .i64 0), .lit (.int .i64 0)], .lit (.string [])], [], [])) (by kernel_rfl) rfl (by kernel_rfl)) ?_
  intro W base args ds gs before hval hW _ hk _
  exact simMeans_contract hpure H enc W base args ds gs before hval hW hk

theorem simMeans_said (hpure : PureSimMeans) : Rows.SimMeansUptoSaid :=
  OpenClaim.holds_of_cond 4 Try.f4 rfl rfl rfl rfl rfl rfl rfl ⟨rfl, rfl, rfl, rfl, rfl⟩ rfl rfl rfl rfl rfl (by kernel_rfl) Try.func4 (by kernel_rfl)
    (of_decide_eq_true (by kernel_rfl)) (by unfold Func.isWrapper; first | (rw [if_pos (by decide +kernel)]; kernel_rfl) | (rw [if_neg (by decide +kernel)]; exact ⟨rfl, rfl⟩))
    (fun os started H enc _ F => simMeans_lifted hpure os started H enc F)

def PureSimJoins : Prop := ∀ (x0 : T27) (x1 : T27) (x2 : ByteArray), okT27 x0 → okT27 x1 → (fun s => s.size ≤ maxLen) x2 → 1 + 1 + x2.size + 1 ≤ 1048576 → M.tidepolelaw12_SimJoins x0 x1 x2 = some true

set_option maxRecDepth 100000 in
theorem simJoins_contract (hpure : PureSimJoins) (H : Type) (enc : TypeId × Value → H) (W : World) (base : Nat) (args : Array Value) (ds gs : List (DataW H)) (before : List MemPlace)
    (hval : ∀ (j : Nat) t v, Try.f5.params[j]? = some t → args[j]? = some v → Value.okWide Try.prog W .any base t v)
    (hW : DataW.Whole enc Try.prog Try.f5.params.toList Rows.simJoinsSpec.vars false W args.toList ds gs before) (hk : Rows.uptoSmall H (ds ++ gs) = true) :
    Calls Try.prog 5 args W fun e W' => ∃ v, e = .returned v ∧ Rows.simJoinsSpec.post enc Try.prog Try.f5 false true false false W args v W' := by
  have hW' := hW
  obtain ⟨p, q, hA0, hV, rfl, hfz, hnd⟩ := hW
  have hA : DataW.TrodAll enc Try.prog W 0 (fun _ => true) true Try.f5.params.toList args.toList ds p := hA0
  rw [Try.params5] at hA hval
  obtain ⟨v0, vs0, d0, ds0, p0, q0, hargs, rfl, rfl, h0, r0⟩ := trodAll_cons hA
  obtain ⟨v1, vs1, d1, ds1, p1, q1, rfl, rfl, rfl, h1, r1⟩ := trodAll_cons r0
  obtain ⟨v2, vs2, d2, ds2, p2, q2, rfl, rfl, rfl, h2, r2⟩ := trodAll_cons r1
  obtain ⟨rfl, rfl, rfl⟩ := trodAll_nil r2
  obtain rfl : args = #[v0, v1, v2] := by cases args; simp_all
  obtain ⟨rfl, rfl⟩ := trodVars_none hV
  obtain ⟨cs0, x0, e0, k0, o0, b0⟩ := Opens.argS (opens_of_n opT27) Try.underlying28 (hval 0 28 v0 rfl rfl) h0
  have q5001 := k0
  obtain ⟨_, _, rfl, rfl, ⟨_, _, rfl, ⟨l5002, f5003⟩, ⟨_, _, rfl, ⟨A5004, c5005, rfl, f5006⟩, ⟨_, _, rfl, rfl, rfl⟩⟩⟩⟩ := kT27_open q5001
  obtain rfl := els_lit4' f5003 l5002
  subst e0
  obtain ⟨cs1, x1, e1, k1, o1, b1⟩ := Opens.argS (opens_of_n opT27) Try.underlying28 (hval 1 28 v1 rfl rfl) h1
  have q5101 := k1
  obtain ⟨_, _, rfl, rfl, ⟨_, _, rfl, ⟨l5102, f5103⟩, ⟨_, _, rfl, ⟨A5104, c5105, rfl, f5106⟩, ⟨_, _, rfl, rfl, rfl⟩⟩⟩⟩ := kT27_open q5101
  obtain rfl := els_lit4' f5103 l5102
  subst e1
  obtain ⟨x2, k2, o2, b2⟩ := Opens.arg (opens_str (by kernel_rfl)) (by kernel_rfl) (hval 2 9 v2 rfl rfl) h2
  obtain rfl : v2 = .string x2 := by injection k2
  have hk2 := of_decide_eq_true hk
  simp only [List.append_nil, Rows.uptoBulkAll] at hk2
  have hm := hpure x0 x1 x2 o0 o1 o2 (by omega)
  refine contract_of hW' rfl rfl rfl rfl (by kernel_rfl) (tb := 4) (by kernel_rfl) (by kernel_rfl) (by kernel_rfl) ?_
  refine Calls.mono (Gx.W.z59 x0 x1 x2 true hm A5004 x0.L.length c5005 A5104 x1.L.length c5105 (Hp.init W) l5002 f5006 rfl l5102 f5106 rfl) ?_
  rintro e W' ⟨v, rfl, hpost⟩
  obtain ⟨S', rfl, hx, hp⟩ := hpost
  exact ⟨_, rfl, rfl, hp.below⟩

set_option maxRecDepth 100000 in
theorem simJoins_lifted (hpure : PureSimJoins) (os : Os) (started : os.Started) (H : Type) (enc : TypeId × Value → H) (F : Stop.Interp) :
    ReturnsInHanded {} Try.checked os 5 .any ((Rows.OpenSpec.upto Rows.simJoinsSpec).pre6 enc Try.prog Try.f5 Rows.simJoinsUptoRow.domain false) (((Rows.OpenSpec.upto Rows.simJoinsSpec).at F).post enc Try.prog Try.f5 false true false false) := by
  refine returnsInHanded_of_cond (C := Try.checked) (s := Rows.OpenSpec.upto Rows.simJoinsSpec) (k := Rows.uptoSmall) rfl (by kernel_rfl) started (by kernel_rfl) Try.func5
    (OpenSpec.witness (enc := enc) (C := Try.checked) (s := Rows.OpenSpec.upto Rows.simJoinsSpec) (k := Rows.uptoSmall) rfl false ⟨#[], #[.agg #[.int .i64 0, .int .u64 0, .int .u64 0, .int .u64 0, .int .u64 0, .slice none 0 0, .int .i64 0, .int .i64 0], .agg #[.int .i64 0, .int .u64 0, .int .u64 0, .int .u64 0, .int .u64 0, .slice none 0 0, .int .i64 0, .int .i64 0], .string .empty], []⟩ 8 (by kernel_rfl) (by kernel_rfl) (by kernel_rfl)
      (x := ([.agg [.lit (.int .i64 0), .agg [.lit (.int .u64 0), .lit (.int .u64 0), .lit (.int .u64 0), .lit (.int .u64 0)], .nil, .lit (.int .i64 0), .lit (.int .i64 0)], .agg [.lit (.int .i64 0), .agg [.lit (.int .u64 0), .lit (.int .u64 0), .lit (.int .u64 0), .lit (.int .u64 0)], .nil, .lit (.int .i64 0), .lit (.int .i64 0)], .lit (.string [])], [], [])) (by kernel_rfl) rfl (by kernel_rfl)) ?_
  intro W base args ds gs before hval hW _ hk _
  exact simJoins_contract hpure H enc W base args ds gs before hval hW hk

theorem simJoins_said (hpure : PureSimJoins) : Rows.SimJoinsUptoSaid :=
  OpenClaim.holds_of_cond 5 Try.f5 rfl rfl rfl rfl rfl rfl rfl ⟨rfl, rfl, rfl, rfl, rfl⟩ rfl rfl rfl rfl rfl (by kernel_rfl) Try.func5 (by kernel_rfl)
    (of_decide_eq_true (by kernel_rfl)) (by unfold Func.isWrapper; first | (rw [if_pos (by decide +kernel)]; kernel_rfl) | (rw [if_neg (by decide +kernel)]; exact ⟨rfl, rfl⟩))
    (fun os started H enc _ F => simJoins_lifted hpure os started H enc F)

end Go.Proofs.Ytemokppdnkiejaa
