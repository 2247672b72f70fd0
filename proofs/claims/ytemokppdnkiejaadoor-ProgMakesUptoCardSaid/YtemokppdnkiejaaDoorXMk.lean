/-
  From what a law's function computes to the statement about its calls: whatever the arguments within the bound, it returns true, and they read as before.
-/

import Derived.Test.YtemokppdnkiejaaDoorWMk

import Derived.Test.YtemokppdnkiejaaDoorGS

import Derived.Test.YtemokppdnkiejaaDoorGT

import Derived.Test.YtemokppdnkiejaaDoorCards

import Derived.Test.YtemokppdnkiejaaDoorTie

set_option linter.unusedVariables false

namespace Go.Proofs.YtemokppdnkiejaaDoor

open Go.ChangeShapes Go.WideShapes Go.ChangeAt Go.RowKit Go.Gx

def okT27N : Nat → T27 → Prop
  | 0 => fun _ => True
  | n + 1 => fun y => ((fun y => (okInt .i64) y.1 ∧ (fun y => (okArr 4 (okInt .u64)) y.1 ∧ (fun y => (okSlM (okT27N n)) y.1 ∧ (fun y => (okInt .i64) y.1 ∧ (okInt .i64) y.2) y.2) y.2) y.2) : Int × (List Int) × (List T27) × Int × Int → Prop) (y.Kind, y.Set, y.L, y.Min, y.Max)

def okT27 (y : T27) : Prop := ∀ n, okT27N n y

theorem opT27 : ∀ n, OpensN n Tryd.prog 28 kT27 okT27 (fun _ => 1) := by
  intro n
  induction n with
  | zero => exact OpensN.zero
  | succ n ih => exact OpensN.weakb (OpensN.weak (ok' := okT27) (OpensN.conv (fun h => kT27_close h) (OpensN.struct (fun (s : T27) => (s.Kind, s.Set, s.L, s.Min, s.Max)) (fun (a : Int × (List Int) × (List T27) × Int × Int) => (⟨a.1, a.2.1, a.2.2.1, a.2.2.2.1, a.2.2.2.2⟩ : T27)) (fun _ => rfl) Tryd.underlying28 (by kernel_rfl) (FldsN.cons (K := (kInt .i64)) rfl (by kernel_rfl) (Opens.at_ (opens_int (by kernel_rfl))) (FldsN.cons (K := (kArr 4 (kInt .u64))) rfl (by kernel_rfl) (OpensN.mono (OpensN.array (K := (kInt .u64)) (e := 23) (by kernel_rfl) (by kernel_rfl) (by kernel_rfl) (Opens.at_ (opens_int (by kernel_rfl)))) (Nat.le_succ n)) (FldsN.cons (K := (kSl kT27)) rfl (by kernel_rfl) (OpensN.mono (OpensN.sliceM (K := kT27) (e := 28) (by kernel_rfl) (by kernel_rfl) ih) (Nat.le_succ n)) (FldsN.cons (K := (kInt .i64)) rfl (by kernel_rfl) (Opens.at_ (opens_int (by kernel_rfl))) (FldsN.one (K := (kInt .i64)) rfl (by kernel_rfl) (Opens.at_ (opens_int (by kernel_rfl)))))))))) (fun y h => by
    intro m
    cases m with
    | zero => trivial
    | succ m => exact ⟨h.1, ⟨h.2.1, ⟨⟨h.2.2.1.1, fun z hz => h.2.2.1.2 z hz m⟩, ⟨h.2.2.2.1, h.2.2.2.2⟩⟩⟩⟩)) (fun _ => Nat.succ_le_succ (Nat.zero_le _))

def PureProgMakes : Prop := ∀ (x0 : T27), okT27 x0 → 1 ≤ 1048576 → M.tidepolelaw11_ProgMakes x0 = some true

set_option maxRecDepth 100000 in
theorem progMakes_contract (hpure : PureProgMakes) (H : Type) (enc : TypeId × Value → H) (W : World) (base : Nat) (args : Array Value) (ds gs : List (DataW H)) (before : List MemPlace)
    (hval : ∀ (j : Nat) t v, Tryd.f4.params[j]? = some t → args[j]? = some v → Value.okWide Tryd.prog W .any base t v)
    (hW : DataW.Whole enc Tryd.prog Tryd.f4.params.toList Rows.progMakesSpec.vars false W args.toList ds gs before) (hk : Rows.uptoSmall H (ds ++ gs) = true) (hL : laidMetH Tryd.prog Rows.progMakesUptoRow.laid W) :
    Calls Tryd.prog 4 args W fun e W' => ∃ v, e = .returned v ∧ Rows.progMakesSpec.post enc Tryd.prog Tryd.f4 false true false false W args v W' := by
  have hW' := hW
  obtain ⟨p, q, hA0, hV, rfl, hfz, hnd⟩ := hW
  have hA : DataW.TrodAll enc Tryd.prog W 0 (fun _ => true) true Tryd.f4.params.toList args.toList ds p := hA0
  rw [Tryd.params4] at hA hval
  obtain ⟨v0, vs0, d0, ds0, p0, q0, hargs, rfl, rfl, h0, r0⟩ := trodAll_cons hA
  obtain ⟨rfl, rfl, rfl⟩ := trodAll_nil r0
  obtain rfl : args = #[v0] := by cases args; simp_all
  obtain ⟨rfl, rfl⟩ := trodVars_none hV
  obtain ⟨cs0, x0, e0, k0, o0, b0⟩ := Opens.argS (opens_of_n opT27) Tryd.underlying28 (hval 0 28 v0 rfl rfl) h0
  have q5001 := k0
  obtain ⟨_, _, rfl, rfl, ⟨_, _, rfl, ⟨l5002, f5003⟩, ⟨_, _, rfl, ⟨A5004, c5005, rfl, f5006⟩, ⟨_, _, rfl, rfl, rfl⟩⟩⟩⟩ := kT27_open q5001
  obtain rfl := els_lit4' f5003 l5002
  subst e0
  have hk2 := of_decide_eq_true hk
  simp only [List.append_nil, Rows.uptoBulkAll] at hk2
  have hm := hpure x0 o0 (by omega)
  refine contract_of hW' rfl rfl rfl rfl (by kernel_rfl) (tb := 4) (by kernel_rfl) (by kernel_rfl) (by kernel_rfl) ?_
  haveI : Gw W.heap.size W := ⟨Tab.laid 2 2 156 23 20 hL (by kernel_rfl) (by kernel_rfl) (by kernel_rfl) (by kernel_rfl) (by kernel_rfl) (by kernel_rfl) (by kernel_rfl) (by kernel_rfl)⟩
  refine Calls.mono (Gx.W.z4l x0 true hm A5004 x0.L.length c5005 (Hp.init W) l5002 f5006 rfl) ?_
  rintro e W' ⟨v, rfl, hpost⟩
  obtain ⟨S', rfl, hx, hp⟩ := hpost
  exact ⟨_, rfl, rfl, hp.below⟩

noncomputable def progMakes_world (os : Os) : World := withTabs (World.holding Tryd.prog os ⟨#[], #[], []⟩) [(3, [.int .u8 0, .int .u8 1, .int .u8 28, .int .u8 2, .int .u8 29, .int .u8 14, .int .u8 24, .int .u8 3, .int .u8 30, .int .u8 22, .int .u8 20, .int .u8 15, .int .u8 25, .int .u8 17, .int .u8 4, .int .u8 8, .int .u8 31, .int .u8 27, .int .u8 13, .int .u8 23, .int .u8 21, .int .u8 19, .int .u8 16, .int .u8 7, .int .u8 26, .int .u8 12, .int .u8 18, .int .u8 6, .int .u8 11, .int .u8 5, .int .u8 10, .int .u8 9]), (1, [.int .u8 0, .int .u8 1, .int .u8 56, .int .u8 2, .int .u8 57, .int .u8 49, .int .u8 28, .int .u8 3, .int .u8 61, .int .u8 58, .int .u8 42, .int .u8 50, .int .u8 38, .int .u8 29, .int .u8 17, .int .u8 4, .int .u8 62, .int .u8 47, .int .u8 59, .int .u8 36, .int .u8 45, .int .u8 43, .int .u8 51, .int .u8 22, .int .u8 53, .int .u8 39, .int .u8 33, .int .u8 30, .int .u8 24, .int .u8 18, .int .u8 12, .int .u8 5, .int .u8 63, .int .u8 55, .int .u8 48, .int .u8 27, .int .u8 60, .int .u8 41, .int .u8 37, .int .u8 16, .int .u8 46, .int .u8 35, .int .u8 44, .int .u8 21, .int .u8 52, .int .u8 32, .int .u8 23, .int .u8 11, .int .u8 54, .int .u8 26, .int .u8 40, .int .u8 15, .int .u8 34, .int .u8 20, .int .u8 31, .int .u8 10, .int .u8 25, .int .u8 14, .int .u8 19, .int .u8 9, .int .u8 13, .int .u8 8, .int .u8 7, .int .u8 6]), (2, [.int .u64 1, .int .u64 10, .int .u64 100, .int .u64 1000, .int .u64 10000, .int .u64 100000, .int .u64 1000000, .int .u64 10000000, .int .u64 100000000, .int .u64 1000000000, .int .u64 10000000000, .int .u64 100000000000, .int .u64 1000000000000, .int .u64 10000000000000, .int .u64 100000000000000, .int .u64 1000000000000000, .int .u64 10000000000000000, .int .u64 100000000000000000, .int .u64 1000000000000000000, .int .u64 10000000000000000000])]

theorem progMakes_met (os : Os) : laidMet Tryd.prog Rows.progMakesUptoRow.laid ((progMakes_world os).forCall (fun _ _ => 0) ⟨#[], #[.agg #[.int .i64 0, .int .u64 0, .int .u64 0, .int .u64 0, .int .u64 0, .slice none 0 0, .int .i64 0, .int .i64 0]], []⟩).memory :=
  laidMet_of_run' 8 (by kernel_rfl) (by kernel_rfl)

theorem progMakes_reads (os : Os) {H : Type} (enc : TypeId × Value → H) : ∃ places, DataW.whole enc Tryd.prog ((progMakes_world os).forCall (fun _ _ => 0) ⟨#[], #[.agg #[.int .i64 0, .int .u64 0, .int .u64 0, .int .u64 0, .int .u64 0, .slice none 0 0, .int .i64 0, .int .i64 0]], []⟩).memory Tryd.f4.params.toList Rows.progMakesSpec.vars false (#[.agg #[.int .i64 0, .int .u64 0, .int .u64 0, .int .u64 0, .int .u64 0, .slice none 0 0, .int .i64 0, .int .i64 0]] : Array Value).toList 8 = some ([.agg [.lit (.int .i64 0), .agg [.lit (.int .u64 0), .lit (.int .u64 0), .lit (.int .u64 0), .lit (.int .u64 0)], .nil, .lit (.int .i64 0), .lit (.int .i64 0)]], [], places) :=
  ⟨[], by kernel_rfl⟩

set_option maxRecDepth 100000 in
theorem progMakes_lifted (hpure : PureProgMakes) (os : Os) (started : os.Started) (H : Type) (enc : TypeId × Value → H) (F : Stop.Interp) :
    ReturnsInHanded {} Tryd.checked os 4 .any ((Rows.OpenSpec.upto Rows.progMakesSpec).preRow enc Tryd.prog Tryd.f4 Rows.progMakesUptoRow.domain false Rows.progMakesUptoRow.laid) (((Rows.OpenSpec.upto Rows.progMakesSpec).at F).post enc Tryd.prog Tryd.f4 false true false false) := by
  obtain ⟨places, hx⟩ := progMakes_reads os enc
  refine returnsInHanded_of_row (C := Tryd.checked) (s := Rows.OpenSpec.upto Rows.progMakesSpec) (show ownKnob Tryd.prog.godebug = none by kernel_rfl) started (by kernel_rfl) Tryd.func4
    (witness_row_at (enc := enc) (C := Tryd.checked) false (progMakes_world os) #[.agg #[.int .i64 0, .int .u64 0, .int .u64 0, .int .u64 0, .int .u64 0, .slice none 0 0, .int .i64 0, .int .i64 0]] rfl (by kernel_rfl) (by kernel_rfl) (by kernel_rfl)
      (OpenSpec.preRow_of_cond 8 hx (by kernel_rfl) (fun k hk => by cases hk; kernel_rfl) (by kernel_rfl) (progMakes_met os))) ?_
  intro W base args ds gs before hval hW _ hk _ hL _ _
  exact progMakes_contract hpure H enc W base args ds gs before hval hW (hk _ rfl) hL

theorem progMakes_said (hpure : PureProgMakes) : Rows.ProgMakesUptoSaid :=
  OpenClaim.holds_of_cond 4 Tryd.f4 rfl rfl rfl rfl rfl rfl rfl ⟨rfl, rfl, rfl, rfl, rfl⟩ rfl rfl rfl rfl rfl (by kernel_rfl) Tryd.func4 (by kernel_rfl)
    (of_decide_eq_true (by kernel_rfl)) (by unfold Func.isWrapper; first | (rw [if_pos (by decide +kernel)]; kernel_rfl) | (rw [if_neg (by decide +kernel)]; exact ⟨rfl, rfl⟩))
    (fun os started H enc _ F => by rw [OpenClaim.pre_eq_preRow]; exact progMakes_lifted hpure os started H enc F)

theorem progMakes_plain (f : FuncId) (fn : Func) (hf : Tryd.pinned.checked.prog.funcNamed Rows.progMakesUptoRow.func = some f) (hfn : Tryd.pinned.checked.prog.funcs[f]? = some fn) :
    false = Tryd.pinned.checked.prog.looks [] ∧ ∀ (j : Nat) t, fn.params[j]? = some t → Tryd.pinned.checked.prog.wantsStandIn t = false := by
  obtain rfl : f = 4 := Option.some.inj ((show Tryd.prog.funcNamed Rows.progMakesUptoRow.func = some 4 by kernel_rfl).symm.trans hf) |>.symm
  obtain rfl : fn = Tryd.f4 := (Option.some.inj (Tryd.func4.symm.trans hfn)).symm
  refine ⟨by kernel_rfl, fun j t ht => ?_⟩
  rw [Tryd.params4] at ht
  have hm : t ∈ ([28] : List TypeId) := by simpa using Array.mem_of_getElem? ht
  revert t
  have hall : ([28] : List TypeId).all (fun t => !Tryd.prog.wantsStandIn t) = true := by kernel_rfl
  intro t _ hm
  show Tryd.prog.wantsStandIn t = false
  simpa using List.all_eq_true.1 hall t hm

theorem progMakes_card (hpure : PureProgMakes) : Rows.ProgMakesUptoCardSaid :=
  Claim7.holds_tied_plain_at .later [] _ _ _ _ (progMakes_said hpure) (fun _ h => by cases h) (by kernel_rfl) (fun _ h => by cases h) progMakesUpto_row_tie rfl ⟨rfl, rfl⟩ (by kernel_rfl) rfl progMakes_plain (by kernel_rfl)

end Go.Proofs.YtemokppdnkiejaaDoor
