/-
 From what a law's function computes to the statement about its calls: whatever the arguments within the bound, it returns true, and they read as before.
-/

import Derived.Test.YtdccklkdakfnaaaGreatWGs

import Derived.Test.YtdccklkdakfnaaaGreatGS

set_option linter.unusedVariables false

namespace Go.Proofs.YtdccklkdakfnaaaGreat

open Go.ChangeShapes Go.WideShapes Go.ChangeAt Go.RowKit Go.Gx

def okT26N : Nat → T26 → Prop
 | 0 => fun _ => True
 | n + 1 => fun y => ((fun y => (okInt .i64) y.1 ∧ (fun y => (okArr 4 (okInt .u64)) y.1 ∧ (fun y => (okSlM (okT26N n)) y.1 ∧ (fun y => (okInt .i64) y.1 ∧ (okInt .i64) y.2) y.2) y.2) y.2) : Int × (List Int) × (List T26) × Int × Int → Prop) (y.Kind, y.Set, y.L, y.Min, y.Max)

def okT26 (y : T26) : Prop := ∀ n, okT26N n y

theorem opT26 : ∀ n, OpensN n Tryz.prog 27 kT26 okT26 (fun _ => 1) := by
 intro n
 induction n with
 | zero => exact OpensN.zero
 | succ n ih => exact OpensN.weakb (OpensN.weak (ok' := okT26) (OpensN.conv (fun h => kT26_close h) (OpensN.struct (fun (s : T26) => (s.Kind, s.Set, s.L, s.Min, s.Max)) (fun (a : Int × (List Int) × (List T26) × Int × Int) => (⟨a.1, a.2.1, a.2.2.1, a.2.2.2.1, a.2.2.2.2⟩ : T26)) (fun _ => rfl) Tryz.underlying27 (by kernel_rfl) (FldsN.cons (K := (kInt .i64)) rfl (by kernel_rfl) (Opens.at_ (opens_int (by kernel_rfl))) (FldsN.cons (K := (kArr 4 (kInt .u64))) rfl (by kernel_rfl) (OpensN.mono (OpensN.array (K := (kInt .u64)) (e := 22) (by kernel_rfl) (by kernel_rfl) (by kernel_rfl) (Opens.at_ (opens_int (by kernel_rfl)))) (Nat.le_succ n)) (FldsN.cons (K := (kSl kT26)) rfl (by kernel_rfl) (OpensN.mono (OpensN.sliceM (K := kT26) (e := 27) (by kernel_rfl) (by kernel_rfl) ih) (Nat.le_succ n)) (FldsN.cons (K := (kInt .i64)) rfl (by kernel_rfl) (Opens.at_ (opens_int (by kernel_rfl))) (FldsN.one (K := (kInt .i64)) rfl (by kernel_rfl) (Opens.at_ (opens_int (by kernel_rfl)))))))))) (fun y h => by
  intro m
  cases m with
  | zero => trivial
  | succ m => exact ⟨h.1, ⟨h.2.1, ⟨⟨h.2.2.1.1, fun z hz => h.2.2.1.2 z hz m⟩, ⟨h.2.2.2.1, h.2.2.2.2⟩⟩⟩⟩)) (fun _ => Nat.succ_le_succ (Nat.zero_le _))

def PureGramSound : Prop := ∀ (x0 : T26) (x1 : ByteArray), okT26 x0 → (fun s => s.size ≤ maxLen) x1 → 1 + x1.size + 1 ≤ 1048576 → M.a5h x0 x1 = some true

set_option maxRecDepth 100000 in
theorem gramSound_contract (hpure : PureGramSound) (H : Type) (enc : TypeId × Value → H) (W : World) (base : Nat) (args : Array Value) (ds gs : List (DataW H)) (before : List MemPlace)
  (hval : ∀ (j : Nat) t v, Tryz.f7.params[j]? = some t → args[j]? = some v → Value.okWide Tryz.prog W .any base t v)
  (hW : DataW.Whole enc Tryz.prog Tryz.f7.params.toList Rows.gramSoundSpec.vars false W args.toList ds gs before) (hk : Rows.uptoSmall H (ds ++ gs) = true) :
  Calls Tryz.prog 7 args W fun e W' => ∃ v, e = .returned v ∧ Rows.gramSoundSpec.post enc Tryz.prog Tryz.f7 false true false false W args v W' := by
 have hW' := hW
 obtain ⟨p, q, hA0, hV, rfl, hfz, hnd⟩ := hW
 have hA : DataW.TrodAll enc Tryz.prog W 0 (fun _ => true) true Tryz.f7.params.toList args.toList ds p := hA0
 rw [Tryz.params7] at hA hval
 obtain ⟨v0, vs0, d0, ds0, p0, q0, hargs, rfl, rfl, h0, r0⟩ := trodAll_cons hA
 obtain ⟨v1, vs1, d1, ds1, p1, q1, rfl, rfl, rfl, h1, r1⟩ := trodAll_cons r0
 obtain ⟨rfl, rfl, rfl⟩ := trodAll_nil r1
 obtain rfl : args = #[v0, v1] := by cases args; simp_all
 obtain ⟨rfl, rfl⟩ := trodVars_none hV
 obtain ⟨cs0, x0, e0, k0, o0, b0⟩ := Opens.argS (opens_of_n opT26) Tryz.underlying27 (hval 0 27 v0 rfl rfl) h0
 have q5001 := k0
 obtain ⟨_, _, rfl, rfl, ⟨_, _, rfl, ⟨l5002, f5003⟩, ⟨_, _, rfl, ⟨A5004, c5005, rfl, f5006⟩, ⟨_, _, rfl, rfl, rfl⟩⟩⟩⟩ := kT26_open q5001
 obtain rfl := els_lit4' f5003 l5002
 subst e0
 obtain ⟨x1, k1, o1, b1⟩ := Opens.arg (opens_str (by kernel_rfl)) (by kernel_rfl) (hval 1 9 v1 rfl rfl) h1
 obtain rfl : v1 = .string x1 := by injection k1
 have hk2 := of_decide_eq_true hk
 simp only [List.append_nil, Rows.uptoBulkAll] at hk2
 have hm := hpure x0 x1 o0 o1 (by omega)
 refine contract_of hW' rfl rfl rfl rfl (by kernel_rfl) (tb := 4) (by kernel_rfl) (by kernel_rfl) (by kernel_rfl) ?_
 refine Calls.mono (Gx.W.z5k x0 x1 true hm A5004 x0.L.length c5005 (Hp.init W) l5002 f5006 rfl) ?_
 rintro e W' ⟨v, rfl, hpost⟩
 obtain ⟨S', rfl, hx, hp⟩ := hpost
 exact ⟨_, rfl, rfl, hp.below⟩

set_option maxRecDepth 100000 in
theorem gramSound_lifted (hpure : PureGramSound) (os : Os) (started : os.Started) (H : Type) (enc : TypeId × Value → H) (F : Stop.Interp) :
  ReturnsInHanded {} Tryz.checked os 7 .any ((Rows.OpenSpec.upto Rows.gramSoundSpec).pre6 enc Tryz.prog Tryz.f7 Rows.gramSoundUptoRow.domain false) (((Rows.OpenSpec.upto Rows.gramSoundSpec).at F).post enc Tryz.prog Tryz.f7 false true false false) := by
 refine returnsInHanded_of_cond (C := Tryz.checked) (s := Rows.OpenSpec.upto Rows.gramSoundSpec) (k := Rows.uptoSmall) rfl (by kernel_rfl) started (by kernel_rfl) Tryz.func7
  (OpenSpec.witness (enc := enc) (C := Tryz.checked) (s := Rows.OpenSpec.upto Rows.gramSoundSpec) (k := Rows.uptoSmall) rfl false ⟨#[], #[.agg #[.int .i64 0, .int .u64 0, .int .u64 0, .int .u64 0, .int .u64 0, .slice none 0 0, .int .i64 0, .int .i64 0], .string .empty], []⟩ 8 (by kernel_rfl) (by kernel_rfl) (by kernel_rfl)
   (x := ([.agg [.lit (.int .i64 0), .agg [.lit (.int .u64 0), .lit (.int .u64 0), .lit (.int .u64 0), .lit (.int .u64 0)], .nil, .lit (.int .i64 0), .lit (.int .i64 0)], .lit (.string [])], [], [])) (by kernel_rfl) rfl (by kernel_rfl)) ?_
 intro W base args ds gs before hval hW _ hk _
 exact gramSound_contract hpure H enc W base args ds gs before hval hW hk

theorem gramSound_joined : joinedFacts Tryz.pinned.checked.prog 7 Tryz.f7 (Rows.OpenSpec.upto Rows.gramSoundSpec).bare Rows.gramSoundUptoRow = true := by
 unfold joinedFacts; simp only [Bool.and_eq_true]; (repeat' apply And.intro); all_goals kernel_rfl

theorem gramSound_said (hpure : PureGramSound) : Rows.GramSoundUptoSaid :=
 OpenClaim.holds_of_cond 7 Tryz.f7 rfl rfl rfl rfl rfl rfl rfl ⟨rfl, rfl, rfl, rfl, rfl⟩ rfl rfl rfl rfl rfl (by kernel_rfl) Tryz.func7 gramSound_joined
  (of_decide_eq_true (by kernel_rfl)) (by unfold Func.isWrapper; first | (rw [if_pos (by decide +kernel)]; kernel_rfl) | (rw [if_neg (by decide +kernel)]; exact ⟨rfl, rfl⟩))
  (fun os started H enc _ F => gramSound_lifted hpure os started H enc F)

end Go.Proofs.YtdccklkdakfnaaaGreat
