/-
 From what a law's function computes to the statement about its calls: whatever the arguments within the bound, it returns true, and they read as before.
-/

import Derived.Test.YtdccklkdakfnaaaGreatWGt

import Derived.Test.YtdccklkdakfnaaaGreatGS

set_option linter.unusedVariables false

namespace Go.Proofs.YtdccklkdakfnaaaGreat

open Go.ChangeShapes Go.WideShapes Go.ChangeAt Go.RowKit Go.Gx

def okT26N : Nat → T26 → Prop
 | 0 => fun _ => True
 | n + 1 => fun y => ((fun y => (okInt .i64) y.1 ∧ (fun y => (okArr 4 (okInt .u64)) y.1 ∧ (fun y => (okSlM (okT26N n)) y.1 ∧ (fun y => (okInt .i64) y.1 ∧ (okInt .i64) y.2) y.2) y.2) y.2) : Int × (List Int) × (List T26) × Int × Int → Prop) (y.Kind, y.Set, y.L, y.Min, y.Max)

def okT26 (y : T26) : Prop := ∀ n, okT26N n y

theorem opT26 : ∀ n, OpensN n Tryz.prog 27 kT26 okT26 (fun _ => 1) := by
 intro n
 induction n with
 | zero => exact OpensN.zero
 | succ n ih => exact OpensN.weakb (OpensN.weak (ok' := okT26) (OpensN.conv (fun h => kT26_close h) (OpensN.struct (fun (s : T26) => (s.Kind, s.Set, s.L, s.Min, s.Max)) (fun (a : Int × (List Int) × (List T26) × Int × Int) => (⟨a.1, a.2.1, a.2.2.1, a.2.2.2.1, a.2.2.2.2⟩ : T26)) (fun _ => rfl) Tryz.underlying27 (by kernel_rfl) (FldsN.cons (K := (kInt .i64)) rfl (by kernel_rfl) (Opens.at_ (opens_int (by kernel_rfl))) (FldsN.cons (K := (kArr 4 (kInt .u64))) rfl (by kernel_rfl) (OpensN.mono (OpensN.array (K := (kInt .u64)) (e := 22) (by kernel_rfl) (by kernel_rfl) (by kernel_rfl) (Opens.at_ (opens_int (by kernel_rfl)))) (Nat.le_succ n)) (FldsN.cons (K := (kSl kT26)) rfl (by kernel_rfl) (OpensN.mono (OpensN.sliceM (K := kT26) (e := 27) (by kernel_rfl) (by kernel_rfl) ih) (Nat.le_succ n)) (FldsN.cons (K := (kInt .i64)) rfl (by kernel_rfl) (Opens.at_ (opens_int (by kernel_rfl))) (FldsN.one (K := (kInt .i64)) rfl (by kernel_rfl) (Opens.at_ (opens_int (by kernel_rfl)))))))))) (fun y h => by
  intro m
  cases m with
  | zero => trivial
  | succ m => exact ⟨h.1, ⟨h.2.1, ⟨⟨h.2.2.1.1, fun z hz => h.2.2.1.2 z hz m⟩, ⟨h.2.2.2.1, h.2.2.2.2⟩⟩⟩⟩)) (fun _ => Nat.succ_le_succ (Nat.zero_le _))

def okT29N : Nat → T29 → Prop
 | 0 => fun _ => True
 | n + 1 => fun y => ((fun y => (okInt .i64) y.1 ∧ (fun y => (fun s => s.size ≤ maxLen) y.1 ∧ (okSlM (okT29N n)) y.2) y.2) : Int × ByteArray × (List T29) → Prop) (y.Op, y.Text, y.L)

def okT29 (y : T29) : Prop := ∀ n, okT29N n y

theorem opT29 : ∀ n, OpensN n Tryz.prog 30 kT29 okT29 (fun _ => 1) := by
 intro n
 induction n with
 | zero => exact OpensN.zero
 | succ n ih => exact OpensN.weakb (OpensN.weak (ok' := okT29) (OpensN.conv (fun h => kT29_close h) (OpensN.struct (fun (s : T29) => (s.Op, s.Text, s.L)) (fun (a : Int × ByteArray × (List T29)) => (⟨a.1, a.2.1, a.2.2⟩ : T29)) (fun _ => rfl) Tryz.underlying30 (by kernel_rfl) (FldsN.cons (K := (kInt .i64)) rfl (by kernel_rfl) (Opens.at_ (opens_int (by kernel_rfl))) (FldsN.cons (K := kStr) rfl (by kernel_rfl) (Opens.at_ (opens_str (by kernel_rfl))) (FldsN.one (K := (kSl kT29)) rfl (by kernel_rfl) (OpensN.mono (OpensN.sliceM (K := kT29) (e := 30) (by kernel_rfl) (by kernel_rfl) ih) (Nat.le_succ n))))))) (fun y h => by
  intro m
  cases m with
  | zero => trivial
  | succ m => exact ⟨h.1, ⟨h.2.1, ⟨h.2.2.1, fun z hz => h.2.2.2 z hz m⟩⟩⟩)) (fun _ => Nat.succ_le_succ (Nat.zero_le _))

def PureGramTells : Prop := ∀ (x0 : ByteArray) (x1 : T26) (x2 : T29), (fun s => s.size ≤ maxLen) x0 → okT26 x1 → okT29 x2 → x0.size + 1 + 1 + 1 ≤ 1048576 → M.a5v x0 x1 x2 = some true

set_option maxRecDepth 100000 in
theorem gramTells_contract (hpure : PureGramTells) (H : Type) (enc : TypeId × Value → H) (W : World) (base : Nat) (args : Array Value) (ds gs : List (DataW H)) (before : List MemPlace)
  (hval : ∀ (j : Nat) t v, Tryz.f3.params[j]? = some t → args[j]? = some v → Value.okWide Tryz.prog W .any base t v)
  (hW : DataW.Whole enc Tryz.prog Tryz.f3.params.toList Rows.gramTellsSpec.vars false W args.toList ds gs before) (hk : Rows.uptoSmall H (ds ++ gs) = true) :
  Calls Tryz.prog 3 args W fun e W' => ∃ v, e = .returned v ∧ Rows.gramTellsSpec.post enc Tryz.prog Tryz.f3 false true false false W args v W' := by
 have hW' := hW
 obtain ⟨p, q, hA0, hV, rfl, hfz, hnd⟩ := hW
 have hA : DataW.TrodAll enc Tryz.prog W 0 (fun _ => true) true Tryz.f3.params.toList args.toList ds p := hA0
 rw [Tryz.params3] at hA hval
 obtain ⟨v0, vs0, d0, ds0, p0, q0, hargs, rfl, rfl, h0, r0⟩ := trodAll_cons hA
 obtain ⟨v1, vs1, d1, ds1, p1, q1, rfl, rfl, rfl, h1, r1⟩ := trodAll_cons r0
 obtain ⟨v2, vs2, d2, ds2, p2, q2, rfl, rfl, rfl, h2, r2⟩ := trodAll_cons r1
 obtain ⟨rfl, rfl, rfl⟩ := trodAll_nil r2
 obtain rfl : args = #[v0, v1, v2] := by cases args; simp_all
 obtain ⟨rfl, rfl⟩ := trodVars_none hV
 obtain ⟨x0, k0, o0, b0⟩ := Opens.arg (opens_str (by kernel_rfl)) (by kernel_rfl) (hval 0 9 v0 rfl rfl) h0
 obtain rfl : v0 = .string x0 := by injection k0
 obtain ⟨cs1, x1, e1, k1, o1, b1⟩ := Opens.argS (opens_of_n opT26) Tryz.underlying27 (hval 1 27 v1 rfl rfl) h1
 have q5101 := k1
 obtain ⟨_, _, rfl, rfl, ⟨_, _, rfl, ⟨l5102, f5103⟩, ⟨_, _, rfl, ⟨A5104, c5105, rfl, f5106⟩, ⟨_, _, rfl, rfl, rfl⟩⟩⟩⟩ := kT26_open q5101
 obtain rfl := els_lit4' f5103 l5102
 subst e1
 obtain ⟨cs2, x2, e2, k2, o2, b2⟩ := Opens.argS (opens_of_n opT29) Tryz.underlying30 (hval 2 30 v2 rfl rfl) h2
 have q5201 := k2
 obtain ⟨_, _, rfl, rfl, ⟨_, _, rfl, rfl, ⟨A5202, c5203, rfl, f5204⟩⟩⟩ := kT29_open q5201
 subst e2
 have hk2 := of_decide_eq_true hk
 simp only [List.append_nil, Rows.uptoBulkAll] at hk2
 have hm := hpure x0 x1 x2 o0 o1 o2 (by omega)
 refine contract_of hW' rfl rfl rfl rfl (by kernel_rfl) (tb := 4) (by kernel_rfl) (by kernel_rfl) (by kernel_rfl) ?_
 refine Calls.mono (Gx.W.z7a x0 x1 x2 true hm A5104 x1.L.length c5105 A5202 x2.L.length c5203 (Hp.init W) l5102 f5106 rfl f5204 rfl) ?_
 rintro e W' ⟨v, rfl, hpost⟩
 obtain ⟨S', rfl, hx, hp⟩ := hpost
 exact ⟨_, rfl, rfl, hp.below⟩

set_option maxRecDepth 100000 in
theorem gramTells_lifted (hpure : PureGramTells) (os : Os) (started : os.Started) (H : Type) (enc : TypeId × Value → H) (F : Stop.Interp) :
  ReturnsInHanded {} Tryz.checked os 3 .any ((Rows.OpenSpec.upto Rows.gramTellsSpec).pre6 enc Tryz.prog Tryz.f3 Rows.gramTellsUptoRow.domain false) (((Rows.OpenSpec.upto Rows.gramTellsSpec).at F).post enc Tryz.prog Tryz.f3 false true false false) := by
 refine returnsInHanded_of_cond (C := Tryz.checked) (s := Rows.OpenSpec.upto Rows.gramTellsSpec) (k := Rows.uptoSmall) rfl (by kernel_rfl) started (by kernel_rfl) Tryz.func3
  (OpenSpec.witness (enc := enc) (C := Tryz.checked) (s := Rows.OpenSpec.upto Rows.gramTellsSpec) (k := Rows.uptoSmall) rfl false ⟨#[], #[.string .empty, .agg #[.int .i64 0, .int .u64 0, .int .u64 0, .int .u64 0, .int .u64 0, .slice none 0 0, .int .i64 0, .int .i64 0], .agg #[.int .i64 0, .string ⟨#[]⟩, .slice none 0 0]], []⟩ 8 (by kernel_rfl) (by kernel_rfl) (by kernel_rfl)
   (x := ([.lit (.string []), .agg [.lit (.int .i64 0), .agg [.lit (.int .u64 0), .lit (.int .u64 0), .lit (.int .u64 0), .lit (.int .u64 0)], .nil, .lit (.int .i64 0), .lit (.int .i64 0)], .agg [.lit (.int .i64 0), .lit (.string []), .nil]], [], [])) (by kernel_rfl) rfl (by kernel_rfl)) ?_
 intro W base args ds gs before hval hW _ hk _
 exact gramTells_contract hpure H enc W base args ds gs before hval hW hk

theorem gramTells_joined : joinedFacts Tryz.pinned.checked.prog 3 Tryz.f3 (Rows.OpenSpec.upto Rows.gramTellsSpec).bare Rows.gramTellsUptoRow = true := by
 unfold joinedFacts; simp only [Bool.and_eq_true]; (repeat' apply And.intro); all_goals kernel_rfl

theorem gramTells_said (hpure : PureGramTells) : Rows.GramTellsUptoSaid :=
 OpenClaim.holds_of_cond 3 Tryz.f3 rfl rfl rfl rfl rfl rfl rfl ⟨rfl, rfl, rfl, rfl, rfl⟩ rfl rfl rfl rfl rfl (by kernel_rfl) Tryz.func3 gramTells_joined
  (of_decide_eq_true (by kernel_rfl)) (by unfold Func.isWrapper; first | (rw [if_pos (by decide +kernel)]; kernel_rfl) | (rw [if_neg (by decide +kernel)]; exact ⟨rfl, rfl⟩))
  (fun os started H enc _ F => gramTells_lifted hpure os started H enc F)

end Go.Proofs.YtdccklkdakfnaaaGreat
