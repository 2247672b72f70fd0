/-
 From what a law's function computes to the statement about its calls: whatever the arguments within the bound, it returns true, and they read as before.
-/

import Derived.Test.YtdccklkdakfnaaaGreatWGf

import Derived.Test.YtdccklkdakfnaaaGreatGS

set_option linter.unusedVariables false

namespace Go.Proofs.YtdccklkdakfnaaaGreat

open Go.ChangeShapes Go.WideShapes Go.ChangeAt Go.RowKit Go.Gx

def okT29N : Nat → T29 → Prop
 | 0 => fun _ => True
 | n + 1 => fun y => ((fun y => (okInt .i64) y.1 ∧ (fun y => (fun s => s.size ≤ maxLen) y.1 ∧ (okSlM (okT29N n)) y.2) y.2) : Int × ByteArray × (List T29) → Prop) (y.Op, y.Text, y.L)

def okT29 (y : T29) : Prop := ∀ n, okT29N n y

theorem opT29 : ∀ n, OpensN n Tryz.prog 30 kT29 okT29 (fun _ => 1) := by
 intro n
 induction n with
 | zero => exact OpensN.zero
 | succ n ih => exact OpensN.weakb (OpensN.weak (ok' := okT29) (OpensN.conv (fun h => kT29_close h) (OpensN.struct (fun (s : T29) => (s.Op, s.Text, s.L)) (fun (a : Int × ByteArray × (List T29)) => (⟨a.1, a.2.1, a.2.2⟩ : T29)) (fun _ => rfl) Tryz.underlying30 (by kernel_rfl) (FldsN.cons (K := (kInt .i64)) rfl (by kernel_rfl) (Opens.at_ (opens_int (by kernel_rfl))) (FldsN.cons (K := kStr) rfl (by kernel_rfl) (Opens.at_ (opens_str (by kernel_rfl))) (FldsN.one (K := (kSl kT29)) rfl (by kernel_rfl) (OpensN.mono (OpensN.sliceM (K := kT29) (e := 30) (by kernel_rfl) (by kernel_rfl) ih) (Nat.le_succ n))))))) (fun y h => by
  intro m
  cases m with
  | zero => trivial
  | succ m => exact ⟨h.1, ⟨h.2.1, ⟨h.2.2.1, fun z hz => h.2.2.2 z hz m⟩⟩⟩)) (fun _ => Nat.succ_le_succ (Nat.zero_le _))

def okT69 (y : T69) : Prop := ((fun y => (fun s => s.size ≤ maxLen) y.1 ∧ (okInt .u64) y.2) : ByteArray × Int → Prop) (y.Key, y.N)

theorem opT69 : ∀ n, OpensN n Tryz.prog 70 kT69 okT69 (fun _ => 1) := by
 intro n
 induction n with
 | zero => exact OpensN.zero
 | succ n ih => exact OpensN.weakb (OpensN.weak (ok' := okT69) ((OpensN.struct (fun (s : T69) => (s.Key, s.N)) (fun (a : ByteArray × Int) => (⟨a.1, a.2⟩ : T69)) (fun _ => rfl) Tryz.underlying70 (by kernel_rfl) (FldsN.cons (K := kStr) rfl (by kernel_rfl) (Opens.at_ (opens_str (by kernel_rfl))) (FldsN.one (K := (kInt .u64)) rfl (by kernel_rfl) (Opens.at_ (opens_int (by kernel_rfl))))))) (fun y h => h)) (fun _ => Nat.succ_le_succ (Nat.zero_le _))

def PureGramFits : Prop := ∀ (x0 : T29) (x1 : ByteArray) (x2 : List T69) (x3 : List Int), okT29 x0 → (fun s => s.size ≤ maxLen) x1 → (okSl okT69) x2 → (okSl (okInt .u64)) x3 → 1 + x1.size + 1 + (bkSl (fun _ => 1)) x2 + (bkSl (fun _ => 1)) x3 ≤ 1048576 → ∃ ps, M.a6k x0 x1 x2 x3 [] = some (true, ps)

set_option maxRecDepth 100000 in
theorem gramFits_contract (hpure : PureGramFits) (H : Type) (enc : TypeId × Value → H) (W : World) (base : Nat) (args : Array Value) (ds gs : List (DataW H)) (before : List MemPlace)
  (hval : ∀ (j : Nat) t v, Tryz.f5.params[j]? = some t → args[j]? = some v → Value.okWide Tryz.prog W .any base t v)
  (hW : DataW.Whole enc Tryz.prog Tryz.f5.params.toList Rows.gramFitsSpec.vars false W args.toList ds gs before) (hk : Rows.uptoSmall H (ds ++ gs) = true) :
  Calls Tryz.prog 5 args W fun e W' => ∃ v, e = .returned v ∧ Rows.gramFitsSpec.post enc Tryz.prog Tryz.f5 false true false false W args v W' := by
 have hW' := hW
 obtain ⟨p, q, hA0, hV, rfl, hfz, hnd⟩ := hW
 have hA : DataW.TrodAll enc Tryz.prog W 0 (fun _ => true) true Tryz.f5.params.toList args.toList ds p := hA0
 rw [Tryz.params5] at hA hval
 obtain ⟨v0, vs0, d0, ds0, p0, q0, hargs, rfl, rfl, h0, r0⟩ := trodAll_cons hA
 obtain ⟨v1, vs1, d1, ds1, p1, q1, rfl, rfl, rfl, h1, r1⟩ := trodAll_cons r0
 obtain ⟨v2, vs2, d2, ds2, p2, q2, rfl, rfl, rfl, h2, r2⟩ := trodAll_cons r1
 obtain ⟨v3, vs3, d3, ds3, p3, q3, rfl, rfl, rfl, h3, r3⟩ := trodAll_cons r2
 obtain ⟨rfl, rfl, rfl⟩ := trodAll_nil r3
 obtain rfl : args = #[v0, v1, v2, v3] := by cases args; simp_all
 obtain ⟨rfl, rfl⟩ := trodVars_none hV
 obtain ⟨cs0, x0, e0, k0, o0, b0⟩ := Opens.argS (opens_of_n opT29) Tryz.underlying30 (hval 0 30 v0 rfl rfl) h0
 have q5001 := k0
 obtain ⟨_, _, rfl, rfl, ⟨_, _, rfl, rfl, ⟨A5002, c5003, rfl, f5004⟩⟩⟩ := kT29_open q5001
 subst e0
 obtain ⟨x1, k1, o1, b1⟩ := Opens.arg (opens_str (by kernel_rfl)) (by kernel_rfl) (hval 1 9 v1 rfl rfl) h1
 obtain rfl : v1 = .string x1 := by injection k1
 obtain ⟨x2, k2, o2, b2⟩ := Opens.arg (opens_slice (K := kT69) (e := 70) (by kernel_rfl) (by kernel_rfl) (opens_of_n opT69)) (by kernel_rfl) (hval 2 59 v2 rfl rfl) h2
 obtain ⟨Ax2, cx2, e2, fx2⟩ := k2
 obtain rfl : v2 = .slice Ax2 x2.length cx2 := by injection e2
 obtain ⟨x3, k3, o3, b3⟩ := Opens.arg (opens_slice (K := (kInt .u64)) (e := 22) (by kernel_rfl) (by kernel_rfl) (opens_int (by kernel_rfl))) (by kernel_rfl) (hval 3 60 v3 rfl rfl) h3
 obtain ⟨Ax3, cx3, e3, fx3⟩ := k3
 obtain rfl : v3 = .slice Ax3 x3.length cx3 := by injection e3
 have hk2 := of_decide_eq_true hk
 simp only [List.append_nil, Rows.uptoBulkAll] at hk2
 obtain ⟨ps, hm⟩ := hpure x0 x1 x2 x3 o0 o1 o2 o3 (by omega)
 refine contract_of hW' rfl rfl rfl rfl (by kernel_rfl) (tb := 4) (by kernel_rfl) (by kernel_rfl) (by kernel_rfl) ?_
 refine Calls.mono (Gx.W.z8a x0 x1 x2 x3 [] (true, ps) hm A5002 x0.L.length c5003 Ax2 x2.length cx2 Ax3 x3.length cx3 [] (Hp.pool0 (Hp.init W) 154 rfl (by simp [pid, Blk.pno])) f5004 rfl fx2 rfl fx3 rfl (Pl.nil _ _ _)) ?_
 rintro e W' ⟨v, rfl, hpost⟩
 obtain ⟨S', _, rfl, hx, hp, _⟩ := hpost
 exact ⟨_, rfl, rfl, hp.below⟩

set_option maxRecDepth 100000 in
theorem gramFits_lifted (hpure : PureGramFits) (os : Os) (started : os.Started) (H : Type) (enc : TypeId × Value → H) (F : Stop.Interp) :
  ReturnsInHanded {} Tryz.checked os 5 .any ((Rows.OpenSpec.upto Rows.gramFitsSpec).pre6 enc Tryz.prog Tryz.f5 Rows.gramFitsUptoRow.domain false) (((Rows.OpenSpec.upto Rows.gramFitsSpec).at F).post enc Tryz.prog Tryz.f5 false true false false) := by
 refine returnsInHanded_of_cond (C := Tryz.checked) (s := Rows.OpenSpec.upto Rows.gramFitsSpec) (k := Rows.uptoSmall) rfl (by kernel_rfl) started (by kernel_rfl) Tryz.func5
  (OpenSpec.witness (enc := enc) (C := Tryz.checked) (s := Rows.OpenSpec.upto Rows.gramFitsSpec) (k := Rows.uptoSmall) rfl false ⟨#[], #[.agg #[.int .i64 0, .string ⟨#[]⟩, .slice none 0 0], .string .empty, .slice none 0 0, .slice none 0 0], []⟩ 8 (by kernel_rfl) (by kernel_rfl) (by kernel_rfl)
   (x := ([.agg [.lit (.int .i64 0), .lit (.string []), .nil], .lit (.string []), .nil, .nil], [], [])) (by kernel_rfl) rfl (by kernel_rfl)) ?_
 intro W base args ds gs before hval hW _ hk _
 exact gramFits_contract hpure H enc W base args ds gs before hval hW hk

theorem gramFits_joined : joinedFacts Tryz.pinned.checked.prog 5 Tryz.f5 (Rows.OpenSpec.upto Rows.gramFitsSpec).bare Rows.gramFitsUptoRow = true := by
 unfold joinedFacts; simp only [Bool.and_eq_true]; (repeat' apply And.intro); all_goals kernel_rfl

theorem gramFits_said (hpure : PureGramFits) : Rows.GramFitsUptoSaid :=
 OpenClaim.holds_of_cond 5 Tryz.f5 rfl rfl rfl rfl rfl rfl rfl ⟨rfl, rfl, rfl, rfl, rfl⟩ rfl rfl rfl rfl rfl (by kernel_rfl) Tryz.func5 gramFits_joined
  (of_decide_eq_true (by kernel_rfl)) (by unfold Func.isWrapper; first | (rw [if_pos (by decide +kernel)]; kernel_rfl) | (rw [if_neg (by decide +kernel)]; exact ⟨rfl, rfl⟩))
  (fun os started H enc _ F => gramFits_lifted hpure os started H enc F)

end Go.Proofs.YtdccklkdakfnaaaGreat
