/-
 From what a law's function computes to the statement about its calls: whatever the arguments within the bound, it returns true, and they read as before.
-/

import Derived.Test.YtdccklkdakfnaaaGreatWGl

import Derived.Test.YtdccklkdakfnaaaGreatGS

set_option linter.unusedVariables false

namespace Go.Proofs.YtdccklkdakfnaaaGreat

open Go.ChangeShapes Go.WideShapes Go.ChangeAt Go.RowKit Go.Gx

def okT29N : Nat → T29 → Prop
 | 0 => fun _ => True
 | n + 1 => fun y => ((fun y => (okInt .i64) y.1 ∧ (fun y => (fun s => s.size ≤ maxLen) y.1 ∧ (okSlM (okT29N n)) y.2) y.2) : Int × ByteArray × (List T29) → Prop) (y.Op, y.Text, y.L)

def okT29 (y : T29) : Prop := ∀ n, okT29N n y

theorem opT29 : ∀ n, OpensN n Tryz.prog 30 kT29 okT29 (fun _ => 1) := by
 intro n
 induction n with
 | zero => exact OpensN.zero
 | succ n ih => exact OpensN.weakb (OpensN.weak (ok' := okT29) (OpensN.conv (fun h => kT29_close h) (OpensN.struct (fun (s : T29) => (s.Op, s.Text, s.L)) (fun (a : Int × ByteArray × (List T29)) => (⟨a.1, a.2.1, a.2.2⟩ : T29)) (fun _ => rfl) Tryz.underlying30 (by kernel_rfl) (FldsN.cons (K := (kInt .i64)) rfl (by kernel_rfl) (Opens.at_ (opens_int (by kernel_rfl))) (FldsN.cons (K := kStr) rfl (by kernel_rfl) (Opens.at_ (opens_str (by kernel_rfl))) (FldsN.one (K := (kSl kT29)) rfl (by kernel_rfl) (OpensN.mono (OpensN.sliceM (K := kT29) (e := 30) (by kernel_rfl) (by kernel_rfl) ih) (Nat.le_succ n))))))) (fun y h => by
  intro m
  cases m with
  | zero => trivial
  | succ m => exact ⟨h.1, ⟨h.2.1, ⟨h.2.2.1, fun z hz => h.2.2.2 z hz m⟩⟩⟩)) (fun _ => Nat.succ_le_succ (Nat.zero_le _))

def PureGramLists : Prop := ∀ (x0 : T29) (x1 : List ByteArray), okT29 x0 → (okSl (fun s => s.size ≤ maxLen)) x1 → 1 + (bkSl (fun s => s.size + 1)) x1 ≤ 1048576 → ∃ ps, M.a58 x0 x1 [] = some (true, ps)

set_option maxRecDepth 100000 in
theorem gramLists_contract (hpure : PureGramLists) (H : Type) (enc : TypeId × Value → H) (W : World) (base : Nat) (args : Array Value) (ds gs : List (DataW H)) (before : List MemPlace)
  (hval : ∀ (j : Nat) t v, Tryz.f6.params[j]? = some t → args[j]? = some v → Value.okWide Tryz.prog W .any base t v)
  (hW : DataW.Whole enc Tryz.prog Tryz.f6.params.toList Rows.gramListsSpec.vars false W args.toList ds gs before) (hk : Rows.uptoSmall H (ds ++ gs) = true) :
  Calls Tryz.prog 6 args W fun e W' => ∃ v, e = .returned v ∧ Rows.gramListsSpec.post enc Tryz.prog Tryz.f6 false true false false W args v W' := by
 have hW' := hW
 obtain ⟨p, q, hA0, hV, rfl, hfz, hnd⟩ := hW
 have hA : DataW.TrodAll enc Tryz.prog W 0 (fun _ => true) true Tryz.f6.params.toList args.toList ds p := hA0
 rw [Tryz.params6] at hA hval
 obtain ⟨v0, vs0, d0, ds0, p0, q0, hargs, rfl, rfl, h0, r0⟩ := trodAll_cons hA
 obtain ⟨v1, vs1, d1, ds1, p1, q1, rfl, rfl, rfl, h1, r1⟩ := trodAll_cons r0
 obtain ⟨rfl, rfl, rfl⟩ := trodAll_nil r1
 obtain rfl : args = #[v0, v1] := by cases args; simp_all
 obtain ⟨rfl, rfl⟩ := trodVars_none hV
 obtain ⟨cs0, x0, e0, k0, o0, b0⟩ := Opens.argS (opens_of_n opT29) Tryz.underlying30 (hval 0 30 v0 rfl rfl) h0
 have q5001 := k0
 obtain ⟨_, _, rfl, rfl, ⟨_, _, rfl, rfl, ⟨A5002, c5003, rfl, f5004⟩⟩⟩ := kT29_open q5001
 subst e0
 obtain ⟨x1, k1, o1, b1⟩ := Opens.arg (opens_slice (K := kStr) (e := 9) (by kernel_rfl) (by kernel_rfl) (opens_str (by kernel_rfl))) (by kernel_rfl) (hval 1 43 v1 rfl rfl) h1
 obtain ⟨Ax1, cx1, e1, fx1⟩ := k1
 obtain rfl : v1 = .slice Ax1 x1.length cx1 := by injection e1
 have hk2 := of_decide_eq_true hk
 simp only [List.append_nil, Rows.uptoBulkAll] at hk2
 obtain ⟨ps, hm⟩ := hpure x0 x1 o0 o1 (by omega)
 refine contract_of hW' rfl rfl rfl rfl (by kernel_rfl) (tb := 4) (by kernel_rfl) (by kernel_rfl) (by kernel_rfl) ?_
 refine Calls.mono (Gx.W.z6n x0 x1 [] (true, ps) hm A5002 x0.L.length c5003 Ax1 x1.length cx1 [] (Hp.pool0 (Hp.init W) 154 rfl (by simp [pid, Blk.pno])) f5004 rfl fx1 rfl (Pl.nil _ _ _)) ?_
 rintro e W' ⟨v, rfl, hpost⟩
 obtain ⟨S', _, rfl, hx, hp, _⟩ := hpost
 exact ⟨_, rfl, rfl, hp.below⟩

set_option maxRecDepth 100000 in
theorem gramLists_lifted (hpure : PureGramLists) (os : Os) (started : os.Started) (H : Type) (enc : TypeId × Value → H) (F : Stop.Interp) :
  ReturnsInHanded {} Tryz.checked os 6 .any ((Rows.OpenSpec.upto Rows.gramListsSpec).pre6 enc Tryz.prog Tryz.f6 Rows.gramListsUptoRow.domain false) (((Rows.OpenSpec.upto Rows.gramListsSpec).at F).post enc Tryz.prog Tryz.f6 false true false false) := by
 refine returnsInHanded_of_cond (C := Tryz.checked) (s := Rows.OpenSpec.upto Rows.gramListsSpec) (k := Rows.uptoSmall) rfl (by kernel_rfl) started (by kernel_rfl) Tryz.func6
  (OpenSpec.witness (enc := enc) (C := Tryz.checked) (s := Rows.OpenSpec.upto Rows.gramListsSpec) (k := Rows.uptoSmall) rfl false ⟨#[], #[.agg #[.int .i64 0, .string ⟨#[]⟩, .slice none 0 0], .slice none 0 0], []⟩ 8 (by kernel_rfl) (by kernel_rfl) (by kernel_rfl)
   (x := ([.agg [.lit (.int .i64 0), .lit (.string []), .nil], .nil], [], [])) (by kernel_rfl) rfl (by kernel_rfl)) ?_
 intro W base args ds gs before hval hW _ hk _
 exact gramLists_contract hpure H enc W base args ds gs before hval hW hk

theorem gramLists_joined : joinedFacts Tryz.pinned.checked.prog 6 Tryz.f6 (Rows.OpenSpec.upto Rows.gramListsSpec).bare Rows.gramListsUptoRow = true := by
 unfold joinedFacts; simp only [Bool.and_eq_true]; (repeat' apply And.intro); all_goals kernel_rfl

theorem gramLists_said (hpure : PureGramLists) : Rows.GramListsUptoSaid :=
 OpenClaim.holds_of_cond 6 Tryz.f6 rfl rfl rfl rfl rfl rfl rfl ⟨rfl, rfl, rfl, rfl, rfl⟩ rfl rfl rfl rfl rfl (by kernel_rfl) Tryz.func6 gramLists_joined
  (of_decide_eq_true (by kernel_rfl)) (by unfold Func.isWrapper; first | (rw [if_pos (by decide +kernel)]; kernel_rfl) | (rw [if_neg (by decide +kernel)]; exact ⟨rfl, rfl⟩))
  (fun os started H enc _ F => gramLists_lifted hpure os started H enc F)

end Go.Proofs.YtdccklkdakfnaaaGreat
