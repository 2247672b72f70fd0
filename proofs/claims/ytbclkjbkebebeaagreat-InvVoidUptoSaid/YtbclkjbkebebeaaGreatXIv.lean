/-
 From what a law's function computes to the statement about its calls: whatever the arguments within the bound, it returns true, and they read as before.
-/

import Derived.Test.YtbclkjbkebebeaaGreatWIv

import Derived.Test.YtbclkjbkebebeaaGreatGS

set_option linter.unusedVariables false

namespace Go.Proofs.YtbclkjbkebebeaaGreat

open Go.ChangeShapes Go.WideShapes Go.ChangeAt Go.RowKit Go.Gx

def okT55 (y : T55) : Prop := ((fun y => (fun s => s.size ≤ maxLen) y.1 ∧ (fun s => s.size ≤ maxLen) y.2) : ByteArray × ByteArray → Prop) (y.Name, y.Value)

theorem opT55 : ∀ n, OpensN n Tryz.prog 56 kT55 okT55 (fun _ => 1) := by
 intro n
 induction n with
 | zero => exact OpensN.zero
 | succ n ih => exact OpensN.weakb (OpensN.weak (ok' := okT55) ((OpensN.struct (fun (s : T55) => (s.Name, s.Value)) (fun (a : ByteArray × ByteArray) => (⟨a.1, a.2⟩ : T55)) (fun _ => rfl) Tryz.underlying56 (by kernel_rfl) (FldsN.cons (K := kStr) rfl (by kernel_rfl) (Opens.at_ (opens_str (by kernel_rfl))) (FldsN.one (K := kStr) rfl (by kernel_rfl) (Opens.at_ (opens_str (by kernel_rfl))))))) (fun y h => h)) (fun _ => Nat.succ_le_succ (Nat.zero_le _))

def PureInvVoid : Prop := ∀ (x0 : Int) (x1 : List T55) (x2 : ByteArray), (okInt .u64) x0 → (okSl okT55) x1 → (fun s => s.size ≤ maxLen) x2 → 1 + (bkSl (fun _ => 1)) x1 + x2.size + 1 ≤ 1048576 → ∃ ps, M.a5b x0 x1 x2 Z0 = some (true, ps)

set_option maxRecDepth 100000 in
theorem invVoid_contract (hpure : PureInvVoid) (H : Type) (enc : TypeId × Value → H) (W : World) (base : Nat) (args : Array Value) (ds gs : List (DataW H)) (before : List MemPlace)
  (hval : ∀ (j : Nat) t v, Tryz.f7.params[j]? = some t → args[j]? = some v → Value.okWide Tryz.prog W .any base t v)
  (hW : DataW.Whole enc Tryz.prog Tryz.f7.params.toList Rows.invVoidSpec.vars false W args.toList ds gs before) (hk : Rows.uptoSmall H (ds ++ gs) = true) :
  Calls Tryz.prog 7 args W fun e W' => ∃ v, e = .returned v ∧ Rows.invVoidSpec.post enc Tryz.prog Tryz.f7 false true false false W args v W' := by
 have hW' := hW
 obtain ⟨p, q, hA0, hV, rfl, hfz, hnd⟩ := hW
 have hA : DataW.TrodAll enc Tryz.prog W 0 (fun _ => true) true Tryz.f7.params.toList args.toList ds p := hA0
 rw [Tryz.params7] at hA hval
 obtain ⟨v0, vs0, d0, ds0, p0, q0, hargs, rfl, rfl, h0, r0⟩ := trodAll_cons hA
 obtain ⟨v1, vs1, d1, ds1, p1, q1, rfl, rfl, rfl, h1, r1⟩ := trodAll_cons r0
 obtain ⟨v2, vs2, d2, ds2, p2, q2, rfl, rfl, rfl, h2, r2⟩ := trodAll_cons r1
 obtain ⟨rfl, rfl, rfl⟩ := trodAll_nil r2
 obtain rfl : args = #[v0, v1, v2] := by cases args; simp_all
 obtain ⟨rfl, rfl⟩ := trodVars_none hV
 obtain ⟨x0, k0, o0, b0⟩ := Opens.arg (opens_int (by kernel_rfl)) (by kernel_rfl) (hval 0 35 v0 rfl rfl) h0
 obtain rfl : v0 = .int .u64 x0 := by injection k0
 obtain ⟨x1, k1, o1, b1⟩ := Opens.arg (opens_slice (K := kT55) (e := 56) (by kernel_rfl) (by kernel_rfl) (opens_of_n opT55)) (by kernel_rfl) (hval 1 38 v1 rfl rfl) h1
 obtain ⟨Ax1, cx1, e1, fx1⟩ := k1
 obtain rfl : v1 = .slice Ax1 x1.length cx1 := by injection e1
 obtain ⟨x2, k2, o2, b2⟩ := Opens.arg (opens_str (by kernel_rfl)) (by kernel_rfl) (hval 2 9 v2 rfl rfl) h2
 obtain rfl : v2 = .string x2 := by injection k2
 have hk2 := of_decide_eq_true hk
 simp only [List.append_nil, Rows.uptoBulkAll] at hk2
 obtain ⟨ps, hm⟩ := hpure x0 x1 x2 o0 o1 o2 (by omega)
 refine contract_of hW' rfl rfl rfl rfl (by kernel_rfl) (tb := 4) (by kernel_rfl) (by kernel_rfl) (by kernel_rfl) ?_
 refine Calls.mono (Gx.W.z8z x0 x1 x2 Z0 (true, ps) hm Ax1 x1.length cx1 ZE0 (Hp.pool0 (Hp.pool0 (Hp.pool0 (Hp.pool0 (Hp.pool0 (Hp.pool0 (Hp.pool0 (Hp.pool0 (Hp.pool0 (Hp.pool0 (Hp.init W) 236 rfl (by simp [pid, Blk.pno])) 233 rfl (by simp [pid, Blk.pno])) 126 rfl (by simp [pid, Blk.pno])) 124 rfl (by simp [pid, Blk.pno])) 122 rfl (by simp [pid, Blk.pno])) 121 rfl (by simp [pid, Blk.pno])) 80 rfl (by simp [pid, Blk.pno])) 79 rfl (by simp [pid, Blk.pno])) 78 rfl (by simp [pid, Blk.pno])) 77 rfl (by simp [pid, Blk.pno])) fx1 rfl PS.z0) ?_
 rintro e W' ⟨v, rfl, hpost⟩
 obtain ⟨S', _, rfl, hx, hp, _⟩ := hpost
 exact ⟨_, rfl, rfl, hp.below⟩

set_option maxRecDepth 100000 in
theorem invVoid_lifted (hpure : PureInvVoid) (os : Os) (started : os.Started) (H : Type) (enc : TypeId × Value → H) (F : Stop.Interp) :
  ReturnsInHanded {} Tryz.checked os 7 .any ((Rows.OpenSpec.upto Rows.invVoidSpec).pre6 enc Tryz.prog Tryz.f7 Rows.invVoidUptoRow.domain false) (((Rows.OpenSpec.upto Rows.invVoidSpec).at F).post enc Tryz.prog Tryz.f7 false true false false) := by
 refine returnsInHanded_of_cond (C := Tryz.checked) (s := Rows.OpenSpec.upto Rows.invVoidSpec) (k := Rows.uptoSmall) rfl (by kernel_rfl) started (by kernel_rfl) Tryz.func7
  (OpenSpec.witness (enc := enc) (C := Tryz.checked) (s := Rows.OpenSpec.upto Rows.invVoidSpec) (k := Rows.uptoSmall) rfl false ⟨#[], #[.int .u64 0, .slice none 0 0, .string .empty], []⟩ 8 (by kernel_rfl) (by kernel_rfl) (by kernel_rfl)
   (x := ([.lit (.int .u64 0), .nil, .lit (.string [])], [], [])) (by kernel_rfl) rfl (by kernel_rfl)) ?_
 intro W base args ds gs before hval hW _ hk _
 exact invVoid_contract hpure H enc W base args ds gs before hval hW hk

theorem invVoid_joined : joinedFacts Tryz.pinned.checked.prog 7 Tryz.f7 (Rows.OpenSpec.upto Rows.invVoidSpec).bare Rows.invVoidUptoRow = true := by
 unfold joinedFacts; simp only [Bool.and_eq_true]; (repeat' apply And.intro); all_goals kernel_rfl

theorem invVoid_said (hpure : PureInvVoid) : Rows.InvVoidUptoSaid :=
 OpenClaim.holds_of_cond 7 Tryz.f7 rfl rfl rfl rfl rfl rfl rfl ⟨rfl, rfl, rfl, rfl, rfl⟩ rfl rfl rfl rfl rfl (by kernel_rfl) Tryz.func7 invVoid_joined
  (of_decide_eq_true (by kernel_rfl)) (by unfold Func.isWrapper; first | (rw [if_pos (by decide +kernel)]; kernel_rfl) | (rw [if_neg (by decide +kernel)]; exact ⟨rfl, rfl⟩))
  (fun os started H enc _ F => invVoid_lifted hpure os started H enc F)

end Go.Proofs.YtbclkjbkebebeaaGreat
