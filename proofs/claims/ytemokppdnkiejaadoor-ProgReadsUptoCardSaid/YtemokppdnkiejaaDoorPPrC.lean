/-
  Any text that is read as a pattern has a program that may be, whose last instruction is the only end; or it is too great. Pure.
-/
import Derived.Test.YtemokppdnkiejaaDoorPPrB
set_option linter.unusedVariables false
set_option linter.unusedSimpArgs false
namespace Go.Proofs.YtemokppdnkiejaaDoor
open Go.Gx

/-- what Make and Count answer -/
theorem make3 (r : T27) (hf : Fit 128 r) : (¬ (Rt 128 r ∧ nd r ≤ 4096) ∧ M.prog_Make r = some ([], 2) ∧ M.prog_Count r = some (0, 2)) ∨
    (Rt 128 r ∧ nd r ≤ 4096 ∧ 2048 < sz r + 1 ∧ M.prog_Make r = some ([], 110) ∧ M.prog_Count r = some (((min 1048576 (sz r + 1) : Nat) : Int), 0)) ∨
    (Good r ∧ ∃ c, Cd r 0 (sz r) c ∧ c.length = sz r ∧ M.prog_Make r = some (c ++ [fin'], 0) ∧ M.prog_Count r = some (((min 1048576 (sz r + 1) : Nat) : Int), 0)) := by
  obtain ⟨b, h1, h2⟩ := check_tot r hf
  cases b with
  | false =>
    left
    refine ⟨fun h => (by have := h2.2 h; cases this), ?_, ?_⟩
    · rw [M.prog_Make, M.prog_Count, h1, bnd, if_neg (by decide), bnd]; rfl
    · rw [M.prog_Count, h1, bnd, if_neg (by decide)]
  | true =>
    obtain ⟨k1, k2⟩ := h2.1 rfl
    have hc : M.prog_Count r = some (((min 1048576 (sz r + 1) : Nat) : Int), 0) := by
      rw [M.prog_Count, h1, bnd, if_pos rfl, size_ok 128 r k1 k2, bnd, wr_i64 (x := ((min 1048576 (sz r) : Nat) : Int) + 1) (by omega) (by omega)]
      have e1 : imn 1048576 (((min 1048576 (sz r) : Nat) : Int) + 1) = ((min 1048576 (sz r + 1) : Nat) : Int) := by
        simp only [imn]
        split <;> omega
      rw [e1]
    by_cases hs : sz r + 1 ≤ 2048
    · right; right
      obtain ⟨c, g1, g2, g3⟩ := Good.make ⟨k1, k2, hs⟩
      exact ⟨⟨k1, k2, hs⟩, c, g1, g2, g3, hc⟩
    · right; left
      refine ⟨k1, k2, by omega, ?_, hc⟩
      rw [M.prog_Make, hc, bnd, if_pos rfl, if_pos (by show ((min 1048576 (sz r + 1) : Nat) : Int) > 2048; omega)]
mutual
theorem Cd.op {r : T27} {a n : Nat} {c : List T48} : Cd r a n c → ∀ x ∈ c, x.Op ≠ 3
  | .set, x, hx => by rw [List.mem_singleton.1 hx]; simp
  | .all h, x, hx => h.op x hx
  | .void, x, hx => by rw [List.mem_singleton.1 hx]; simp
  | .any h, x, hx => h.op x hx
  | .none, x, hx => by rw [List.mem_singleton.1 hx]; simp
  | .star _ h, x, hx => h.op x hx
  | .times _ h, x, hx => h.op x hx
  | .never, x, hx => by rw [List.mem_singleton.1 hx]; simp
theorem An.op {L : List T27} {a n : Nat} {c : List T48} : An L a n c → ∀ x ∈ c, x.Op ≠ 3
  | .one h, x, hx => h.op x hx
  | .more h hs, x, hx => by
    rcases List.mem_cons.1 hx with rfl | hx
    · simp
    · rcases List.mem_append.1 hx with hx | hx
      · exact h.op x hx
      · exact hs.op x hx
theorem Row.op {ps : List Pa} {al a n : Nat} {c : List T48} : Row ps al a n c → ∀ x ∈ c, x.Op ≠ 3
  | .last h, x, hx => h.op x hx
  | .cons h hs, x, hx => by
    rcases List.mem_append.1 hx with hx | hx
    · exact h.op x hx
    · exact hs.op x hx
theorem Pc.op {p : Pa} {al a n : Nat} {c : List T48} : Pc p al a n c → ∀ x ∈ c, x.Op ≠ 3
  | .of h, x, hx => h.op x hx
  | .lp h, x, hx => by
    rcases List.mem_cons.1 hx with rfl | hx
    · simp
    · exact h.op x hx
  | .ph h, x, hx => by
    rcases List.mem_cons.1 hx with rfl | hx
    · simp
    · exact h.op x hx
end
mutual
theorem V_rt {r : T27} {c d : Nat} : Syn.V r c d → Rt d r ∧ nd r = c
  | .leaf l => ⟨⟨.inl ⟨rfl, rfl, rfl, rfl⟩, SetQ.any _, by simp⟩, by rw [nd_eq]; rfl⟩
  | .many k hk h => ⟨⟨.inr (.inl ⟨hk, rfl, rfl, rfl⟩), SetQ.any _, (VL_rt h).1⟩, by rw [nd_eq]; have := (VL_rt h).2; simp only [this]; omega⟩
  | .times h lo hi h0 h1 h2 => ⟨⟨.inr (.inr ⟨rfl, ⟨_, rfl⟩, rfl, h0, h1, h2⟩), SetQ.any _, fun x hx => by rw [List.mem_singleton.1 hx]; exact (V_rt h).1⟩, by rw [nd_eq]; have := (V_rt h).2; simp only [nds, this]; omega⟩
theorem VL_rt {L : List T27} {c d : Nat} : Syn.VL L c d → (∀ x ∈ L, Rt d x) ∧ nds L = c
  | .nil => ⟨by simp, rfl⟩
  | .cons h ht => ⟨fun x hx => by
      rcases List.mem_cons.1 hx with e | hx
      · rw [e]; exact (V_rt h).1.mono (by omega)
      · exact ((VL_rt ht).1 x hx).mono (by omega), by have a := (V_rt h).2; have b := (VL_rt ht).2; simp only [nds, a, b]⟩
end
/-- a pattern that is read may be -/
theorem read_may (x : ByteArray) (hx : x.size ≤ 256) : ∃ r a e, M.syntax_Parse x = some (r, a, e) ∧ (e = 0 → Rt 128 r ∧ nd r ≤ 4096) := by
  obtain ⟨r, q, e, k1, k2⟩ := Syn.alt_ok (s := x) 300 (Syn.P x 0) (Syn.P_good x 0 (by omega) (by omega) hx) ⟨Int.le_refl _, by simp [Syn.P]⟩ (by simp only [Syn.P]; omega)
  rw [Syn.parse_of x hx r q e]
  cases hq : q.bad with
  | some w => exact ⟨_, _, _, rfl, fun h => absurd h (by decide)⟩
  | none =>
    dsimp only
    by_cases hlt : q.at_ < (x.size : Int)
    · rw [if_pos hlt]
      exact ⟨_, _, _, rfl, fun h => absurd h (by decide)⟩
    · rw [if_neg hlt]
      refine ⟨_, _, _, rfl, fun _ => ?_⟩
      obtain ⟨c, d, v, hc, hd⟩ := k2 hq
      have hle := k1.good.2.2.1
      have hP : (Syn.P x 0).at_ = 0 ∧ (Syn.P x 0).deep = 0 := ⟨rfl, rfl⟩
      have := V_rt v
      exact ⟨this.1.mono (by omega), by omega⟩
theorem reads_law (x0 : ByteArray) : M.tidepolelaw11_ProgReads x0 = some true := by
  obtain ⟨k, hk, k1, k2⟩ : ∃ k : Nat, imn (x0.size : Int) 256 = (k : Int) ∧ k ≤ 256 ∧ k ≤ x0.size := by
    refine ⟨min x0.size 256, ?_, by omega, by omega⟩
    simp only [imn]
    split <;> omega
  rw [M.tidepolelaw11_ProgReads, works_ok, bnd, if_pos rfl, hk, if_pos (by omega), if_pos (by omega)]
  have hz' : (ss x0 0 (k : Int)).size = k := ss_size x0 0 k (Nat.zero_le _) k2
  generalize ss x0 0 (k : Int) = s at hz'
  obtain ⟨r, a, e, h1, h2⟩ := read_may s (by omega)
  rw [h1, bnd]; dsimp only
  by_cases he : e = 0
  · rw [if_pos he]
    obtain ⟨m1, m2⟩ := h2 he
    rcases make3 r (m1.fit 128 m2) with ⟨h, _⟩ | ⟨_, _, hb, g1, g2⟩ | ⟨hg, c, hc, hl, g1, g2⟩
    · exact absurd ⟨m1, m2⟩ h
    · rw [g1, bnd, g2, bnd]; dsimp only
      rw [if_neg (by decide), if_pos rfl, if_pos rfl, decide_eq_true (by omega)]
      rfl
    · have hs := hg.2.2
      rw [g1, bnd, g2, bnd]; dsimp only
      rw [if_pos rfl, show ((min 1048576 (sz r + 1) : Nat) : Int) = ((c ++ [fin']).length : Int) by simp only [List.length_append, List.length_cons, List.length_nil]; omega]
      obtain ⟨p1, p2⟩ := prog_ri hg hc hl
      have hchk : M.prog_Check (c ++ [fin']) = some 0 := pcheck_ok (by simp) p1 p2
      have hop := hc.op
      have hlen : (c ++ [fin']).length = c.length + 1 := by simp
      generalize hP : c ++ [fin'] = l at *
      have loop : ∀ (R pre : List T48), l = pre ++ R → M.tidepolelaw11_ProgReads_l0 (l, (l.length : Int), 0, (pre.length : Int)) = some true := by
        intro R
        induction R with
        | nil =>
          intro pre e
          rw [List.append_nil] at e
          rw [M.tidepolelaw11_ProgReads_l0]; try dsimp only
          rw [if_neg (by rw [e]; omega), if_pos rfl, if_pos rfl, hchk, bnd]
          rfl
        | cons x R ih =>
          intro pre e
          have hg' : gi l (pre.length : Int) = x := by rw [e]; exact gi_mid _ _ _
          have hll : l.length = pre.length + (R.length + 1) := by rw [e]; simp
          rw [M.tidepolelaw11_ProgReads_l0]; try dsimp only
          have hx : decide (x.Op = 3) = decide ((pre.length : Int) = wr .i64 ((l.length : Int) - 1)) := by
            rw [wr_i64 (by omega) (by omega)]
            rcases Nat.lt_or_ge pre.length c.length with hlt | hge
            · have : x ∈ c := by
                have h3 : l[pre.length]? = some x := by rw [e]; simp
                rw [← hP, List.getElem?_append_left hlt] at h3
                exact List.mem_of_getElem? h3
              rw [decide_eq_false (hop x this), decide_eq_false (by omega)]
            · have : x = fin' := by
                have h3 : l[pre.length]? = some x := by rw [e]; simp
                have hpc : pre.length = c.length := by omega
                rw [← hP, hpc, List.getElem?_append_right (Nat.le_refl _), Nat.sub_self] at h3
                exact (Option.some.inj h3).symm
              rw [this, decide_eq_true (show fin'.Op = 3 from rfl), decide_eq_true (by omega)]
          rw [if_pos (by omega), if_pos (by omega), hg', hx, if_pos (by simp), wr_i64 (by omega) (by omega), show (pre.length : Int) + 1 = (((pre ++ [x]).length : Nat) : Int) by simp]
          exact ih (pre ++ [x]) (by rw [e]; simp)
      exact loop l [] rfl
  · rw [if_neg he]
end Go.Proofs.YtemokppdnkiejaaDoor
