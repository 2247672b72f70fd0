/-
  The statements' own words: a pattern that is cut, a program that accepts, two patterns together.
-/
import Derived.Test.YtemokppdnkiejaaPSimG
set_option linter.unusedVariables false
set_option linter.unusedSimpArgs false
namespace Go.Proofs.Ytemokppdnkiejaa
open Go.Gx

theorem nds_append : ∀ a b : List T27, nds (a ++ b) = nds a + nds b
  | [], b => by simp [nds]
  | x :: a, b => by rw [List.cons_append, nds, nds, nds_append a b]; omega
theorem cut_ok (left : Nat) : left ≤ 8 → ∀ (r : T27) (b : Int), (∀ e, Fit e r) → 1 ≤ b → b ≤ 40 → ∃ (o : T27) (b' : Int), M.tidepolelaw12_cut (r, (left : Int), b) = some (o, b') ∧ 0 ≤ b' ∧ b' ≤ b - nd o ∧ Dp (left + 1) o ∧ ∀ e, Fit e o := by
  induction left with
  | zero =>
    intro hl r b hf h1 h2
    refine ⟨⟨r.Kind, r.Set, [], r.Min, r.Max⟩, b - 1, ?_, by omega, by rw [nd_eq, nds]; omega, by simp [Dp], fun e => ?_⟩
    · rw [M.tidepolelaw12_cut]; try dsimp only
      rw [wr_i64 (by omega) (by omega), M.tidepolelaw12_cut_l0]; try dsimp only
      have l1 : M.tidepolelaw12_cut_l1 (0, r, ⟨0, [0, 0, 0, 0], [], 0, 0⟩, ⟨r.Kind, r.Set, [], r.Min, r.Max⟩, 0, false, b - 1) = some (⟨r.Kind, r.Set, [], r.Min, r.Max⟩, b - 1) := by
        rw [M.tidepolelaw12_cut_l1]; try dsimp only
        rw [if_neg (by decide)]
      by_cases hL : (0 : Int) < (r.L.length : Int)
      · rw [if_pos hL, if_neg (by omega)]; exact l1
      · rw [if_neg hL]; exact l1
    · cases e with
      | zero => trivial
      | succ e => exact ⟨(hf 1).1, by simp, by simp⟩
  | succ left ih =>
    intro hl r b hf h1 h2
    have hS := (hf 1).1
    have hlen := (hf 1).2.1
    have loop : ∀ (R pre : List T27) (acc : T27) (c : Int), r.L = pre ++ R → 0 ≤ c → c + (acc.L.length : Int) ≤ 40 →
        ∃ (ys : List T27) (c' : Int), M.tidepolelaw12_cut_l0 (((left + 1 : Nat) : Int), r, ⟨0, [0, 0, 0, 0], [], 0, 0⟩, acc, (pre.length : Int), c) = some (⟨acc.Kind, acc.Set, acc.L ++ ys, acc.Min, acc.Max⟩, c') ∧ 0 ≤ c' ∧ c' ≤ c - nds ys ∧ (∀ y ∈ ys, Dp (left + 1) y) ∧ (acc.L ++ ys).length ≤ 40 ∧ ∀ e, ∀ y ∈ ys, Fit e y := by
      intro R
      induction R with
      | nil =>
        intro pre acc c e hc ha
        refine ⟨[], c, ?_, hc, by rw [nds]; omega, by simp, by simp; omega, by simp⟩
        rw [M.tidepolelaw12_cut_l0]; try dsimp only
        rw [if_neg (by rw [e]; simp), M.tidepolelaw12_cut_l1]; try dsimp only
        rw [if_neg (by decide), List.append_nil, eta27]
      | cons x R ihR =>
        intro pre acc c e hc ha
        have hl2 : r.L.length = pre.length + (R.length + 1) := by rw [e]; simp
        have hx : x ∈ r.L := by rw [e]; simp
        rw [M.tidepolelaw12_cut_l0]; try dsimp only
        rw [if_pos (by omega), if_pos (by omega)]
        by_cases hc0 : c > 0
        · rw [decide_eq_true hc0, M.tidepolelaw12_cut_l1]; try dsimp only
          obtain ⟨o, c1, k1, k2, k3, k4, k5⟩ := ih (by omega) x c (fun e' => (hf (e' + 1)).2.2 x hx) (by omega) (by omega)
          have hno := nd_pos o
          rw [if_pos rfl, if_pos (by omega), if_pos (by omega), show gi r.L (pre.length : Int) = x by rw [e]; exact gi_mid pre x R, eta27, wr_i64 (x := ((left + 1 : Nat) : Int) - 1) (by omega) (by omega), show ((left + 1 : Nat) : Int) - 1 = (left : Int) by omega, k1, bnd]; try dsimp only
          rw [if_pos (by simp; omega), wr_i64 (by omega) (by omega)]
          obtain ⟨ys, c2, g1, g2, g3, g4, g5, g6⟩ := ihR (pre ++ [x]) ⟨acc.Kind, acc.Set, acc.L ++ [o], acc.Min, acc.Max⟩ c1 (by rw [e]; simp) k2 (by simp; omega)
          rw [show (((pre ++ [x]).length : Nat) : Int) = (pre.length : Int) + 1 by simp] at g1
          refine ⟨o :: ys, c2, ?_, g2, by rw [nds]; omega, fun y hy => ?_, by simpa using g5, fun e' y hy => ?_⟩
          · rw [g1]; simp
          · rcases List.mem_cons.1 hy with rfl | hy
            · exact k4
            · exact g4 y hy
          · rcases List.mem_cons.1 hy with rfl | hy
            · exact k5 e'
            · exact g6 e' y hy
        · rw [decide_eq_false hc0, M.tidepolelaw12_cut_l1]; try dsimp only
          refine ⟨[], c, ?_, hc, by rw [nds]; omega, by simp, by simp; omega, by simp⟩
          rw [if_neg (by decide), List.append_nil, eta27]
    obtain ⟨ys, c', g1, g2, g3, g4, g5, g6⟩ := loop r.L [] ⟨r.Kind, r.Set, [], r.Min, r.Max⟩ (b - 1) rfl (by omega) (by simp; omega)
    refine ⟨⟨r.Kind, r.Set, ys, r.Min, r.Max⟩, c', ?_, g2, by rw [nd_eq]; push_cast; omega, g4, fun e => ?_⟩
    · rw [M.tidepolelaw12_cut]; try dsimp only
      rw [wr_i64 (by omega) (by omega)]
      have g1' : M.tidepolelaw12_cut_l0 (((left + 1 : Nat) : Int), r, ⟨0, [0, 0, 0, 0], [], 0, 0⟩, ⟨r.Kind, r.Set, [], r.Min, r.Max⟩, 0, b - 1) = _ := g1
      rw [g1']
      rfl
    · cases e with
      | zero => trivial
      | succ e => exact ⟨hS, by simp at g5; show ys.length ≤ _; omega, fun y hy => g6 e y hy⟩

/-- small, and may be -/
structure Sm (r : T27) : Prop where
  good : Good r
  deep : Rt 9 r
  nd_ : nd r ≤ 40
  sz_ : sz r ≤ 149
theorem Rt.of_dp : ∀ {d e : Nat} {r : T27}, Rt d r → Dp e r → Rt e r
  | 0, _, _, h, _ => absurd h id
  | _, 0, _, _, h => absurd h id
  | d + 1, e + 1, r, h, k => ⟨h.1, h.2.1, fun x hx => (h.2.2 x hx).of_dp (k x hx)⟩
theorem some_ok (r : T27) (hf : ∀ e, Fit e r) : ∃ (o : T27) (l : List T88) (ok : Bool), M.tidepolelaw12_some r = some (o, l, ok) ∧ (ok = true → Sm o ∧ M.prog_Make o = some (l, 0)) := by
  obtain ⟨o, b', k1, k2, k3, k4, k5⟩ := cut_ok 8 (by omega) r 40 hf (by omega) (by omega)
  have k1' : M.tidepolelaw12_cut (r, 8, 40) = some (o, b') := k1
  rw [M.tidepolelaw12_some, k1', bnd]; try dsimp only
  rcases make_tot o (k5 128) with ⟨e, he, hm, _⟩ | ⟨hg, c, h1, h2, hm⟩
  · rw [hm, bnd]; try dsimp only
    rw [if_neg he]
    exact ⟨_, _, _, rfl, fun h => by cases h⟩
  · rw [hm, bnd]; try dsimp only
    rw [if_pos rfl]
    refine ⟨_, _, _, rfl, fun h => ?_⟩
    have h3 := of_decide_eq_true h
    rw [List.length_append, h2] at h3
    simp at h3
    have hdp : Dp 9 o := k4
    exact ⟨⟨hg, hg.1.of_dp hdp, by omega, by omega⟩, hm⟩
theorem matches_ok {r : T27} (hg : Good r) (s : ByteArray) (hs : s.size ≤ 65536) : ∃ b, M.tidepolelaw12_matches r s = some b ∧ (b = true ↔ Lg r (U s s.size)) := by
  obtain ⟨l, m, _, _, _, t⟩ := good_prog hg
  obtain ⟨b, k1, k2⟩ := t s hs
  refine ⟨b, ?_, k2⟩
  rw [M.tidepolelaw12_matches, m, bnd]; try dsimp only
  rw [k1, bnd]; try dsimp only
  rw [if_pos rfl, if_pos rfl]
theorem good_all {a b : T27} (ha : Sm a) (hb : Sm b) : Good ⟨2, Z4, [a, b], 0, 0⟩ := by
  have h1 := ha.nd_; have h2 := hb.nd_; have h3 := ha.sz_; have h4 := hb.sz_
  refine ⟨?_, by simp only [nd, nds]; omega, by simp only [sz, szs]; simp; omega⟩
  refine Rt.mono (d := 10) ⟨.inr (.inl ⟨.inl rfl, rfl, rfl, rfl⟩), SetOk.Z4, fun x hx => ?_⟩ (by omega)
  simp at hx
  rcases hx with rfl | rfl
  · exact ha.deep
  · exact hb.deep
theorem good_any {a b : T27} (ha : Sm a) (hb : Sm b) : Good ⟨3, Z4, [a, b], 0, 0⟩ := by
  have h1 := ha.nd_; have h2 := hb.nd_; have h3 := ha.sz_; have h4 := hb.sz_
  refine ⟨?_, by simp only [nd, nds]; omega, by simp only [sz, szs]; simp; omega⟩
  refine Rt.mono (d := 10) ⟨.inr (.inl ⟨.inr rfl, rfl, rfl, rfl⟩), SetOk.Z4, fun x hx => ?_⟩ (by omega)
  simp at hx
  rcases hx with rfl | rfl
  · exact ha.deep
  · exact hb.deep
theorem good_star {a : T27} (ha : Sm a) : Good ⟨4, Z4, [a], 0, -1⟩ := by
  have h1 := ha.nd_; have h3 := ha.sz_
  refine ⟨?_, by simp only [nd, nds]; omega, by simp only [sz, szh]; simp; omega⟩
  refine Rt.mono (d := 10) ⟨.inr (.inr ⟨rfl, ⟨_, rfl⟩, rfl, by simp, by simp, .inl rfl⟩), SetOk.Z4, fun x hx => ?_⟩ (by omega)
  simp at hx
  rw [hx]
  exact ha.deep

/-! ### Parts of a text -/
theorem ss_size (s : ByteArray) (i j : Nat) (h1 : i ≤ j) (h2 : j ≤ s.size) : (ss s (i : Int) (j : Int)).size = j - i := by
  simp only [ss, ByteArray.size_extract, Int.toNat_natCast]
  omega
theorem bt_ss (s : ByteArray) (i j t : Nat) (h1 : i + t < j) (h2 : j ≤ s.size) : bt (ss s (i : Int) (j : Int)) (t : Int) = bt s ((i + t : Nat) : Int) := by
  have hz := ss_size s i j (by omega) h2
  unfold bt
  rw [dif_pos (by rw [hz, Int.toNat_natCast]; omega), dif_pos (by rw [Int.toNat_natCast]; omega)]
  simp only [ss, Int.toNat_natCast, ByteArray.getElem_extract]
theorem U_ss (s : ByteArray) (i j : Nat) (h1 : i ≤ j) (h2 : j ≤ s.size) : U (ss s (i : Int) (j : Int)) (ss s (i : Int) (j : Int)).size = wd s i j := by
  rw [ss_size s i j h1 h2]
  unfold U wd
  apply List.ext_getElem
  · simp
  · intro t h3 h4
    simp only [List.length_map, List.length_range] at h3
    simp only [List.getElem_map, List.getElem_range, List.getElem_range']
    rw [bt_ss s i j t (by omega) h2]
    congr 2
    omega

/-! ### Two patterns together -/
theorem lg_all2 (a b : T27) (w : List Int) : Lg ⟨2, Z4, [a, b], 0, 0⟩ w ↔ ∃ u v, w = u ++ v ∧ Lg a u ∧ Lg b v := by
  constructor
  · rintro (⟨h, _⟩ | ⟨_, u, v, rfl, h1, v', z, rfl, h2, hz⟩ | ⟨h, _⟩ | ⟨h, _⟩)
    · omega
    · cases (show z = [] from hz)
      exact ⟨u, v', by simp, h1, h2⟩
    · omega
    · omega
  · rintro ⟨u, v, rfl, h1, h2⟩
    exact .inr (.inl ⟨rfl, u, v, rfl, h1, v, [], by simp, h2, rfl⟩)
theorem lg_any2 (a b : T27) (w : List Int) : Lg ⟨3, Z4, [a, b], 0, 0⟩ w ↔ (Lg a w ∨ Lg b w) := by
  constructor
  · rintro (⟨h, _⟩ | ⟨h, _⟩ | ⟨_, h | h | h⟩ | ⟨h, _⟩)
    · omega
    · omega
    · exact .inl h
    · exact .inr h
    · exact absurd h id
    · omega
  · rintro (h | h)
    · exact .inr (.inr (.inl ⟨rfl, .inl h⟩))
    · exact .inr (.inr (.inl ⟨rfl, .inr (.inl h)⟩))
theorem lg_star (a : T27) (w : List Int) : Lg ⟨4, Z4, [a], 0, -1⟩ w ↔ ∃ n, Rep (Lg a) n w := by
  constructor
  · rintro (⟨h, _⟩ | ⟨h, _⟩ | ⟨h, _⟩ | ⟨_, n, _, _, h⟩)
    · omega
    · omega
    · omega
    · exact ⟨n, h⟩
  · rintro ⟨n, h⟩
    exact .inr (.inr (.inr ⟨rfl, n, by simp, .inl (by decide), h⟩))
theorem lg_star_cut (a : T27) (w : List Int) : Lg ⟨4, Z4, [a], 0, -1⟩ w ↔ (w = [] ∨ ∃ u v, w = u ++ v ∧ u ≠ [] ∧ Lg a u ∧ Lg ⟨4, Z4, [a], 0, -1⟩ v) := by
  constructor
  · rw [lg_star]
    rintro ⟨n, h⟩
    induction n generalizing w with
    | zero => exact .inl h
    | succ n ih =>
      obtain ⟨u, v, rfl, h1, h2⟩ := h
      by_cases hu : u = []
      · subst hu
        exact ih v h2
      · exact .inr ⟨u, v, rfl, hu, h1, (lg_star a v).2 ⟨n, h2⟩⟩
  · rintro (rfl | ⟨u, v, rfl, _, h1, h2⟩)
    · exact (lg_star a []).2 ⟨0, rfl⟩
    · obtain ⟨n, h2⟩ := (lg_star a v).1 h2
      exact (lg_star a _).2 ⟨n + 1, u, v, rfl, h1, h2⟩
theorem joins_ok (s : ByteArray) (hs : s.size ≤ 100) {a b : T27} (ha : Sm a) (hb : Sm b) : ∀ (k i : Nat) (both again : Bool), i + k = s.size + 1 → (both = true ↔ ∃ t, t < i ∧ Lg a (wd s 0 t) ∧ Lg b (wd s t s.size)) →
    (again = true ↔ (s.size = 0 ∨ ∃ t, t < i ∧ 0 < t ∧ Lg a (wd s 0 t) ∧ Lg ⟨4, Z4, [a], 0, -1⟩ (wd s t s.size))) → M.tidepolelaw12_SimJoins_l1 (s, a, b, ⟨4, Z4, [a], 0, -1⟩, both, again, (i : Int)) = some true := by
  intro k
  induction k with
  | zero =>
    intro i both again hi h1 h2
    rw [M.tidepolelaw12_SimJoins_l1]; try dsimp only
    rw [if_neg (by omega)]
    obtain ⟨x1, e1, c1⟩ := matches_ok (good_all ha hb) s (by omega)
    obtain ⟨x2, e2, c2⟩ := matches_ok (good_any ha hb) s (by omega)
    obtain ⟨x3, e3, c3⟩ := matches_ok ha.good s (by omega)
    obtain ⟨x4, e4, c4⟩ := matches_ok hb.good s (by omega)
    obtain ⟨x5, e5, c5⟩ := matches_ok (good_star ha) s (by omega)
    rw [← wd_U] at c1 c2 c3 c4 c5
    have hx1 : x1 = both := by
      rw [Bool.eq_iff_iff, c1, h1, lg_all2]
      constructor
      · rintro ⟨u, v, e, g1, g2⟩
        obtain ⟨t, t1, t2, rfl, rfl⟩ := wd_split s (Nat.zero_le _) e
        exact ⟨t, by omega, g1, g2⟩
      · rintro ⟨t, t1, g1, g2⟩
        exact ⟨_, _, wd_app s (Nat.zero_le t) (by omega), g1, g2⟩
    have hx5 : x5 = again := by
      rw [Bool.eq_iff_iff, c5, h2, lg_star_cut]
      constructor
      · rintro (e | ⟨u, v, e, hu, g1, g2⟩)
        · have := congrArg List.length e
          rw [wd_len] at this
          left
          simpa using this
        · obtain ⟨t, t1, t2, rfl, rfl⟩ := wd_split s (Nat.zero_le _) e
          refine .inr ⟨t, by omega, ?_, g1, g2⟩
          rcases Nat.eq_zero_or_pos t with rfl | h
          · exact absurd (wd_nil s 0) hu
          · exact h
      · rintro (e | ⟨t, t1, t0, g1, g2⟩)
        · left; rw [e]; exact wd_nil s 0
        · refine .inr ⟨_, _, wd_app s (Nat.zero_le t) (by omega), ?_, g1, g2⟩
          intro h
          have := congrArg List.length h
          rw [wd_len] at this
          simp at this
          omega
    have hx2 : x2 = (x3 || x4) := by
      rw [Bool.eq_iff_iff, c2, lg_any2, Bool.or_eq_true, c3, c4]
    have e1' : M.tidepolelaw12_matches ⟨2, [0, 0, 0, 0], [a, b], 0, 0⟩ s = some x1 := e1
    have e2' : M.tidepolelaw12_matches ⟨3, [0, 0, 0, 0], [a, b], 0, 0⟩ s = some x2 := e2
    rw [e1', bnd, hx1, if_pos (by simp), e2', bnd, e3, bnd, hx2]
    cases x3 with
    | true => rw [if_pos rfl, if_pos (by simp), e5, bnd, hx5]; simp
    | false => rw [if_neg (by decide), e4, bnd, if_pos (by simp), e5, bnd, hx5]; simp
  | succ k ih =>
    intro i both again hi h1 h2
    rw [M.tidepolelaw12_SimJoins_l1]; try dsimp only
    rw [if_pos (by omega)]
    have z1 := ss_size s 0 i (Nat.zero_le _) (by omega)
    have z2 := ss_size s i s.size (by omega) (Nat.le_refl _)
    obtain ⟨x3, e3, c3⟩ := matches_ok ha.good (ss s ((0 : Nat) : Int) (i : Int)) (by omega)
    obtain ⟨x4, e4, c4⟩ := matches_ok hb.good (ss s (i : Int) (s.size : Int)) (by omega)
    obtain ⟨x5, e5, c5⟩ := matches_ok (good_star ha) (ss s (i : Int) (s.size : Int)) (by omega)
    rw [U_ss s 0 i (Nat.zero_le _) (by omega)] at c3
    rw [U_ss s i s.size (by omega) (Nat.le_refl _)] at c4 c5
    have e3' : M.tidepolelaw12_matches a (ss s 0 (i : Int)) = some x3 := e3
    have two : ∀ both' : Bool, (both' = true ↔ ∃ t, t < i + 1 ∧ Lg a (wd s 0 t) ∧ Lg b (wd s t s.size)) → M.tidepolelaw12_SimJoins_l2 (s, a, b, ⟨4, Z4, [a], 0, -1⟩, both', again, (i : Int)) = some true := by
      intro both' h3
      have three : ∀ again' : Bool, (again' = true ↔ (s.size = 0 ∨ ∃ t, t < i + 1 ∧ 0 < t ∧ Lg a (wd s 0 t) ∧ Lg ⟨4, Z4, [a], 0, -1⟩ (wd s t s.size))) → M.tidepolelaw12_SimJoins_l3 (s, a, b, ⟨4, Z4, [a], 0, -1⟩, both', again', (i : Int)) = some true := by
        intro again' h4
        rw [M.tidepolelaw12_SimJoins_l3]; try dsimp only
        rw [wr_i64 (by omega) (by omega), show (i : Int) + 1 = ((i + 1 : Nat) : Int) by push_cast; rfl]
        exact ih (i + 1) both' again' (by omega) h3 h4
      rw [M.tidepolelaw12_SimJoins_l2]; try dsimp only
      cases again with
      | true =>
        rw [if_pos rfl]
        refine three true ⟨fun _ => ?_, fun _ => rfl⟩
        rcases h2.1 rfl with h | ⟨t, t1, t2⟩
        · exact .inl h
        · exact .inr ⟨t, by omega, t2⟩
      | false =>
        rw [if_neg (by decide)]
        have hno : ¬ (s.size = 0 ∨ ∃ t, t < i ∧ 0 < t ∧ Lg a (wd s 0 t) ∧ Lg ⟨4, Z4, [a], 0, -1⟩ (wd s t s.size)) := fun h => by
          have := h2.2 h
          cases this
        have key : ∀ c : Bool, (c = true ↔ (0 < i ∧ Lg a (wd s 0 i) ∧ Lg ⟨4, Z4, [a], 0, -1⟩ (wd s i s.size))) → (c = true ↔ (s.size = 0 ∨ ∃ t, t < i + 1 ∧ 0 < t ∧ Lg a (wd s 0 t) ∧ Lg ⟨4, Z4, [a], 0, -1⟩ (wd s t s.size))) := by
          intro c hc
          rw [hc]
          constructor
          · intro h; exact .inr ⟨i, by omega, h⟩
          · rintro (h | ⟨t, t1, t2⟩)
            · exact absurd (.inl h) hno
            · by_cases e : t = i
              · subst e; exact t2
              · exact absurd (.inr ⟨t, by omega, t2⟩) hno
        by_cases hi0 : 0 < i
        · rw [if_pos (by omega), if_pos (by omega), if_pos (by omega), e3', bnd]
          cases x3 with
          | true =>
            rw [if_pos rfl, e5, bnd]
            exact three x5 (key x5 (by rw [c5]; exact ⟨fun h => ⟨hi0, c3.1 rfl, h⟩, fun h => h.2.2⟩))
          | false =>
            rw [if_neg (by decide)]
            exact three false (key false ⟨fun h => (by cases h), fun h => (by have := c3.2 h.2.1; cases this)⟩)
        · rw [if_neg (by omega)]
          exact three false (key false ⟨fun h => (by cases h), fun h => absurd h.1 hi0⟩)
    cases both with
    | true =>
      rw [if_pos rfl]
      refine two true ⟨fun _ => ?_, fun _ => rfl⟩
      obtain ⟨t, t1, t2⟩ := h1.1 rfl
      exact ⟨t, by omega, t2⟩
    | false =>
      rw [if_neg (by decide), if_pos (by omega), e3', bnd]
      have hno : ¬ ∃ t, t < i ∧ Lg a (wd s 0 t) ∧ Lg b (wd s t s.size) := fun h => by
        have := h1.2 h
        cases this
      have key : ∀ c : Bool, (c = true ↔ (Lg a (wd s 0 i) ∧ Lg b (wd s i s.size))) → (c = true ↔ ∃ t, t < i + 1 ∧ Lg a (wd s 0 t) ∧ Lg b (wd s t s.size)) := by
        intro c hc
        rw [hc]
        constructor
        · intro h; exact ⟨i, by omega, h⟩
        · rintro ⟨t, t1, t2⟩
          by_cases e : t = i
          · subst e; exact t2
          · exact absurd ⟨t, by omega, t2⟩ hno
      cases x3 with
      | true =>
        rw [if_pos rfl, e4, bnd]
        exact two x4 (key x4 (by rw [c4]; exact ⟨fun h => ⟨c3.1 rfl, h⟩, fun h => h.2⟩))
      | false =>
        rw [if_neg (by decide)]
        exact two false (key false ⟨fun h => (by cases h), fun h => (by have := c3.2 h.1; cases this)⟩)
theorem means_law (x0 : T27) (x1 : ByteArray) (hf : ∀ e, Fit e x0) : M.tidepolelaw12_SimMeans x0 x1 = some true := by
  have hi : ∃ k : Nat, imn (x1.size : Int) 30 = (k : Int) ∧ k ≤ 30 ∧ k ≤ x1.size := by
    refine ⟨min x1.size 30, ?_, by omega, by omega⟩
    simp only [imn]
    split <;> omega
  obtain ⟨k, hk, k1, k2⟩ := hi
  obtain ⟨o, l, ok, e1, e2⟩ := some_ok x0 hf
  rw [M.tidepolelaw12_SimMeans, works_ok, bnd, if_pos rfl, hk, if_pos (by omega), if_pos (by omega), e1, bnd]; try dsimp only
  cases ok with
  | false => rw [if_neg (by decide)]
  | true =>
    obtain ⟨hs, hm⟩ := e2 rfl
    obtain ⟨l', m, _, _, _, t⟩ := good_prog hs.good
    rw [m] at hm
    cases hm
    have z := ss_size x1 0 k (Nat.zero_le _) k2
    obtain ⟨b, g1, g2⟩ := t (ss x1 ((0 : Nat) : Int) (k : Int)) (by omega)
    obtain ⟨c, h1, h2⟩ := refmeans_ok (ss x1 ((0 : Nat) : Int) (k : Int)) (by omega) o hs.good.1 hs.good.2.1
    have g1' : M.sim_Match l (ss x1 0 (k : Int)) = some (b, 0) := g1
    have h1' : M.tidepoleref12_Means o (ss x1 0 (k : Int)) = some c := h1
    rw [if_pos rfl, g1', bnd]; try dsimp only
    rw [if_pos rfl, h1', bnd]
    have : b = c := by rw [Bool.eq_iff_iff, g2, h2]
    rw [this]
    simp
theorem joins_law (x0 x1 : T27) (x2 : ByteArray) (hf : ∀ e, Fit e x0) (hg : ∀ e, Fit e x1) : M.tidepolelaw12_SimJoins x0 x1 x2 = some true := by
  have hi : ∃ k : Nat, imn (x2.size : Int) 12 = (k : Int) ∧ k ≤ 12 ∧ k ≤ x2.size := by
    refine ⟨min x2.size 12, ?_, by omega, by omega⟩
    simp only [imn]
    split <;> omega
  obtain ⟨k, hk, k1, k2⟩ := hi
  obtain ⟨o, l, ok, e1, e2⟩ := some_ok x0 hf
  obtain ⟨o', l', ok', e3, e4⟩ := some_ok x1 hg
  rw [M.tidepolelaw12_SimJoins, works_ok, bnd, if_pos rfl, hk, if_pos (by omega), if_pos (by omega), e1, bnd, e3, bnd]; try dsimp only
  cases ok with
  | false =>
    rw [if_neg (by decide), M.tidepolelaw12_SimJoins_l0]; try dsimp only
    rw [if_pos rfl]
  | true =>
    rw [if_pos rfl, M.tidepolelaw12_SimJoins_l0]; try dsimp only
    cases ok' with
    | false => rw [if_pos (by decide)]
    | true =>
      rw [if_neg (by decide)]
      have z := ss_size x2 0 k (Nat.zero_le _) k2
      have z' : (ss x2 0 (k : Int)).size = k := z
      refine joins_ok (ss x2 0 (k : Int)) (by omega) (e2 rfl).1 (e4 rfl).1 (k + 1) 0 false _ (by omega) ⟨fun h => (by cases h), fun ⟨t, h, _⟩ => by omega⟩ ?_
      generalize ss x2 0 (k : Int) = s at z'
      constructor
      · intro h
        left
        have h := eq_of_beq h
        have := congrArg List.length h
        rw [show (⟨#[]⟩ : ByteArray).toList = [] by rw [Go.ByteArray.toList_eq]] at this
        have e : s.toList.length = s.size := by
          have : s.toList = s.data.toList := Go.ByteArray.toList_eq s
          rw [this]
          rfl
        rw [e] at this
        simpa using this
      · rintro (h | ⟨t, h, _⟩)
        · have : s = (⟨#[]⟩ : ByteArray) := by
            cases s with
            | mk d =>
              have : d.size = 0 := h
              rw [Array.size_eq_zero_iff.1 this]
          rw [this]
          simp
        · omega
end Go.Proofs.Ytemokppdnkiejaa
