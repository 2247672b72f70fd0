/-
  A runner stands where the document says, whatever it reads, and whenever it begins again.
-/
import Derived.Test.YtemokppdnkiejaaGreatPSFV
set_option linter.unusedVariables false
set_option linter.unusedSimpArgs false
set_option linter.unusedSectionVars false
namespace Go.Proofs.YtemokppdnkiejaaGreat
open Go.Gx
theorem IS.nodup {n : Nat} {s : T65} (h : IS n s) : s.list.Nodup := by
  rw [List.nodup_iff_pairwise_ne, List.pairwise_iff_getElem]
  intro i j hi hj hij he
  have h1 := h.at_ i hi
  have h2 := h.at_ j hj
  rw [he, h2] at h1
  omega
def wl (a : List Bool) (i : Nat) : List Int := ((List.range i).filter (fun j => decide (a[j]? = some true))).map (fun j : Nat => (j : Int))
theorem wl_succ (a : List Bool) (i : Nat) : wl a (i + 1) = if a[i]? = some true then wl a i ++ [(i : Int)] else wl a i := by
  unfold wl
  rw [List.range_succ, List.filter_append]
  by_cases h : a[i]? = some true
  · rw [if_pos h]; simp [h]
  · rw [if_neg h]; simp [h]
theorem wl_len (a : List Bool) (i : Nat) : (wl a i).length ≤ i := by
  unfold wl
  rw [List.length_map]
  exact Nat.le_trans (List.length_filter_le _ _) (by simp)
theorem mem_wl {a : List Bool} {i : Nat} {v : Int} : v ∈ wl a i ↔ ∃ j : Nat, j < i ∧ T a j ∧ v = (j : Int) := by
  unfold wl T
  simp only [List.mem_map, List.mem_filter, List.mem_range, decide_eq_true_eq]
  constructor
  · rintro ⟨j, ⟨h1, h2⟩, rfl⟩; exact ⟨j, h1, h2, rfl⟩
  · rintro ⟨j, h1, h2, rfl⟩; exact ⟨j, ⟨h1, h2⟩, rfl⟩
theorem wl_rises (a : List Bool) (i : Nat) : (wl a i).Pairwise (· < ·) := by
  unfold wl
  rw [List.pairwise_map]
  refine (List.pairwise_lt_range.filter _).imp fun h => ?_
  omega
theorem ints_self (xs : List Int) (hl : xs.length ≤ 1073741824) : M.tidepolebase_SameInts xs xs = some true := by
  have loop : ∀ (k i : Nat), i + k = xs.length → M.tidepolebase_SameInts_l0 (xs, xs, (i : Int)) = some true := by
    intro k
    induction k with
    | zero =>
      intro i hi
      rw [M.tidepolebase_SameInts_l0]; try dsimp only
      rw [if_neg (by omega)]
    | succ k ih =>
      intro i hi
      rw [M.tidepolebase_SameInts_l0]; try dsimp only
      rw [if_pos (by omega), if_pos (by omega), if_pos (by omega), if_pos rfl, wr_i64 (by omega) (by omega), show (i : Int) + 1 = ((i + 1 : Nat) : Int) by push_cast; rfl]
      exact ih (i + 1) (by omega)
  rw [M.tidepolebase_SameInts, if_pos rfl]
  exact loop xs.length 0 (by omega)
section
variable {l : List T45} (hl : l.length ≤ 150) (h0 : 0 < l.length) (hri : ∀ x ∈ l, RI l.length x)
structure St (l : List T45) (q : T50) (a : List Bool) : Prop where
  ok : ∃ u, RnOk l q u
  cl : Cl l q.now.list
  len : a.length = l.length
  eq : ∀ j : Nat, T a j ↔ (j : Int) ∈ q.now.list
theorem at_ok {q : T50} {a : List Bool} (hl : l.length ≤ 150) (h : St l q a) : M.sim_Runner_At q = some (wl a l.length) := by
  obtain ⟨u, hq⟩ := h.ok
  have hle := hq.now.le
  have hp : q.now.list.Perm (wl a l.length) := (List.perm_ext_iff_of_nodup hq.now.nodup ((wl_rises a l.length).imp fun h => by omega)).2 fun v => by
    rw [mem_wl]
    constructor
    · intro hv
      have := hq.now.rng v hv
      refine ⟨v.toNat, by omega, (h.eq _).2 (by rw [Int.toNat_of_nonneg this.1]; exact hv), by omega⟩
    · rintro ⟨j, _, hj, rfl⟩
      exact (h.eq j).1 hj
  have loop : ∀ (R pre : List Int), q.now.list = pre ++ R → M.sim_Runner_At_l0 (pre, (q.now.list.length : Int), (pre.length : Int), q) = some (srtI q.now.list) := by
    intro R
    induction R with
    | nil =>
      intro pre e
      rw [List.append_nil] at e
      rw [M.sim_Runner_At_l0]; try dsimp only
      rw [if_neg (by rw [e]; omega), if_pos (by rw [← e]; omega), e]
    | cons x R ih =>
      intro pre e
      have hlen : q.now.list.length = pre.length + (R.length + 1) := by rw [e]; simp
      rw [M.sim_Runner_At_l0]; try dsimp only
      rw [if_pos (by omega), if_pos (by omega), if_pos (by omega), show gi q.now.list (pre.length : Int) = x by rw [e]; exact gi_mid pre x R, if_pos (by simp; omega), wr_i64 (by omega) (by omega)]
      have := ih (pre ++ [x]) (by rw [e]; simp)
      rw [show (((pre ++ [x]).length : Nat) : Int) = (pre.length : Int) + 1 by simp] at this
      exact this
  rw [M.sim_Runner_At]
  show (some () >>= _) = _
  have hlp := loop q.now.list [] rfl
  rw [bnd, show M.sim_Runner_At_l0 (([] : List Int), (q.now.list.length : Int), 0, q) = _ from hlp, srtI_eq hp ((wl_rises a l.length).imp fun h => by omega)]
theorem wl_now {q : T50} {a : List Bool} (h : St l q a) : (wl a l.length).length = q.now.list.length := by
  obtain ⟨u, hq⟩ := h.ok
  have hp : q.now.list.Perm (wl a l.length) := (List.perm_ext_iff_of_nodup hq.now.nodup ((wl_rises a l.length).imp fun h => by omega)).2 fun v => by
    rw [mem_wl]
    constructor
    · intro hv
      have := hq.now.rng v hv
      refine ⟨v.toNat, by omega, (h.eq _).2 (by rw [Int.toNat_of_nonneg this.1]; exact hv), by omega⟩
    · rintro ⟨j, _, hj, rfl⟩
      exact (h.eq j).1 hj
  exact hp.length_eq.symm
theorem dead_ok (q : T50) : M.sim_Runner_Dead q = some (decide ((q.now.list.length : Int) = 0)) := by
  rw [M.sim_Runner_Dead]
  show (some () >>= _) = _
  rw [bnd]
theorem want_ok (x1 : List Int) (x2 : List Bool) (q : T50) (a : List Bool) (ha : a.length = l.length) (hl : l.length ≤ 150) (z : Int) : ∀ (k i : Nat), i + k = l.length →
    M.tidepolelaw12_SimFeeds_l7 (l, x1, x2, q, a, z, wl a i, (i : Int)) = M.tidepolelaw12_SimFeeds_l7 (l, x1, x2, q, a, z, wl a l.length, (l.length : Int)) := by
  intro k
  induction k with
  | zero => intro i hi; rw [show i = l.length by omega]
  | succ k ih =>
    intro i hi
    have hw := wl_len a i
    rw [← ih (i + 1) (by omega), M.tidepolelaw12_SimFeeds_l7]; try dsimp only
    rw [if_pos (by omega), if_pos (by omega), if_pos (by omega), wl_succ]
    have l9 : ∀ w, M.tidepolelaw12_SimFeeds_l9 (l, x1, x2, q, a, z, w, (i : Int)) = M.tidepolelaw12_SimFeeds_l7 (l, x1, x2, q, a, z, w, ((i + 1 : Nat) : Int)) := by
      intro w
      rw [M.tidepolelaw12_SimFeeds_l9]; try dsimp only
      rw [wr_i64 (by omega) (by omega), show (i : Int) + 1 = ((i + 1 : Nat) : Int) by push_cast; rfl]
    by_cases hg : gi a (i : Int) = true
    · have hT : a[i]? = some true := (T_gi (by omega)).1 hg
      rw [if_pos hg, if_pos hT, if_pos (by simp; omega), l9]
    · have hT : ¬ a[i]? = some true := fun h => hg ((T_gi (by omega)).2 h)
      rw [if_neg hg, if_neg hT, l9]
include hl h0 hri
theorem st_feed {q : T50} {a : List Bool} (h : St l q a) (b : Int) (b0 : 0 ≤ b) (b1 : b ≤ 255) : ∃ s' o, M.sim_Runner_Feed q b = some (!(decide (s'.list = [])), q.l, s') ∧ M.tidepoleref12_Step l a b = some o ∧ St l ⟨q.l, s', q.now⟩ o ∧ (q.now.list = [] → s'.list = []) := by
  obtain ⟨u, hq⟩ := h.ok
  obtain ⟨s', e1, r1, c1, p1, p2⟩ := feed_ok (by omega) hri q u hq b b0 b1
  obtain ⟨o, e2, ho, hT⟩ := rstep_ok hl hri a h.len b b0 b1
  refine ⟨s', o, e1, e2, ⟨⟨_, r1⟩, c1, ho, fun j => ?_⟩, fun hn => ?_⟩
  · rw [hT]
    show _ ↔ (j : Int) ∈ s'.list
    constructor
    · rintro ⟨i, h1, h2, h3, h4⟩
      exact c1.er h4 (p1 _ ((h.eq i).1 h1) h2 h3)
    · intro hj
      obtain ⟨k, h1, h2, h3, h4⟩ := p2 _ hj
      have := hq.now.rng k h1
      obtain ⟨i, rfl⟩ := Int.eq_ofNat_of_zero_le this.1
      exact ⟨i, (h.eq i).2 h1, h2, h3, h4⟩
  · rcases hs : s'.list with _ | ⟨x, t⟩
    · rfl
    · obtain ⟨k, hk, _⟩ := p2 x (by rw [hs]; simp)
      rw [hn] at hk
      simp at hk
theorem st_reset {q : T50} {a : List Bool} (h : St l q a) : ∃ s' o, M.sim_Runner_Reset q = some s' ∧ M.tidepoleref12_Begin l = some o ∧ St l ⟨q.l, s', q.next⟩ o := by
  obtain ⟨u, hq⟩ := h.ok
  obtain ⟨s', e1, r1, c1, p1, p2⟩ := reset_ok (by omega) hri q hq.l_ hq.now h0
  obtain ⟨o, e2, ho, hT⟩ := rbegin_ok hl hri h0
  refine ⟨s', o, e1, e2, ⟨⟨[], hq.l_, r1, hq.next, q_begin (by omega) hri c1 p1 p2⟩, c1, ho, fun j => ?_⟩⟩
  rw [hT]
  exact ⟨fun he => c1.er he p1, fun hj => p2 _ hj⟩
theorem run_ok (x1 : List Int) (hx1 : ∀ b ∈ x1, 0 ≤ b ∧ b ≤ 255) (h1 : x1.length ≤ 1073741824) (x2 : List Bool) (h2 : x2.length ≤ 1073741824) : ∀ (m i : Nat) (q : T50) (a : List Bool), i + m = 40 → St l q a → M.tidepolelaw12_SimFeeds_l3 (l, x1, x2, q, a, (i : Int)) = some true := by
  intro m
  induction m with
  | zero =>
    intro i q a hi hs
    have l5 : M.tidepolelaw12_SimFeeds_l5 (l, x1, x2, q, a, (i : Int), false) = some true := by
      rw [M.tidepolelaw12_SimFeeds_l5]; try dsimp only
      rw [if_neg (by decide), works_ok, bnd]
    rw [M.tidepolelaw12_SimFeeds_l3]; try dsimp only
    rw [decide_eq_false (by omega), l5]
    split <;> rfl
  | succ m ih =>
    intro i q a hi hs
    rw [M.tidepolelaw12_SimFeeds_l3]; try dsimp only
    by_cases hx : (i : Int) ≤ (x1.length : Int)
    · rw [if_pos hx, decide_eq_true (by omega), M.tidepolelaw12_SimFeeds_l5]; try dsimp only
      rw [if_pos rfl]
      have hw := want_ok x1 x2 q a hs.len hl (i : Int) l.length 0 (by omega)
      rw [show M.tidepolelaw12_SimFeeds_l7 (l, x1, x2, q, a, (i : Int), ([] : List Int), 0) = _ from hw, M.tidepolelaw12_SimFeeds_l7]; try dsimp only
      have hwl := wl_len a l.length
      have hwn := wl_now hs
      rw [if_neg (by omega), at_ok hl hs, bnd, ints_self _ (by omega), bnd, if_pos rfl, dead_ok, bnd, hwn, if_pos (by simp)]
      obtain ⟨u, hq⟩ := hs.ok
      obtain ⟨p, e1, q1⟩ := accepts_at (by omega) hri q u hq
      obtain ⟨r, e2, q2⟩ := raccepts_ok hl hri a hs.len
      have hpr : p = r := by
        have : p = true ↔ r = true := by
          rw [q1, q2]
          constructor
          · rintro ⟨k, hk, h3⟩
            have := hq.now.rng k hk
            obtain ⟨j, rfl⟩ := Int.eq_ofNat_of_zero_le this.1
            exact ⟨j, (hs.eq j).2 hk, h3⟩
          · rintro ⟨j, hj, h3⟩
            exact ⟨_, (hs.eq j).1 hj, h3⟩
        cases p <;> cases r <;> simp_all
      rw [e1, bnd, e2, bnd, hpr, show (!(r == r)) = false by simp, M.tidepolelaw12_SimFeeds_l10]; try dsimp only
      rw [if_neg (by decide)]
      have l18 : ∀ q a, St l q a → M.tidepolelaw12_SimFeeds_l18 (l, x1, x2, q, a, (i : Int)) = some true := by
        intro q a hs
        rw [M.tidepolelaw12_SimFeeds_l18]; try dsimp only
        rw [wr_i64 (by omega) (by omega), show (i : Int) + 1 = ((i + 1 : Nat) : Int) by push_cast; rfl]
        exact ih (i + 1) q a (by omega) hs
      have l17 : ∀ q a, St l q a → M.tidepolelaw12_SimFeeds_l17 (l, x1, x2, q, a, (i : Int), false) = some true := by
        intro q a hs
        rw [M.tidepolelaw12_SimFeeds_l17]; try dsimp only
        rw [if_neg (by decide)]
        exact l18 q a hs
      have l15 : ∀ q a, St l q a → M.tidepolelaw12_SimFeeds_l15 (l, x1, x2, q, a, (i : Int)) = some true := by
        intro q a hs
        rw [M.tidepolelaw12_SimFeeds_l15]; try dsimp only
        by_cases hlt : (i : Int) < (x1.length : Int)
        · have hb := hx1 _ (gi_mem x1 (i : Int) (by omega) hlt)
          obtain ⟨s', o, f1, f2, f3, f4⟩ := st_feed hl h0 hri hs (gi x1 (i : Int)) hb.1 hb.2
          rw [if_pos hlt, dead_ok, bnd, if_pos (by omega), f1, bnd, f2, bnd]
          have hd : M.sim_Runner_Dead (⟨q.l, s', q.now⟩ : T50) = some (decide (s'.list = [])) := by
            rw [dead_ok]
            congr 1
            rw [decide_eq_decide]
            constructor
            · intro h; exact List.length_eq_zero_iff.1 (by show s'.list.length = 0; have : ((s'.list.length : Nat) : Int) = 0 := h; omega)
            · intro h; show ((s'.list.length : Nat) : Int) = 0; rw [h]; rfl
          by_cases hn : q.now.list = []
          · have hs0 := f4 hn
            rw [if_pos (by rw [hn]; rfl), if_neg (by simp [hs0])]
            show (M.sim_Runner_Dead (⟨q.l, s', q.now⟩ : T50) >>= _) = _
            rw [hd, bnd, decide_eq_true hs0]
            exact l17 _ _ f3
          · have hne : q.now.list.length ≠ 0 := fun h => hn (List.length_eq_zero_iff.1 h)
            rw [if_neg (by rw [decide_eq_true_eq]; omega)]
            show (M.sim_Runner_Dead (⟨q.l, s', q.now⟩ : T50) >>= _) = _
            rw [hd, bnd]
            show M.tidepolelaw12_SimFeeds_l17 (l, x1, x2, (⟨q.l, s', q.now⟩ : T50), o, (i : Int), (!(decide (s'.list = []))) == decide (s'.list = [])) = some true
            rw [show ((!(decide (s'.list = []))) == decide (s'.list = [])) = false by cases decide (s'.list = []) <;> rfl]
            exact l17 _ _ f3
        · rw [if_neg hlt]
          exact l18 q a hs
      have l13 : ∀ bb, M.tidepolelaw12_SimFeeds_l13 (l, x1, x2, q, a, (i : Int), bb) = some true := by
        intro bb
        rw [M.tidepolelaw12_SimFeeds_l13]; try dsimp only
        cases bb with
        | true =>
          obtain ⟨s', o, f1, f2, f3⟩ := st_reset hl h0 hri hs
          rw [if_pos rfl, f1, bnd, f2, bnd]
          exact l15 _ _ f3
        | false =>
          rw [if_neg (by decide)]
          exact l15 q a hs
      by_cases hx2 : (i : Int) < (x2.length : Int)
      · rw [if_pos hx2, if_pos (by omega)]; exact l13 _
      · rw [if_neg hx2]; exact l13 _
    · rw [if_neg hx, M.tidepolelaw12_SimFeeds_l5]; try dsimp only
      rw [if_neg (by decide), works_ok, bnd]
theorem rmatch_ok (hc : M.tidepoleref11_Check l = some 0) : ∃ b, M.tidepoleref12_Match l (⟨#[]⟩ : ByteArray) = some (b, 0) := by
  obtain ⟨o, e2, ho, hT⟩ := rbegin_ok hl hri h0
  obtain ⟨r, e3, q2⟩ := raccepts_ok hl hri o ho
  have hz : ((⟨#[]⟩ : ByteArray).size : Int) = 0 := rfl
  have l2 : ∀ w : List Int, M.tidepoleref12_Ends_l2 (l, (⟨#[]⟩ : ByteArray), w, o, 0) = some (w, 0) := by
    intro w
    rw [M.tidepoleref12_Ends_l2]; try dsimp only
    rw [if_neg (by rw [hz]; omega), M.tidepoleref12_Ends_l3]; try dsimp only
    rw [wr_i64 (by omega) (by omega), M.tidepoleref12_Ends_l1]; try dsimp only
    rw [if_neg (by rw [hz]; omega)]
  have key : ∃ w : List Int, w.length ≤ 1 ∧ M.tidepoleref12_Ends l (⟨#[]⟩ : ByteArray) 0 = some (w, 0) := by
    rw [M.tidepoleref12_Ends, hc, bnd, if_pos rfl, if_neg (by rw [hz]; omega), if_neg (by omega), M.tidepoleref12_Ends_l0]; try dsimp only
    rw [decide_eq_false (by rw [hz]; omega), if_neg (by decide), e2, bnd, M.tidepoleref12_Ends_l1]; try dsimp only
    rw [if_pos (by rw [hz]; omega), e3, bnd]
    cases r with
    | true =>
      rw [if_pos rfl, if_pos (by simp), l2]
      exact ⟨_, by simp, rfl⟩
    | false =>
      rw [if_neg (by decide), l2]
      exact ⟨_, by simp, rfl⟩
  obtain ⟨w, hw, e⟩ := key
  rw [M.tidepoleref12_Match, e, bnd]; try dsimp only
  by_cases hp : (w.length : Int) > 0
  · rw [if_pos hp, wr_i64 (by omega) (by omega), if_pos (by omega), if_pos (by omega)]
    exact ⟨_, rfl⟩
  · rw [if_neg hp]
    exact ⟨_, rfl⟩
end
theorem feeds_l0 (l : List T45) (hl : l.length ≤ 150) (hs : ∀ x ∈ l, SetOk x.Set) (x1 : List Int) (hx1 : ∀ b ∈ x1, 0 ≤ b ∧ b ≤ 255) (h1 : x1.length ≤ 1073741824) (x2 : List Bool) (h2 : x2.length ≤ 1073741824) : M.tidepolelaw12_SimFeeds_l0 (l, x1, x2) = some true := by
  rw [M.tidepolelaw12_SimFeeds_l0]; try dsimp only
  rcases checks_ok l with ⟨c1, c2, _, c3⟩ | ⟨c1, c2⟩
  · have hne : l ≠ [] := by
      rintro rfl
      have : M.prog_Check ([] : List T45) = some 110 := by
        rw [M.prog_Check, if_pos (by rfl), M.prog_Check_l0]; try dsimp only
        rw [if_pos rfl]
      rw [this] at c1
      cases c1
    have h0 : 0 < l.length := List.length_pos_iff.2 hne
    have hri : ∀ x ∈ l, RI l.length x := fun x hx => ⟨hs x hx, c3 x hx⟩
    obtain ⟨q, e1, r1, p1, p2, p3⟩ := new_at (by omega) hri hne (by omega)
    obtain ⟨b, e2⟩ := rmatch_ok hl h0 hri c2
    obtain ⟨o, e3, ho, hT⟩ := rbegin_ok hl hri h0
    rw [e1, bnd]; try dsimp only
    rw [e2, bnd]; try dsimp only
    rw [if_pos rfl, M.tidepolelaw12_SimFeeds_l1]; try dsimp only
    rw [if_neg (by simp), if_pos rfl, e3, bnd]
    exact run_ok hl h0 hri x1 hx1 h1 x2 h2 40 0 q o (by omega) ⟨⟨_, r1⟩, p1, ho, fun j => by
      rw [hT]
      exact ⟨fun he => p1.er he p2, fun hj => p3 _ hj⟩⟩
  · have e1 : M.sim_New l = some (.inr 110) := by rw [M.sim_New, c1, bnd, if_neg (by decide)]
    have e2 : M.tidepoleref12_Match l (⟨#[]⟩ : ByteArray) = some (false, 110) := by
      rw [M.tidepoleref12_Match, M.tidepoleref12_Ends, c2, bnd, if_neg (by decide), bnd]; try dsimp only
      rw [if_neg (by simp)]
    rw [e1, bnd]; try dsimp only
    rw [e2, bnd]; try dsimp only
    rw [if_pos rfl, M.tidepolelaw12_SimFeeds_l2]; try dsimp only
    rw [if_neg (by decide), if_neg (by decide), works_ok, bnd]
theorem feeds_law (x0 : List T45) (hs : ∀ x ∈ x0, SetOk x.Set) (x1 : List Int) (hx1 : ∀ b ∈ x1, 0 ≤ b ∧ b ≤ 255) (h1 : x1.length ≤ 1073741824) (x2 : List Bool) (h2 : x2.length ≤ 1073741824) : M.tidepolelaw12_SimFeeds x0 x1 x2 = some true := by
  rw [M.tidepolelaw12_SimFeeds]
  by_cases h : (x0.length : Int) > 150
  · rw [if_pos h, if_pos (by omega)]
    have e : sl x0 0 150 = x0.take 150 := by simp [sl]
    rw [e]
    exact feeds_l0 _ (by simp; omega) (fun x hx => hs x (List.mem_of_mem_take hx)) x1 hx1 h1 x2 h2
  · rw [if_neg h]
    exact feeds_l0 _ (by omega) hs x1 hx1 h1 x2 h2
end Go.Proofs.YtemokppdnkiejaaGreat
