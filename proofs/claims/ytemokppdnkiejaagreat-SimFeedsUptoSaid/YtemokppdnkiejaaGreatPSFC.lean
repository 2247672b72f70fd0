/-
  The code that is written for a pattern.
-/
import Derived.Test.YtemokppdnkiejaaGreatPSFB
set_option linter.unusedVariables false
set_option linter.unusedSimpArgs false
namespace Go.Proofs.YtemokppdnkiejaaGreat
open Go.Gx
mutual
def sz : T57 → Nat
  | ⟨k, _, L, mn, mx⟩ => if k = 3 then max 1 ((L.length - 1) + szs L) else if k = 2 then max 1 (szs L) else if k = 4 then
      max 1 (if mx < 0 then mn.toNat * szh L + (szh L + 1) else mn.toNat * szh L + (mx - mn).toNat * (szh L + 1)) else 1
def szs : List T57 → Nat
  | [] => 0
  | x :: xs => sz x + szs xs
def szh : List T57 → Nat
  | [] => 0
  | x :: _ => sz x
end
theorem sz_eq (r : T57) : sz r = if r.Kind = 3 then max 1 ((r.L.length - 1) + szs r.L) else if r.Kind = 2 then max 1 (szs r.L) else if r.Kind = 4 then
      max 1 (if r.Max < 0 then r.Min.toNat * szh r.L + (szh r.L + 1) else r.Min.toNat * szh r.L + (r.Max - r.Min).toNat * (szh r.L + 1)) else 1 := by cases r; rw [sz]
theorem sz_pos (r : T57) : 1 ≤ sz r := by rw [sz_eq]; (repeat' split) <;> omega
theorem szs_len : ∀ L : List T57, L.length ≤ szs L
  | [] => by simp
  | x :: xs => by have := szs_len xs; have := sz_pos x; rw [szs]; simp; omega
theorem nd_mem {x : T57} : ∀ {l : List T57}, x ∈ l → nd x ≤ nds l
  | [], h => by simp at h
  | y :: l, h => by
    rw [nds]
    rcases List.mem_cons.1 h with rfl | h
    · omega
    · have := nd_mem h; omega
theorem size_ok (d : Nat) : ∀ r : T57, Rt d r → nd r ≤ 4096 → M.prog_size r = some ((min 1048576 (sz r) : Nat) : Int) := by
  induction d with
  | zero => intro r h; exact absurd h id
  | succ d ih =>
    intro r hr hn
    rw [nd_eq] at hn
    have loop : ∀ (L pre : List T57) (a : Nat), r.L = pre ++ L → M.prog_size_l0 (((min 1048576 a : Nat) : Int), r.L, (r.L.length : Int), (pre.length : Int)) = some ((min 1048576 (max 1 (a + szs L)) : Nat) : Int) := by
      intro L
      induction L with
      | nil =>
        intro pre a e
        rw [M.prog_size_l0]; try dsimp only
        rw [if_neg (by rw [e]; simp), szs]
        refine congrArg some ?_
        simp only [imn, imx]
        (repeat' split) <;> omega
      | cons x L ihL =>
        intro pre a e
        have hlen : r.L.length = pre.length + (L.length + 1) := by rw [e]; simp
        have hx : x ∈ r.L := by rw [e]; simp
        have hl := nds_len r.L
        have hnx := nd_mem hx
        rw [M.prog_size_l0]; try dsimp only
        rw [if_pos (by omega), if_pos (by omega), if_pos (by omega), show gi r.L (pre.length : Int) = x by rw [e]; exact gi_mid pre x L, eta57, ih x (hr.2.2 x hx) (by omega), bnd, wr_i64 (x := (pre.length : Int) + 1) (by omega) (by omega),
          wr_i64 (x := ((min 1048576 a : Nat) : Int) + _) (by omega) (by omega)]
        have := ihL (pre ++ [x]) (a + sz x) (by rw [e]; simp)
        rw [show (((pre ++ [x]).length : Nat) : Int) = (pre.length : Int) + 1 by simp] at this
        rw [szs, show a + (sz x + szs L) = a + sz x + szs L by omega, ← this]
        have e2 : imn 1048576 (((min 1048576 a : Nat) : Int) + ((min 1048576 (sz x) : Nat) : Int)) = ((min 1048576 (a + sz x) : Nat) : Int) := by
          simp only [imn]
          split <;> omega
        rw [e2]
    have hll := nds_len r.L
    rw [M.prog_size]; try dsimp only
    rw [sz_eq]
    by_cases h3 : r.Kind = 3
    · rw [if_pos h3, if_pos h3]
      have := loop r.L [] (r.L.length - 1) rfl
      rw [← this]
      rw [wr_i64 (by omega) (by omega)]
      congr 2
      simp only [imx]
      split <;> omega
    rw [if_neg h3, if_neg h3]
    by_cases h2 : r.Kind = 2
    · rw [if_pos h2, if_pos h2]
      have := loop r.L [] 0 rfl
      rw [Nat.zero_add] at this
      exact this
    rw [if_neg h2, if_neg h2]
    by_cases h4 : r.Kind = 4
    · rw [if_pos h4, if_pos h4]
      rcases hr.1 with ⟨h, _⟩ | ⟨h | h, _⟩ | ⟨_, ⟨x, hL⟩, _, g0, g1, g2⟩
      · omega
      · omega
      · omega
      have hx : x ∈ r.L := by rw [hL]; simp
      have hnx := nd_mem hx
      rw [if_pos (by rw [hL]; simp), show gi r.L 0 = x by rw [hL]; rfl, eta57, ih x (hr.2.2 x hx) (by omega), bnd, hL, szh]
      obtain ⟨m, hm⟩ := Int.eq_ofNat_of_zero_le g0
      rw [hm] at g1 g2 ⊢
      rw [Int.toNat_natCast]
      have hm64 : m ≤ 64 := by omega
      generalize hs : sz x = s
      have hs1 : 1 ≤ s := by rw [← hs]; exact sz_pos x
      have ho : ∃ o : Nat, min 1048576 s = o ∧ o ≤ 1048576 := ⟨_, rfl, by omega⟩
      obtain ⟨o, ho, ho2⟩ := ho
      rw [ho]
      have b1 : m * o ≤ 64 * 1048576 := Nat.mul_le_mul hm64 ho2
      have c1 : (m : Int) * (o : Int) = ((m * o : Nat) : Int) := by push_cast; rfl
      rw [c1]
      have key : ∀ (p q : Nat), (s ≤ 1048576 → p = q) → (1048576 < s → 1048576 ≤ p ∧ 1048576 ≤ q) → imn 1048576 (imx 1 ((p : Nat) : Int)) = ((min 1048576 (max 1 q) : Nat) : Int) := by
        intro p q h1 h2
        simp only [imn, imx]
        by_cases h : s ≤ 1048576
        · have := h1 h; (repeat' split) <;> omega
        · have := h2 (by omega); (repeat' split) <;> omega
      by_cases hx : r.Max < 0
      · rw [if_pos hx, if_pos hx, wr_i64 (x := ((m * o : Nat) : Int)) (by omega) (by omega), wr_i64 (x := (o : Int) + 1) (by omega) (by omega), wr_i64 (by omega) (by omega)]
        refine congrArg some ?_
        rw [show ((m * o : Nat) : Int) + ((o : Int) + 1) = ((m * o + (o + 1) : Nat) : Int) by push_cast; rfl]
        refine key _ _ (fun h => ?_) (fun h => ?_)
        · have : o = s := by omega
          rw [this]
        · constructor <;> omega
      · rw [if_neg hx, if_neg hx]
        have g3 : (m : Int) ≤ r.Max ∧ r.Max ≤ 64 := by rcases g2 with h | h <;> omega
        obtain ⟨k, hk⟩ := Int.eq_ofNat_of_zero_le (show 0 ≤ r.Max - (m : Int) by omega)
        rw [hk, Int.toNat_natCast]
        have hk64 : k ≤ 64 := by omega
        have b2 : k * (o + 1) ≤ 64 * 1048577 := Nat.mul_le_mul hk64 (by omega)
        have c2 : (k : Int) * ((o : Int) + 1) = ((k * (o + 1) : Nat) : Int) := by push_cast; rfl
        rw [wr_i64 (x := ((m * o : Nat) : Int)) (by omega) (by omega), wr_i64 (x := (o : Int) + 1) (by omega) (by omega), wr_i64 (x := (k : Int)) (by omega) (by omega), c2, wr_i64 (x := ((k * (o + 1) : Nat) : Int)) (by omega) (by omega), wr_i64 (by omega) (by omega)]
        refine congrArg some ?_
        rw [show ((m * o : Nat) : Int) + ((k * (o + 1) : Nat) : Int) = ((m * o + k * (o + 1) : Nat) : Int) by push_cast; rfl]
        by_cases hz : m = 0 ∧ k = 0
        · obtain ⟨rfl, rfl⟩ := hz
          simp only [Nat.zero_mul, Nat.add_zero]
          rfl
        refine key _ _ (fun h => ?_) (fun h => ?_)
        · have : o = s := by omega
          rw [this]
        · have ho3 : o = 1048576 := by omega
          subst ho3
          have e1 : 1 ≤ m → 1048576 ≤ m * 1048576 := fun h => by omega
          have e2 : 1 ≤ k → 1048576 ≤ k * (1048576 + 1) := fun h => by omega
          have e3 : 1 ≤ m → s ≤ m * s := fun h => Nat.le_mul_of_pos_left s h
          have e4 : 1 ≤ k → s + 1 ≤ k * (s + 1) := fun h => Nat.le_mul_of_pos_left (s + 1) h
          by_cases hm1 : 1 ≤ m
          · have := e1 hm1; have := e3 hm1; omega
          · have hk1 : 1 ≤ k := by omega
            have := e2 hk1; have := e4 hk1; omega
    · rw [if_neg h4, if_neg h4]
      rfl
/-! ### Parts -/
def tp (all : Nat) : Pa → T108
  | .of x => ⟨((min 1048576 (sz x) : Nat) : Int), Sum.inl x⟩
  | .lp x => ⟨((min 1048576 (sz x) + 1 : Nat) : Int), Sum.inr (Sum.inl x)⟩
  | .ph x => ⟨((min 1048576 (sz x) + 1 : Nat) : Int), Sum.inr (Sum.inr ((all : Int), x))⟩
def psz : Pa → Nat
  | .of x => sz x
  | .lp x => sz x + 1
  | .ph x => sz x + 1
def pre' : Pa → T57
  | .of x => x
  | .lp x => x
  | .ph x => x
def pss : List Pa → Nat
  | [] => 0
  | p :: ps => psz p + pss ps
theorem pss_append : ∀ a b : List Pa, pss (a ++ b) = pss a + pss b
  | [], b => by simp [pss]
  | p :: a, b => by rw [List.cons_append, pss, pss, pss_append a b]; omega
theorem pss_rep (p : Pa) : ∀ n : Nat, pss (List.replicate n p) = n * psz p
  | 0 => by simp [pss]
  | n + 1 => by rw [List.replicate_succ, pss, pss_rep p n, Nat.succ_mul]; omega
theorem pss_map : ∀ L : List T57, pss (L.map Pa.of) = szs L
  | [] => rfl
  | x :: L => by rw [List.map_cons, pss, pss_map L, szs]; rfl
theorem psz_pos (p : Pa) : 1 ≤ psz p := by cases p <;> simp [psz] <;> exact sz_pos _
theorem pss_len : ∀ l : List Pa, l.length ≤ pss l
  | [] => by simp
  | p :: l => by have := pss_len l; have := psz_pos p; rw [pss]; simp; omega
theorem put_ok (w : List T45) (x : T45) (h : w.length ≤ 10000) : M.prog_writer_put w x = some ((w.length : Int), w ++ [x]) := by
  have e : ((w ++ [x]).length : Int) = (w.length : Int) + 1 := by simp
  rw [M.prog_writer_put, e, if_pos (by omega), wr_i64 (by omega) (by omega), show (w.length : Int) + 1 - 1 = w.length by omega]
theorem code_ok (d : Nat) : ∀ (r : T57) (w : List T45) (next : Nat), Rt d r → nd r ≤ 4096 → w.length + sz r ≤ 4200 → next ≤ 9000 → ∃ c, Cd r w.length next c ∧ c.length = sz r ∧ M.prog_writer_code (w, r, (next : Int)) = some (w ++ c) := by
  induction d with
  | zero => intro r w next h; exact absurd h id
  | succ d ih =>
    intro r w next hr hn hw hnext
    have hn' := hn
    rw [nd_eq] at hn'
    have hll := nds_len r.L
    -- a row of parts
    have part : ∀ (p : Pa) (w : List T45) (to : Nat) (P : List T108) (P2 : List T108) (len i : Int), Rt d (pre' p) → nd (pre' p) ≤ 4096 → w.length + psz p ≤ 4200 → to ≤ 9000 →
        ∃ c, Pc p next w.length to c ∧ c.length = psz p ∧ M.prog_writer_row_l1 (P, (next : Int), tp next p, (to : Int), P2, len, i, w) = M.prog_writer_row_l0 (P, (next : Int), P2, len, wr .i64 (i + 1), w ++ c) := by
      intro p w to P P2 len i h1 h2 h3 h4
      cases p with
      | of x =>
        obtain ⟨c, k1, k2, k3⟩ := ih x w to h1 h2 h3 h4
        refine ⟨c, .of k1, k2, ?_⟩
        rw [M.prog_writer_row_l1]
        show (M.prog_writer_of_1 ((to : Int), w, x) >>= fun y60 => M.prog_writer_row_l2 (P, (next : Int), P2, len, i, y60)) = _
        rw [M.prog_writer_of_1]; try dsimp only
        rw [k3]
        rw [bnd, bnd, M.prog_writer_row_l2]
      | lp x =>
        simp only [psz] at h3
        obtain ⟨c, k1, k2, k3⟩ := ih x (w ++ [⟨2, Z4, ((w.length + 1 : Nat) : Int), (to : Int)⟩]) w.length h1 h2 (by simp; omega) (by omega)
        rw [List.length_append] at k1
        refine ⟨_, .lp k1, by simp [psz, k2], ?_⟩
        rw [M.prog_writer_row_l1]
        show (M.prog_writer_loop_1 ((to : Int), w, x) >>= fun y60 => M.prog_writer_row_l2 (P, (next : Int), P2, len, i, y60)) = _
        rw [M.prog_writer_loop_1]; try dsimp only
        rw [wr_i64 (by omega) (by omega), put_ok w _ (by omega), bnd]; try dsimp only
        rw [show (w.length : Int) + 1 = ((w.length + 1 : Nat) : Int) by push_cast; rfl, show ([0, 0, 0, 0] : List Int) = Z4 from rfl, k3]
        rw [bnd, bnd, M.prog_writer_row_l2]
        rw [List.append_assoc]
        rfl
      | ph x =>
        simp only [psz] at h3
        obtain ⟨c, k1, k2, k3⟩ := ih x (w ++ [⟨2, Z4, ((w.length + 1 : Nat) : Int), (next : Int)⟩]) to h1 h2 (by simp; omega) h4
        rw [List.length_append] at k1
        refine ⟨_, .ph k1, by simp [psz, k2], ?_⟩
        rw [M.prog_writer_row_l1]
        show (M.prog_writer_perhaps_1 ((to : Int), w, (next : Int), x) >>= fun y60 => M.prog_writer_row_l2 (P, (next : Int), P2, len, i, y60)) = _
        rw [M.prog_writer_perhaps_1]; try dsimp only
        rw [wr_i64 (by omega) (by omega), put_ok w _ (by omega), bnd]; try dsimp only
        rw [show (w.length : Int) + 1 = ((w.length + 1 : Nat) : Int) by push_cast; rfl, show ([0, 0, 0, 0] : List Int) = Z4 from rfl, k3]
        rw [bnd, bnd, M.prog_writer_row_l2]
        rw [List.append_assoc]
        rfl
    have row : ∀ (ps pre : List Pa) (w : List T45), ps ≠ [] → (∀ p ∈ ps, Rt d (pre' p) ∧ nd (pre' p) ≤ 4096) → (pre ++ ps).length ≤ 5000 → w.length + pss ps ≤ 4200 →
        ∃ c, Row ps next w.length next c ∧ c.length = pss ps ∧ M.prog_writer_row_l0 ((pre ++ ps).map (tp next), (next : Int), (pre ++ ps).map (tp next), (((pre ++ ps).map (tp next)).length : Int), (pre.length : Int), w) = some (w ++ c) := by
      intro ps
      induction ps with
      | nil => intro pre w h; exact absurd rfl h
      | cons p ps ihp =>
        intro pre w _ hp hlen hw
        have hl : ((pre ++ p :: ps).map (tp next)).length = pre.length + (ps.length + 1) := by simp
        have hlen' : pre.length + (ps.length + 1) ≤ 5000 := by simpa using hlen
        have hg : gi ((pre ++ p :: ps).map (tp next)) (pre.length : Int) = tp next p := by
          rw [List.map_append, List.map_cons, show (pre.length : Int) = ((pre.map (tp next)).length : Int) by simp]
          exact gi_mid _ _ _
        rw [M.prog_writer_row_l0]; try dsimp only
        rw [hl, if_pos (by omega), if_pos (by omega), if_pos (by omega), wr_i64 (x := ((pre.length + (ps.length + 1) : Nat) : Int) - 1) (by omega) (by omega), hg]
        obtain ⟨p1, p2⟩ := hp p (by simp)
        cases ps with
        | nil =>
          rw [if_neg (by simp)]
          obtain ⟨c, k1, k2, k3⟩ := part p w next _ ((pre ++ [p]).map (tp next)) ((pre.length + (([] : List Pa).length + 1) : Nat) : Int) (pre.length : Int) p1 p2 (by simpa [pss] using hw) hnext
          refine ⟨c, .last k1, by simpa [pss] using k2, ?_⟩
          rw [k3, M.prog_writer_row_l0]; try dsimp only
          rw [wr_i64 (by omega) (by omega), if_neg (by simp)]
        | cons q ps =>
          rw [if_pos (by simp only [List.length_cons]; omega)]
          have hsz : psz p + pss (q :: ps) = pss (p :: q :: ps) := rfl
          have hn1 : (tp next p).n = (psz p : Int) := by
            have : psz p ≤ 4200 := by omega
            cases p <;> simp only [tp, psz] at this ⊢ <;> omega
          rw [hn1, wr_i64 (x := (w.length : Int) + (psz p : Int)) (by omega) (by omega), show (w.length : Int) + (psz p : Int) = ((w.length + psz p : Nat) : Int) by push_cast; rfl]
          obtain ⟨c, k1, k2, k3⟩ := part p w (w.length + psz p) ((pre ++ p :: q :: ps).map (tp next)) ((pre ++ p :: q :: ps).map (tp next)) ((pre.length + ((q :: ps).length + 1) : Nat) : Int) (pre.length : Int) p1 p2 (by omega) (by omega)
          rw [k3]
          obtain ⟨e, g1, g2, g3⟩ := ihp (pre ++ [p]) (w ++ c) (by simp) (fun z hz => hp z (by simp [hz])) (by simpa using hlen) (by rw [List.length_append, k2]; omega)
          rw [List.length_append, k2] at g1
          refine ⟨c ++ e, .cons (by rw [k2]; exact k1) (by rw [k2]; exact g1), by rw [List.length_append, k2, g2, hsz], ?_⟩
          rw [wr_i64 (by omega) (by omega)]
          rw [show (pre ++ [p]) ++ q :: ps = pre ++ p :: q :: ps by simp, hl, show (((pre ++ [p]).length : Nat) : Int) = (pre.length : Int) + 1 by simp] at g3
          rw [g3, List.append_assoc]
    have rowp : ∀ (ps : List Pa), ps ≠ [] → (∀ p ∈ ps, Rt d (pre' p) ∧ nd (pre' p) ≤ 4096) → pss ps ≤ sz r →
        ∃ c, Row ps next w.length next c ∧ c.length = pss ps ∧ M.prog_writer_code_l1 ((next : Int), ps.map (tp next), w) = some (w ++ c) := by
      intro ps h0 hp hs
      have hl := pss_len ps
      obtain ⟨c, k1, k2, k3⟩ := row ps [] w h0 hp (by simp; omega) (by omega)
      refine ⟨c, k1, k2, ?_⟩
      have hne : ps.length ≠ 0 := fun h => h0 (List.length_eq_zero_iff.1 h)
      rw [M.prog_writer_code_l1]; try dsimp only
      rw [if_neg (by rw [List.length_map]; omega), M.prog_writer_row]; try dsimp only
      rw [List.nil_append] at k3
      have k3' : M.prog_writer_row_l0 (ps.map (tp next), (next : Int), ps.map (tp next), ((ps.map (tp next)).length : Int), 0, w) = some (w ++ c) := k3
      rw [k3', bnd]
    have row0 : ∀ w : List T45, M.prog_writer_row (w, [], (next : Int)) = some w := by
      intro w
      rw [M.prog_writer_row]; try dsimp only
      rw [M.prog_writer_row_l0]; try dsimp only
      rw [if_neg (by simp)]
    have hof : ∀ (w : List T45) (x : T57), Rt d x → nd x ≤ 4096 → M.prog_writer_of w x = some (tp next (.of x)) := by
      intro w x h1 h2
      rw [M.prog_writer_of, size_ok d x h1 h2, bnd]
      rfl
    rw [M.prog_writer_code]; try dsimp only
    rcases hr.1 with ⟨h1, hL, hmn, hmx⟩ | ⟨hk, hS, hmn, hmx⟩ | ⟨h4, ⟨x, hL⟩, hS, g0, g1, g2⟩
    · -- a set
      rw [if_pos h1, put_ok w _ (by omega), bnd]
      refine ⟨_, ?_, ?_, rfl⟩
      · have := @Cd.set r.Set r.L r.Min r.Max w.length next
        rw [← h1, eta57] at this
        rw [← h1]
        exact this
      · rw [sz_eq, if_neg (by omega), if_neg (by omega), if_neg (by omega)]; rfl
    · rcases hk with h2 | h3
      · -- all
        rw [if_neg (by omega), if_neg (by omega), if_pos h2, M.prog_writer_code_l0]; try dsimp only
        have hsz : sz r = max 1 (szs r.L) := by rw [sz_eq, if_neg (by omega), if_pos h2]
        cases hL : r.L with
        | nil =>
          rw [if_neg (by simp), M.prog_writer_code_l2]; try dsimp only
          rw [put_ok w _ (by omega), bnd]; try dsimp only
          rw [row0, bnd]
          refine ⟨_, ?_, ?_, rfl⟩
          · have := @Cd.void r.Set r.Min r.Max w.length next
            rw [← hL, ← h2, eta57] at this
            exact this
          · rw [hsz, hL]; simp [szs]
        | cons x L =>
          have hx : x ∈ r.L := by rw [hL]; simp
          have hlen : r.L.length = L.length + 1 := by rw [hL]; simp
          rw [← hL, if_pos (by omega), if_pos (by omega), if_pos (by omega), show gi r.L 0 = x by rw [hL]; rfl, eta57, hof w x (hr.2.2 x hx) (by have := nd_mem hx; omega), bnd, if_pos (by simp), wr_i64 (by omega) (by omega)]
          have loop : ∀ (R pre : List T57), r.L = pre ++ R → M.prog_writer_code_l3 ((next : Int), pre.map (fun x => tp next (.of x)), r.L, (r.L.length : Int), (pre.length : Int), w) = M.prog_writer_code_l1 ((next : Int), (r.L.map Pa.of).map (tp next), w) := by
            intro R
            induction R with
            | nil =>
              intro pre e
              rw [M.prog_writer_code_l3]; try dsimp only
              rw [if_neg (by rw [e]; simp)]
              rw [e, List.append_nil, List.map_map]
              rfl
            | cons y R ihR =>
              intro pre e
              have hy : y ∈ r.L := by rw [e]; simp
              have hlen2 : r.L.length = pre.length + (R.length + 1) := by rw [e]; simp
              rw [M.prog_writer_code_l3]; try dsimp only
              rw [if_pos (by omega), if_pos (by omega), if_pos (by omega), show gi r.L (pre.length : Int) = y by rw [e]; exact gi_mid pre y R, eta57, hof w y (hr.2.2 y hy) (by have := nd_mem hy; omega), bnd, if_pos (by simp; omega), wr_i64 (by omega) (by omega)]
              have := ihR (pre ++ [y]) (by rw [e]; simp)
              rw [List.map_append, show (((pre ++ [y]).length : Nat) : Int) = (pre.length : Int) + 1 by simp] at this
              exact this
          have hl := loop L [x] (by rw [hL]; rfl)
          have hl' : M.prog_writer_code_l3 ((next : Int), [tp next (.of x)], r.L, (r.L.length : Int), 0 + 1, w) = M.prog_writer_code_l1 ((next : Int), (r.L.map Pa.of).map (tp next), w) := hl
          rw [hl']
          obtain ⟨c, k1, k2, k3⟩ := rowp (r.L.map Pa.of) (by rw [hL]; simp) (by
            intro p hp
            obtain ⟨y, hy, rfl⟩ := List.mem_map.1 hp
            exact ⟨hr.2.2 y hy, by have := nd_mem hy; simp only [pre']; omega⟩) (by rw [pss_map, hsz]; omega)
          refine ⟨c, ?_, by rw [k2, pss_map, hsz]; have := szs_len r.L; omega, k3⟩
          rw [hL] at k1
          have := @Cd.all r.Set x L r.Min r.Max w.length next c k1
          rw [← hL, ← h2, eta57] at this
          exact this
      · -- one of some
        rw [if_neg (by omega), if_pos h3, M.prog_writer_any]; try dsimp only
        have hsz : sz r = max 1 ((r.L.length - 1) + szs r.L) := by rw [sz_eq, if_pos h3]
        by_cases hne : r.L = []
        · rw [hne, M.prog_writer_any_l0]; try dsimp only
          rw [if_neg (by simp), if_pos (by simp), put_ok w _ (by omega), bnd, bnd]
          refine ⟨_, ?_, ?_, rfl⟩
          · have := @Cd.none r.Set r.Min r.Max w.length next
            rw [← hne, ← h3, eta57] at this
            exact this
          · rw [hsz, hne]; simp [szs]
        · have loop : ∀ (L pre : List T57) (w : List T45), r.L = pre ++ L → L ≠ [] → w.length + ((L.length - 1) + szs L) ≤ 4200 → ∃ c, An L w.length next c ∧ c.length = (L.length - 1) + szs L ∧
              M.prog_writer_any_l0 (r.L, (next : Int), r.L, (r.L.length : Int), (pre.length : Int), w) = some (w ++ c) := by
            intro L
            induction L with
            | nil => intro pre w e h; exact absurd rfl h
            | cons y L ihL =>
              intro pre w e _ hw
              have hy : y ∈ r.L := by rw [e]; simp
              have hlen2 : r.L.length = pre.length + (L.length + 1) := by rw [e]; simp
              have hny := nd_mem hy
              rw [szs, List.length_cons] at hw
              rw [M.prog_writer_any_l0]; try dsimp only
              rw [if_pos (by omega), if_pos (by omega), if_pos (by omega), wr_i64 (x := (r.L.length : Int) - 1) (by omega) (by omega), show gi r.L (pre.length : Int) = y by rw [e]; exact gi_mid pre y L, eta57]
              cases L with
              | nil =>
                rw [if_neg (by simp at hlen2; omega), M.prog_writer_any_l1]; try dsimp only
                obtain ⟨c, k1, k2, k3⟩ := ih y w next (hr.2.2 y hy) (by omega) (by omega) hnext
                rw [k3, bnd, wr_i64 (by omega) (by omega), M.prog_writer_any_l0]; try dsimp only
                rw [if_neg (by simp at hlen2; omega), if_neg (by omega)]
                exact ⟨c, .one k1, by simp [szs, k2], rfl⟩
              | cons q L =>
                rw [List.length_cons] at hlen2 hw
                have hq := szs_len (q :: L)
                rw [if_pos (by omega), size_ok d y (hr.2.2 y hy) (by omega), bnd, show min 1048576 (sz y) = sz y by omega, wr_i64 (x := (w.length : Int) + 1) (by omega) (by omega), wr_i64 (x := (w.length : Int) + 1 + _) (by omega) (by omega), put_ok w _ (by omega), bnd]; try dsimp only
                rw [M.prog_writer_any_l1]; try dsimp only
                rw [show (w.length : Int) + 1 + (sz y : Int) = ((w.length + 1 + sz y : Nat) : Int) by push_cast; rfl, show (w.length : Int) + 1 = ((w.length + 1 : Nat) : Int) by push_cast; rfl, show ([0, 0, 0, 0] : List Int) = Z4 from rfl]
                obtain ⟨c, k1, k2, k3⟩ := ih y (w ++ [⟨2, Z4, ((w.length + 1 : Nat) : Int), ((w.length + 1 + sz y : Nat) : Int)⟩]) next (hr.2.2 y hy) (by omega) (by simp; omega) hnext
                rw [List.length_append] at k1
                rw [k3, bnd, wr_i64 (by omega) (by omega)]
                obtain ⟨f, g1, g2, g3⟩ := ihL (pre ++ [y]) ((w ++ [⟨2, Z4, ((w.length + 1 : Nat) : Int), ((w.length + 1 + sz y : Nat) : Int)⟩]) ++ c) (by rw [e]; simp) (by simp) (by simp only [List.length_append, List.length_cons, List.length_nil, k2]; omega)
                rw [show (((pre ++ [y]).length : Nat) : Int) = (pre.length : Int) + 1 by simp] at g3
                rw [g3]
                simp only [List.length_append, List.length_cons, List.length_nil, k2] at g1
                refine ⟨_, .more k1 (by rw [k2]; simpa using g1), ?_, ?_⟩
                · simp only [List.length_append, List.length_cons, k2, g2, szs]; omega
                · rw [k2]; simp
          obtain ⟨c, k1, k2, k3⟩ := loop r.L [] w rfl hne (by rw [hsz] at hw; omega)
          have k3' : M.prog_writer_any_l0 (r.L, (next : Int), r.L, (r.L.length : Int), 0, w) = some (w ++ c) := k3
          rw [k3', bnd]
          refine ⟨c, ?_, by rw [k2, hsz]; have := szs_len r.L; have : r.L.length ≠ 0 := fun h => hne (List.length_eq_zero_iff.1 h); omega, rfl⟩
          cases hL : r.L with
          | nil => exact absurd hL hne
          | cons x L =>
            rw [hL] at k1
            have := @Cd.any r.Set x L r.Min r.Max w.length next c k1
            rw [← hL, ← h3, eta57] at this
            exact this
    · -- times
      have hx : x ∈ r.L := by rw [hL]; simp
      have hrx := hr.2.2 x hx
      have hnx : nd x ≤ 4096 := by have := nd_mem hx; omega
      obtain ⟨m, hm⟩ := Int.eq_ofNat_of_zero_le g0
      have hph : ∀ w, M.prog_writer_perhaps w x (next : Int) = some (tp next (.ph x)) := by
        intro w
        rw [M.prog_writer_perhaps, size_ok d x hrx hnx, bnd, wr_i64 (by omega) (by omega)]
        rfl
      have hlp : ∀ w, M.prog_writer_loop w x = some (tp next (.lp x)) := by
        intro w
        rw [M.prog_writer_loop, size_ok d x hrx hnx, bnd, wr_i64 (by omega) (by omega)]
        rfl
      have l3 : ∀ (n j : Nat) (acc : List T108), j + n ≤ 100 → acc.length ≤ 5000 + j → M.prog_writer_times_l3 ((next : Int), acc, x, ((j + n : Nat) : Int), (j : Int), w) = some (acc ++ List.replicate n (tp next (.ph x))) := by
        intro n
        induction n with
        | zero =>
          intro j acc h1 h2
          rw [M.prog_writer_times_l3]; try dsimp only
          rw [if_neg (by omega)]; simp
        | succ n ihn =>
          intro j acc h1 h2
          rw [M.prog_writer_times_l3]; try dsimp only
          rw [if_pos (by omega), hph, bnd, if_pos (by simp; omega), wr_i64 (by omega) (by omega), show (j : Int) + 1 = ((j + 1 : Nat) : Int) by push_cast; rfl, show j + (n + 1) = j + 1 + n by omega, ihn (j + 1) _ (by omega) (by simp; omega), List.replicate_succ, List.append_assoc]
          rfl
      have l2 : ∀ n : Nat, n ≤ 100 → M.prog_writer_times_l2 ((next : Int), x, (n : Int), 0, w) = some (List.replicate n (tp next (.ph x))) := by
        intro n h1
        rw [M.prog_writer_times_l2]; try dsimp only
        cases n with
        | zero => rw [if_neg (by omega)]; rfl
        | succ n =>
          rw [if_pos (by omega), hph, bnd, if_pos (by simp), wr_i64 (by omega) (by omega), show (0 : Int) + 1 = ((1 : Nat) : Int) from rfl, show n + 1 = 1 + n by omega, l3 n 1 _ (by omega) (by simp)]
          rw [show 1 + n = n + 1 by omega, List.replicate_succ]
          rfl
      -- what is behind those that must be
      obtain ⟨tail, htail, l1, l0⟩ : ∃ tail : List Pa, (tail = if r.Max < 0 then [Pa.lp x] else List.replicate (r.Max - (m : Int)).toNat (Pa.ph x)) ∧
          (∀ (n j : Nat) (acc : List T108), j + n = m → acc.length ≤ 1000 + j → M.prog_writer_times_l1 ((next : Int), r, acc, x, (m : Int), (j : Int), w) = some (acc ++ (List.replicate n (Pa.of x) ++ tail).map (tp next))) ∧
          M.prog_writer_times_l0 ((next : Int), r, x, (m : Int), 0, w) = some ((List.replicate m (Pa.of x) ++ tail).map (tp next)) := by
        refine ⟨_, rfl, ?_⟩
        have l1 : ∀ (n j : Nat) (acc : List T108), j + n = m → acc.length ≤ 1000 + j → M.prog_writer_times_l1 ((next : Int), r, acc, x, (m : Int), (j : Int), w) = some (acc ++ (List.replicate n (Pa.of x) ++ (if r.Max < 0 then [Pa.lp x] else List.replicate (r.Max - (m : Int)).toNat (Pa.ph x))).map (tp next)) := by
          intro n
          induction n with
          | zero =>
            intro j acc h1 h2
            rw [M.prog_writer_times_l1]; try dsimp only
            rw [if_neg (by omega)]
            by_cases hmx : r.Max < 0
            · rw [if_pos hmx, if_pos hmx, hlp, bnd, if_pos (by simp; omega)]; rfl
            · rw [if_neg hmx, if_neg hmx]
              obtain ⟨k, hk⟩ := Int.eq_ofNat_of_zero_le (show 0 ≤ r.Max - (m : Int) by rcases g2 with h | h <;> omega)
              have hk2 : k ≤ 64 := by rcases g2 with h | h <;> omega
              rw [hm, hk, wr_i64 (by omega) (by omega), Int.toNat_natCast]
              have := l3 k 0 acc (by omega) (by omega)
              rw [Nat.zero_add] at this
              have this' : M.prog_writer_times_l3 ((next : Int), acc, x, (k : Int), 0, w) = some (acc ++ List.replicate k (tp next (.ph x))) := this
              rw [this']
              simp
          | succ n ihn =>
            intro j acc h1 h2
            rw [M.prog_writer_times_l1]; try dsimp only
            rw [if_pos (by omega), hof w x hrx hnx, bnd, if_pos (by simp; omega), wr_i64 (by omega) (by omega), show (j : Int) + 1 = ((j + 1 : Nat) : Int) by push_cast; rfl, ihn (j + 1) _ (by omega) (by simp; omega)]
            rw [List.replicate_succ, List.append_assoc]
            rfl
        refine ⟨l1, ?_⟩
        rw [M.prog_writer_times_l0]; try dsimp only
        cases hm0 : m with
        | zero =>
          rw [if_neg (by omega)]
          by_cases hmx : r.Max < 0
          · rw [if_pos hmx, if_pos hmx, hlp, bnd, if_pos (by simp)]; rfl
          · rw [if_neg hmx, if_neg hmx]
            obtain ⟨k, hk⟩ := Int.eq_ofNat_of_zero_le (show 0 ≤ r.Max - (m : Int) by rcases g2 with h | h <;> omega)
            have hk2 : k ≤ 64 := by rcases g2 with h | h <;> omega
            rw [hm, ← hm0, hk, wr_i64 (by omega) (by omega), Int.toNat_natCast, l2 k (by omega), hm0]
            simp
        | succ n =>
          rw [if_pos (by omega), hof w x hrx hnx, bnd, if_pos (by simp), wr_i64 (by omega) (by omega)]
          have := l1 n 1 [tp next (.of x)] (by omega) (by simp)
          rw [hm0] at this
          have this' : M.prog_writer_times_l1 ((next : Int), r, [tp next (.of x)], x, ((n + 1 : Nat) : Int), 0 + 1, w) = _ := this
          rw [this', List.replicate_succ]
          rfl
      rw [if_neg (by omega), if_neg (by omega), if_neg (by omega), if_pos h4, M.prog_writer_times, if_pos (by rw [hL]; simp), show gi r.L 0 = x by rw [hL]; rfl, eta57, hm, l0, bnd]
      have hsz : sz r = max 1 (if r.Max < 0 then m * sz x + (sz x + 1) else m * sz x + (r.Max - (m : Int)).toNat * (sz x + 1)) := by
        rw [sz_eq, if_neg (by omega), if_neg (by omega), if_pos h4, hm, hL, szh, Int.toNat_natCast]
      have hps : pss (List.replicate m (Pa.of x) ++ tail) = if r.Max < 0 then m * sz x + (sz x + 1) else m * sz x + (r.Max - (m : Int)).toNat * (sz x + 1) := by
        rw [pss_append, pss_rep, htail]
        by_cases hmx : r.Max < 0
        · rw [if_pos hmx, if_pos hmx]; rfl
        · rw [if_neg hmx, if_neg hmx, pss_rep]; rfl
      have hmem : ∀ p ∈ List.replicate m (Pa.of x) ++ tail, Rt d (pre' p) ∧ nd (pre' p) ≤ 4096 := by
        intro p hp
        have : pre' p = x := by
          rcases List.mem_append.1 hp with hp | hp
          · rw [List.eq_of_mem_replicate hp]; rfl
          · rw [htail] at hp
            split at hp
            · rw [List.mem_singleton.1 hp]; rfl
            · rw [List.eq_of_mem_replicate hp]; rfl
        rw [this]
        exact ⟨hrx, hnx⟩
      by_cases he : List.replicate m (Pa.of x) ++ tail = []
      · -- never
        have hl0 : (List.replicate m (Pa.of x) ++ tail).length = 0 := by rw [he]; rfl
        rw [List.length_append, List.length_replicate] at hl0
        have hm0 : m = 0 := by omega
        have hmx : ¬ r.Max < 0 := by
          intro h
          rw [htail, if_pos h] at hl0
          simp at hl0
        rw [htail, if_neg hmx, List.length_replicate] at hl0
        have hmax : r.Max = 0 := by rcases g2 with h | h <;> omega
        rw [he, List.map_nil, M.prog_writer_code_l1]; try dsimp only
        rw [if_pos (by simp), put_ok w _ (by omega), bnd]; try dsimp only
        rw [row0, bnd]
        refine ⟨_, ?_, ?_, rfl⟩
        · have := @Cd.never r.Set x w.length next
          have hmin : r.Min = 0 := by omega
          rw [← hL] at this
          have e : (⟨4, r.Set, r.L, 0, 0⟩ : T57) = r := by
            cases r
            simp only at h4 hmin hmax
            subst h4; subst hmin; subst hmax; rfl
          rw [e] at this
          exact this
        · rw [hsz, if_neg hmx, hm0, hmax]; simp
      · obtain ⟨c, k1, k2, k3⟩ := rowp _ he hmem (by rw [hps, hsz]; omega)
        rw [k3]
        have hpp := pss_len (List.replicate m (Pa.of x) ++ tail)
        have hnl : (List.replicate m (Pa.of x) ++ tail).length ≠ 0 := fun h => he (List.length_eq_zero_iff.1 h)
        refine ⟨c, ?_, by rw [k2, hps, hsz]; rw [hps] at hpp; omega, rfl⟩
        have e : (⟨4, r.Set, [x], (m : Int), r.Max⟩ : T57) = r := by
          rw [← hL, ← hm, ← h4, eta57]
        by_cases hmx : r.Max < 0
        · rw [htail, if_pos hmx] at k1
          have := @Cd.star r.Set x m r.Max w.length next c hmx k1
          rw [e] at this
          exact this
        · rw [htail, if_neg hmx] at k1 hnl
          rw [List.length_append, List.length_replicate, List.length_replicate] at hnl
          have := @Cd.times r.Set x m (r.Max - (m : Int)).toNat w.length next c (by omega) k1
          have e2 : ((m + (r.Max - (m : Int)).toNat : Nat) : Int) = r.Max := by rcases g2 with h | h <;> omega
          rw [e2, e] at this
          exact this
/-! ### Make -/
def fin' : T45 := ⟨3, Z4, 0, 0⟩
def Good (r : T57) : Prop := Rt 128 r ∧ nd r ≤ 4096 ∧ sz r + 1 ≤ 2048
theorem make_tot (r : T57) (hf : Fit 128 r) : (∃ e, e ≠ 0 ∧ M.prog_Make r = some ([], e) ∧ ¬ Good r) ∨ (Good r ∧ ∃ c, Cd r 0 (sz r) c ∧ c.length = sz r ∧ M.prog_Make r = some (c ++ [fin'], 0)) := by
  obtain ⟨b, h1, h2⟩ := check_tot r hf
  rw [M.prog_Make, M.prog_Count, h1, bnd]
  cases b with
  | false =>
    left
    refine ⟨2, by decide, by rw [if_neg (by decide), bnd]; rfl, fun h => ?_⟩
    have := h2.2 ⟨h.1, h.2.1⟩
    cases this
  | true =>
    obtain ⟨k1, k2⟩ := h2.1 rfl
    rw [if_pos rfl, size_ok 128 r k1 k2, bnd, bnd]; try dsimp only
    rw [if_pos rfl, wr_i64 (x := ((min 1048576 (sz r) : Nat) : Int) + 1) (by omega) (by omega)]
    by_cases hs : sz r + 1 ≤ 2048
    · right
      have e1 : imn 1048576 (((min 1048576 (sz r) : Nat) : Int) + 1) = ((sz r + 1 : Nat) : Int) := by
        simp only [imn]
        split <;> omega
      rw [e1, if_neg (by omega), wr_i64 (by omega) (by omega), show ((sz r + 1 : Nat) : Int) - 1 = (sz r : Int) by omega]
      obtain ⟨c, g1, g2, g3⟩ := code_ok 128 r [] (sz r) k1 k2 (by simp; omega) (by omega)
      refine ⟨⟨k1, k2, hs⟩, c, g1, g2, ?_⟩
      rw [g3, bnd, List.nil_append, put_ok c _ (by omega), bnd]
      rfl
    · left
      refine ⟨110, by decide, ?_, fun h => hs h.2.2⟩
      rw [if_pos (by simp only [imn]; split <;> omega)]
end Go.Proofs.YtemokppdnkiejaaGreat
