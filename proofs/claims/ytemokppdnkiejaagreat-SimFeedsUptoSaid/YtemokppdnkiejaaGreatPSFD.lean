/-
  A runner: where it stands, and what it accepts.
-/
import Derived.Test.YtemokppdnkiejaaGreatPSFC
set_option linter.unusedVariables false
set_option linter.unusedSimpArgs false
namespace Go.Proofs.YtemokppdnkiejaaGreat
open Go.Gx
/-! ### Programs that may be -/
def RI (N : Nat) (x : T45) : Prop := SetOk x.Set ∧ ((x.Op = 1 ∧ 0 ≤ x.X ∧ x.X < N ∧ x.Y = 0) ∨ (x.Op = 2 ∧ x.Set = Z4 ∧ 0 ≤ x.X ∧ x.X < N ∧ 0 ≤ x.Y ∧ x.Y < N) ∨ (x.Op = 4 ∧ x.Set = Z4 ∧ 0 ≤ x.X ∧ x.X < N ∧ x.Y = 0) ∨ (x.Op = 3 ∧ x.Set = Z4 ∧ x.X = 0 ∧ x.Y = 0))
theorem RI.split {N a b : Nat} (ha : a < N) (hb : b < N) : RI N ⟨2, Z4, (a : Int), (b : Int)⟩ := ⟨SetOk.Z4, .inr (.inl ⟨rfl, rfl, by simp, by simpa using ha, by simp, by simpa using hb⟩)⟩
theorem RI.jump {N a : Nat} (ha : a < N) : RI N ⟨4, Z4, (a : Int), 0⟩ := ⟨SetOk.Z4, .inr (.inr (.inl ⟨rfl, rfl, by simp, by simpa using ha, rfl⟩))⟩
theorem RI.byte {N a : Nat} {l : List Int} (hl : SetOk l) (ha : a < N) : RI N ⟨1, l, (a : Int), 0⟩ := ⟨hl, .inl ⟨rfl, by simp, by simpa using ha, rfl⟩⟩
def HR (r : T57) : Prop := ∃ d, Rt d r
theorem HR.set {r : T57} (h : HR r) : SetOk r.Set := by
  obtain ⟨d, h⟩ := h
  cases d with
  | zero => exact absurd h id
  | succ d => exact h.2.1
theorem HR.sub {r x : T57} (h : HR r) (hx : x ∈ r.L) : HR x := by
  obtain ⟨d, h⟩ := h
  cases d with
  | zero => exact absurd h id
  | succ d => exact ⟨d, h.2.2 x hx⟩
mutual
theorem Cd.ri {N : Nat} {r : T57} {a n : Nat} {c : List T45} : Cd r a n c → HR r → a + c.length < N → n < N → ∀ x ∈ c, RI N x
  | .set, hr, ha, hn, x, hx => by rw [List.mem_singleton.1 hx]; exact RI.byte hr.set hn
  | .all h, hr, ha, hn, x, hx => h.ri (fun p hp => by obtain ⟨y, hy, rfl⟩ := List.mem_map.1 hp; exact hr.sub hy) ha hn hn x hx
  | .void, hr, ha, hn, x, hx => by rw [List.mem_singleton.1 hx]; exact RI.jump hn
  | .any h, hr, ha, hn, x, hx => h.ri (fun y hy => hr.sub hy) ha hn x hx
  | .none, hr, ha, hn, x, hx => by rw [List.mem_singleton.1 hx]; exact RI.byte SetOk.Z4 hn
  | .star (x := y) _ h, hr, ha, hn, x, hx => h.ri (fun p hp => by
      have : pre' p = y := by
        rcases List.mem_append.1 hp with hp | hp
        · rw [List.eq_of_mem_replicate hp]; rfl
        · rw [List.mem_singleton.1 hp]; rfl
      rw [this]; exact hr.sub (by simp)) ha hn hn x hx
  | .times (x := y) _ h, hr, ha, hn, x, hx => h.ri (fun p hp => by
      have : pre' p = y := by
        rcases List.mem_append.1 hp with hp | hp
        · rw [List.eq_of_mem_replicate hp]; rfl
        · rw [List.eq_of_mem_replicate hp]; rfl
      rw [this]; exact hr.sub (by simp)) ha hn hn x hx
  | .never, hr, ha, hn, x, hx => by rw [List.mem_singleton.1 hx]; exact RI.jump hn
theorem An.ri {N : Nat} {L : List T57} {a n : Nat} {c : List T45} : An L a n c → (∀ y ∈ L, HR y) → a + c.length < N → n < N → ∀ x ∈ c, RI N x
  | .one h, hr, ha, hn, x, hx => h.ri (hr _ (by simp)) ha hn x hx
  | .more h hs, hr, ha, hn, x, hx => by
    simp only [List.length_cons, List.length_append] at ha
    rcases List.mem_cons.1 hx with rfl | hx
    · exact RI.split (by omega) (by omega)
    · rcases List.mem_append.1 hx with hx | hx
      · exact h.ri (hr _ (by simp)) (by omega) hn x hx
      · exact hs.ri (fun y hy => hr y (List.mem_cons_of_mem _ hy)) (by omega) hn x hx
theorem Row.ri {N : Nat} {ps : List Pa} {al a n : Nat} {c : List T45} : Row ps al a n c → (∀ p ∈ ps, HR (pre' p)) → a + c.length < N → n < N → al < N → ∀ x ∈ c, RI N x
  | .last h, hr, ha, hn, hal, x, hx => h.ri (hr _ (by simp)) ha hn hal x hx
  | .cons h hs, hr, ha, hn, hal, x, hx => by
    simp only [List.length_append] at ha
    rcases List.mem_append.1 hx with hx | hx
    · exact h.ri (hr _ (by simp)) (by omega) (by omega) hal x hx
    · exact hs.ri (fun y hy => hr y (List.mem_cons_of_mem _ hy)) (by omega) hn hal x hx
theorem Pc.ri {N : Nat} {p : Pa} {al a n : Nat} {c : List T45} : Pc p al a n c → HR (pre' p) → a + c.length < N → n < N → al < N → ∀ x ∈ c, RI N x
  | .of h, hr, ha, hn, hal, x, hx => h.ri hr ha hn x hx
  | .lp h, hr, ha, hn, hal, x, hx => by
    simp only [List.length_cons] at ha
    rcases List.mem_cons.1 hx with rfl | hx
    · exact RI.split (by omega) hn
    · exact h.ri hr (by omega) (by omega) x hx
  | .ph h, hr, ha, hn, hal, x, hx => by
    simp only [List.length_cons] at ha
    rcases List.mem_cons.1 hx with rfl | hx
    · exact RI.split (by omega) hal
    · exact h.ri hr (by omega) hn x hx
end
theorem eta88 (x : T45) : (⟨x.Op, x.Set, x.X, x.Y⟩ : T45) = x := by cases x; rfl
theorem right1_ok {n : Nat} {k : Int} (h0 : 0 ≤ k) (h1 : k < n) : M.prog_right_1 k (n : Int) = some true := by
  rw [M.prog_right_1, if_pos (by omega), decide_eq_true (by omega)]
theorem pright_ok {N : Nat} {x : T45} (h : RI N x) : M.prog_right x (N : Int) = some true := by
  rw [M.prog_right]
  rcases h.2 with ⟨h1, h2, h3, h4⟩ | ⟨h1, hs, h2, h3, h4, h5⟩ | ⟨h1, hs, h2, h3, h4⟩ | ⟨h1, hs, h2, h3⟩
  · rw [if_pos h1, right1_ok h2 h3, bnd, if_pos rfl, decide_eq_true h4]
  · rw [if_neg (by omega), if_pos h1, if_pos (show x.Set = [0, 0, 0, 0] from hs), right1_ok h2 h3, bnd, if_pos rfl, right1_ok h4 h5, bnd]
  · rw [if_neg (by omega), if_neg (by omega), if_pos h1, if_pos (show x.Set = [0, 0, 0, 0] from hs), right1_ok h2 h3, bnd, if_pos rfl, decide_eq_true h4]
  · rw [if_neg (by omega), if_neg (by omega), if_neg (by omega), if_pos h1, if_pos (show x.Set = [0, 0, 0, 0] from hs), if_pos h2, decide_eq_true h3]
theorem pcheck_ok {l : List T45} (h0 : l ≠ []) (h1 : l.length ≤ 2048) (h : ∀ x ∈ l, RI l.length x) : M.prog_Check l = some 0 := by
  have hne : l.length ≠ 0 := fun h => h0 (List.length_eq_zero_iff.1 h)
  have loop : ∀ (R pre : List T45), l = pre ++ R → M.prog_Check_l1 (l, l, (l.length : Int), (pre.length : Int)) = some 0 := by
    intro R
    induction R with
    | nil =>
      intro pre e
      rw [M.prog_Check_l1]; try dsimp only
      rw [if_neg (by rw [e]; simp)]
    | cons x R ih =>
      intro pre e
      have hlen : l.length = pre.length + (R.length + 1) := by rw [e]; simp
      rw [M.prog_Check_l1]; try dsimp only
      rw [if_pos (by omega), if_pos (by omega), if_pos (by omega), show gi l (pre.length : Int) = x by rw [e]; exact gi_mid pre x R, eta88, pright_ok (h x (by rw [e]; simp)), bnd, if_pos rfl, wr_i64 (by omega) (by omega)]
      have := ih (pre ++ [x]) (by rw [e]; simp)
      rw [show (((pre ++ [x]).length : Nat) : Int) = (pre.length : Int) + 1 by simp] at this
      exact this
  rw [M.prog_Check]; try dsimp only
  rw [if_neg (by omega), M.prog_Check_l0]; try dsimp only
  rw [decide_eq_false (by omega), if_neg (by decide)]
  exact loop l [] rfl
/-! ### Sets of numbers -/
structure IS (n : Nat) (s : T65) : Prop where
  len : s.place.length = n
  pos : ∀ x ∈ s.place, 0 ≤ x
  rng : ∀ x ∈ s.list, 0 ≤ x ∧ x < n
  at_ : ∀ i (h : i < s.list.length), gi s.place (s.list[i]) = (i : Int)
theorem pig : ∀ (n : Nat) (L : List Int), L.Nodup → (∀ x ∈ L, 0 ≤ x ∧ x < n) → L.length ≤ n
  | 0, L, _, h => by
    cases L with
    | nil => simp
    | cons x L => have := h x (by simp); omega
  | n + 1, L, hn, h => by
    by_cases hm : (n : Int) ∈ L
    · have := pig n (L.erase (n : Int)) (hn.erase _) (fun x hx => by
        have h1 := h x (List.mem_of_mem_erase hx)
        have h2 := (hn.mem_erase_iff.1 hx).1
        omega)
      rw [List.length_erase_of_mem hm] at this
      omega
    · have := pig n L hn (fun x hx => by
        have h1 := h x hx
        have h2 : x ≠ (n : Int) := fun e => hm (e ▸ hx)
        omega)
      omega
theorem IS.le {n : Nat} {s : T65} (h : IS n s) : s.list.length ≤ n := by
  -- places of what is in it are unlike
  have hn : s.list.Nodup := by
    rw [List.nodup_iff_pairwise_ne, List.pairwise_iff_getElem]
    intro i j hi hj hij he
    have h1 := h.at_ i hi
    have h2 := h.at_ j hj
    rw [he, h2] at h1
    omega
  exact pig n s.list hn h.rng
theorem gi_nat {α : Type} [Inhabited α] (l : List α) (i : Nat) (h : i < l.length) : gi l (i : Int) = l[i] := by
  simp [gi, h]
theorem gi_mem {α : Type} [Inhabited α] (l : List α) (x : Int) (h0 : 0 ≤ x) (h1 : x < l.length) : gi l x ∈ l := by
  have : x.toNat < l.length := by omega
  simp only [gi, List.getD_eq_getElem?_getD, List.getElem?_eq_getElem this, Option.getD_some]
  exact List.getElem_mem _
theorem has_ok {n : Nat} {s : T65} (h : IS n s) (x : Int) (h0 : 0 ≤ x) (h1 : x < n) : M.sim_state_has s x = some (decide (x ∈ s.list)) := by
  have hx : gi s.place x ∈ s.place := gi_mem _ _ h0 (by rw [h.len]; exact h1)
  have hp := h.pos _ hx
  rw [M.sim_state_has, if_pos h0, if_pos (by rw [h.len]; exact h1)]
  by_cases hk : gi s.place x < (s.list.length : Int)
  · rw [if_pos hk, if_pos hp]
    obtain ⟨k, hk'⟩ := Int.eq_ofNat_of_zero_le hp
    rw [hk'] at hk ⊢
    have hkl : k < s.list.length := by omega
    rw [gi_nat _ _ hkl]
    refine congrArg some ?_
    by_cases he : s.list[k] = x
    · rw [decide_eq_true he, decide_eq_true (he ▸ List.getElem_mem hkl)]
    · rw [decide_eq_false he, decide_eq_false]
      intro hm
      obtain ⟨i, hi, rfl⟩ := List.getElem_of_mem hm
      have := h.at_ i hi
      rw [hk'] at this
      have : k = i := by omega
      subst this
      exact he rfl
  · rw [if_neg hk]
    refine congrArg some (Eq.symm (decide_eq_false ?_))
    intro hm
    obtain ⟨i, hi, rfl⟩ := List.getElem_of_mem hm
    have := h.at_ i hi
    omega
theorem add_ok {n : Nat} {s : T65} (h : IS n s) (hn : n ≤ 10000) (x : Int) (h0 : 0 ≤ x) (h1 : x < n) : (x ∈ s.list ∧ M.sim_state_add s x = some (false, s)) ∨ (x ∉ s.list ∧ ∃ s', M.sim_state_add s x = some (true, s') ∧ IS n s' ∧ s'.list = s.list ++ [x]) := by
  rw [M.sim_state_add, has_ok h x h0 h1, bnd]
  have hle := h.le
  by_cases hm : x ∈ s.list
  · left
    rw [decide_eq_true hm, if_pos rfl]
    exact ⟨hm, rfl⟩
  · right
    rw [decide_eq_false hm, if_neg (by decide), if_pos h0, if_pos (by rw [h.len]; exact h1), if_pos (by simp; omega)]
    refine ⟨hm, _, rfl, ⟨by simp [si, h.len], ?_, ?_, ?_⟩, rfl⟩
    · intro y hy
      rcases List.mem_or_eq_of_mem_set hy with hy | rfl
      · exact h.pos y hy
      · omega
    · intro y hy
      rcases List.mem_append.1 hy with hy | hy
      · exact h.rng y hy
      · rw [List.mem_singleton.1 hy]; exact ⟨h0, h1⟩
    · intro i hi
      simp only [List.length_append, List.length_singleton] at hi
      have hxl : x.toNat < s.place.length := by rw [h.len]; omega
      by_cases hil : i < s.list.length
      · simp only [List.getElem_append_left hil]
        have hy := h.rng _ (List.getElem_mem hil)
        have hne : s.list[i] ≠ x := fun e => hm (e ▸ List.getElem_mem hil)
        have := h.at_ i hil
        simp only [gi, si, List.getD_eq_getElem?_getD] at this ⊢
        rw [List.getElem?_set_ne (by omega)]
        exact this
      · have : i = s.list.length := by omega
        subst this
        simp only [List.getElem_append_right (Nat.le_refl _), Nat.sub_self, List.getElem_cons_zero]
        simp only [gi, si, List.getD_eq_getElem?_getD, List.getElem?_set_self hxl]
        rfl
theorem clear_ok {n : Nat} {s : T65} (h : IS n s) : ∃ s', M.sim_state_clear s = some s' ∧ IS n s' ∧ s'.list = [] :=
  ⟨_, rfl, ⟨h.len, h.pos, by simp [sl], by simp [sl]⟩, by simp [sl]⟩
/-! ### What follows at once -/
inductive Er (l : List T45) : Int → Int → Prop
  | refl (k : Int) : Er l k k
  | step {k m j : Int} {x : T45} : gi l k = x → ((x.Op = 2 ∧ (m = x.X ∨ m = x.Y)) ∨ (x.Op = 4 ∧ m = x.X)) → Er l m j → Er l k j
def Cl (l : List T45) (A : List Int) : Prop := ∀ k ∈ A, ((gi l k).Op = 2 → (gi l k).X ∈ A ∧ (gi l k).Y ∈ A) ∧ ((gi l k).Op = 4 → (gi l k).X ∈ A)
def ClB (l : List T45) (B A : List Int) : Prop := ∀ k ∈ A, k ∉ B → ((gi l k).Op = 2 → (gi l k).X ∈ A ∧ (gi l k).Y ∈ A) ∧ ((gi l k).Op = 4 → (gi l k).X ∈ A)
section
variable {l : List T45} (hl : l.length ≤ 3000) (hri : ∀ x ∈ l, RI l.length x)
include hl hri
theorem stand_gen (F : (List Int) × T65 × T50 → Option T65)
    (hF : ∀ x6 e1v x0v, F (x6, e1v, x0v) = if (x6.length : Int) > 0 then
      if 0 ≤ wr .i64 ((x6.length : Int) - 1) then if wr .i64 ((x6.length : Int) - 1) < (x6.length : Int) then if wr .i64 ((x6.length : Int) - 1) ≤ (x6.length : Int) then
      M.sim_state_add e1v (gi x6 (wr .i64 ((x6.length : Int) - 1))) >>= fun y25 =>
      if y25.1 = true then
      if 0 ≤ gi x6 (wr .i64 ((x6.length : Int) - 1)) then if gi x6 (wr .i64 ((x6.length : Int) - 1)) < (x0v.l.length : Int) then
      some (gi x0v.l (gi x6 (wr .i64 ((x6.length : Int) - 1)))) >>= fun v35 =>
      if v35.Op = 2 then some ((sl x6 0 (wr .i64 ((x6.length : Int) - 1))) ++ [v35.Y]) >>= fun v49 => if (v49.length : Int) ≤ 1099511627776 then if ((v49 ++ [v35.X]).length : Int) ≤ 1099511627776 then F ((v49 ++ [v35.X]), y25.2, x0v) else none else none
      else if v35.Op = 4 then some ((sl x6 0 (wr .i64 ((x6.length : Int) - 1))) ++ [v35.X]) >>= fun v74 => if (v74.length : Int) ≤ 1099511627776 then F (v74, y25.2, x0v) else none
      else F ((sl x6 0 (wr .i64 ((x6.length : Int) - 1))), y25.2, x0v)
      else none else none
      else F ((sl x6 0 (wr .i64 ((x6.length : Int) - 1))), y25.2, x0v)
      else none else none else none else some e1v) (q : T50) (hq : q.l = l) :
    ∀ (fuel : Nat) (st : List Int) (s : T65), IS l.length s → (∀ k ∈ st, 0 ≤ k ∧ k < l.length) → 3 * (l.length - s.list.length) + st.length ≤ fuel → fuel ≤ 100000 →
      ∃ s', F (st, s, q) = some s' ∧ IS l.length s' ∧ (∀ k ∈ s.list, k ∈ s'.list) ∧ (∀ k ∈ st, k ∈ s'.list) ∧ (∀ k ∈ s'.list, k ∈ s.list ∨ ∃ j ∈ st, Er l j k) ∧ ClB l s.list s'.list := by
  intro fuel
  induction fuel with
  | zero =>
    intro st s hs hst hm hb
    have : st = [] := List.length_eq_zero_iff.1 (by omega)
    subst this
    refine ⟨s, ?_, hs, fun _ h => h, by simp, fun k hk => .inl hk, fun k hk hn => absurd hk hn⟩
    rw [hF]; simp
  | succ fuel ih =>
    intro st s hs hst hm hb
    rcases List.eq_nil_or_concat st with rfl | ⟨R, k, e0⟩
    · refine ⟨s, ?_, hs, fun _ h => h, by simp, fun k hk => .inl hk, fun k hk hn => absurd hk hn⟩
      rw [hF]; simp
    rw [List.concat_eq_append] at e0
    subst e0
    have e1 : (((R ++ [k]).length : Nat) : Int) = (R.length : Int) + 1 := by simp
    have hk := hst k (by simp)
    have hm2 : 3 * (l.length - s.list.length) + (R.length + 1) ≤ fuel + 1 := by simpa using hm
    have hg : gi (R ++ [k]) (R.length : Int) = k := gi_mid R k []
    have hsl : sl (R ++ [k]) 0 (R.length : Int) = R := by simp [sl]
    have hR : ∀ j ∈ R, 0 ≤ j ∧ j < l.length := fun j hj => hst j (by simp [hj])
    rw [hF, e1, if_pos (by omega), wr_i64 (by omega) (by omega), show (R.length : Int) + 1 - 1 = (R.length : Int) by omega, if_pos (by omega), if_pos (by omega), if_pos (by omega), hg, hsl]
    rcases add_ok hs (by omega) k hk.1 hk.2 with ⟨hin, e2⟩ | ⟨hnin, s1, e2, hs1, hl1⟩
    · rw [e2, bnd, if_neg (by simp)]
      obtain ⟨s', g1, g2, g3, g4, g5, g6⟩ := ih R s hs hR (by omega) (by omega)
      refine ⟨s', g1, g2, g3, fun j hj => ?_, fun j hj => ?_, g6⟩
      · rcases List.mem_append.1 hj with hj | hj
        · exact g4 j hj
        · rw [List.mem_singleton.1 hj]; exact g3 k hin
      · rcases g5 j hj with h | ⟨i, hi, h⟩
        · exact .inl h
        · exact .inr ⟨i, by simp [hi], h⟩
    · rw [e2, bnd, if_pos rfl, if_pos hk.1, hq, if_pos hk.2, bnd]
      have hle := hs1.le
      have hll : s1.list.length = s.list.length + 1 := by rw [hl1]; simp
      have hx := hri _ (gi_mem l k hk.1 hk.2)
      generalize hxx : gi l k = x at hx ⊢
      -- whatever lies on the pile then
      have fin : ∀ (T : List Int), (∀ j ∈ T, 0 ≤ j ∧ j < l.length) → T.length ≤ 2 → (∀ j ∈ T, (x.Op = 2 ∧ (j = x.X ∨ j = x.Y)) ∨ (x.Op = 4 ∧ j = x.X)) → ((x.Op = 2 → x.X ∈ T ∧ x.Y ∈ T) ∧ (x.Op = 4 → x.X ∈ T)) →
          ∃ s', F (R ++ T, s1, q) = some s' ∧ IS l.length s' ∧ (∀ k ∈ s.list, k ∈ s'.list) ∧ (∀ j ∈ R ++ [k], j ∈ s'.list) ∧ (∀ j ∈ s'.list, j ∈ s.list ∨ ∃ i ∈ R ++ [k], Er l i j) ∧ ClB l s.list s'.list := by
        intro T hT1 hT2 hT3 hT4
        obtain ⟨s', g1, g2, g3, g4, g5, g6⟩ := ih (R ++ T) s1 hs1 (fun j hj => by
          rcases List.mem_append.1 hj with hj | hj
          · exact hR j hj
          · exact hT1 j hj) (by rw [List.length_append]; omega) (by omega)
        have hks' : k ∈ s'.list := g3 k (by rw [hl1]; simp)
        refine ⟨s', g1, g2, fun j hj => g3 j (by rw [hl1]; simp [hj]), fun j hj => ?_, fun j hj => ?_, fun j hj hn => ?_⟩
        · rcases List.mem_append.1 hj with hj | hj
          · exact g4 j (by simp [hj])
          · rw [List.mem_singleton.1 hj]; exact hks'
        · rcases g5 j hj with h | ⟨i, hi, h⟩
          · rw [hl1] at h
            rcases List.mem_append.1 h with h | h
            · exact .inl h
            · rw [List.mem_singleton.1 h]; exact .inr ⟨k, by simp, .refl k⟩
          · rcases List.mem_append.1 hi with hi | hi
            · exact .inr ⟨i, by simp [hi], h⟩
            · exact .inr ⟨k, by simp, .step hxx (hT3 i hi) h⟩
        · by_cases hjk : j = k
          · subst hjk
            rw [hxx]
            exact ⟨fun h => ⟨g4 _ (by simp [(hT4.1 h).1]), g4 _ (by simp [(hT4.1 h).2])⟩, fun h => g4 _ (by simp [hT4.2 h])⟩
          · exact g6 j hj (by rw [hl1]; simp [hn, hjk])
      by_cases h2 : x.Op = 2
      · rcases hx.2 with h | ⟨_, _, b1, b2, b3, b4⟩ | h | h
        · omega
        · rw [if_pos h2, bnd, if_pos (by simp; omega), if_pos (by simp; omega), List.append_assoc]
          exact fin [x.Y, x.X] (fun j hj => by simp at hj; rcases hj with rfl | rfl <;> omega) (by simp) (fun j hj => .inl ⟨h2, by simp at hj; rcases hj with h | h <;> simp [h]⟩) ⟨fun _ => by simp, fun h => by omega⟩
        · omega
        · omega
      · rw [if_neg h2]
        by_cases h4 : x.Op = 4
        · rcases hx.2 with h | h | ⟨_, _, b1, b2, b3⟩ | h
          · omega
          · omega
          · rw [if_pos h4, bnd, if_pos (by simp; omega)]
            exact fin [x.X] (fun j hj => by rw [List.mem_singleton.1 hj]; omega) (by simp) (fun j hj => .inr ⟨h4, List.mem_singleton.1 hj⟩) ⟨fun h => by omega, fun _ => by simp⟩
          · omega
        · rw [if_neg h4]
          have := fin [] (by simp) (by simp) (by simp) ⟨fun h => absurd h h2, fun h => absurd h h4⟩
          rw [List.append_nil] at this
          exact this
theorem stand1_ok (q : T50) (hq : q.l = l) (k : Int) (hk : 0 ≤ k ∧ k < l.length) (hs : IS l.length q.now) :
    ∃ s', M.sim_Runner_stand q k = some s' ∧ IS l.length s' ∧ (∀ k ∈ q.now.list, k ∈ s'.list) ∧ k ∈ s'.list ∧ (∀ j ∈ s'.list, j ∈ q.now.list ∨ Er l k j) ∧ ClB l q.now.list s'.list := by
  obtain ⟨s', g1, g2, g3, g4, g5, g6⟩ := stand_gen hl hri M.sim_Runner_stand_l0 (fun _ _ _ => by rw [M.sim_Runner_stand_l0]) q hq 20000 [k] q.now hs (by simpa using hk) (by simp; omega) (by omega)
  refine ⟨s', ?_, g2, g3, g4 k (by simp), fun j hj => by simpa using g5 j hj, g6⟩
  rw [M.sim_Runner_stand]; exact g1
theorem stand2_ok (q : T50) (hq : q.l = l) (k : Int) (hk : 0 ≤ k ∧ k < l.length) (hs : IS l.length q.next) :
    ∃ s', M.sim_Runner_stand_2 q k = some s' ∧ IS l.length s' ∧ (∀ k ∈ q.next.list, k ∈ s'.list) ∧ k ∈ s'.list ∧ (∀ j ∈ s'.list, j ∈ q.next.list ∨ Er l k j) ∧ ClB l q.next.list s'.list := by
  obtain ⟨s', g1, g2, g3, g4, g5, g6⟩ := stand_gen hl hri M.sim_Runner_stand_2_l0 (fun _ _ _ => by rw [M.sim_Runner_stand_2_l0]) q hq 20000 [k] q.next hs (by simpa using hk) (by simp; omega) (by omega)
  refine ⟨s', ?_, g2, g3, g4 k (by simp), fun j hj => by simpa using g5 j hj, g6⟩
  rw [M.sim_Runner_stand_2]; exact g1
end
end Go.Proofs.YtemokppdnkiejaaGreat
