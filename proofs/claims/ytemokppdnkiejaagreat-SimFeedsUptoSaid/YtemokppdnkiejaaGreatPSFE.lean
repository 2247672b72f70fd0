/-
  What a program accepts is what its runner says; what a pattern means is what its program accepts.
-/
import Derived.Test.YtemokppdnkiejaaGreatPSFD
set_option linter.unusedVariables false
set_option linter.unusedSimpArgs false
set_option linter.unusedSectionVars false
namespace Go.Proofs.YtemokppdnkiejaaGreat
open Go.Gx
theorem bt_range (s : ByteArray) (i : Int) : 0 ≤ bt s i ∧ bt s i ≤ 255 := by
  unfold bt
  split
  · rename_i h
    have := (s[i.toNat]'h).toNat_lt
    omega
  · omega
theorem iquo64 {b : Int} (h0 : 0 ≤ b) (h1 : b ≤ 255) : iquo .u8 b 64 = b / 64 := by
  simp only [iquo]
  rw [Int.tdiv_eq_ediv_of_nonneg h0]
  simp only [IntKind.wrap, IntKind.signed, IntKind.bits]
  simp
  omega
theorem irem64 {b : Int} (h0 : 0 ≤ b) : irem .u8 b 64 = b % 64 := by
  simp only [irem]
  rw [Int.tmod_eq_emod_of_nonneg h0]
theorem has_tot (z : List Int) {b : Int} (h0 : 0 ≤ b) (h1 : b ≤ 255) : ∃ v, M.syntax_Has z b = some v := by
  rw [M.syntax_Has, iquo64 h0 h1, irem64 h0, if_pos (by omega), if_pos (by omega), if_pos (by omega)]
  exact ⟨_, rfl⟩
def AcS (l : List T45) (w : List Int) (k : Int) : Prop := ∃ m, Ac l m w k.toNat
theorem at_gi {l : List T45} {k : Int} {x : T45} (h : gi l k = x) (h0 : x.Op ≠ 0) : l[k.toNat]? = some x := by
  unfold gi at h
  rw [List.getD_eq_getElem?_getD] at h
  cases hx : l[k.toNat]? with
  | none =>
    rw [hx] at h
    exact absurd (by rw [← h]; rfl) h0
  | some y =>
    rw [hx] at h
    rw [← h]
    rfl
theorem gi_at {l : List T45} {k : Int} {x : T45} (h : l[k.toNat]? = some x) : gi l k = x := by
  unfold gi
  rw [List.getD_eq_getElem?_getD, h]
  rfl
theorem Er.ac {l : List T45} {w : List Int} {k j : Int} (h : Er l k j) (hj : AcS l w j) : AcS l w k := by
  induction h with
  | refl k => exact hj
  | step hx hs _ ih =>
    obtain ⟨m, hm⟩ := ih hj
    rename_i x _
    cases x with
    | mk op z x y =>
    rcases hs with ⟨h2, h | h⟩ | ⟨h4, h⟩
    · simp only at h2 h
      subst h2; subst h
      exact ⟨m + 1, .left (at_gi hx (by simp)) hm⟩
    · simp only at h2 h
      subst h2; subst h
      exact ⟨m + 1, .right (at_gi hx (by simp)) hm⟩
    · simp only at h4 h
      subst h4; subst h
      exact ⟨m + 1, .jump (at_gi hx (by simp)) hm⟩
theorem Cl.fin {l : List T45} {A : List Int} (hc : Cl l A) {m k' : Nat} {w : List Int} (h : Ac l m w k') : w = [] → ∀ k ∈ A, k.toNat = k' → ∃ j ∈ A, (gi l j).Op = 3 := by
  induction h with
  | fin e => intro _ k hk ek; subst ek; exact ⟨k, hk, by rw [gi_at e]⟩
  | byte => intro h; cases h
  | jump e _ ih => intro hw k hk ek; subst ek; exact ih hw _ (by have := (hc k hk).2; rw [gi_at e] at this; exact this rfl) rfl
  | left e _ ih => intro hw k hk ek; subst ek; exact ih hw _ (by have := (hc k hk).1; rw [gi_at e] at this; exact (this rfl).1) rfl
  | right e _ ih => intro hw k hk ek; subst ek; exact ih hw _ (by have := (hc k hk).1; rw [gi_at e] at this; exact (this rfl).2) rfl
theorem Cl.byte {l : List T45} {A A' : List Int} {b : Int} (hc : Cl l A) (h1 : ∀ k ∈ A, (gi l k).Op = 1 → Hs (gi l k).Set b → (gi l k).X ∈ A') {m k' : Nat} {w' : List Int} (h : Ac l m w' k') :
    ∀ w, w' = b :: w → ∀ k ∈ A, k.toNat = k' → ∃ j ∈ A', AcS l w j := by
  induction h with
  | fin e => intro w h; cases h
  | byte e hb ha _ =>
    intro w hw k hk ek
    subst ek
    simp only [List.cons.injEq] at hw
    obtain ⟨rfl, rfl⟩ := hw
    have := h1 k hk
    rw [gi_at e] at this
    exact ⟨_, this rfl hb, _, ha⟩
  | jump e _ ih => intro w hw k hk ek; subst ek; exact ih w hw _ (by have := (hc k hk).2; rw [gi_at e] at this; exact this rfl) rfl
  | left e _ ih => intro w hw k hk ek; subst ek; exact ih w hw _ (by have := (hc k hk).1; rw [gi_at e] at this; exact (this rfl).1) rfl
  | right e _ ih => intro w hw k hk ek; subst ek; exact ih w hw _ (by have := (hc k hk).1; rw [gi_at e] at this; exact (this rfl).2) rfl
def Q (l : List T45) (A u : List Int) : Prop := Cl l A ∧ ∀ w, (∃ k ∈ A, AcS l w k) ↔ AcS l (u ++ w) 0
structure RnOk (l : List T45) (q : T50) (u : List Int) : Prop where
  l_ : q.l = l
  now : IS l.length q.now
  next : IS l.length q.next
  q_ : Q l q.now.list u
theorem Q.step {l : List T45} {A A' u : List Int} {b : Int} (h : Q l A u) (hc : Cl l A') (h1 : ∀ k ∈ A, (gi l k).Op = 1 → Hs (gi l k).Set b → (gi l k).X ∈ A')
    (h2 : ∀ j ∈ A', ∃ k ∈ A, (gi l k).Op = 1 ∧ Hs (gi l k).Set b ∧ Er l (gi l k).X j) : Q l A' (u ++ [b]) := by
  refine ⟨hc, fun w => ?_⟩
  rw [List.append_assoc, List.singleton_append, ← h.2]
  constructor
  · rintro ⟨j, hj, ha⟩
    obtain ⟨k, hk, h3, h4, h5⟩ := h2 j hj
    refine ⟨k, hk, ?_⟩
    obtain ⟨m, hm⟩ := h5.ac ha
    generalize hx : gi l k = x at h3 h4 hm
    cases x with
    | mk op z x y =>
    simp only at h3 h4 hm
    subst h3
    exact ⟨m + 1, .byte (at_gi hx (by simp)) h4 hm⟩
  · rintro ⟨k, hk, m, ha⟩
    exact h.1.byte h1 ha w rfl k hk rfl
theorem Q.acc {l : List T45} {A u : List Int} (h : Q l A u) : (∃ k ∈ A, (gi l k).Op = 3) ↔ AcS l u 0 := by
  have := h.2 []
  rw [List.append_nil] at this
  rw [← this]
  constructor
  · rintro ⟨k, hk, h3⟩
    refine ⟨k, hk, 0, ?_⟩
    generalize hx : gi l k = x at h3
    cases x with
    | mk op z x y =>
    simp only at h3
    subst h3
    exact .fin (at_gi hx (by simp))
  · rintro ⟨k, hk, m, ha⟩
    exact h.1.fin ha rfl k hk rfl
section
variable {l : List T45} (hl : l.length ≤ 3000) (hri : ∀ x ∈ l, RI l.length x)
include hl hri
theorem led_ok (q : T50) (hq : q.l = l) (hnow : IS l.length q.now) (b : Int) (h0 : 0 ≤ b) (h1 : b ≤ 255) : ∀ (R pre : List Int) (s : T65), q.now.list = pre ++ R → IS l.length s → Cl l s.list →
    (∀ k ∈ pre, (gi l k).Op = 1 → Hs (gi l k).Set b → (gi l k).X ∈ s.list) → (∀ j ∈ s.list, ∃ k ∈ q.now.list, (gi l k).Op = 1 ∧ Hs (gi l k).Set b ∧ Er l (gi l k).X j) →
    ∃ s', M.sim_Runner_led_1_l0 ((q.now.list.length : Int), (pre.length : Int), s, q, b) = some s' ∧ IS l.length s' ∧ Cl l s'.list ∧
      (∀ k ∈ q.now.list, (gi l k).Op = 1 → Hs (gi l k).Set b → (gi l k).X ∈ s'.list) ∧ (∀ j ∈ s'.list, ∃ k ∈ q.now.list, (gi l k).Op = 1 ∧ Hs (gi l k).Set b ∧ Er l (gi l k).X j) := by
  intro R
  have hle := hnow.le
  induction R with
  | nil =>
    intro pre s e hs hc p1 p2
    refine ⟨s, ?_, hs, hc, ?_, p2⟩
    · rw [M.sim_Runner_led_1_l0]; try dsimp only
      rw [if_neg (by rw [e]; simp)]
    · rw [e, List.append_nil]; exact p1
  | cons k R ih =>
    intro pre s e hs hc p1 p2
    have hlen : q.now.list.length = pre.length + (R.length + 1) := by rw [e]; simp
    have hk : k ∈ q.now.list := by rw [e]; simp
    obtain ⟨k0, k1⟩ := hnow.rng k hk
    obtain ⟨v, hv⟩ := has_tot (gi l k).Set h0 h1
    have go : ∀ s1 : T65, IS l.length s1 → Cl l s1.list → (∀ j ∈ s.list, j ∈ s1.list) → ((gi l k).Op = 1 → Hs (gi l k).Set b → (gi l k).X ∈ s1.list) →
        (∀ j ∈ s1.list, j ∈ s.list ∨ ((gi l k).Op = 1 ∧ Hs (gi l k).Set b ∧ Er l (gi l k).X j)) →
        ∃ s', M.sim_Runner_led_1_l1 ((q.now.list.length : Int), (pre.length : Int), false, s1, q, b) = some s' ∧ IS l.length s' ∧ Cl l s'.list ∧
          (∀ k ∈ q.now.list, (gi l k).Op = 1 → Hs (gi l k).Set b → (gi l k).X ∈ s'.list) ∧ (∀ j ∈ s'.list, ∃ k ∈ q.now.list, (gi l k).Op = 1 ∧ Hs (gi l k).Set b ∧ Er l (gi l k).X j) := by
      intro s1 g1 g2 g3 g4 g5
      obtain ⟨s', r1, r2⟩ := ih (pre ++ [k]) s1 (by rw [e]; simp) g1 g2 (fun j hj ho hh => by
        rcases List.mem_append.1 hj with hj | hj
        · exact g3 _ (p1 j hj ho hh)
        · rw [List.mem_singleton.1 hj] at ho hh ⊢; exact g4 ho hh) (fun j hj => by
        rcases g5 j hj with h | h
        · exact p2 j h
        · exact ⟨k, hk, h⟩)
      refine ⟨s', ?_, r2⟩
      rw [show (((pre ++ [k]).length : Nat) : Int) = (pre.length : Int) + 1 by simp] at r1
      rw [M.sim_Runner_led_1_l1]; try dsimp only
      rw [if_neg (by decide), wr_i64 (by omega) (by omega)]
      exact r1
    rw [M.sim_Runner_led_1_l0]; try dsimp only
    rw [if_pos (by omega), if_pos (by omega), if_pos (by omega), show gi q.now.list (pre.length : Int) = k by rw [e]; exact gi_mid pre k R, if_pos k0, hq, if_pos k1]
    by_cases ho : (gi l k).Op = 1
    · rw [if_pos ho, hv, bnd]
      cases v with
      | true =>
        have hx := hri _ (gi_mem l k k0 k1)
        rw [if_pos rfl, M.sim_Runner_Feed_r]
        rcases hx.2 with ⟨_, b1, b2, _⟩ | h | h | h
        · obtain ⟨s1, g1, g2, g3, g4, g5, g6⟩ := stand2_ok hl hri ⟨l, q.now, s⟩ rfl (gi l k).X ⟨b1, b2⟩ hs
          rw [g1, bnd, bnd]
          refine go s1 g2 (fun j hj => ?_) g3 (fun _ _ => g4) (fun j hj => ?_)
          · by_cases hjs : j ∈ s.list
            · have := hc j hjs
              exact ⟨fun h => ⟨g3 _ (this.1 h).1, g3 _ (this.1 h).2⟩, fun h => g3 _ (this.2 h)⟩
            · exact g6 j hj hjs
          · rcases g5 j hj with h | h
            · exact .inl h
            · exact .inr ⟨ho, hv, h⟩
        · omega
        · omega
        · omega
      | false =>
        rw [if_neg (by decide)]
        refine go s hs hc (fun _ h => h) (fun _ h => ?_) (fun j hj => .inl hj)
        rw [Hs, hv] at h
        cases h
    · rw [if_neg ho]
      exact go s hs hc (fun _ h => h) (fun h => absurd h ho) (fun j hj => .inl hj)
theorem feed_ok (q : T50) (u : List Int) (h : RnOk l q u) (b : Int) (h0 : 0 ≤ b) (h1 : b ≤ 255) : ∃ s', M.sim_Runner_Feed q b = some (!(decide (s'.list = [])), q.l, s') ∧ RnOk l ⟨q.l, s', q.now⟩ (u ++ [b]) ∧ Cl l s'.list ∧
    (∀ k ∈ q.now.list, (gi l k).Op = 1 → Hs (gi l k).Set b → (gi l k).X ∈ s'.list) ∧ (∀ j ∈ s'.list, ∃ k ∈ q.now.list, (gi l k).Op = 1 ∧ Hs (gi l k).Set b ∧ Er l (gi l k).X j) := by
  obtain ⟨s0, c1, c2, c3⟩ := clear_ok h.next
  rw [M.sim_Runner_Feed]
  show ∃ q', (some () >>= _) = _ ∧ _
  rw [bnd, c1, bnd]
  show ∃ q', (some b >>= _) = _ ∧ _
  rw [bnd]
  obtain ⟨s', g1, g2, g3, g4, g5⟩ := led_ok hl hri ⟨q.l, q.now, s0⟩ h.l_ h.now b h0 h1 q.now.list [] s0 rfl c2 (by intro k hk; rw [c3] at hk; simp at hk) (by simp) (by intro j hj; rw [c3] at hj; simp at hj)
  have e : M.sim_Runner_led_1 ⟨q.l, q.now, s0⟩ b = some s' := by rw [M.sim_Runner_led_1]; exact g1
  rw [e, bnd]
  refine ⟨s', ?_, ⟨h.l_, g2, h.now, h.q_.step g3 g4 g5⟩, g3, g4, g5⟩
  show (some (decide ((s'.list.length : Int) = 0)) >>= _) = _
  rw [bnd]
  have : decide ((s'.list.length : Int) = 0) = decide (s'.list = []) := by
    by_cases hh : s'.list = []
    · rw [decide_eq_true hh, decide_eq_true (by rw [hh]; rfl)]
    · rw [decide_eq_false hh, decide_eq_false]
      intro h'
      exact hh (List.length_eq_zero_iff.1 (by omega))
  rw [this]
theorem accepts_at (q : T50) (u : List Int) (h : RnOk l q u) : ∃ b, M.sim_Runner_Accepts q = some b ∧ (b = true ↔ ∃ k ∈ q.now.list, (gi l k).Op = 3) := by
  have hle := h.now.le
  have loop : ∀ (R pre : List Int), q.now.list = pre ++ R → (∀ k ∈ pre, (gi l k).Op ≠ 3) → ∃ j, M.sim_state_3_l0 ((q.now.list.length : Int), (pre.length : Int), q.now.list, q.l, q.now.place, q.next) = some j ∧ (0 ≤ j ↔ ∃ k ∈ q.now.list, (gi l k).Op = 3) := by
    intro R
    induction R with
    | nil =>
      intro pre e hp
      refine ⟨-1, ?_, ⟨fun h => by omega, fun ⟨k, hk, h3⟩ => absurd h3 (hp k (by rw [e, List.append_nil] at hk; exact hk))⟩⟩
      rw [M.sim_state_3_l0]; try dsimp only
      rw [if_neg (by rw [e]; simp)]
    | cons k R ih =>
      intro pre e hp
      have hlen : q.now.list.length = pre.length + (R.length + 1) := by rw [e]; simp
      have hk : k ∈ q.now.list := by rw [e]; simp
      obtain ⟨k0, k1⟩ := h.now.rng k hk
      rw [M.sim_state_3_l0]; try dsimp only
      rw [if_pos (by omega), if_pos (by omega), if_pos (by omega), show gi q.now.list (pre.length : Int) = k by rw [e]; exact gi_mid pre k R, M.sim_Runner_Accepts_1, if_pos k0]
      rw [h.l_, if_pos k1, bnd]
      by_cases h3 : (gi l k).Op = 3
      · rw [decide_eq_true h3, if_pos rfl]
        exact ⟨_, rfl, ⟨fun _ => ⟨k, hk, h3⟩, fun _ => by omega⟩⟩
      · rw [decide_eq_false h3, if_neg (by decide), wr_i64 (by omega) (by omega)]
        have := ih (pre ++ [k]) (by rw [e]; simp) (fun j hj => by
          rcases List.mem_append.1 hj with hj | hj
          · exact hp j hj
          · rw [List.mem_singleton.1 hj]; exact h3)
        rw [show (((pre ++ [k]).length : Nat) : Int) = (pre.length : Int) + 1 by simp, h.l_] at this
        exact this
  obtain ⟨j, g1, g2⟩ := loop q.now.list [] rfl (by simp)
  refine ⟨decide (j ≥ 0), ?_, by simpa using g2⟩
  rw [M.sim_Runner_Accepts]
  show (some () >>= _) = _
  rw [bnd, M.sim_state_2, M.sim_state_3]
  have g1' : M.sim_state_3_l0 ((q.now.list.length : Int), 0, q.now.list, q.l, q.now.place, q.next) = some j := g1
  rw [g1', bnd, bnd]
theorem accepts_ok (q : T50) (u : List Int) (h : RnOk l q u) : ∃ b, M.sim_Runner_Accepts q = some b ∧ (b = true ↔ AcS l u 0) := by
  rw [← h.q_.acc]
  exact accepts_at hl hri q u h
theorem reset_ok (q : T50) (hq : q.l = l) (hn : IS l.length q.now) (h2 : 0 < l.length) : ∃ s', M.sim_Runner_Reset q = some s' ∧ IS l.length s' ∧ Cl l s'.list ∧ 0 ∈ s'.list ∧ ∀ k ∈ s'.list, Er l 0 k := by
  obtain ⟨s1, c1, c2, c3⟩ := clear_ok hn
  obtain ⟨s', g1, g2, g3, g4, g5, g6⟩ := stand1_ok hl hri ⟨q.l, s1, q.next⟩ hq 0 ⟨by omega, by omega⟩ c2
  refine ⟨s', ?_, g2, ?_, g4, fun k hk => ?_⟩
  · rw [M.sim_Runner_Reset]
    show (some () >>= _) = _
    rw [bnd, c1, bnd, g1, bnd]
  · intro k hk
    exact g6 k hk (by rw [c3]; simp)
  · rcases g5 k hk with h | h
    · rw [c3] at h; simp at h
    · exact h
theorem q_begin {s' : T65} (g3 : Cl l s'.list) (g4 : 0 ∈ s'.list) (g5 : ∀ k ∈ s'.list, Er l 0 k) : Q l s'.list [] := by
  refine ⟨g3, fun w => ?_⟩
  rw [List.nil_append]
  constructor
  · rintro ⟨k, hk, ha⟩
    exact (g5 k hk).ac ha
  · intro ha
    exact ⟨0, g4, ha⟩
theorem new_at (h0 : l ≠ []) (h2 : l.length ≤ 2048) : ∃ q, M.sim_New l = some (.inl (q, 0)) ∧ RnOk l q [] ∧ Cl l q.now.list ∧ 0 ∈ q.now.list ∧ ∀ k ∈ q.now.list, Er l 0 k := by
  have hne : l.length ≠ 0 := fun h => h0 (List.length_eq_zero_iff.1 h)
  have hs0 : IS l.length ⟨List.replicate l.length 0, []⟩ := ⟨by simp, fun x hx => by rw [List.eq_of_mem_replicate hx]; omega, by simp, by simp⟩
  have e1 : M.sim_state (l.length : Int) = some (List.replicate l.length 0) := by
    rw [M.sim_state, if_pos (by omega), if_pos (by omega), Int.toNat_natCast]
  obtain ⟨s', e2, g2, g3, g4, g5⟩ := reset_ok hl hri ⟨l, ⟨List.replicate l.length 0, []⟩, ⟨List.replicate l.length 0, []⟩⟩ rfl hs0 (by omega)
  rw [M.sim_New, pcheck_ok h0 h2 hri, bnd, if_pos rfl, M.api_Inst, if_pos (by omega), bnd, e1, bnd, bnd, e2, bnd]
  exact ⟨_, rfl, ⟨rfl, g2, hs0, q_begin hl hri g3 g4 g5⟩, g3, g4, g5⟩
theorem new_ok (h0 : l ≠ []) (h2 : l.length ≤ 2048) : ∃ q, M.sim_New l = some (.inl (q, 0)) ∧ RnOk l q [] := by
  obtain ⟨q, a, b, _⟩ := new_at hl hri h0 h2
  exact ⟨q, a, b⟩
theorem begin_ok (h0 : l ≠ []) (h2 : l.length ≤ 2048) (s : ByteArray) (hs : s.size ≤ 65536) : ∃ q, M.sim_begin l s = some (.inl (q, 0)) ∧ RnOk l q [] := by
  obtain ⟨q, g1, g2⟩ := new_ok hl hri h0 h2
  refine ⟨q, ?_, g2⟩
  rw [M.sim_begin, g1, bnd]; try dsimp only
  rw [if_pos rfl, if_neg (by omega)]
def U (s : ByteArray) (i : Nat) : List Int := (List.range i).map fun j : Nat => bt s (j : Int)
omit hl hri in
theorem U_succ (s : ByteArray) (i : Nat) : U s (i + 1) = U s i ++ [bt s (i : Int)] := by
  unfold U
  rw [List.range_succ, List.map_append]
  rfl
theorem match_l0_ok (s : ByteArray) (hs : s.size ≤ 65536) : ∀ (n i : Nat) (q : T50), i + n = s.size → RnOk l q (U s i) → ∃ b, M.sim_Match_l0 (s, q, 0, (s.size : Int), (i : Int)) = some (b, 0) ∧ (b = true ↔ AcS l (U s s.size) 0) := by
  intro n
  induction n with
  | zero =>
    intro i q hi hq
    obtain ⟨b, g1, g2⟩ := accepts_ok hl hri q _ hq
    rw [M.sim_Match_l0]; try dsimp only
    rw [if_neg (by omega), g1, bnd]
    refine ⟨b, rfl, ?_⟩
    rw [show s.size = i by omega]
    exact g2
  | succ n ih =>
    intro i q hi hq
    obtain ⟨s', g1, g2, _⟩ := feed_ok hl hri q _ hq (bt s (i : Int)) (bt_range s i).1 (bt_range s i).2
    rw [← U_succ] at g2
    rw [M.sim_Match_l0]; try dsimp only
    rw [if_pos (by omega), if_pos (by omega), if_pos (by omega), g1, bnd]; try dsimp only
    by_cases hd : s'.list = []
    · rw [decide_eq_true hd, if_neg (by decide)]
      refine ⟨false, rfl, by simp, fun ha => ?_⟩
      -- nowhere: nothing more is accepted
      have e : ∃ w, U s s.size = U s (i + 1) ++ w := by
        refine ⟨(List.range' (i + 1) n).map fun j : Nat => bt s (j : Int), ?_⟩
        unfold U
        rw [show s.size = (i + 1) + n by omega, ← List.map_append, List.range_eq_range', List.range_eq_range', show i + 1 + n = (i + 1) + n from rfl]
        congr 1
        have := @List.range'_append_1 0 (i + 1) n
        rw [Nat.zero_add] at this
        exact this.symm
      obtain ⟨w, hw⟩ := e
      rw [hw, ← g2.q_.2, hd] at ha
      obtain ⟨k, hk, _⟩ := ha
      simp at hk
    · rw [decide_eq_false hd, if_pos (by decide), wr_i64 (by omega) (by omega)]
      exact ih (i + 1) ⟨q.l, s', q.now⟩ (by omega) g2
theorem match_ok (h0 : l ≠ []) (h2 : l.length ≤ 2048) (s : ByteArray) (hs : s.size ≤ 65536) : ∃ b, M.sim_Match l s = some (b, 0) ∧ (b = true ↔ AcS l (U s s.size) 0) := by
  obtain ⟨q, g1, g2⟩ := begin_ok hl hri h0 h2 s hs
  rw [M.sim_Match, g1, bnd]; try dsimp only
  rw [if_pos rfl]
  exact match_l0_ok hl hri s hs s.size 0 q (by omega) g2
end
/-! ### A pattern's program -/
theorem prog_ri {r : T57} {c : List T45} (hg : Good r) (hc : Cd r 0 (sz r) c) (hn : c.length = sz r) : (c ++ [fin']).length ≤ 2048 ∧ ∀ x ∈ c ++ [fin'], RI (c ++ [fin']).length x := by
  have h := hg.2.2
  have hlen : (c ++ [fin']).length = c.length + 1 := by simp
  refine ⟨by omega, fun x hx => ?_⟩
  rcases List.mem_append.1 hx with hx | hx
  · exact hc.ri ⟨128, hg.1⟩ (by omega) (by omega) x hx
  · rw [List.mem_singleton.1 hx]
    exact ⟨SetOk.Z4, .inr (.inr (.inr ⟨rfl, rfl, rfl, rfl⟩))⟩
theorem prog_lang {r : T57} {c : List T45} (hc : Cd r 0 (sz r) c) (hn : c.length = sz r) (w : List Int) : AcS (c ++ [fin']) w 0 ↔ Lg r w := by
  have hl : Lies (c ++ [fin']) 0 c := by
    intro i hi
    rw [Nat.zero_add, List.getElem?_append_left hi]
  have hf : (c ++ [fin'])[sz r]? = some fin' := by
    rw [← hn, List.getElem?_append_right (Nat.le_refl _), Nat.sub_self]
    rfl
  constructor
  · rintro ⟨m, hm⟩
    obtain ⟨u, v, m', rfl, h1, h2, _⟩ := hc.snd hl m w hm
    have : v = [] := by
      cases h2 with
      | fin => rfl
      | byte e => rw [hf] at e; simp [fin'] at e
      | jump e => rw [hf] at e; simp [fin'] at e
      | left e => rw [hf] at e; simp [fin'] at e
      | right e => rw [hf] at e; simp [fin'] at e
    rw [this, List.append_nil]
    exact h1
  · intro h
    obtain ⟨m, hm⟩ := hc.cmp hl w [] h ⟨0, .fin hf⟩
    rw [List.append_nil] at hm
    exact ⟨m, hm⟩
theorem means_ok {r : T57} {c : List T45} (hg : Good r) (hc : Cd r 0 (sz r) c) (hn : c.length = sz r) (s : ByteArray) (hs : s.size ≤ 65536) : ∃ b, M.sim_Match (c ++ [fin']) s = some (b, 0) ∧ (b = true ↔ Lg r (U s s.size)) := by
  obtain ⟨h1, h2⟩ := prog_ri hg hc hn
  obtain ⟨b, g1, g2⟩ := match_ok (by omega) h2 (by simp) h1 s hs
  exact ⟨b, g1, g2.trans (prog_lang hc hn _)⟩
end Go.Proofs.YtemokppdnkiejaaGreat
