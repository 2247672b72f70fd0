/-
  A runner that reads bytes, begins again, and is asked between, stands where the document says.
-/
import Derived.Test.YtemokppdnkiejaaGreatPSFF
import Derived.Test.YtemokppdnkiejaaGreatLM
set_option linter.unusedVariables false
set_option linter.unusedSimpArgs false
set_option linter.unusedSectionVars false
namespace Go.Proofs.YtemokppdnkiejaaGreat
open Go.Gx
/-! ### How many are true -/
def cf : List Bool → Nat
  | [] => 0
  | b :: l => (if b then 1 else 0) + cf l
theorem cf_le : ∀ l : List Bool, cf l ≤ l.length
  | [] => by simp [cf]
  | b :: l => by have := cf_le l; rw [cf, List.length_cons]; split <;> omega
theorem cf_all : ∀ (l : List Bool), l.length ≤ cf l → ∀ j, j < l.length → T l j
  | [], _, j, h => by simp at h
  | b :: l, h, j, hj => by
    have h1 := cf_le l
    rw [cf, List.length_cons] at h
    cases b with
    | false => simp at h; omega
    | true =>
      cases j with
      | zero => rfl
      | succ j => exact cf_all l (by simp at h; omega) j (by simpa using hj)
theorem cf_set : ∀ (l : List Bool) (j : Nat), j < l.length → ¬ T l j → cf (l.set j true) = cf l + 1
  | [], j, h, _ => by simp at h
  | b :: l, 0, h, hn => by
    cases b with
    | true => exact absurd rfl hn
    | false => simp [cf]; omega
  | b :: l, j + 1, h, hn => by
    have := cf_set l j (by simpa using h) (fun h' => hn h')
    simp only [List.set_cons_succ, cf, this]
    omega
theorem T_lt {l : List Bool} {j : Nat} (h : T l j) : j < l.length := (List.getElem?_eq_some_iff.1 h).1
def sX (o : List Bool) (m : Bool) (x : Int) : List Bool × Bool := if gi o x = true then (o, m) else (si o x true, true)
structure Gr (o o' : List Bool) (m m' : Bool) : Prop where
  len : o'.length = o.length
  sub : ∀ j, T o j → T o' j
  mm : m = true → m' = true
  no : m' = false → o' = o ∧ m = false
  yes : m' = true → m = true ∨ cf o < cf o'
  le : cf o ≤ cf o'
theorem Gr.refl (o : List Bool) (m : Bool) : Gr o o m m := ⟨rfl, fun _ h => h, fun h => h, fun h => ⟨rfl, h⟩, fun h => .inl h, Nat.le_refl _⟩
theorem Gr.trans {o o' o'' : List Bool} {m m' m'' : Bool} (h : Gr o o' m m') (g : Gr o' o'' m' m'') : Gr o o'' m m'' :=
  ⟨g.len.trans h.len, fun j hj => g.sub j (h.sub j hj), fun hm => g.mm (h.mm hm), fun hm => by
    obtain ⟨a, b⟩ := g.no hm
    obtain ⟨c, d⟩ := h.no b
    exact ⟨a.trans c, d⟩, fun hm => by
    rcases g.yes hm with h1 | h1
    · rcases h.yes h1 with h2 | h2
      · exact .inl h2
      · exact .inr (Nat.lt_of_lt_of_le h2 g.le)
    · exact .inr (Nat.lt_of_le_of_lt h.le h1), Nat.le_trans h.le g.le⟩
theorem sX_gr {o : List Bool} {m : Bool} {x : Int} (h0 : 0 ≤ x) (h1 : x < o.length) : Gr o (sX o m x).1 m (sX o m x).2 ∧ T (sX o m x).1 x.toNat ∧ ∀ j, T (sX o m x).1 j → T o j ∨ j = x.toNat := by
  obtain ⟨k, rfl⟩ := Int.eq_ofNat_of_zero_le h0
  have hk : k < o.length := by omega
  rw [Int.toNat_natCast]
  unfold sX
  by_cases hg : gi o (k : Int) = true
  · rw [if_pos hg]
    exact ⟨Gr.refl _ _, (T_gi hk).1 hg, fun j hj => .inl hj⟩
  · rw [if_neg hg]
    have hn : ¬ T o k := fun h => hg ((T_gi hk).2 h)
    have hc : cf (si o (k : Int) true) = cf o + 1 := by rw [si, Int.toNat_natCast]; exact cf_set o k hk hn
    refine ⟨⟨si_len, fun j hj => ?_, fun _ => rfl, fun h => (by cases h), fun _ => .inr (by show cf o < cf (si o (k : Int) true); omega), by show cf o ≤ cf (si o (k : Int) true); omega⟩, (T_si hk).2 (by simp), fun j hj => ?_⟩
    · rw [T_si hk]
      split
      · rfl
      · exact hj
    · rw [T_si hk] at hj
      split at hj
      · exact .inr (by assumption)
      · exact .inl hj
theorem Cl.er {l : List T45} {A : List Int} (hc : Cl l A) {k j : Int} (h : Er l k j) : k ∈ A → j ∈ A := by
  induction h with
  | refl k => exact fun h => h
  | step hx hm _ ih =>
    intro hk
    have := hc _ hk
    rw [hx] at this
    rcases hm with ⟨h2, h | h⟩ | ⟨h4, h⟩
    · exact ih (h ▸ (this.1 h2).1)
    · exact ih (h ▸ (this.1 h2).2)
    · exact ih (h ▸ this.2 h4)
theorem Er.tail {l : List T45} {k m j : Int} (h : Er l k m) (h2 : ∀ x : T45, gi l m = x → ((x.Op = 2 ∧ (j = x.X ∨ j = x.Y)) ∨ (x.Op = 4 ∧ j = x.X))) : Er l k j := by
  induction h with
  | refl k => exact .step rfl (h2 _ rfl) (.refl _)
  | step hx hm _ ih => exact .step hx hm (ih h2)
section
variable {l : List T45} (hl : l.length ≤ 150) (hri : ∀ x ∈ l, RI l.length x)
include hl hri
/-! ### What follows at once: by the document -/
def ClT (l : List T45) (o : List Bool) (k : Nat) : Prop := T o k → ((gi l (k : Int)).Op = 2 → T o (gi l (k : Int)).X.toNat ∧ T o (gi l (k : Int)).Y.toNat) ∧ ((gi l (k : Int)).Op = 4 → T o (gi l (k : Int)).X.toNat)
def InT (l : List T45) (a o : List Bool) : Prop := (∀ j, T a j → T o j) ∧ ∀ j, T o j → ∃ i, T a i ∧ Er l (i : Int) (j : Int)
theorem InT.sX {a o : List Bool} {m : Bool} {i : Nat} {x : Int} (h : InT l a o) (hi : T o i) (ho : o.length = l.length) (h0 : 0 ≤ x) (h1 : x < l.length) (hx : ((gi l (i : Int)).Op = 2 ∧ (x = (gi l (i : Int)).X ∨ x = (gi l (i : Int)).Y)) ∨ ((gi l (i : Int)).Op = 4 ∧ x = (gi l (i : Int)).X)) : InT l a (sX o m x).1 := by
  obtain ⟨g, g1, g2⟩ := sX_gr (o := o) (m := m) h0 (by omega)
  refine ⟨fun j hj => g.sub j (h.1 j hj), fun j hj => ?_⟩
  rcases g2 j hj with h' | rfl
  · exact h.2 j h'
  · obtain ⟨q, q1, q2⟩ := h.2 i hi
    rw [Int.toNat_of_nonneg h0]
    exact ⟨q, q1, q2.tail fun y hy => by subst hy; exact hx⟩
theorem l3_eq (o : List Bool) (k6 : Int) (m : Bool) (i : Nat) (hi : i < l.length) (ho : o.length = l.length) : M.tidepoleref12_closed_l3 (l, o, k6, m, (i : Int)) =
    M.tidepoleref12_closed_l1 (l, (if (gi l (i : Int)).Op = 2 then sX o m (gi l (i : Int)).Y else (o, m)).1, k6, (if (gi l (i : Int)).Op = 2 then sX o m (gi l (i : Int)).Y else (o, m)).2, ((i + 1 : Nat) : Int)) := by
  have hx := hri _ (gi_mem l (i : Int) (by omega) (by omega))
  have l5 : ∀ o m, M.tidepoleref12_closed_l5 (l, o, k6, m, (i : Int)) = M.tidepoleref12_closed_l1 (l, o, k6, m, ((i + 1 : Nat) : Int)) := by
    intro o m
    rw [M.tidepoleref12_closed_l5]; try dsimp only
    rw [wr_i64 (by omega) (by omega), show (i : Int) + 1 = ((i + 1 : Nat) : Int) by push_cast; rfl]
  have l4f : ∀ o m, M.tidepoleref12_closed_l4 (l, o, k6, m, (i : Int), false) = M.tidepoleref12_closed_l1 (l, o, k6, m, ((i + 1 : Nat) : Int)) := by
    intro o m
    rw [M.tidepoleref12_closed_l4]; try dsimp only
    rw [if_neg (by decide), l5]
  rw [M.tidepoleref12_closed_l3]; try dsimp only
  rw [if_pos (by omega), if_pos (by omega)]
  by_cases h2 : (gi l (i : Int)).Op = 2
  · rcases hx.2 with h | ⟨_, _, b1, b2, b3, b4⟩ | h | h
    · omega
    · rw [if_pos h2, if_pos h2, if_pos b3, if_pos (by omega)]
      unfold sX
      by_cases hg : gi o (gi l (i : Int)).Y = true
      · rw [if_pos hg, hg, Bool.not_true, l4f]
      · rw [if_neg hg, Bool.eq_false_iff.2 hg, Bool.not_false, M.tidepoleref12_closed_l4]; try dsimp only
        rw [if_pos rfl, if_pos (by omega), if_pos (by omega), if_pos b3, if_pos (by omega), l5]
    · omega
    · omega
  · rw [if_neg h2, if_neg h2, l4f]
theorem l1_eq (o : List Bool) (k6 : Int) (m : Bool) (i : Nat) (hi : i < l.length) (ho : o.length = l.length) (a : List Bool) (hin : InT l a o) : ∃ o' m', M.tidepoleref12_closed_l1 (l, o, k6, m, (i : Int)) = M.tidepoleref12_closed_l1 (l, o', k6, m', ((i + 1 : Nat) : Int)) ∧ Gr o o' m m' ∧ InT l a o' ∧ (m' = false → ClT l o' i) := by
  have hx := hri _ (gi_mem l (i : Int) (by omega) (by omega))
  rw [M.tidepoleref12_closed_l1]; try dsimp only
  rw [if_pos (by omega), if_pos (by omega), if_pos (by omega)]
  have l2f : ∀ o m, M.tidepoleref12_closed_l2 (l, o, k6, m, (i : Int), false) = M.tidepoleref12_closed_l3 (l, o, k6, m, (i : Int)) := by
    intro o m
    rw [M.tidepoleref12_closed_l2]; try dsimp only
    rw [if_neg (by decide)]
  by_cases hg : gi o (i : Int) = true
  · have hT : T o i := (T_gi (by omega)).1 hg
    rw [if_pos hg]
    have l2x : 0 ≤ (gi l (i : Int)).X → (gi l (i : Int)).X < (l.length : Int) → M.tidepoleref12_closed_l2 (l, o, k6, m, (i : Int), !(gi o (gi l (i : Int)).X)) = M.tidepoleref12_closed_l3 (l, (sX o m (gi l (i : Int)).X).1, k6, (sX o m (gi l (i : Int)).X).2, (i : Int)) := by
      intro b1 b2
      unfold sX
      by_cases hg' : gi o (gi l (i : Int)).X = true
      · rw [if_pos hg', hg', Bool.not_true, l2f]
      · rw [if_neg hg', Bool.eq_false_iff.2 hg', Bool.not_false, M.tidepoleref12_closed_l2]; try dsimp only
        rw [if_pos rfl, if_pos (by omega), if_pos (by omega), if_pos b1, if_pos (by omega)]
    by_cases h2 : (gi l (i : Int)).Op = 2
    · rcases hx.2 with h | ⟨_, _, b1, b2, b3, b4⟩ | h | h
      · omega
      · rw [if_pos h2, if_pos b1, if_pos (by omega), l2x b1 b2]
        obtain ⟨g, g1, g2⟩ := sX_gr (o := o) (m := m) b1 (by omega)
        have i1 := hin.sX hl hri (m := m) hT ho b1 b2 (.inl ⟨h2, .inl rfl⟩)
        generalize hs1 : sX o m (gi l (i : Int)).X = s1 at g g1 g2 i1
        rw [l3_eq hl hri s1.1 k6 s1.2 i hi (by rw [g.len, ho]), if_pos h2]
        obtain ⟨f, f1, f2⟩ := sX_gr (o := s1.1) (m := s1.2) b3 (by rw [g.len]; omega)
        have i2 := i1.sX hl hri (m := s1.2) (g.sub i hT) (by rw [g.len, ho]) b3 b4 (.inl ⟨h2, .inr rfl⟩)
        exact ⟨_, _, rfl, g.trans f, i2, fun _ _ => ⟨fun _ => ⟨f.sub _ g1, f1⟩, fun h => by omega⟩⟩
      · omega
      · omega
    · rw [if_neg h2]
      by_cases h4 : (gi l (i : Int)).Op = 4
      · rcases hx.2 with h | h | ⟨_, _, b1, b2, b3⟩ | h
        · omega
        · omega
        · rw [if_pos h4, if_pos b1, if_pos (by omega), l2x b1 b2]
          obtain ⟨g, g1, g2⟩ := sX_gr (o := o) (m := m) b1 (by omega)
          have i1 := hin.sX hl hri (m := m) hT ho b1 b2 (.inr ⟨h4, rfl⟩)
          generalize hs1 : sX o m (gi l (i : Int)).X = s1 at g g1 g2 i1
          rw [l3_eq hl hri s1.1 k6 s1.2 i hi (by rw [g.len, ho]), if_neg h2]
          exact ⟨_, _, rfl, g, i1, fun _ _ => ⟨fun h => by omega, fun _ => g1⟩⟩
        · omega
      · rw [if_neg h4, l2f, l3_eq hl hri o k6 m i hi ho, if_neg h2]
        exact ⟨_, _, rfl, Gr.refl _ _, hin, fun _ _ => ⟨fun h => absurd h h2, fun h => absurd h h4⟩⟩
  · rw [if_neg hg, wr_i64 (by omega) (by omega), show (i : Int) + 1 = ((i + 1 : Nat) : Int) by push_cast; rfl]
    exact ⟨o, m, rfl, Gr.refl _ _, hin, fun _ hT => absurd ((T_gi (by omega)).2 hT) hg⟩
theorem round_ok (a : List Bool) (k6 : Nat) (hk : k6 < l.length) : ∀ (n i : Nat) (o : List Bool) (m : Bool), i + n = l.length → o.length = l.length → InT l a o → (m = false → ∀ j, j < i → ClT l o j) →
    ∃ o' m', M.tidepoleref12_closed_l1 (l, o, (k6 : Int), m, (i : Int)) = (if m' = true then M.tidepoleref12_closed_l0 (l, o', ((k6 + 1 : Nat) : Int)) else some o') ∧ Gr o o' m m' ∧ InT l a o' ∧ (m' = false → ∀ j, j < l.length → ClT l o' j) := by
  intro n
  induction n with
  | zero =>
    intro i o m hi ho hin hc
    rw [M.tidepoleref12_closed_l1]; try dsimp only
    rw [if_neg (by omega), wr_i64 (by omega) (by omega), show (k6 : Int) + 1 = ((k6 + 1 : Nat) : Int) by push_cast; rfl]
    exact ⟨o, m, rfl, Gr.refl _ _, hin, fun hm j hj => hc hm j (by omega)⟩
  | succ n ih =>
    intro i o m hi ho hin hc
    obtain ⟨o1, m1, e1, g1, i1, c1⟩ := l1_eq hl hri o (k6 : Int) m i (by omega) ho a hin
    obtain ⟨o2, m2, e2, g2, i2, c2⟩ := ih (i + 1) o1 m1 (by omega) (by rw [g1.len, ho]) i1 (fun hm j hj => by
      by_cases hji : j = i
      · subst hji; exact c1 hm
      · obtain ⟨p1, p2⟩ := g1.no hm
        rw [p1]; exact hc p2 j (by omega))
    exact ⟨o2, m2, by rw [e1, e2], g1.trans g2, i2, c2⟩
theorem rounds_ok (a : List Bool) : ∀ (n k6 : Nat) (o : List Bool), k6 + n = l.length → o.length = l.length → InT l a o → k6 ≤ cf o →
    ∃ o', M.tidepoleref12_closed_l0 (l, o, (k6 : Int)) = some o' ∧ o'.length = l.length ∧ InT l a o' ∧ ∀ j, j < l.length → ClT l o' j := by
  intro n
  induction n with
  | zero =>
    intro k6 o hk ho hin hc
    rw [M.tidepoleref12_closed_l0]; try dsimp only
    rw [if_neg (by omega)]
    have all := cf_all o (by omega)
    refine ⟨o, rfl, ho, hin, fun j hj _ => ?_⟩
    have hx := hri _ (gi_mem l (j : Int) (by omega) (by omega))
    constructor
    · intro h2
      rcases hx.2 with h | ⟨_, _, b1, b2, b3, b4⟩ | h | h
      · omega
      · exact ⟨all _ (by omega), all _ (by omega)⟩
      · omega
      · omega
    · intro h4
      rcases hx.2 with h | h | ⟨_, _, b1, b2, b3⟩ | h
      · omega
      · omega
      · exact all _ (by omega)
      · omega
  | succ n ih =>
    intro k6 o hk ho hin hc
    obtain ⟨o', m', e, g, i1, c⟩ := round_ok hl hri a k6 (by omega) l.length 0 o false (by omega) ho hin (fun _ j hj => by omega)
    rw [M.tidepoleref12_closed_l0]; try dsimp only
    rw [if_pos (by omega)]
    rw [show ((0 : Nat) : Int) = 0 from rfl] at e
    rw [e]
    cases m' with
    | true =>
      rw [if_pos rfl]
      exact ih (k6 + 1) o' (by omega) (by rw [g.len, ho]) i1 (by
        rcases g.yes rfl with h | h
        · cases h
        · omega)
    | false =>
      rw [if_neg (by decide)]
      exact ⟨o', rfl, by rw [g.len, ho], i1, c rfl⟩
theorem closed_ok (a : List Bool) (ha : a.length = l.length) : ∃ o, M.tidepoleref12_closed l a = some o ∧ o.length = l.length ∧ ∀ j : Nat, T o j ↔ ∃ i : Nat, T a i ∧ Er l (i : Int) (j : Int) := by
  obtain ⟨o, e, ho, hin, hc⟩ := rounds_ok hl hri a l.length 0 a (by omega) ha ⟨fun _ h => h, fun j hj => ⟨j, hj, .refl _⟩⟩ (Nat.zero_le _)
  rw [show ((0 : Nat) : Int) = 0 from rfl] at e
  refine ⟨o, by rw [M.tidepoleref12_closed, if_pos (by omega), e], ho, fun j => ⟨hin.2 j, ?_⟩⟩
  rintro ⟨i, hi, he⟩
  have key : ∀ {p q : Int}, Er l p q → ∀ i : Nat, p = (i : Int) → T o i → ∀ j : Nat, q = (j : Int) → T o j := by
    intro p q h
    induction h with
    | refl k => intro i h1 h2 j h3; rw [h1] at h3; rw [← Int.ofNat.inj h3]; exact h2
    | @step k m j' x hx hm _ ih =>
      intro i h1 h2 j h3
      have hil : i < l.length := by rw [← ho]; exact T_lt h2
      have hcl := hc i hil h2
      have hr := hri _ (gi_mem l (i : Int) (by omega) (by omega))
      subst h1
      rw [hx] at hcl hr
      have hm0 : 0 ≤ m ∧ T o m.toNat := by
        rcases hm with ⟨h2', h | h⟩ | ⟨h4, h⟩
        · rcases hr.2 with h' | ⟨_, _, b1, b2, b3, b4⟩ | h' | h'
          · omega
          · rw [h]; exact ⟨b1, (hcl.1 h2').1⟩
          · omega
          · omega
        · rcases hr.2 with h' | ⟨_, _, b1, b2, b3, b4⟩ | h' | h'
          · omega
          · rw [h]; exact ⟨b3, (hcl.1 h2').2⟩
          · omega
          · omega
        · rcases hr.2 with h' | h' | ⟨_, _, b1, b2, b3⟩ | h'
          · omega
          · omega
          · rw [h]; exact ⟨b1, hcl.2 h4⟩
          · omega
      exact ih m.toNat (by omega) hm0.2 j h3
  exact key he i rfl (hin.1 i hi) j rfl
theorem rbegin_ok (h0 : 0 < l.length) : ∃ o, M.tidepoleref12_Begin l = some o ∧ o.length = l.length ∧ ∀ j : Nat, T o j ↔ Er l 0 (j : Int) := by
  obtain ⟨o, e, ho, h⟩ := closed_ok hl hri (si (List.replicate l.length false) 0 true) (by rw [si_len]; simp)
  refine ⟨o, ?_, ho, fun j => ?_⟩
  · rw [M.tidepoleref12_Begin, if_pos (by omega), Int.toNat_natCast, bnd, if_pos (by simp; omega), e, bnd]
  · rw [h]
    have hT : ∀ i, T (si (List.replicate l.length false) 0 true) i ↔ i = 0 := by
      intro i
      have := @T_si (List.replicate l.length false) 0 i true (by simpa using h0)
      rw [show ((0 : Nat) : Int) = 0 from rfl] at this
      rw [this]
      split
      · simp [*]
      · simp only [*, iff_false]; exact T_rep
    constructor
    · rintro ⟨i, h1, h2⟩
      rw [hT] at h1
      subst h1
      exact h2
    · intro h2; exact ⟨0, (hT 0).2 rfl, h2⟩
theorem rstep_ok (a : List Bool) (ha : a.length = l.length) (b : Int) (b0 : 0 ≤ b) (b1 : b ≤ 255) : ∃ o, M.tidepoleref12_Step l a b = some o ∧ o.length = l.length ∧
    ∀ j : Nat, T o j ↔ ∃ i : Nat, T a i ∧ (gi l (i : Int)).Op = 1 ∧ Hs (gi l (i : Int)).Set b ∧ Er l (gi l (i : Int)).X (j : Int) := by
  have loop : ∀ (n i : Nat) (o : List Bool), i + n = l.length → o.length = l.length → (∀ j : Nat, T o j ↔ ∃ q : Nat, q < i ∧ T a q ∧ (gi l (q : Int)).Op = 1 ∧ Hs (gi l (q : Int)).Set b ∧ (gi l (q : Int)).X = (j : Int)) →
      ∃ o1, M.tidepoleref12_Step_l0 (l, a, b, o, (i : Int)) = (M.tidepoleref12_closed l o1 >>= fun y => some y) ∧ o1.length = l.length ∧ ∀ j : Nat, T o1 j ↔ ∃ q : Nat, q < l.length ∧ T a q ∧ (gi l (q : Int)).Op = 1 ∧ Hs (gi l (q : Int)).Set b ∧ (gi l (q : Int)).X = (j : Int) := by
    intro n
    induction n with
    | zero =>
      intro i o hi ho hT
      rw [M.tidepoleref12_Step_l0]; try dsimp only
      rw [if_neg (by omega)]
      refine ⟨o, rfl, ho, ?_⟩
      rw [show l.length = i by omega]
      exact hT
    | succ n ih =>
      intro i o hi ho hT
      have hx := hri _ (gi_mem l (i : Int) (by omega) (by omega))
      obtain ⟨v, hv⟩ := has_tot (gi l (i : Int)).Set b0 b1
      rw [M.tidepoleref12_Step_l0]; try dsimp only
      rw [if_pos (by omega), if_pos (by omega), if_pos (by omega)]
      have no : ¬ (T a i ∧ (gi l (i : Int)).Op = 1 ∧ Hs (gi l (i : Int)).Set b) → ∃ o1, M.tidepoleref12_Step_l1 (l, a, b, o, (i : Int), false) = (M.tidepoleref12_closed l o1 >>= fun y => some y) ∧ o1.length = l.length ∧ ∀ j : Nat, T o1 j ↔ ∃ q : Nat, q < l.length ∧ T a q ∧ (gi l (q : Int)).Op = 1 ∧ Hs (gi l (q : Int)).Set b ∧ (gi l (q : Int)).X = (j : Int) := by
        intro hno
        rw [M.tidepoleref12_Step_l1]; try dsimp only
        rw [if_neg (by decide), M.tidepoleref12_Step_l2]; try dsimp only
        rw [wr_i64 (by omega) (by omega), show (i : Int) + 1 = ((i + 1 : Nat) : Int) by push_cast; rfl]
        refine ih (i + 1) o (by omega) ho fun j => ?_
        rw [hT]
        constructor
        · rintro ⟨q, h1, h2⟩; exact ⟨q, by omega, h2⟩
        · rintro ⟨q, h1, h2, h3, h4, h5⟩
          by_cases hq : q = i
          · subst hq; exact absurd ⟨h2, h3, h4⟩ hno
          · exact ⟨q, by omega, h2, h3, h4, h5⟩
      by_cases hg : gi a (i : Int) = true
      · have hTi : T a i := (T_gi (by omega)).1 hg
        rw [if_pos hg]
        by_cases h1 : (gi l (i : Int)).Op = 1
        · rw [if_pos h1, refhas _ hx.1 b0 b1, hv, bnd]
          cases v with
          | false => exact no (fun h => by have := h.2.2; rw [Hs, hv] at this; cases this)
          | true =>
            rcases hx.2 with ⟨_, c1, c2, _⟩ | h | h | h
            · rw [M.tidepoleref12_Step_l1]; try dsimp only
              rw [if_pos rfl, if_pos (by omega), if_pos (by omega), if_pos c1, if_pos (by omega), M.tidepoleref12_Step_l2]; try dsimp only
              rw [wr_i64 (by omega) (by omega), show (i : Int) + 1 = ((i + 1 : Nat) : Int) by push_cast; rfl]
              refine ih (i + 1) _ (by omega) (by rw [si_len, ho]) fun j => ?_
              obtain ⟨x, hxe⟩ := Int.eq_ofNat_of_zero_le c1
              have : T (si o (gi l (i : Int)).X true) j ↔ (j = x ∨ T o j) := by
                rw [hxe, T_si (by omega)]
                split
                · simp [*]
                · simp [*]
              rw [this, hT]
              constructor
              · rintro (h | ⟨q, h1', h2⟩)
                · exact ⟨i, by omega, hTi, h1, hv, by rw [hxe, h]⟩
                · exact ⟨q, by omega, h2⟩
              · rintro ⟨q, h1', h2, h3, h4, h5⟩
                by_cases hq : q = i
                · subst hq; left; omega
                · exact .inr ⟨q, by omega, h2, h3, h4, h5⟩
            · omega
            · omega
            · omega
        · rw [if_neg h1]
          exact no (fun h => h1 h.2.1)
      · rw [if_neg hg]
        exact no (fun h => hg ((T_gi (by omega)).2 h.1))
  obtain ⟨o1, e1, ho1, hT1⟩ := loop l.length 0 (List.replicate l.length false) (by omega) (by simp) (fun j => by
    constructor
    · intro h; exact absurd h T_rep
    · rintro ⟨q, h, _⟩; omega)
  obtain ⟨o, e, ho, h⟩ := closed_ok hl hri o1 ho1
  rw [show ((0 : Nat) : Int) = 0 from rfl] at e1
  refine ⟨o, ?_, ho, fun j => ?_⟩
  · rw [M.tidepoleref12_Step, if_pos (by omega), Int.toNat_natCast, bnd, e1, e, bnd]
  · rw [h]
    constructor
    · rintro ⟨x, h1, h2⟩
      obtain ⟨q, _, q1, q2, q3, q4⟩ := (hT1 x).1 h1
      exact ⟨q, q1, q2, q3, by rw [q4]; exact h2⟩
    · rintro ⟨q, q1, q2, q3, q4⟩
      have hq : q < l.length := by rw [← ha]; exact T_lt q1
      have hx := hri _ (gi_mem l (q : Int) (by omega) (by omega))
      rcases hx.2 with ⟨_, c1, c2, _⟩ | h' | h' | h'
      · refine ⟨(gi l (q : Int)).X.toNat, (hT1 _).2 ⟨q, hq, q1, q2, q3, by omega⟩, ?_⟩
        rw [Int.toNat_of_nonneg c1]; exact q4
      · omega
      · omega
      · omega
theorem raccepts_ok (a : List Bool) (ha : a.length = l.length) : ∃ b, M.tidepoleref12_Accepts l a = some b ∧ (b = true ↔ ∃ i : Nat, T a i ∧ (gi l (i : Int)).Op = 3) := by
  have loop : ∀ (n i : Nat), i + n = l.length → (∀ q : Nat, q < i → ¬ (T a q ∧ (gi l (q : Int)).Op = 3)) → ∃ b, M.tidepoleref12_Accepts_l0 (l, a, (i : Int)) = some b ∧ (b = true ↔ ∃ i : Nat, T a i ∧ (gi l (i : Int)).Op = 3) := by
    intro n
    induction n with
    | zero =>
      intro i hi hno
      rw [M.tidepoleref12_Accepts_l0]; try dsimp only
      rw [if_neg (by omega)]
      refine ⟨false, rfl, ?_⟩
      simp only [Bool.false_eq_true, false_iff]
      rintro ⟨q, h1, h2⟩
      exact hno q (by have := T_lt h1; omega) ⟨h1, h2⟩
    | succ n ih =>
      intro i hi hno
      have go : ¬ (T a i ∧ (gi l (i : Int)).Op = 3) → ∃ b, M.tidepoleref12_Accepts_l1 (l, a, (i : Int), false) = some b ∧ (b = true ↔ ∃ i : Nat, T a i ∧ (gi l (i : Int)).Op = 3) := by
        intro hn
        rw [M.tidepoleref12_Accepts_l1]; try dsimp only
        rw [if_neg (by decide), wr_i64 (by omega) (by omega), show (i : Int) + 1 = ((i + 1 : Nat) : Int) by push_cast; rfl]
        refine ih (i + 1) (by omega) fun q hq => ?_
        by_cases h : q = i
        · subst h; exact hn
        · exact hno q (by omega)
      rw [M.tidepoleref12_Accepts_l0]; try dsimp only
      rw [if_pos (by omega), if_pos (by omega), if_pos (by omega)]
      by_cases hg : gi a (i : Int) = true
      · have hTi : T a i := (T_gi (by omega)).1 hg
        rw [if_pos hg]
        by_cases h3 : (gi l (i : Int)).Op = 3
        · rw [decide_eq_true h3, M.tidepoleref12_Accepts_l1]; try dsimp only
          rw [if_pos rfl]
          exact ⟨true, rfl, by simp only [true_iff]; exact ⟨i, hTi, h3⟩⟩
        · rw [decide_eq_false h3]
          exact go (fun h => h3 h.2)
      · rw [if_neg hg]
        exact go (fun h => hg ((T_gi (by omega)).2 h.1))
  obtain ⟨b, e, h⟩ := loop l.length 0 (by omega) (fun q hq => by omega)
  exact ⟨b, by rw [M.tidepoleref12_Accepts]; exact e, h⟩
end
end Go.Proofs.YtemokppdnkiejaaGreat
