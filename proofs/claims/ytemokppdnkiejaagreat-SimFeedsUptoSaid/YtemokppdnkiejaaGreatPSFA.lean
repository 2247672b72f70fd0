/-
  Patterns as sets of texts, programs as what they accept; a pattern's code accepts what the pattern means.
-/
import Derived.Test.YtemokppdnkiejaaGreatMSF
import Derived.Test.YtemokppdnkiejaaGreatGR
set_option linter.unusedVariables false
set_option linter.unusedSimpArgs false
namespace Go.Proofs.YtemokppdnkiejaaGreat
open Go.Gx
def Hs (l : List Int) (b : Int) : Prop := M.syntax_Has l b = some true
def Rep (P : List Int → Prop) : Nat → List Int → Prop
  | 0, w => w = []
  | n + 1, w => ∃ u v, w = u ++ v ∧ P u ∧ Rep P n v
mutual
def Lg : T57 → List Int → Prop
  | ⟨k, set, L, mn, mx⟩, w =>
    (k = 1 ∧ ∃ b, w = [b] ∧ Hs set b) ∨ (k = 2 ∧ LgAll L w) ∨ (k = 3 ∧ LgAny L w) ∨
    (k = 4 ∧ ∃ n : Nat, mn ≤ n ∧ (mx < 0 ∨ (n : Int) ≤ mx) ∧ Rep (fun w => LgHd L w) n w)
def LgAll : List T57 → List Int → Prop
  | [], w => w = []
  | x :: xs, w => ∃ u v, w = u ++ v ∧ Lg x u ∧ LgAll xs v
def LgAny : List T57 → List Int → Prop
  | [], _ => False
  | x :: xs, w => Lg x w ∨ LgAny xs w
def LgHd : List T57 → List Int → Prop
  | [], _ => False
  | x :: _, w => Lg x w
end
theorem Rep.add {P : List Int → Prop} : ∀ {m n : Nat} {w : List Int}, Rep P (m + n) w ↔ ∃ u v, w = u ++ v ∧ Rep P m u ∧ Rep P n v
  | 0, n, w => by
    rw [Nat.zero_add]
    constructor
    · intro h
      exact ⟨[], w, rfl, rfl, h⟩
    · rintro ⟨u, v, rfl, hu, h⟩
      cases (show u = [] from hu)
      exact h
  | m + 1, n, w => by
    rw [show m + 1 + n = (m + n) + 1 by omega]
    constructor
    · rintro ⟨u, v, rfl, hu, h⟩
      obtain ⟨u', v', rfl, h1, h2⟩ := Rep.add.1 h
      exact ⟨u ++ u', v', by rw [List.append_assoc], ⟨u, u', rfl, hu, h1⟩, h2⟩
    · rintro ⟨u, v, rfl, ⟨u1, u2, rfl, h1, h2⟩, h⟩
      exact ⟨u1, u2 ++ v, by rw [List.append_assoc], h1, Rep.add.2 ⟨u2, v, rfl, h2, h⟩⟩
/-! ### What a program accepts -/
inductive Ac (l : List T45) : Nat → List Int → Nat → Prop
  | fin {k : Nat} {z : List Int} {x y : Int} : l[k]? = some ⟨3, z, x, y⟩ → Ac l 0 [] k
  | byte {k m : Nat} {w z : List Int} {b x y : Int} : l[k]? = some ⟨1, z, x, y⟩ → Hs z b → Ac l m w x.toNat → Ac l (m + 1) (b :: w) k
  | jump {k m : Nat} {w z : List Int} {x y : Int} : l[k]? = some ⟨4, z, x, y⟩ → Ac l m w x.toNat → Ac l (m + 1) w k
  | left {k m : Nat} {w z : List Int} {x y : Int} : l[k]? = some ⟨2, z, x, y⟩ → Ac l m w x.toNat → Ac l (m + 1) w k
  | right {k m : Nat} {w z : List Int} {x y : Int} : l[k]? = some ⟨2, z, x, y⟩ → Ac l m w y.toNat → Ac l (m + 1) w k
inductive Pa
  | of (r : T57)
  | lp (r : T57)
  | ph (r : T57)
def Z4 : List Int := [0, 0, 0, 0]
mutual
inductive Cd : T57 → Nat → Nat → List T45 → Prop
  | set {s : List Int} {L : List T57} {mn mx : Int} {a n : Nat} : Cd ⟨1, s, L, mn, mx⟩ a n [⟨1, s, (n : Int), 0⟩]
  | all {s : List Int} {x : T57} {L : List T57} {mn mx : Int} {a n : Nat} {c : List T45} : Row ((x :: L).map Pa.of) n a n c → Cd ⟨2, s, x :: L, mn, mx⟩ a n c
  | void {s : List Int} {mn mx : Int} {a n : Nat} : Cd ⟨2, s, [], mn, mx⟩ a n [⟨4, Z4, (n : Int), 0⟩]
  | any {s : List Int} {x : T57} {L : List T57} {mn mx : Int} {a n : Nat} {c : List T45} : An (x :: L) a n c → Cd ⟨3, s, x :: L, mn, mx⟩ a n c
  | none {s : List Int} {mn mx : Int} {a n : Nat} : Cd ⟨3, s, [], mn, mx⟩ a n [⟨1, Z4, (n : Int), 0⟩]
  | star {s : List Int} {x : T57} {mn : Nat} {mx : Int} {a n : Nat} {c : List T45} : mx < 0 → Row (List.replicate mn (Pa.of x) ++ [Pa.lp x]) n a n c → Cd ⟨4, s, [x], (mn : Int), mx⟩ a n c
  | times {s : List Int} {x : T57} {mn k : Nat} {a n : Nat} {c : List T45} : 0 < mn + k → Row (List.replicate mn (Pa.of x) ++ List.replicate k (Pa.ph x)) n a n c → Cd ⟨4, s, [x], (mn : Int), ((mn + k : Nat) : Int)⟩ a n c
  | never {s : List Int} {x : T57} {a n : Nat} : Cd ⟨4, s, [x], 0, 0⟩ a n [⟨4, Z4, (n : Int), 0⟩]
inductive An : List T57 → Nat → Nat → List T45 → Prop
  | one {x : T57} {a n : Nat} {c : List T45} : Cd x a n c → An [x] a n c
  | more {x y : T57} {ys : List T57} {a n : Nat} {c d : List T45} : Cd x (a + 1) n c → An (y :: ys) (a + 1 + c.length) n d → An (x :: y :: ys) a n (⟨2, Z4, ((a + 1 : Nat) : Int), ((a + 1 + c.length : Nat) : Int)⟩ :: (c ++ d))
inductive Row : List Pa → Nat → Nat → Nat → List T45 → Prop
  | last {p : Pa} {al a n : Nat} {c : List T45} : Pc p al a n c → Row [p] al a n c
  | cons {p q : Pa} {ps : List Pa} {al a n : Nat} {c d : List T45} : Pc p al a (a + c.length) c → Row (q :: ps) al (a + c.length) n d → Row (p :: q :: ps) al a n (c ++ d)
inductive Pc : Pa → Nat → Nat → Nat → List T45 → Prop
  | of {r : T57} {al a n : Nat} {c : List T45} : Cd r a n c → Pc (Pa.of r) al a n c
  | lp {r : T57} {al a n : Nat} {c : List T45} : Cd r (a + 1) a c → Pc (Pa.lp r) al a n (⟨2, Z4, ((a + 1 : Nat) : Int), (n : Int)⟩ :: c)
  | ph {r : T57} {al a n : Nat} {c : List T45} : Cd r (a + 1) n c → Pc (Pa.ph r) al a n (⟨2, Z4, ((a + 1 : Nat) : Int), (al : Int)⟩ :: c)
end
def Lies (l : List T45) (a : Nat) (c : List T45) : Prop := ∀ i, i < c.length → l[a + i]? = c[i]?
theorem Lies.left {l : List T45} {a : Nat} {c d : List T45} (h : Lies l a (c ++ d)) : Lies l a c := by
  intro i hi
  rw [h i (by rw [List.length_append]; omega), List.getElem?_append_left hi]
theorem Lies.right {l : List T45} {a : Nat} {c d : List T45} (h : Lies l a (c ++ d)) : Lies l (a + c.length) d := by
  intro i hi
  rw [show a + c.length + i = a + (c.length + i) by omega, h _ (by rw [List.length_append]; omega), List.getElem?_append_right (by omega), show c.length + i - c.length = i by omega]
theorem Lies.head {l : List T45} {a : Nat} {x : T45} {c : List T45} (h : Lies l a (x :: c)) : l[a]? = some x := by
  have := h 0 (by simp)
  simpa using this
theorem Lies.tail {l : List T45} {a : Nat} {x : T45} {c : List T45} (h : Lies l a (x :: c)) : Lies l (a + 1) c := by
  intro i hi
  have := h (i + 1) (by simp; omega)
  rw [show a + 1 + i = a + (i + 1) by omega, this]
  simp
def RLg : List Pa → List Int → Prop
  | [], w => w = []
  | Pa.of r :: ps, w => ∃ u v, w = u ++ v ∧ Lg r u ∧ RLg ps v
  | Pa.lp r :: ps, w => ∃ u v, w = u ++ v ∧ (∃ n, Rep (Lg r) n u) ∧ RLg ps v
  | Pa.ph r :: ps, w => w = [] ∨ ∃ u v, w = u ++ v ∧ Lg r u ∧ RLg ps v
theorem Ac.byte_inv {l : List T45} {k m : Nat} {w z : List Int} {x y : Int} (h : Ac l m w k) (hk : l[k]? = some ⟨1, z, x, y⟩) : ∃ b v m', w = b :: v ∧ Hs z b ∧ Ac l m' v x.toNat ∧ m' < m := by
  cases h with
  | fin e => rw [hk] at e; simp at e
  | byte e hb h => rw [hk] at e; simp only [Option.some.injEq, T45.mk.injEq] at e; obtain ⟨_, rfl, rfl, rfl⟩ := e; exact ⟨_, _, _, rfl, hb, h, by omega⟩
  | jump e => rw [hk] at e; simp at e
  | left e => rw [hk] at e; simp at e
  | right e => rw [hk] at e; simp at e
theorem Ac.jump_inv {l : List T45} {k m : Nat} {w z : List Int} {x y : Int} (h : Ac l m w k) (hk : l[k]? = some ⟨4, z, x, y⟩) : ∃ m', Ac l m' w x.toNat ∧ m' < m := by
  cases h with
  | fin e => rw [hk] at e; simp at e
  | byte e hb h => rw [hk] at e; simp at e
  | jump e h => rw [hk] at e; simp only [Option.some.injEq, T45.mk.injEq] at e; obtain ⟨_, rfl, rfl, rfl⟩ := e; exact ⟨_, h, by omega⟩
  | left e => rw [hk] at e; simp at e
  | right e => rw [hk] at e; simp at e
theorem Ac.split_inv {l : List T45} {k m : Nat} {w z : List Int} {x y : Int} (h : Ac l m w k) (hk : l[k]? = some ⟨2, z, x, y⟩) : ∃ m', (Ac l m' w x.toNat ∨ Ac l m' w y.toNat) ∧ m' < m := by
  cases h with
  | fin e => rw [hk] at e; simp at e
  | byte e hb h => rw [hk] at e; simp at e
  | jump e => rw [hk] at e; simp at e
  | left e h => rw [hk] at e; simp only [Option.some.injEq, T45.mk.injEq] at e; obtain ⟨_, rfl, rfl, rfl⟩ := e; exact ⟨_, .inl h, by omega⟩
  | right e h => rw [hk] at e; simp only [Option.some.injEq, T45.mk.injEq] at e; obtain ⟨_, rfl, rfl, rfl⟩ := e; exact ⟨_, .inr h, by omega⟩
theorem Hs_Z4 (b : Int) : ¬ Hs Z4 b := by
  intro h
  unfold Hs Z4 M.syntax_Has at h
  have z : ∀ j : Int, gi [0, 0, 0, 0] j = (0 : Int) := by
    intro j
    unfold gi
    rw [List.getD_eq_getElem?_getD]
    cases hj : ([0, 0, 0, 0] : List Int)[j.toNat]? with
    | none => rfl
    | some x =>
      have := List.mem_of_getElem? hj
      simp at this
      simp [this]
  rw [z] at h
  have e : ∀ y : Int, ishr .u64 0 y = 0 := fun y => by unfold ishr; simp
  rw [e, show iand .u64 0 1 = 0 from rfl] at h
  split at h
  · split at h
    · split at h
      · simp at h
      · cases h
    · cases h
  · cases h
theorem RLg_of (x : T57) (ps : List Pa) : ∀ (n : Nat) (w : List Int), RLg (List.replicate n (Pa.of x) ++ ps) w ↔ ∃ u v, w = u ++ v ∧ Rep (Lg x) n u ∧ RLg ps v
  | 0, w => by
    constructor
    · intro h
      exact ⟨[], w, rfl, rfl, h⟩
    · rintro ⟨u, v, rfl, hu, h⟩
      cases (show u = [] from hu)
      exact h
  | n + 1, w => by
    rw [List.replicate_succ, List.cons_append]
    constructor
    · rintro ⟨u, v, rfl, hu, h⟩
      obtain ⟨u', v', rfl, h1, h2⟩ := (RLg_of x ps n v).1 h
      exact ⟨u ++ u', v', by rw [List.append_assoc], ⟨u, u', rfl, hu, h1⟩, h2⟩
    · rintro ⟨u, v, rfl, ⟨u1, u2, rfl, h1, h2⟩, h⟩
      exact ⟨u1, u2 ++ v, by rw [List.append_assoc], h1, (RLg_of x ps n _).2 ⟨u2, v, rfl, h2, h⟩⟩
theorem RLg_lp (x : T57) (w : List Int) : RLg [Pa.lp x] w ↔ ∃ n, Rep (Lg x) n w := by
  constructor
  · rintro ⟨u, v, rfl, h, hv⟩
    cases (show v = [] from hv)
    simpa using h
  · intro h
    exact ⟨w, [], by simp, h, rfl⟩
theorem RLg_ph (x : T57) : ∀ (k : Nat) (w : List Int), RLg (List.replicate k (Pa.ph x)) w ↔ ∃ n, n ≤ k ∧ Rep (Lg x) n w
  | 0, w => by
    constructor
    · intro h
      exact ⟨0, Nat.le_refl _, h⟩
    · rintro ⟨n, hn, h⟩
      cases (show n = 0 by omega)
      exact h
  | k + 1, w => by
    rw [List.replicate_succ]
    constructor
    · rintro (rfl | ⟨u, v, rfl, hu, h⟩)
      · exact ⟨0, by omega, rfl⟩
      · obtain ⟨n, hn, h⟩ := (RLg_ph x k v).1 h
        exact ⟨n + 1, by omega, u, v, rfl, hu, h⟩
    · rintro ⟨n, hn, h⟩
      cases n with
      | zero => exact .inl h
      | succ n =>
        obtain ⟨u, v, rfl, hu, h⟩ := h
        exact .inr ⟨u, v, rfl, hu, (RLg_ph x k v).2 ⟨n, by omega, h⟩⟩
theorem RLg_all : ∀ (L : List T57) (w : List Int), RLg (L.map Pa.of) w ↔ LgAll L w
  | [], w => by simp [RLg, LgAll]
  | x :: L, w => by
    simp only [List.map_cons, RLg, LgAll, RLg_all L]
theorem Lg_star (s : List Int) (x : T57) (mn : Nat) (mx : Int) (hx : mx < 0) (w : List Int) : Lg ⟨4, s, [x], (mn : Int), mx⟩ w ↔ RLg (List.replicate mn (Pa.of x) ++ [Pa.lp x]) w := by
  rw [RLg_of]
  simp only [RLg_lp, Lg, LgHd]
  constructor
  · rintro (⟨h, _⟩ | ⟨h, _⟩ | ⟨h, _⟩ | ⟨_, n, h1, _, h⟩)
    · omega
    · omega
    · omega
    rw [show n = mn + (n - mn) by omega, Rep.add] at h
    obtain ⟨u, v, rfl, h1, h2⟩ := h
    exact ⟨u, v, rfl, h1, _, h2⟩
  · rintro ⟨u, v, rfl, h1, n, h2⟩
    exact .inr (.inr (.inr ⟨trivial, mn + n, by omega, .inl hx, Rep.add.2 ⟨u, v, rfl, h1, h2⟩⟩))
theorem Lg_times (s : List Int) (x : T57) (mn k : Nat) (w : List Int) : Lg ⟨4, s, [x], (mn : Int), ((mn + k : Nat) : Int)⟩ w ↔ RLg (List.replicate mn (Pa.of x) ++ List.replicate k (Pa.ph x)) w := by
  rw [RLg_of]
  simp only [RLg_ph, Lg, LgHd]
  constructor
  · rintro (⟨h, _⟩ | ⟨h, _⟩ | ⟨h, _⟩ | ⟨_, n, h1, h2, h⟩)
    · omega
    · omega
    · omega
    rw [show n = mn + (n - mn) by omega, Rep.add] at h
    obtain ⟨u, v, rfl, h1, h2⟩ := h
    exact ⟨u, v, rfl, h1, _, by omega, h2⟩
  · rintro ⟨u, v, rfl, h1, n, hn, h2⟩
    exact .inr (.inr (.inr ⟨trivial, mn + n, by omega, .inr (by omega), Rep.add.2 ⟨u, v, rfl, h1, h2⟩⟩))
/-! ### What is accepted is meant -/
mutual
theorem Cd.snd {l : List T45} {r : T57} {a n : Nat} {c : List T45} : Cd r a n c → Lies l a c → ∀ (m : Nat) (w : List Int), Ac l m w a → ∃ u v m', w = u ++ v ∧ Lg r u ∧ Ac l m' v n ∧ m' < m
  | .set, hl, m, w, h => by
    obtain ⟨b, v, m', rfl, hb, h', hm⟩ := h.byte_inv hl.head
    refine ⟨[b], v, m', rfl, ?_, by simpa using h', hm⟩
    simp only [Lg]
    exact .inl ⟨trivial, b, rfl, hb⟩
  | .all hr, hl, m, w, h => by
    obtain ⟨u, v, m', rfl, h1, h2, h3⟩ := hr.snd rfl hl m w h
    refine ⟨u, v, m', rfl, ?_, h2, h3⟩
    simp only [Lg]
    exact .inr (.inl ⟨trivial, (RLg_all _ _).1 h1⟩)
  | .void, hl, m, w, h => by
    obtain ⟨m', h', hm⟩ := h.jump_inv hl.head
    refine ⟨[], w, m', rfl, ?_, by simpa using h', hm⟩
    simp only [Lg, LgAll]
    exact .inr (.inl ⟨trivial, trivial⟩)
  | .any hr, hl, m, w, h => by
    obtain ⟨u, v, m', rfl, h1, h2, h3⟩ := hr.snd hl m w h
    refine ⟨u, v, m', rfl, ?_, h2, h3⟩
    simp only [Lg]
    exact .inr (.inr (.inl ⟨trivial, h1⟩))
  | .none, hl, m, w, h => by
    obtain ⟨b, v, m', rfl, hb, h', hm⟩ := h.byte_inv hl.head
    exact absurd hb (Hs_Z4 b)
  | .star hx hr, hl, m, w, h => by
    obtain ⟨u, v, m', rfl, h1, h2, h3⟩ := hr.snd rfl hl m w h
    exact ⟨u, v, m', rfl, (Lg_star _ _ _ _ hx _).2 h1, h2, h3⟩
  | .times hx hr, hl, m, w, h => by
    obtain ⟨u, v, m', rfl, h1, h2, h3⟩ := hr.snd rfl hl m w h
    exact ⟨u, v, m', rfl, (Lg_times _ _ _ _ _).2 h1, h2, h3⟩
  | .never, hl, m, w, h => by
    obtain ⟨m', h', hm⟩ := h.jump_inv hl.head
    refine ⟨[], w, m', rfl, ?_, by simpa using h', hm⟩
    simp only [Lg]
    exact .inr (.inr (.inr ⟨trivial, 0, by omega, .inr (by omega), rfl⟩))
theorem An.snd {l : List T45} {L : List T57} {a n : Nat} {c : List T45} : An L a n c → Lies l a c → ∀ (m : Nat) (w : List Int), Ac l m w a → ∃ u v m', w = u ++ v ∧ LgAny L u ∧ Ac l m' v n ∧ m' < m
  | .one hc, hl, m, w, h => by
    obtain ⟨u, v, m', rfl, h1, h2, h3⟩ := hc.snd hl m w h
    refine ⟨u, v, m', rfl, ?_, h2, h3⟩
    simp only [LgAny]
    exact .inl h1
  | .more hc hr, hl, m, w, h => by
    obtain ⟨m1, h1, hm⟩ := h.split_inv hl.head
    rcases h1 with h1 | h1
    · obtain ⟨u, v, m', rfl, h1, h2, h3⟩ := hc.snd hl.tail.left m1 w (by simpa using h1)
      refine ⟨u, v, m', rfl, ?_, h2, by omega⟩
      simp only [LgAny]
      exact .inl h1
    · obtain ⟨u, v, m', rfl, h1, h2, h3⟩ := hr.snd hl.tail.right m1 w (by simpa only [Int.toNat_natCast] using h1)
      refine ⟨u, v, m', rfl, ?_, h2, by omega⟩
      rw [LgAny]
      exact .inr h1
theorem Row.snd {l : List T45} {ps : List Pa} {al a n : Nat} {c : List T45} : Row ps al a n c → al = n → Lies l a c → ∀ (m : Nat) (w : List Int), Ac l m w a → ∃ u v m', w = u ++ v ∧ RLg ps u ∧ Ac l m' v n ∧ m' < m
  | .last hp, e, hl, m, w, h => by
    rcases hp.snd (ps := []) hl m w h with ⟨u, v, m', rfl, h1, h2, h3⟩ | ⟨m', h1, h2, h3⟩
    · exact ⟨u, v, m', rfl, h1 u [] (by simp) rfl, h2, h3⟩
    · exact ⟨[], w, m', rfl, h1, by rw [← e]; exact h2, h3⟩
  | .cons hp hr, e, hl, m, w, h => by
    rcases hp.snd hl.left m w h with ⟨u, v, m', rfl, h1, h2, h3⟩ | ⟨m', h1, h2, h3⟩
    · obtain ⟨u', v', m'', rfl, h4, h5, h6⟩ := hr.snd e hl.right m' v h2
      exact ⟨u ++ u', v', m'', by rw [List.append_assoc], h1 _ _ rfl h4, h5, by omega⟩
    · exact ⟨[], w, m', rfl, h1, by rw [← e]; exact h2, h3⟩
theorem Pc.snd {l : List T45} {p : Pa} {ps : List Pa} {al a n : Nat} {c : List T45} : Pc p al a n c → Lies l a c → ∀ (m : Nat) (w : List Int), Ac l m w a →
    (∃ u v m', w = u ++ v ∧ (∀ u' v', u' = u ++ v' → RLg ps v' → RLg (p :: ps) u') ∧ Ac l m' v n ∧ m' < m) ∨ (∃ m', RLg (p :: ps) [] ∧ Ac l m' w al ∧ m' < m)
  | .of hc, hl, m, w, h => by
    obtain ⟨u, v, m', rfl, h1, h2, h3⟩ := hc.snd hl m w h
    exact .inl ⟨u, v, m', rfl, fun u' v' e hv => ⟨u, v', e, h1, hv⟩, h2, h3⟩
  | .lp (r := r) hc, hl, m, w, h => by
    have key : ∀ (k m : Nat) (w : List Int), m < k → Ac l m w a → ∃ u v m', w = u ++ v ∧ (∃ n, Rep (Lg r) n u) ∧ Ac l m' v n ∧ m' < m := by
      intro k
      induction k with
      | zero => intro m w hm; omega
      | succ k ih =>
        intro m w hm h
        obtain ⟨m1, h1, hm1⟩ := h.split_inv hl.head
        rcases h1 with h1 | h1
        · obtain ⟨u, v, m', rfl, h7, h2, h3⟩ := hc.snd hl.tail m1 w (by simpa using h1)
          obtain ⟨u', v', m'', rfl, ⟨q, h4⟩, h5, h6⟩ := ih m' v (by omega) h2
          exact ⟨u ++ u', v', m'', by rw [List.append_assoc], ⟨q + 1, u, u', rfl, h7, h4⟩, h5, by omega⟩
        · exact ⟨[], w, m1, rfl, ⟨0, rfl⟩, by simpa using h1, hm1⟩
    obtain ⟨u, v, m', rfl, h1, h2, h3⟩ := key (m + 1) m w (by omega) h
    exact .inl ⟨u, v, m', rfl, fun u' v' e hv => ⟨u, v', e, h1, hv⟩, h2, h3⟩
  | .ph hc, hl, m, w, h => by
    obtain ⟨m1, h1, hm1⟩ := h.split_inv hl.head
    rcases h1 with h1 | h1
    · obtain ⟨u, v, m', rfl, h1, h2, h3⟩ := hc.snd hl.tail m1 w (by simpa using h1)
      exact .inl ⟨u, v, m', rfl, fun u' v' e hv => .inr ⟨u, v', e, h1, hv⟩, h2, by omega⟩
    · exact .inr ⟨m1, .inl rfl, by simpa using h1, hm1⟩
end
/-! ### What is meant is accepted -/
mutual
theorem Cd.cmp {l : List T45} {r : T57} {a n : Nat} {c : List T45} : Cd r a n c → Lies l a c → ∀ (u v : List Int), Lg r u → (∃ m, Ac l m v n) → ∃ m, Ac l m (u ++ v) a
  | .set, hl, u, v, h, ⟨m, hm⟩ => by
    simp only [Lg] at h
    rcases h with ⟨_, b, rfl, hb⟩ | ⟨h, _⟩ | ⟨h, _⟩ | ⟨h, _⟩
    · exact ⟨m + 1, .byte hl.head hb (by simpa using hm)⟩
    · omega
    · omega
    · omega
  | .all hr, hl, u, v, h, hm => by
    simp only [Lg] at h
    rcases h with ⟨h, _⟩ | ⟨_, h⟩ | ⟨h, _⟩ | ⟨h, _⟩
    · omega
    · exact hr.cmp rfl hl u v ((RLg_all _ _).2 h) hm
    · omega
    · omega
  | .void, hl, u, v, h, ⟨m, hm⟩ => by
    simp only [Lg, LgAll] at h
    rcases h with ⟨h, _⟩ | ⟨_, rfl⟩ | ⟨h, _⟩ | ⟨h, _⟩
    · omega
    · exact ⟨m + 1, .jump hl.head (by simpa using hm)⟩
    · omega
    · omega
  | .any hr, hl, u, v, h, hm => by
    simp only [Lg] at h
    rcases h with ⟨h, _⟩ | ⟨h, _⟩ | ⟨_, h⟩ | ⟨h, _⟩
    · omega
    · omega
    · exact hr.cmp hl u v h hm
    · omega
  | .none, hl, u, v, h, hm => by
    simp only [Lg, LgAny] at h
    rcases h with ⟨h, _⟩ | ⟨h, _⟩ | ⟨_, h⟩ | ⟨h, _⟩
    · omega
    · omega
    · exact absurd h id
    · omega
  | .star hx hr, hl, u, v, h, hm => hr.cmp rfl hl u v ((Lg_star _ _ _ _ hx _).1 h) hm
  | .times hx hr, hl, u, v, h, hm => hr.cmp rfl hl u v ((Lg_times _ _ _ _ _).1 h) hm
  | .never, hl, u, v, h, ⟨m, hm⟩ => by
    simp only [Lg] at h
    rcases h with ⟨h, _⟩ | ⟨h, _⟩ | ⟨h, _⟩ | ⟨_, q, _, h2, h⟩
    · omega
    · omega
    · omega
    · cases (show q = 0 by omega)
      cases (show u = [] from h)
      exact ⟨m + 1, .jump hl.head (by simpa using hm)⟩
theorem An.cmp {l : List T45} {L : List T57} {a n : Nat} {c : List T45} : An L a n c → Lies l a c → ∀ (u v : List Int), LgAny L u → (∃ m, Ac l m v n) → ∃ m, Ac l m (u ++ v) a
  | .one hc, hl, u, v, h, hm => by
    simp only [LgAny] at h
    rcases h with h | h
    · exact hc.cmp hl u v h hm
    · exact absurd h id
  | .more hc hr, hl, u, v, h, hm => by
    rw [LgAny] at h
    rcases h with h | h
    · obtain ⟨m, h⟩ := hc.cmp hl.tail.left u v h hm
      exact ⟨m + 1, .left hl.head (by simpa using h)⟩
    · obtain ⟨m, h⟩ := hr.cmp hl.tail.right u v h hm
      exact ⟨m + 1, .right hl.head (by simpa only [Int.toNat_natCast] using h)⟩
theorem Row.cmp {l : List T45} {ps : List Pa} {al a n : Nat} {c : List T45} : Row ps al a n c → al = n → Lies l a c → ∀ (u v : List Int), RLg ps u → (∃ m, Ac l m v n) → ∃ m, Ac l m (u ++ v) a
  | .last hp, e, hl, u, v, h, hm => by
    refine hp.cmp hl u v h (e ▸ hm) ?_
    rintro u' v' rfl h
    cases (show u' = [] from h)
    simpa using hm
  | .cons hp hr, e, hl, u, v, h, hm => by
    refine hp.cmp hl.left u v h (e ▸ hm) ?_
    rintro u' v' rfl h
    exact hr.cmp e hl.right _ _ h hm
theorem Pc.cmp {l : List T45} {p : Pa} {ps : List Pa} {al a n : Nat} {c : List T45} : Pc p al a n c → Lies l a c → ∀ (u v : List Int), RLg (p :: ps) u → (∃ m, Ac l m v al) →
    (∀ u' v', v' = v → RLg ps u' → ∃ m, Ac l m (u' ++ v') n) → ∃ m, Ac l m (u ++ v) a
  | .of hc, hl, u, v, h, hm, hk => by
    obtain ⟨u1, u2, rfl, h1, h2⟩ := h
    rw [List.append_assoc]
    exact hc.cmp hl u1 _ h1 (hk _ _ rfl h2)
  | .lp (r := r) hc, hl, u, v, h, hm, hk => by
    obtain ⟨u1, u2, rfl, ⟨q, h1⟩, h2⟩ := h
    rw [List.append_assoc]
    obtain ⟨m, hm⟩ := hk _ _ rfl h2
    have key : ∀ (q : Nat) (u1 : List Int), Rep (Lg r) q u1 → ∃ m, Ac l m (u1 ++ (u2 ++ v)) a := by
      intro q
      induction q with
      | zero =>
        intro u1 h
        cases (show u1 = [] from h)
        exact ⟨m + 1, .right hl.head (by simpa using hm)⟩
      | succ q ih =>
        rintro _ ⟨x, y, rfl, h1, h2⟩
        rw [List.append_assoc]
        obtain ⟨m', h'⟩ := hc.cmp hl.tail x _ h1 (ih y h2)
        exact ⟨m' + 1, .left hl.head (by simpa using h')⟩
    exact key q u1 h1
  | .ph hc, hl, u, v, h, ⟨m, hm⟩, hk => by
    rcases h with rfl | ⟨u1, u2, rfl, h1, h2⟩
    · exact ⟨m + 1, .right hl.head (by simpa using hm)⟩
    · rw [List.append_assoc]
      obtain ⟨m, h⟩ := hc.cmp hl.tail u1 _ h1 (hk _ _ rfl h2)
      exact ⟨m + 1, .left hl.head (by simpa using h)⟩
end
end Go.Proofs.YtemokppdnkiejaaGreat
