/-
  A pattern's code: how long it is, that it is just one, and what it is elsewhere. Pure.
-/
import Derived.Test.YtemokppdnkiejaaDoorPMkB
set_option linter.unusedVariables false
set_option linter.unusedSimpArgs false
namespace Go.Proofs.YtemokppdnkiejaaDoor
open Go.Gx

/-- what Make and Count answer -/
theorem make3 (r : T27) (hf : Fit 128 r) : (¬ (Rt 128 r ∧ nd r ≤ 4096) ∧ M.prog_Make r = some ([], 2) ∧ M.prog_Count r = some (0, 2)) ∨
    (Rt 128 r ∧ nd r ≤ 4096 ∧ 2048 < sz r + 1 ∧ M.prog_Make r = some ([], 110) ∧ M.prog_Count r = some (((min 1048576 (sz r + 1) : Nat) : Int), 0)) ∨
    (Good r ∧ ∃ c, Cd r 0 (sz r) c ∧ c.length = sz r ∧ M.prog_Make r = some (c ++ [fin'], 0) ∧ M.prog_Count r = some (((min 1048576 (sz r + 1) : Nat) : Int), 0)) := by
  obtain ⟨b, h1, h2⟩ := check_tot r hf
  cases b with
  | false =>
    left
    refine ⟨fun h => (by have := h2.2 h; cases this), ?_, ?_⟩
    · rw [M.prog_Make, M.prog_Count, h1, bnd, if_neg (by decide), bnd]; rfl
    · rw [M.prog_Count, h1, bnd, if_neg (by decide)]
  | true =>
    obtain ⟨k1, k2⟩ := h2.1 rfl
    have hc : M.prog_Count r = some (((min 1048576 (sz r + 1) : Nat) : Int), 0) := by
      rw [M.prog_Count, h1, bnd, if_pos rfl, size_ok 128 r k1 k2, bnd, wr_i64 (x := ((min 1048576 (sz r) : Nat) : Int) + 1) (by omega) (by omega)]
      have e1 : imn 1048576 (((min 1048576 (sz r) : Nat) : Int) + 1) = ((min 1048576 (sz r + 1) : Nat) : Int) := by
        simp only [imn]
        split <;> omega
      rw [e1]
    by_cases hs : sz r + 1 ≤ 2048
    · right; right
      obtain ⟨c, g1, g2, g3⟩ := Good.make ⟨k1, k2, hs⟩
      exact ⟨⟨k1, k2, hs⟩, c, g1, g2, g3, hc⟩
    · right; left
      refine ⟨k1, k2, by omega, ?_, hc⟩
      rw [M.prog_Make, hc, bnd, if_pos rfl, if_pos (by show ((min 1048576 (sz r + 1) : Nat) : Int) > 2048; omega)]
/-! ### What a code may look like -/
theorem Cd.inv {r : T27} {a n : Nat} {c : List T48} (h : Cd r a n c) :
    (r.Kind = 1 ∧ c = [⟨1, r.Set, (n : Int), 0⟩]) ∨ (r.Kind = 2 ∧ r.L ≠ [] ∧ Row (r.L.map Pa.of) n a n c) ∨ (r.Kind = 2 ∧ r.L = [] ∧ c = [⟨4, Z4, (n : Int), 0⟩]) ∨
    (r.Kind = 3 ∧ r.L ≠ [] ∧ An r.L a n c) ∨ (r.Kind = 3 ∧ r.L = [] ∧ c = [⟨1, Z4, (n : Int), 0⟩]) ∨
    (r.Kind = 4 ∧ r.Max < 0 ∧ ∃ x, r.L = [x] ∧ Row (List.replicate r.Min.toNat (Pa.of x) ++ [Pa.lp x]) n a n c) ∨
    (r.Kind = 4 ∧ 0 < r.Max ∧ ∃ x, r.L = [x] ∧ Row (List.replicate r.Min.toNat (Pa.of x) ++ List.replicate (r.Max - r.Min).toNat (Pa.ph x)) n a n c) ∨
    (r.Kind = 4 ∧ r.Max = 0 ∧ c = [⟨4, Z4, (n : Int), 0⟩]) := by
  cases h with
  | set => exact .inl ⟨rfl, rfl⟩
  | all h => exact .inr (.inl ⟨rfl, by simp, h⟩)
  | void => exact .inr (.inr (.inl ⟨rfl, rfl, rfl⟩))
  | any h => exact .inr (.inr (.inr (.inl ⟨rfl, by simp, h⟩)))
  | none => exact .inr (.inr (.inr (.inr (.inl ⟨rfl, rfl, rfl⟩))))
  | star hm h => exact .inr (.inr (.inr (.inr (.inr (.inl ⟨rfl, hm, _, rfl, by simpa using h⟩)))))
  | @times s x mn k a n c hk h => exact .inr (.inr (.inr (.inr (.inr (.inr (.inl ⟨rfl, by show (0 : Int) < ((mn + k : Nat) : Int); omega, _, rfl, by
      have e : (((mn + k : Nat) : Int) - (mn : Int)).toNat = k := by omega
      show Row (List.replicate ((mn : Int)).toNat (Pa.of x) ++ List.replicate (((mn + k : Nat) : Int) - (mn : Int)).toNat (Pa.ph x)) n a n c
      rw [e, Int.toNat_natCast]
      exact h⟩))))))
  | never => exact .inr (.inr (.inr (.inr (.inr (.inr (.inr ⟨rfl, rfl, rfl⟩))))))
mutual
theorem Cd.len {r : T27} {a n : Nat} {c : List T48} : Cd r a n c → c.length = sz r
  | .set => by rw [sz_eq]; simp
  | .all (x := x) (L := L) h => by
    have := h.len
    rw [pss_map] at this
    rw [this, sz_eq]
    have hp := sz_pos x
    simp only [szs]
    rw [if_neg (by simp), if_pos (by simp)]
    omega
  | .void => by rw [sz_eq]; simp [szs]
  | .any (x := x) (L := L) h => by
    have := h.len
    rw [sz_eq]
    have hp := sz_pos x
    simp only [szs] at this ⊢
    rw [if_pos (by simp)]
    omega
  | .none => by rw [sz_eq]; simp [szs]
  | .star (x := x) (mn := mn) hm h => by
    have := h.len
    rw [pss_append, pss_rep] at this
    rw [this, sz_eq]
    simp only [pss, psz, szh]
    rw [if_neg (by simp), if_neg (by simp), if_pos (by simp), if_pos hm, Int.toNat_natCast]
    omega
  | .times (x := x) (mn := mn) (k := k) hk h => by
    have := h.len
    rw [pss_append, pss_rep, pss_rep] at this
    have hp := sz_pos x
    rw [this, sz_eq]
    have e : (((mn + k : Nat) : Int) - (mn : Int)).toNat = k := by omega
    simp only [psz, szh]
    rw [if_neg (by simp), if_neg (by simp), if_pos (by simp), if_neg (by omega), e, Int.toNat_natCast]
    have : 1 ≤ mn * sz x + k * (sz x + 1) := by
      rcases Nat.eq_zero_or_pos mn with h0 | h0
      · have : 1 ≤ k := by omega
        have := Nat.mul_le_mul this (Nat.le_refl (sz x + 1))
        omega
      · have := Nat.mul_le_mul h0 hp
        omega
    omega
  | .never => by rw [sz_eq]; simp
theorem An.len {L : List T27} {a n : Nat} {c : List T48} : An L a n c → c.length = L.length - 1 + szs L
  | .one h => by have := h.len; simp [szs, this]
  | .more h hs => by
    have a := h.len
    have b := hs.len
    simp only [List.length_cons, List.length_append, szs] at *
    omega
theorem Row.len {ps : List Pa} {al a n : Nat} {c : List T48} : Row ps al a n c → c.length = pss ps
  | .last h => by have := h.len; simp [pss, this]
  | .cons h hs => by
    have a := h.len
    have b := hs.len
    simp only [List.length_append, pss] at *
    omega
theorem Pc.len {p : Pa} {al a n : Nat} {c : List T48} : Pc p al a n c → c.length = psz p
  | .of h => by have := h.len; simp [psz, this]
  | .lp h => by have := h.len; simp [psz, this]
  | .ph h => by have := h.len; simp [psz, this]
end

mutual
theorem Cd.op {r : T27} {a n : Nat} {c : List T48} : Cd r a n c → ∀ x ∈ c, x.Op ≠ 3
  | .set, x, hx => by rw [List.mem_singleton.1 hx]; simp
  | .all h, x, hx => h.op x hx
  | .void, x, hx => by rw [List.mem_singleton.1 hx]; simp
  | .any h, x, hx => h.op x hx
  | .none, x, hx => by rw [List.mem_singleton.1 hx]; simp
  | .star _ h, x, hx => h.op x hx
  | .times _ h, x, hx => h.op x hx
  | .never, x, hx => by rw [List.mem_singleton.1 hx]; simp
theorem An.op {L : List T27} {a n : Nat} {c : List T48} : An L a n c → ∀ x ∈ c, x.Op ≠ 3
  | .one h, x, hx => h.op x hx
  | .more h hs, x, hx => by
    rcases List.mem_cons.1 hx with rfl | hx
    · simp
    · rcases List.mem_append.1 hx with hx | hx
      · exact h.op x hx
      · exact hs.op x hx
theorem Row.op {ps : List Pa} {al a n : Nat} {c : List T48} : Row ps al a n c → ∀ x ∈ c, x.Op ≠ 3
  | .last h, x, hx => h.op x hx
  | .cons h hs, x, hx => by
    rcases List.mem_append.1 hx with hx | hx
    · exact h.op x hx
    · exact hs.op x hx
theorem Pc.op {p : Pa} {al a n : Nat} {c : List T48} : Pc p al a n c → ∀ x ∈ c, x.Op ≠ 3
  | .of h, x, hx => h.op x hx
  | .lp h, x, hx => by
    rcases List.mem_cons.1 hx with rfl | hx
    · simp
    · exact h.op x hx
  | .ph h, x, hx => by
    rcases List.mem_cons.1 hx with rfl | hx
    · simp
    · exact h.op x hx
end

/-! ### Just one -/
mutual
theorem Cd.det {r : T27} {a n : Nat} {c : List T48} : Cd r a n c → ∀ c', Cd r a n c' → c = c'
  | .set => fun c' h' => by
    rcases h'.inv with h | h | h | h | h | h | h | h <;> first | exact h.2.symm | (exfalso; simpa using h.1)
  | .all h => fun c' h' => by
    rcases h'.inv with k | k | k | k | k | k | k | k <;> first | exact h.det c' k.2.2 | (exfalso; have := k.1; simp at this; done) | (exfalso; have := k.2.1; simp at this; done)
  | .void => fun c' h' => by
    rcases h'.inv with k | k | k | k | k | k | k | k <;> first | exact k.2.2.symm | (exfalso; have := k.1; simp at this; done) | (exfalso; have := k.2.1; simp at this; done)
  | .any h => fun c' h' => by
    rcases h'.inv with k | k | k | k | k | k | k | k <;> first | exact h.det c' k.2.2 | (exfalso; have := k.1; simp at this; done) | (exfalso; have := k.2.1; simp at this; done)
  | .none => fun c' h' => by
    rcases h'.inv with k | k | k | k | k | k | k | k <;> first | exact k.2.2.symm | (exfalso; have := k.1; simp at this; done) | (exfalso; have := k.2.1; simp at this; done)
  | .star hm h => fun c' h' => by
    rcases h'.inv with k | k | k | k | k | k | k | k
    · exfalso; have := k.1; simp at this
    · exfalso; have := k.1; simp at this
    · exfalso; have := k.1; simp at this
    · exfalso; have := k.1; simp at this
    · exfalso; have := k.1; simp at this
    · obtain ⟨_, _, y, e, k⟩ := k
      simp at e
      subst e
      exact h.det c' (by simpa using k)
    · have := k.2.1; simp at this; omega
    · have := k.2.1; simp at this; omega
  | .times (mn := mn) (k := kk) hk h => fun c' h' => by
    rcases h'.inv with k | k | k | k | k | k | k | k
    · exfalso; have := k.1; simp at this
    · exfalso; have := k.1; simp at this
    · exfalso; have := k.1; simp at this
    · exfalso; have := k.1; simp at this
    · exfalso; have := k.1; simp at this
    · have := k.2.1; simp at this; omega
    · obtain ⟨_, _, y, e, k⟩ := k
      simp only [List.cons.injEq, and_true] at e
      subst e
      have e : (((mn + kk : Nat) : Int) - (mn : Int)).toNat = kk := by omega
      simp only [e, Int.toNat_natCast] at k
      exact h.det c' k
    · have h1 : ((mn + kk : Nat) : Int) = 0 := k.2.1
      omega
  | .never => fun c' h' => by
    rcases h'.inv with k | k | k | k | k | k | k | k
    · exfalso; have := k.1; simp at this
    · exfalso; have := k.1; simp at this
    · exfalso; have := k.1; simp at this
    · exfalso; have := k.1; simp at this
    · exfalso; have := k.1; simp at this
    · have := k.2.1; simp at this
    · have := k.2.1; simp at this
    · exact k.2.2.symm
theorem An.det {L : List T27} {a n : Nat} {c : List T48} : An L a n c → ∀ c', An L a n c' → c = c'
  | .one h => fun c' h' => by
    cases h' with
    | one h' => exact h.det c' h'
  | .more h hs => fun c' h' => by
    cases h' with
    | more k ks =>
      have e := h.det _ k
      subst e
      rw [hs.det _ ks]
theorem Row.det {ps : List Pa} {al a n : Nat} {c : List T48} : Row ps al a n c → ∀ c', Row ps al a n c' → c = c'
  | .last h => fun c' h' => by
    cases h' with
    | last h' => exact h.det c' h'
  | .cons (c := c1) (a := a0) h hs => fun c' h' => by
    cases h' with
    | @cons _ _ _ _ _ _ c2 d2 k ks =>
      have e1 := h.len
      have e2 := k.len
      have e3 : c2.length = c1.length := by rw [e1, e2]
      rw [e3] at k ks
      have e := h.det _ k
      subst e
      rw [hs.det _ ks]
theorem Pc.det {p : Pa} {al a n : Nat} {c : List T48} : Pc p al a n c → ∀ c', Pc p al a n c' → c = c'
  | .of h => fun c' h' => by
    cases h' with
    | of h' => exact h.det c' h'
  | .lp h => fun c' h' => by
    cases h' with
    | lp h' => rw [h.det _ h']
  | .ph h => fun c' h' => by
    cases h' with
    | ph h' => rw [h.det _ h']
end

/-! ### Elsewhere -/
def sh (k : Nat) (x : T48) : T48 := ⟨x.Op, x.Set, x.X + k, if x.Op = 2 then x.Y + k else x.Y⟩
mutual
theorem Cd.sh (k : Nat) {r : T27} {a n : Nat} {c : List T48} : Cd r a n c → Cd r (a + k) (n + k) (c.map (sh k))
  | .set => .set
  | .all h => .all (h.sh k)
  | .void => .void
  | .any h => .any (h.sh k)
  | .none => .none
  | .star hm h => .star hm (h.sh k)
  | .times hk h => .times hk (h.sh k)
  | .never => .never
theorem An.sh (k : Nat) {L : List T27} {a n : Nat} {c : List T48} : An L a n c → An L (a + k) (n + k) (c.map (sh k))
  | .one h => .one (h.sh k)
  | .more (c := c) (d := d) h hs => by
    have h1 := h.sh k
    have h2 := hs.sh k
    have e : a + 1 + k = a + k + 1 := by omega
    have e2 : a + 1 + c.length + k = a + k + 1 + (c.map (Go.Proofs.YtemokppdnkiejaaDoor.sh k)).length := by rw [List.length_map]; omega
    rw [e] at h1
    rw [e2] at h2
    have := An.more h1 h2
    simp only [List.map_cons, List.map_append]
    have e3 : Go.Proofs.YtemokppdnkiejaaDoor.sh k ⟨2, Z4, ((a + 1 : Nat) : Int), ((a + 1 + c.length : Nat) : Int)⟩ = ⟨2, Z4, ((a + k + 1 : Nat) : Int), ((a + k + 1 + (c.map (Go.Proofs.YtemokppdnkiejaaDoor.sh k)).length : Nat) : Int)⟩ := by
      simp only [Go.Proofs.YtemokppdnkiejaaDoor.sh, List.length_map, if_pos]
      congr 1 <;> omega
    rw [e3]
    exact this
theorem Row.sh (k : Nat) {ps : List Pa} {al a n : Nat} {c : List T48} : Row ps al a n c → Row ps (al + k) (a + k) (n + k) (c.map (sh k))
  | .last h => .last (h.sh k)
  | .cons (c := c) (d := d) h hs => by
    have h1 := h.sh k
    have h2 := hs.sh k
    have e : a + c.length + k = a + k + (c.map (Go.Proofs.YtemokppdnkiejaaDoor.sh k)).length := by rw [List.length_map]; omega
    rw [e] at h1 h2
    rw [List.map_append]
    exact .cons h1 h2
theorem Pc.sh (k : Nat) {p : Pa} {al a n : Nat} {c : List T48} : Pc p al a n c → Pc p (al + k) (a + k) (n + k) (c.map (sh k))
  | .of h => .of (h.sh k)
  | .lp (c := c) h => by
    have h1 := h.sh k
    rw [show a + 1 + k = a + k + 1 by omega] at h1
    have := Pc.lp (al := al + k) (n := n + k) h1
    simp only [List.map_cons]
    have e3 : Go.Proofs.YtemokppdnkiejaaDoor.sh k ⟨2, Z4, ((a + 1 : Nat) : Int), (n : Int)⟩ = ⟨2, Z4, ((a + k + 1 : Nat) : Int), ((n + k : Nat) : Int)⟩ := by
      simp only [Go.Proofs.YtemokppdnkiejaaDoor.sh, if_pos]
      congr 1 <;> omega
    rw [e3]
    exact this
  | .ph (c := c) h => by
    have h1 := h.sh k
    rw [show a + 1 + k = a + k + 1 by omega] at h1
    have := Pc.ph (al := al + k) h1
    simp only [List.map_cons]
    have e3 : Go.Proofs.YtemokppdnkiejaaDoor.sh k ⟨2, Z4, ((a + 1 : Nat) : Int), (al : Int)⟩ = ⟨2, Z4, ((a + k + 1 : Nat) : Int), ((al + k : Nat) : Int)⟩ := by
      simp only [Go.Proofs.YtemokppdnkiejaaDoor.sh, if_pos]
      congr 1 <;> omega
    rw [e3]
    exact this
end
end Go.Proofs.YtemokppdnkiejaaDoor
