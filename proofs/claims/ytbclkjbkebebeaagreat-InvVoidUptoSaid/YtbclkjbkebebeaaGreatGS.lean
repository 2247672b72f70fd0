/-
 What arguments of structs, arrays, and of types that lead back to themselves give. Generic but for the bulk.
-/
import Derived.Test.YtbclkjbkebebeaaGreatGR
set_option linter.unusedVariables false
namespace Go.Gx
open Go.RowKit Go.ChangeShapes Go.WideShapes
open Go.Proofs.YtbclkjbkebebeaaGreat (Rows.uptoBulk Rows.uptoBulkAll Rows.uptoSmall)
def OpensN {α : Type} (n : Nat) (P : Program) (t : TypeId) (K : Kd α) (ok : α → Prop) (bk : α → Nat) : Prop :=
 ∀ (H : Type) (enc : TypeId × Value → H) (w : World) (fuel : Nat) (cs : List Value) (x : DataW H × List MemPlace), fuel ≤ n → DataW.trod enc P w 0 (fun _ => true) true fuel t cs = some x → ∃ y, K.rep (all w) w cs y ∧ ok y ∧ bk y ≤ Rows.uptoBulk x.1
section
variable {P : Program} {t e : TypeId} {α β : Type} {K : Kd α} {ok ok' : α → Prop} {bk : α → Nat} {n : Nat}
theorem Opens.at_ (h : Opens P t K ok bk) : OpensN n P t K ok bk := fun H enc w fuel cs x _ hx => h H enc w fuel cs x hx
theorem opens_of_n (h : ∀ n, OpensN n P t K ok bk) : Opens P t K ok bk := fun H enc w fuel cs x hx => h fuel H enc w fuel cs x (Nat.le_refl _) hx
theorem OpensN.mono {m : Nat} (h : OpensN n P t K ok bk) (hm : m ≤ n) : OpensN m P t K ok bk := fun H enc w fuel cs x hf hx => h H enc w fuel cs x (by omega) hx
theorem OpensN.weak (h : OpensN n P t K ok bk) (ho : ∀ y, ok y → ok' y) : OpensN n P t K ok' bk := fun H enc w fuel cs x hf hx => by
 obtain ⟨y, h1, h2, h3⟩ := h H enc w fuel cs x hf hx
 exact ⟨y, h1, ho y h2, h3⟩
theorem OpensN.zero : OpensN 0 P t K ok bk := fun H enc w fuel cs x hf hx => by
 obtain rfl : fuel = 0 := by omega
 simp [DataW.trod] at hx
theorem OpensN.slice (ht : P.underlying t = some (.slice e)) (hs : P.cellsOf e = K.size) (ho : OpensN n P e K ok bk) : OpensN (n + 1) P t (kSl K) (okSl ok) (bkSl bk) := by
 intro H enc w fuel cs x hfu h
 rcases DataW.trod_slice ht h with ⟨rfl, rfl⟩ | ⟨a, len, cap, elems, rest, n', rfl, rfl, rfl, hb, hlc, hcm, hlen, hel, -, -⟩
 ·exact ⟨[], ⟨none, 0, rfl, Rd.none_⟩, by simp [okSl], by simp [bkSl, Rows.uptoBulk]⟩
 ·rw [hs] at hel
  have key : ∀ m, m ≤ len → ∃ cs xs, xs.length = m ∧ Els K (all w) w cs xs ∧ (∀ q v, cs[q]? = some v → w.cell? (a.add q) = some v) ∧ (∀ x ∈ xs, ok x) ∧ (xs.map bk).sum ≤ Rows.uptoBulkAll ((elems.take m).map (·.1)) := by
   intro m
   induction m with
   | zero => intro _; exact ⟨[], [], rfl, .nil, by simp, by simp, by simp [Rows.uptoBulkAll]⟩
   | succ m ih =>
    intro hm
    obtain ⟨cs, xs, h1, h2, h3, h4, h5⟩ := ih (by omega)
    have hlt : m < elems.length := by omega
    have hk := hel m (by omega)
    rw [List.getElem?_eq_getElem hlt] at hk
    obtain ⟨cs', hc', ht'⟩ := Option.bind_eq_some_iff.1 hk
    obtain ⟨y, hy, hoky, hby⟩ := ho H enc w n' cs' _ (by omega) ht'
    obtain ⟨_, hl', hcell⟩ := World.cells?_some hc'
    have hlcs := h2.length
    refine ⟨cs ++ cs', xs ++ [y], by simp [h1], h2.append (Els.single hy), ?_, ?_, ?_⟩
    ·intro q v hq
     rcases Nat.lt_or_ge q cs.length with hql | hql
     ·rw [List.getElem?_append_left hql] at hq; exact h3 q v hq
     ·rw [List.getElem?_append_right hql] at hq
      have hq' := (List.getElem?_eq_some_iff.1 hq).1
      rw [hlcs, h1] at hq hql hq'
      have := hcell (q - m * K.size) (by omega)
      rw [hq, Deep.add_add] at this
      rw [← this]
      congr 2
      omega
    ·intro x hx
     rcases List.mem_append.1 hx with h | h
     ·exact h4 x h
     ·obtain rfl := List.mem_singleton.1 h; exact hoky
    ·rw [List.take_add_one, List.getElem?_eq_getElem hlt]
     simp only [List.map_append, List.sum_append, bulk_app, Option.toList_some, List.map_cons, List.map_nil, List.sum_cons, List.sum_nil, Rows.uptoBulkAll, Nat.add_zero]
     omega
  obtain ⟨cs, xs, h1, h2, h3, h4, h5⟩ := key len (Nat.le_refl _)
  refine ⟨xs, ⟨some a, cap, by rw [h1], by omega, (fun e => by cases e), fun a' ha' => ?_⟩, h4, ?_⟩
  ·cases ha'
   refine ⟨cs, h2, fun hne => ?_⟩
   have h0 : a.spot = none := by
    cases cs with
    | nil => exact absurd rfl hne
    | cons v r =>
     have := h3 0 v rfl
     have h0 : a.add 0 = a := by simp [Addr.add]
     rw [h0] at this
     exact (cell_all this).1
   refine ⟨h0, fun j v hj => ?_⟩
   have hc := cell_all (h3 j v hj)
   have hb : (a.add j).block = a.block ∧ (a.add j).off = a.off + j := by
    unfold Addr.add
    split <;> simp_all
   rw [hb.1, hb.2] at hc
   exact hc.2
  ·simp only [bkSl, Rows.uptoBulk]
   have := bulk_take (elems.map (·.1)) len
   rw [← List.map_take] at this
   omega
/-! ### Arrays -/
def okArr {α : Type} (m : Nat) (ok : α → Prop) (xs : List α) : Prop := xs.length = m ∧ ∀ x ∈ xs, ok x
theorem OpensN.array {m : Nat} (ht : P.underlying t = some (.array m e)) (hs : P.cellsOf e = K.size) (hc : P.cellsOf t = m * K.size) (ho : OpensN n P e K ok bk) : OpensN (n + 1) P t (kArr m K) (okArr m ok) (bkSl bk) := by
 intro H enc w fuel cs x hfu h
 obtain ⟨xs, n', rfl, rfl, hl, hlen, hel⟩ := DataW.trod_array ht h
 rw [hs] at hel
 have key : ∀ q, q ≤ m → ∃ ys, ys.length = q ∧ Els K (all w) w (cs.take (q * K.size)) ys ∧ (∀ y ∈ ys, ok y) ∧ (ys.map bk).sum ≤ Rows.uptoBulkAll ((xs.take q).map (·.1)) := by
  intro q
  induction q with
  | zero => intro _; exact ⟨[], rfl, by simp only [Nat.zero_mul, List.take_zero]; exact .nil, by simp, by simp [Rows.uptoBulkAll]⟩
  | succ q ih =>
   intro hq
   obtain ⟨ys, h1, h2, h3, h4⟩ := ih (by omega)
   have hlt : q < xs.length := by omega
   have hk := hel q (by omega)
   rw [List.getElem?_eq_getElem hlt] at hk
   obtain ⟨y, hy, hoky, hby⟩ := ho H enc w n' _ _ (by omega) hk
   refine ⟨ys ++ [y], by simp [h1], ?_, ?_, ?_⟩
   ·rw [Nat.succ_mul, List.take_add]
    exact h2.append (Els.single hy)
   ·intro x hx
    rcases List.mem_append.1 hx with h | h
    ·exact h3 x h
    ·obtain rfl := List.mem_singleton.1 h; exact hoky
   ·rw [List.take_add_one, List.getElem?_eq_getElem hlt]
    simp only [List.map_append, List.sum_append, bulk_app, Option.toList_some, List.map_cons, List.map_nil, List.sum_cons, List.sum_nil, Rows.uptoBulkAll, Nat.add_zero]
    omega
 obtain ⟨ys, h1, h2, h3, h4⟩ := key m (Nat.le_refl _)
 rw [List.take_of_length_le (by rw [hl, hc]; exact Nat.le_refl _)] at h2
 refine ⟨ys, ⟨h1, h2⟩, ⟨h1, h3⟩, ?_⟩
 simp only [bkSl, Rows.uptoBulk]
 have := bulk_take (xs.map (·.1)) m
 rw [← List.map_take] at this
 omega
/-! ### Structs -/
def FldsN {α : Type} (n : Nat) (P : Program) (fs : List Field) (off : Nat) (K : Kd α) (ok : α → Prop) (bk : α → Nat) : Prop :=
 ∀ (H : Type) (enc : TypeId × Value → H) (w : World) (fuel : Nat) (cs : List Value) (xs : List (DataW H × List MemPlace)), fuel ≤ n → cs.length = off + K.size → xs.length = fs.length →
  (∀ (i : Nat) (f : Field), fs[i]? = some f → DataW.trod enc P w 0 (fun _ => true) true fuel f.type ((cs.drop f.offset).take (P.cellsOf f.type)) = xs[i]?) → ∃ y, K.rep (all w) w (cs.drop off) y ∧ ok y ∧ bk y ≤ Rows.uptoBulkAll (xs.map (·.1))
theorem FldsN.one {f : Field} {off : Nat} (hf : f.offset = off) (hs : P.cellsOf f.type = K.size) (ho : OpensN n P f.type K ok bk) : FldsN n P [f] off K ok bk := by
 intro H enc w fuel cs xs hfu hl hx h
 match xs, hx with
 | [x], _ =>
  have := h 0 f rfl
  rw [hf, hs, List.take_of_length_le (by rw [List.length_drop]; omega)] at this
  obtain ⟨y, h1, h2, h3⟩ := ho H enc w fuel _ x hfu (by simpa using this)
  exact ⟨y, h1, h2, by simpa [Rows.uptoBulkAll] using h3⟩
theorem FldsN.cons {f : Field} {r : List Field} {off : Nat} {K' : Kd β} {ok' : β → Prop} {bk' : β → Nat} (hf : f.offset = off) (hs : P.cellsOf f.type = K.size) (ho : OpensN n P f.type K ok bk) (hr : FldsN n P r (off + K.size) K' ok' bk') :
  FldsN n P (f :: r) off (kProd K K') (fun y => ok y.1 ∧ ok' y.2) (fun y => bk y.1 + bk' y.2) := by
 intro H enc w fuel cs xs hfu hl hx h
 match xs, hx with
 | x :: xs, hx =>
  have hsz : (kProd K K').size = K.size + K'.size := rfl
  have h0 := h 0 f rfl
  rw [hf, hs] at h0
  obtain ⟨y, h1, h2, h3⟩ := ho H enc w fuel _ x hfu (by simpa using h0)
  obtain ⟨z, g1, g2, g3⟩ := hr H enc w fuel cs xs hfu (by rw [hl, hsz]; omega) (by simpa using hx) (fun i f' hi => by simpa using h (i + 1) f' (by simpa using hi))
  refine ⟨(y, z), ⟨_, _, ?_, h1, g1⟩, ⟨h2, g2⟩, ?_⟩
  ·rw [← List.drop_drop, List.take_append_drop]
  ·simp only [List.map_cons, Rows.uptoBulkAll]; omega
theorem OpensN.struct {σ : Type} {fs : Array Field} (proj : σ → α) (mk : α → σ) (hm : ∀ a, proj (mk a) = a) (ht : P.underlying t = some (.struct fs)) (hc : P.cellsOf t = K.size) (ho : FldsN n P fs.toList 0 K ok bk) :
  OpensN (n + 1) P t (kMap proj K) (fun y => ok (proj y)) (fun y => bk (proj y) + 1) := by
 intro H enc w fuel cs x hfu h
 obtain ⟨xs, n', rfl, rfl, hl, hlen, hf⟩ := DataW.trod_struct ht h
 obtain ⟨y, h1, h2, h3⟩ := ho H enc w n' cs xs (by omega) (by rw [hl, hc]; omega) (by simpa using hlen) (fun i f hi => hf i f (by simpa using hi))
 rw [List.drop_zero] at h1
 refine ⟨mk y, ?_, ?_, ?_⟩
 ·show K.rep _ _ _ (proj (mk y)); rw [hm]; exact h1
 ·show ok (proj (mk y)); rw [hm]; exact h2
 ·show bk (proj (mk y)) + 1 ≤ _; rw [hm]; simp only [Rows.uptoBulk]; omega
theorem OpensN.conv {K' : Kd α} (hk : ∀ {S : Fz} {w : World} {cs : List Value} {y : α}, K'.rep S w cs y → K.rep S w cs y) (h : OpensN n P t K' ok bk) : OpensN n P t K ok bk := fun H enc w fuel cs x hf hx => by
 obtain ⟨y, h1, h2, h3⟩ := h H enc w fuel cs x hf hx
 exact ⟨y, hk h1, h2, h3⟩
theorem OpensN.weakb {bk' : α → Nat} (h : OpensN n P t K ok bk) (hb : ∀ y, bk' y ≤ bk y) : OpensN n P t K ok bk' := fun H enc w fuel cs x hf hx => by
 obtain ⟨y, h1, h2, h3⟩ := h H enc w fuel cs x hf hx
 exact ⟨y, h1, h2, Nat.le_trans (hb y) h3⟩
end
end Go.Gx
