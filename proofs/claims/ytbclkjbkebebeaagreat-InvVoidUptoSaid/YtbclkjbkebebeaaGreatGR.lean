/-
 From a call's walk to the statement about it. Generic but for the bulk, which the seat's Rows define.
-/
import Derived.Test.YtbclkjbkebebeaaGreatRows
import Derived.Test.YtbclkjbkebebeaaGreatG9
import Derived.WalkKit
import Derived.ProofKit
import Derived.OpenShut
import Derived.JoinedCond
import Derived.Carry
import Derived.Deep.Slices
namespace Go.Gx
open Go.RowKit Go.ChangeShapes Go.WideShapes
open Go.Proofs.YtbclkjbkebebeaaGreat (Rows.uptoBulk Rows.uptoBulkAll Rows.uptoSmall)
def all (w : World) : Fz := ⟨fun b => match w.heap[b]? with | some (.cells c _ _) => c.size | _ => 0, fun _ => []⟩
theorem Hp.init (w : World) : Hp w.heap.size w (all w) w [] :=
 ⟨Below.refl _ _, Nat.le_refl _, fun b hb => by simp only [all]; rw [Array.getElem?_eq_none hb], by simp, by simp, by simp, by simp⟩
theorem cell_all {w : World} {a : Addr} {v : Value} (h : w.cell? a = some v) : a.spot = none ∧ a.off < all w a.block ∧ w.cell? ⟨a.block, a.off, none⟩ = some v := by
 obtain ⟨b, o, s⟩ := a
 simp only [World.cell?] at h
 split at h
 ·rename_i c t fz hh
  split at h
  ·cases h
  ·rename_i hs
   have hs' : s = none := by cases s <;> simp_all
   subst hs'
   refine ⟨rfl, ?_, ?_⟩
   ·simp only [all, hh]
    exact (Array.getElem?_eq_some_iff.1 h).1
   ·simp only [World.cell?, hh]
    simpa using h
 ·cases h
def Opens {α : Type} (P : Program) (t : TypeId) (K : Kd α) (ok : α → Prop) (bk : α → Nat) : Prop :=
 ∀ (H : Type) (enc : TypeId × Value → H) (w : World) (fuel : Nat) (cs : List Value) (x : DataW H × List MemPlace), DataW.trod enc P w 0 (fun _ => true) true fuel t cs = some x → ∃ y, K.rep (all w) w cs y ∧ ok y ∧ bk y ≤ Rows.uptoBulk x.1
def okInt (k : IntKind) (n : Int) : Prop := (Lit.int k n).wf = true
def okSl {α : Type} (ok : α → Prop) (xs : List α) : Prop := ∀ x ∈ xs, ok x
def bkSl {α : Type} (bk : α → Nat) (xs : List α) : Nat := (xs.map bk).sum + 1
section
variable {P : Program} {t e : TypeId} {α : Type} {K : Kd α} {ok : α → Prop} {bk : α → Nat}
theorem opens_int {k : IntKind} (ht : P.underlying t = some (.int k)) : Opens P t (kInt k) (okInt k) (fun _ => 1) := by
 intro H enc w fuel cs x h
 obtain ⟨n, rfl, rfl, hw⟩ := DataW.trod_int ht h
 exact ⟨n, rfl, hw, by simp [Rows.uptoBulk]⟩
theorem opens_str (ht : P.underlying t = some .string) : Opens P t kStr (fun s => s.size ≤ maxLen) (fun s => s.size + 1) := by
 intro H enc w fuel cs x h
 obtain ⟨s, rfl, rfl, hm⟩ := DataW.trod_string ht h
 refine ⟨s, rfl, hm, ?_⟩
 simp only [Rows.uptoBulk, Array.length_toList]
 exact Nat.le_refl _
theorem bulk_take {H : Type} : ∀ (l : List (DataW H)) (m : Nat), Rows.uptoBulkAll (l.take m) ≤ Rows.uptoBulkAll l
 | [], m => by simp
 | x :: l, 0 => by simp [Rows.uptoBulkAll]
 | x :: l, m + 1 => by simp only [List.take_succ_cons, Rows.uptoBulkAll]; have := bulk_take l m; omega
theorem bulk_app {H : Type} (l r : List (DataW H)) : Rows.uptoBulkAll (l ++ r) = Rows.uptoBulkAll l + Rows.uptoBulkAll r := by
 induction l with
 | nil => simp [Rows.uptoBulkAll]
 | cons x l ih => simp only [List.cons_append, Rows.uptoBulkAll, ih]; omega
theorem opens_slice (ht : P.underlying t = some (.slice e)) (hs : P.cellsOf e = K.size) (ho : Opens P e K ok bk) : Opens P t (kSl K) (okSl ok) (bkSl bk) := by
 intro H enc w fuel cs x h
 rcases DataW.trod_slice ht h with ⟨rfl, rfl⟩ | ⟨a, len, cap, elems, rest, n, rfl, rfl, rfl, hb, hlc, hcm, hlen, hel, -, -⟩
 ·exact ⟨[], ⟨none, 0, rfl, Rd.none_⟩, by simp [okSl], by simp [bkSl, Rows.uptoBulk]⟩
 ·rw [hs] at hel
  have key : ∀ m, m ≤ len → ∃ cs xs, xs.length = m ∧ Els K (all w) w cs xs ∧ (∀ q v, cs[q]? = some v → w.cell? (a.add q) = some v) ∧ (∀ x ∈ xs, ok x) ∧ (xs.map bk).sum ≤ Rows.uptoBulkAll ((elems.take m).map (·.1)) := by
   intro m
   induction m with
   | zero => intro _; exact ⟨[], [], rfl, .nil, by simp, by simp, by simp [Rows.uptoBulkAll]⟩
   | succ m ih =>
    intro hm
    obtain ⟨cs, xs, h1, h2, h3, h4, h5⟩ := ih (by omega)
    have hlt : m < elems.length := by omega
    have hk := hel m (by omega)
    rw [List.getElem?_eq_getElem hlt] at hk
    obtain ⟨cs', hc', ht'⟩ := Option.bind_eq_some_iff.1 hk
    obtain ⟨y, hy, hoky, hby⟩ := ho H enc w n cs' _ ht'
    obtain ⟨_, hl', hcell⟩ := World.cells?_some hc'
    have hlcs := h2.length
    refine ⟨cs ++ cs', xs ++ [y], by simp [h1], h2.append (Els.single hy), ?_, ?_, ?_⟩
    ·intro q v hq
     rcases Nat.lt_or_ge q cs.length with hql | hql
     ·rw [List.getElem?_append_left hql] at hq; exact h3 q v hq
     ·rw [List.getElem?_append_right hql] at hq
      have hq' := (List.getElem?_eq_some_iff.1 hq).1
      rw [hlcs, h1] at hq hql hq'
      have := hcell (q - m * K.size) (by omega)
      rw [hq, Deep.add_add] at this
      rw [← this]
      congr 2
      omega
    ·intro x hx
     rcases List.mem_append.1 hx with h | h
     ·exact h4 x h
     ·obtain rfl := List.mem_singleton.1 h; exact hoky
    ·rw [List.take_add_one, List.getElem?_eq_getElem hlt]
     simp only [List.map_append, List.sum_append, bulk_app, Option.toList_some, List.map_cons, List.map_nil, List.sum_cons, List.sum_nil, Rows.uptoBulkAll, Nat.add_zero]
     omega
  obtain ⟨cs, xs, h1, h2, h3, h4, h5⟩ := key len (Nat.le_refl _)
  refine ⟨xs, ⟨some a, cap, by rw [h1], by omega, (fun e => by cases e), fun a' ha' => ?_⟩, h4, ?_⟩
  ·cases ha'
   refine ⟨cs, h2, fun hne => ?_⟩
   have h0 : a.spot = none := by
    cases cs with
    | nil => exact absurd rfl hne
    | cons v r =>
     have := h3 0 v rfl
     have h0 : a.add 0 = a := by simp [Addr.add]
     rw [h0] at this
     exact (cell_all this).1
   refine ⟨h0, fun j v hj => ?_⟩
   have hc := cell_all (h3 j v hj)
   have hb : (a.add j).block = a.block ∧ (a.add j).off = a.off + j := by
    unfold Addr.add
    split <;> simp_all
   rw [hb.1, hb.2] at hc
   exact hc.2
  ·simp only [bkSl, Rows.uptoBulk]
   have := bulk_take (elems.map (·.1)) len
   rw [← List.map_take] at this
   omega
end
/-! ### Arguments -/
theorem arg_one {P : Program} {w : World} {r : Reach} {b : Nat} {t : TypeId} {v : Value} (ha : aggB P t = some false) (h : Value.okWide P w r b t v) : v.cells.toList = [v] := by
 cases v <;> try rfl
 rename_i cs
 exfalso
 unfold aggB at ha
 unfold Value.okWide at h
 split at ha
 ·cases ha
 ·cases ha
 ·rename_i d h1 h2 hu
  rw [hu] at h
  have hc : Cell.okWide P w r b t (.agg cs) := by
   cases d <;> first | exact h | (exact absurd rfl (h1 _)) | (exact absurd rfl (h2 _ _))
  unfold Cell.okWide at hc
  rw [hu] at hc
  have hk : Cell.ok P w r b t (.agg cs) := by
   cases d <;> first | exact hc | exact hc.elim
  unfold Cell.ok at hk
  rw [hu] at hk
  cases d <;> first | exact hk | exact hk.elim | simp at hk
 ·cases ha
theorem Opens.arg {α : Type} {P : Program} {t : TypeId} {K : Kd α} {ok : α → Prop} {bk : α → Nat} (ho : Opens P t K ok bk) (ha : aggB P t = some false) {H : Type} {enc : TypeId × Value → H} {w : World} {v : Value} {d : DataW H} {p : List MemPlace} {r : Reach} {b : Nat}
  (hv : Value.okWide P w r b t v) (h : DataW.Trod enc P w 0 (fun _ => true) true t v d p) : ∃ x, K.rep (all w) w [v] x ∧ ok x ∧ bk x ≤ Rows.uptoBulk d := by
 obtain ⟨fuel, h⟩ := h
 rw [arg_one ha hv] at h
 exact ho _ _ _ _ _ _ h
theorem trodAll_below {P : Program} {H : Type} {enc : TypeId × Value → H} {W W' : World} (hl : laidOutB P = true) (hb : Below W.heap.size W W') (sp : Nat → Bool) (hsp : ∀ b, b < W.heap.size → sp b = true) : ∀ {ts : List TypeId} {vs : List Value} {ds : List (DataW H)} {ps : List MemPlace},
  ts.all (fun t => P.readableRec t && decide (t < P.types.size)) = true → DataW.TrodAll enc P W 0 (fun _ => true) true ts vs ds ps → (∀ x ∈ ps, x.block < W.heap.size) → DataW.TrodAll enc P W' 0 sp true ts vs ds ps
 | [], vs, ds, ps, _, h, _ => by obtain ⟨rfl, rfl, rfl⟩ := trodAll_nil h; exact trodAll_mk0
 | t :: ts, vs, ds, ps, hr, h, hlt => by
  obtain ⟨v, vs', d, ds', p, q, rfl, rfl, rfl, h1, h2⟩ := trodAll_cons h
  simp only [List.all_cons, Bool.and_eq_true, decide_eq_true_eq] at hr
  exact trodAll_cons_mk (WideElems.Trod_stays hl hr.1.1 hr.1.2 h1 (fun x hx => hb.same (hlt x (by simp [hx]))) (fun x hx => hsp _ (hlt x (by simp [hx])))) (trodAll_below hl hb sp hsp hr.2 h2 (fun x hx => hlt x (by simp [hx])))
theorem contract_of {P : Program} {fid : FuncId} {f : Func} {s : ChangeSpec} {W : World} {args : Array Value} {H : Type} {enc : TypeId × Value → H} {ds gs : List (DataW H)} {before : List MemPlace} {tb : TypeId}
  (hW : DataW.Whole enc P f.params.toList s.vars false W args.toList ds gs before) (hv : s.vars = []) (hsr : (s.fn H ds).results = [.lit (.bool true)]) (hsa : (s.fn H ds).args = ds) (hsv : (s.fn H ds).vars = [])
  (hr : f.resultTypes = #[tb]) (hb : P.underlying tb = some .bool) (hl : laidOutB P = true) (hread : f.params.toList.all (fun t => P.readableRec t && decide (t < P.types.size)) = true)
  (hc : Calls P fid args W (Rets fun v W' => v = .bool true ∧ Below W.heap.size W W')) :
  Calls P fid args W fun e W' => ∃ v, e = .returned v ∧ s.post enc P f false true false false W args v W' := by
 refine Calls.mono hc fun e W' he => ?_
 obtain ⟨v, rfl, rfl, hbe⟩ := he
 refine ⟨_, rfl, ?_⟩
 have hold : ∀ p ∈ before, p.block < W.heap.size := fun p hp => by simpa using hW.lt p hp
 have hW' := hW
 obtain ⟨p, q, hA, hV, rfl, hfz, hnd⟩ := hW
 rw [hv] at hV
 obtain ⟨rfl, rfl⟩ := trodVars_none hV
 simp only [List.append_nil] at hold hW' hfz hnd
 have hres : ∀ (b : Nat) (sp : Nat → Bool) (hd : Bool), DataW.TrodAll enc P W' b sp hd f.resultTypes.toList ((Value.bool true).resultList f.resultTypes.size) (s.fn H (ds ++ [])).results [] := by
  intro b sp hd
  rw [hr, List.append_nil, hsr]
  exact trodAll_cons_mk (shut_bool hb _) trodAll_mk0
 have hargs := trodAll_below (enc := enc) hl hbe (fun b => decide (b < W.heap.size)) (fun b hb => by simpa using hb) hread hA hold
 refine ⟨ds, [], p, [], p, [], by simpa using hW', hres _ _ _, by rw [List.append_nil, hsa]; exact hargs, by rw [List.append_nil, hsv, hv]; rfl, World.keptBut_mono (fun p hp => ⟨hp, ?_⟩) (hbe.frame (· ∈ p)), fun h => by cases h⟩
 exact Or.inr (Or.inl hp)
end Go.Gx
