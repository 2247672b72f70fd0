import Derived.Test.YtbmbligkbbfpbaaWFrmb

set_option linter.unusedVariables false

set_option maxRecDepth 100000

namespace Go.Gx

open Go.RowKit Go.Proofs

/-! tidepole/tidepolelaw03.FrameFronts -/
def Post.tidepolelaw03_FrameFronts (nz : Nat) (wz : World) (S0 : Fz) (w0 : World) (Lr : List Ent) (r : Bool) (v : Value) (w' : World) : Prop :=
  ∃ (S' : Fz), v = .bool r ∧ Ext S0 w0 S' w' ∧ Hp nz wz S' w' (Lr)

def L.tidepolelaw03_FrameFronts_l1 (nz : Nat) (wz : World) (S0 : Fz) (w0 : World) (Lr : List Ent) : (List (List Int)) × Int × (List (List Int)) × Int × Int × Int × (List (List Int)) × Int → Bool → Prop := fun ⟨x9, x11, x13, x14, x15, x16, x17, x18⟩ r => ∀ S1 w1, Ext S0 w0 S1 w1 → ∀ (Gx9 : Option Nat) (nx9 : Nat) (cx9 : Nat) (csx9 : List Value) (kzx9 : Nat) (Gx13 : Option Nat) (nx13 : Nat) (cx13 : Nat) (csx13 : List Value) (Gx17 : Option Nat) (nx17 : Nat) (cx17 : Nat) (csx17 : List Value) (_ : Hp nz wz S1 w1 ((Gx9, .row 23 csx9 (cx9 * (kSl (kInt .u8)).size) kzx9) :: (Gx13, .row 23 csx13 (cx13 * (kSl (kInt .u8)).size) 0) :: (Gx17, .row 23 csx17 (cx17 * (kSl (kInt .u8)).size) 0) :: Lr)) (_ : Els (kSl (kInt .u8)) S1 w1 csx9 x9) (_ : x9.length = nx9) (_ : Els (kSl (kInt .u8)) S1 w1 csx13 x13) (_ : x13.length = nx13) (_ : Els (kSl (kInt .u8)) S1 w1 csx17 x17) (_ : x17.length = nx17) (junk : Nat → Value),
  Goes Try.prog (base 9) [.code (sub [1, 1, 1, 1, 1, 1, 1, 1, 1, 1, 0, 1, 0, 0] B9), .inLoop (sub [1, 1, 1, 1, 1, 1, 1, 1, 1, 1, 0, 1, 0, 0] B9), .inBlock 0, .code (sub [1, 1, 1, 1, 1, 1, 1, 1, 1, 1, 1] B9)] ⟨lfr 106 [(9, .slice (Gp Gx9) nx9 cx9), (11, .int .i64 x11), (13, .slice (Gp Gx13) nx13 cx13), (14, .int .i64 x14), (15, .int .i64 x15), (16, .int .i64 x16), (17, .slice (Gp Gx17) nx17 cx17), (18, .int .i64 x18)] junk, []⟩ w1 (Done Try.prog 9 (Rets (Post.tidepolelaw03_FrameFronts nz wz S0 w0 Lr r)))

theorem W.tidepolelaw03_FrameFronts_l1 (nz : Nat) (wz : World) (S0 : Fz) (w0 : World) (Lr : List Ent) : ∀ a r, M.tidepolelaw03_FrameFronts_l1 a = some r → (L.tidepolelaw03_FrameFronts_l1 nz wz S0 w0 Lr) a r := by
  refine M.tidepolelaw03_FrameFronts_l1.partial_correctness (motive := (L.tidepolelaw03_FrameFronts_l1 nz wz S0 w0 Lr)) ?_
  intro rec_tidepolelaw03_FrameFronts_l1 ih_tidepolelaw03_FrameFronts_l1 ⟨x9, x11, x13, x14, x15, x16, x17, x18⟩ r h S1 w1 hx Gx9 nx9 cx9 csx9 kzx9 Gx13 nx13 cx13 csx13 Gx17 nx17 cx17 csx17 p1 fx9 lx9 fx13 lx13 fx17 lx17 junk
  dsimp only at h
  subst lx9
  subst lx13
  subst lx17
  refine Goes.runs 8 [(65, .int .i64 x18), (66, .slice (Gp Gx9) x9.length cx9), (67, .int .i64 (x9.length : Int)), (68, .bool (decide (x18 < (x9.length : Int))))] [.code (sub [1, 1, 1, 1, 1, 1, 1, 1, 1, 1, 0, 1, 0, 0, 0, 1] B9), .code (sub [1, 1, 1, 1, 1, 1, 1, 1, 1, 1, 0, 1, 0, 0, 1] B9), .inLoop (sub [1, 1, 1, 1, 1, 1, 1, 1, 1, 1, 0, 1, 0, 0] B9), .inBlock 0, .code (sub [1, 1, 1, 1, 1, 1, 1, 1, 1, 1, 1] B9)] (by kernel_rfl) ?_
  refine ite_some h (fun h60 h => ?_) (fun h60 h => ?_)
  · rw [decide_eq_true h60]
    refine Goes.runs 8 [(71, .slice (Gp Gx9) x9.length cx9), (72, .int .i64 x18)] [.inRegion (opsOf (sub [1, 1, 1, 1, 1, 1, 1, 1, 1, 1, 0, 1, 0, 0, 1, 0, 0, 0] B9)) [2, 3, 4, 5, 6, 7, 8], .code (sub [1, 1, 1, 1, 1, 1, 1, 1, 1, 1, 0, 1, 0, 0, 1, 0, 0, 1] B9), .inBlock 1, .code (sub [1, 1, 1, 1, 1, 1, 1, 1, 1, 1, 0, 1, 0, 0, 1, 1] B9), .inLoop (sub [1, 1, 1, 1, 1, 1, 1, 1, 1, 1, 0, 1, 0, 0] B9), .inBlock 0, .code (sub [1, 1, 1, 1, 1, 1, 1, 1, 1, 1, 1] B9)] (by kernel_rfl) ?_
    refine guard_some' h fun g61 h => ?_
    refine Op_.ixO_n 41 (.tmp 71) (.tmp 72) 73 0 23 .i64 x18 0 x9.length cx9 (gi x9 x18) rfl rfl p1 rfl fx9 (Goes.vs (by kernel_rfl)) (by kernel_rfl) (by kernel_rfl) (by kernel_rfl) (by kernel_rfl) (by decide) g61 h60 ?_
    rintro b62 _ rfl q64 f63
    obtain ⟨A65, c66, rfl, f67⟩ := q64
    refine Op_.ld1 23 (.tmp 73) 74 23 ⟨b62, (x18 : Int).toNat * (kSl (kInt .u8)).size, none⟩ (.slice A65 ((gi x9 x18).length) c66) (Goes.vs (by kernel_rfl)) (by kernel_rfl) (by kernel_rfl) (f63 0 _ rfl) ?_
    refine Goes.runs 14 [(75, .int .i64 ((gi x9 x18).length : Int)), (76, .int .i64 (wr .i64 (((gi x9 x18).length : Int) + 243))), (77, .int .i64 (iquo .i64 (wr .i64 (((gi x9 x18).length : Int) + 243)) 244)), (78, .int .i64 (imx 1 (iquo .i64 (wr .i64 (((gi x9 x18).length : Int) + 243)) 244))), (19, .int .i64 (imx 1 (iquo .i64 (wr .i64 (((gi x9 x18).length : Int) + 243)) 244))), (79, .int .i64 x16), (80, .int .i64 (imx 1 (iquo .i64 (wr .i64 (((gi x9 x18).length : Int) + 243)) 244))), (81, .int .i64 (wr .i64 (x16 + (imx 1 (iquo .i64 (wr .i64 (((gi x9 x18).length : Int) + 243)) 244))))), (82, .int .i64 x11), (83, .bool (decide (wr .i64 (x16 + (imx 1 (iquo .i64 (wr .i64 (((gi x9 x18).length : Int) + 243)) 244))) > x11)))] [.inRegion (opsOf (sub [1, 1, 1, 1, 1, 1, 1, 1, 1, 1, 0, 1, 0, 0, 1, 0, 0, 1, 0, 0] B9)) [], .code (sub [1, 1, 1, 1, 1, 1, 1, 1, 1, 1, 0, 1, 0, 0, 1, 0, 0, 1, 0, 1] B9), .code (sub [1, 1, 1, 1, 1, 1, 1, 1, 1, 1, 0, 1, 0, 0, 1, 0, 0, 1, 1] B9), .inBlock 1, .code (sub [1, 1, 1, 1, 1, 1, 1, 1, 1, 1, 0, 1, 0, 0, 1, 1] B9), .inLoop (sub [1, 1, 1, 1, 1, 1, 1, 1, 1, 1, 0, 1, 0, 0] B9), .inBlock 0, .code (sub [1, 1, 1, 1, 1, 1, 1, 1, 1, 1, 1] B9)] (by kernel_rfl) ?_
    refine Goes.runs 1 [] [.code (sub [1, 1, 1, 1, 1, 1, 1, 1, 1, 1, 0, 1, 0, 0, 1, 0, 0, 1, 0, 1] B9), .code (sub [1, 1, 1, 1, 1, 1, 1, 1, 1, 1, 0, 1, 0, 0, 1, 0, 0, 1, 1] B9), .inBlock 1, .code (sub [1, 1, 1, 1, 1, 1, 1, 1, 1, 1, 0, 1, 0, 0, 1, 1] B9), .inLoop (sub [1, 1, 1, 1, 1, 1, 1, 1, 1, 1, 0, 1, 0, 0] B9), .inBlock 0, .code (sub [1, 1, 1, 1, 1, 1, 1, 1, 1, 1, 1] B9)] (by kernel_rfl) ?_
    refine ite_some h (fun h69 h => ?_) (fun h69 h => ?_)
    · rw [decide_eq_true h69]
      refine Goes.runs 7 [(94, .int .i64 x15), (95, .bool (decide (x15 = 0))), (96, .bool (decide (x15 = 0)))] [.inRegion (opsOf (sub [1, 1, 1, 1, 1, 1, 1, 1, 1, 1, 1, 0] B9)) [3, 4, 5, 6, 7, 8, 9, 10, 11, 12], .code (sub [1, 1, 1, 1, 1, 1, 1, 1, 1, 1, 1, 1] B9)] (by kernel_rfl) ?_
      refine ite_some h (fun h70 h => ?_) (fun h70 h => ?_)
      · rw [decide_eq_true h70]
        refine Goes.runs 2 [(97, .slice (Gp Gx13) x13.length cx13), (98, .slice (Gp Gx17) x17.length cx17)] [.inRegion (opsOf (sub [1, 1, 1, 1, 1, 1, 1, 1, 1, 1, 1, 0] B9)) [5, 6, 7, 8, 9, 10, 11, 12], .code (sub [1, 1, 1, 1, 1, 1, 1, 1, 1, 1, 1, 1] B9)] (by kernel_rfl) ?_
        obtain ⟨S14, z14, p14, f71⟩ := p1.freezeRd 1 rfl fx13 (by decide)
        obtain ⟨S15, z15, p15, f72⟩ := p14.freezeRd 2 rfl (fx17.ext z14) (by decide)
        refine bind_some' h fun y73 e74 h => ?_
        refine Op_.call (.call { callee := .value (.func 37), args := #[(.tmp 97), (.tmp 98)], argTypes := #[41, 41] }) 99 4 37 #[.slice (Gp Gx13) x13.length cx13, .slice (Gp Gx17) x17.length cx17] (Goes.cs (by kernel_rfl)) (by kernel_rfl) (W.tidepolelaw03_same x13 x17 y73 e74 nz wz S15 w1 (((some b62), .row 23 csx9 (cx9 * (kSl (kInt .u8)).size) kzx9) :: (Gx13, .row 23 csx13 (cx13 * (kSl (kInt .u8)).size) csx13.length) :: (Gx17, .row 23 csx17 (cx17 * (kSl (kInt .u8)).size) csx17.length) :: Lr) (Gp Gx13) x13.length cx13 (Gp Gx17) x17.length cx17 p15 (f71.ext z15) rfl f72 rfl) ?_
        rintro _ w16 ⟨S16, rfl, z16, p16⟩
        have p16 := (p16.front 0 _ rfl).drop
        have p16 := (p16.front 0 _ rfl).drop
        have p16 := (p16.front 0 _ rfl).drop
        refine Goes.runs 2 [(100, .bool y73), (101, .bool y73)] [.inRegion (opsOf (sub [1, 1, 1, 1, 1, 1, 1, 1, 1, 1, 1, 0] B9)) [8, 9, 10, 11, 12], .code (sub [1, 1, 1, 1, 1, 1, 1, 1, 1, 1, 1, 1] B9)] (by kernel_rfl) ?_
        refine ite_some h (fun h75 h => ?_) (fun h75 h => ?_)
        · rw [h75]
          refine Goes.runs 6 [(102, .int .i64 x14), (103, .int .i64 x16), (104, .bool (decide (x14 = x16))), (105, .bool (decide (x14 = x16))), (8, .bool (decide (x14 = x16)))] [.code (sub [1, 1, 1, 1, 1, 1, 1, 1, 1, 1, 1, 1] B9)] (by kernel_rfl) ?_
          obtain rfl := Option.some.inj h
          exact Goes.ret (fn := Try.f9) (by kernel_rfl) (v := .bool (decide (x14 = x16))) (by kernel_rfl) ⟨S16, rfl, (((hx.trans z14).trans z15).trans z16), p16⟩
        · have h75' : y73 = false := by simpa using h75
          rw [h75']
          refine Goes.runs 6 [(102, undef), (103, undef), (104, undef), (105, .bool false), (8, .bool false)] [.code (sub [1, 1, 1, 1, 1, 1, 1, 1, 1, 1, 1, 1] B9)] (by kernel_rfl) ?_
          obtain rfl := Option.some.inj h
          exact Goes.ret (fn := Try.f9) (by kernel_rfl) (v := .bool false) (by kernel_rfl) ⟨S16, rfl, (((hx.trans z14).trans z15).trans z16), p16⟩
      · rw [decide_eq_false h70]
        refine Goes.runs 11 [(97, undef), (98, undef), (99, undef), (100, .bool false), (101, .bool false), (102, undef), (103, undef), (104, undef), (105, .bool false), (8, .bool false)] [.code (sub [1, 1, 1, 1, 1, 1, 1, 1, 1, 1, 1, 1] B9)] (by kernel_rfl) ?_
        obtain rfl := Option.some.inj h
        have p1 := (p1.front 0 _ rfl).drop
        have p1 := (p1.front 0 _ rfl).drop
        have p1 := (p1.front 0 _ rfl).drop
        exact Goes.ret (fn := Try.f9) (by kernel_rfl) (v := .bool false) (by kernel_rfl) ⟨S1, rfl, hx, p1⟩
    · rw [decide_eq_false h69]
      refine Goes.runs 13 [(84, .int .i64 x16), (85, .int .i64 (imx 1 (iquo .i64 (wr .i64 (((gi x9 x18).length : Int) + 243)) 244))), (86, .int .i64 (wr .i64 (x16 + (imx 1 (iquo .i64 (wr .i64 (((gi x9 x18).length : Int) + 243)) 244))))), (16, .int .i64 (wr .i64 (x16 + (imx 1 (iquo .i64 (wr .i64 (((gi x9 x18).length : Int) + 243)) 244))))), (87, .slice (Gp Gx17) x17.length cx17), (88, .slice (Gp (some b62)) x9.length cx9), (89, .int .i64 x18)] [.inRegion (opsOf (sub [1, 1, 1, 1, 1, 1, 1, 1, 1, 1, 0, 1, 0, 0, 1, 0, 0, 1, 1, 1] B9)) [3, 4, 5, 6, 7], .inBlock 1, .code (sub [1, 1, 1, 1, 1, 1, 1, 1, 1, 1, 0, 1, 0, 0, 1, 1] B9), .inLoop (sub [1, 1, 1, 1, 1, 1, 1, 1, 1, 1, 0, 1, 0, 0] B9), .inBlock 0, .code (sub [1, 1, 1, 1, 1, 1, 1, 1, 1, 1, 1] B9)] (by kernel_rfl) ?_
      refine Op_.ixO_n 41 (.tmp 88) (.tmp 89) 90 0 23 .i64 x18 0 x9.length cx9 (gi x9 x18) rfl rfl p1 rfl fx9 (Goes.vs (by kernel_rfl)) (by kernel_rfl) (by kernel_rfl) (by kernel_rfl) (by kernel_rfl) (by decide) g61 h60 ?_
      rintro b76 _ e82 q78 f77
      injection e82 with e82'; subst e82'
      obtain ⟨A79, c80, rfl, f81⟩ := q78
      refine Op_.ld1 23 (.tmp 90) 91 23 ⟨b62, (x18 : Int).toNat * (kSl (kInt .u8)).size, none⟩ (.slice A79 ((gi x9 x18).length) c80) (Goes.vs (by kernel_rfl)) (by kernel_rfl) (by kernel_rfl) (f77 0 _ rfl) ?_
      have f84 : Els (kSl (kInt .u8)) S1 w1 ([.slice A79 ((gi x9 x18).length) c80] : List Value) [gi x9 x18] := by exact (Els.cons (K := (kSl (kInt .u8))) (vs := [.slice A79 ((gi x9 x18).length) c80]) (x := gi x9 x18) ⟨_, _, rfl, f81⟩ Els.nil)
      refine Op_.made (.buildSlice 41 1 #[(0, (.tmp 91))]) 92 41 (fun b => .slice (Gp (some b)) 1 1) 23 ([.slice A79 ((gi x9 x18).length) c80] : List Value) p1 (Goes.vs (by kernel_rfl)) (by kernel_rfl) ?_
      intro b83 w17 z17 p17
      have p17 : Hp nz wz S1 w17 (((some b83), .row 23 ([.slice A79 ((gi x9 x18).length) c80] : List Value) (1 * (kSl (kInt .u8)).size) 0) :: ((some b62), .row 23 csx9 (cx9 * (kSl (kInt .u8)).size) kzx9) :: (Gx13, .row 23 csx13 (cx13 * (kSl (kInt .u8)).size) 0) :: (Gx17, .row 23 csx17 (cx17 * (kSl (kInt .u8)).size) 0) :: Lr) := p17
      refine guard_some' h fun g89 h => ?_
      refine Op_.ap_n (K := (kSl (kInt .u8))) 41 (.tmp 87) (.tmp 92) 93 41 23 3 (.slice none 0 0) 24 x17.length cx17 1 x17 [gi x9 x18] (x17 ++ [gi x9 x18]) (Gp (some b83)) 1 rfl rfl rfl p17 rfl (fx17.ext z17) (Goes.vs (by kernel_rfl)) (by kernel_rfl) (by kernel_rfl) (by kernel_rfl) (by kernel_rfl) rfl (by decide) (f84.ext z17) (src_own p17 (q := 0) rfl) (by have := g89; omega) (by have := g89; omega) ?_
      intro w18 G90 c91 cs92 z18 p18 f93
      refine Goes.runs 9 [(17, .slice (Gp G90) ((x17 ++ [gi x9 x18]).length) c91), (69, .int .i64 x18), (70, .int .i64 (wr .i64 (x18 + 1))), (18, .int .i64 (wr .i64 (x18 + 1)))] [.code (sub [1, 1, 1, 1, 1, 1, 1, 1, 1, 1, 0, 1, 0, 0] B9), .inLoop (sub [1, 1, 1, 1, 1, 1, 1, 1, 1, 1, 0, 1, 0, 0] B9), .inBlock 0, .code (sub [1, 1, 1, 1, 1, 1, 1, 1, 1, 1, 1] B9)] (by kernel_rfl) ?_
      have p18 := (p18.front 0 _ rfl).drop
      exact Goes.jump 106 [(9, .slice (Gp (some b62)) x9.length cx9), (11, .int .i64 x11), (13, .slice (Gp Gx13) x13.length cx13), (14, .int .i64 x14), (15, .int .i64 x15), (16, .int .i64 (wr .i64 (x16 + (imx 1 (iquo .i64 (wr .i64 (((gi x9 x18).length : Int) + 243)) 244))))), (17, .slice (Gp G90) ((x17 ++ [gi x9 x18]).length) c91), (18, .int .i64 (wr .i64 (x18 + 1)))] (by kernel_rfl) (ih_tidepolelaw03_FrameFronts_l1 _ _ h _ _ ((hx.trans z17).trans z18) (some b62) x9.length cx9 csx9 kzx9 Gx13 x13.length cx13 csx13 G90 ((x17 ++ [gi x9 x18]).length) c91 cs92 p18 (fx9.ext (z17.trans z18)) rfl (fx13.ext (z17.trans z18)) rfl f93 rfl)
  · rw [decide_eq_false h60]
    refine Goes.runs 7 [(94, .int .i64 x15), (95, .bool (decide (x15 = 0))), (96, .bool (decide (x15 = 0)))] [.inRegion (opsOf (sub [1, 1, 1, 1, 1, 1, 1, 1, 1, 1, 1, 0] B9)) [3, 4, 5, 6, 7, 8, 9, 10, 11, 12], .code (sub [1, 1, 1, 1, 1, 1, 1, 1, 1, 1, 1, 1] B9)] (by kernel_rfl) ?_
    refine ite_some h (fun h94 h => ?_) (fun h94 h => ?_)
    · rw [decide_eq_true h94]
      refine Goes.runs 2 [(97, .slice (Gp Gx13) x13.length cx13), (98, .slice (Gp Gx17) x17.length cx17)] [.inRegion (opsOf (sub [1, 1, 1, 1, 1, 1, 1, 1, 1, 1, 1, 0] B9)) [5, 6, 7, 8, 9, 10, 11, 12], .code (sub [1, 1, 1, 1, 1, 1, 1, 1, 1, 1, 1, 1] B9)] (by kernel_rfl) ?_
      obtain ⟨S19, z19, p19, f95⟩ := p1.freezeRd 1 rfl fx13 (by decide)
      obtain ⟨S20, z20, p20, f96⟩ := p19.freezeRd 2 rfl (fx17.ext z19) (by decide)
      refine bind_some' h fun y97 e98 h => ?_
      refine Op_.call (.call { callee := .value (.func 37), args := #[(.tmp 97), (.tmp 98)], argTypes := #[41, 41] }) 99 4 37 #[.slice (Gp Gx13) x13.length cx13, .slice (Gp Gx17) x17.length cx17] (Goes.cs (by kernel_rfl)) (by kernel_rfl) (W.tidepolelaw03_same x13 x17 y97 e98 nz wz S20 w1 ((Gx9, .row 23 csx9 (cx9 * (kSl (kInt .u8)).size) kzx9) :: (Gx13, .row 23 csx13 (cx13 * (kSl (kInt .u8)).size) csx13.length) :: (Gx17, .row 23 csx17 (cx17 * (kSl (kInt .u8)).size) csx17.length) :: Lr) (Gp Gx13) x13.length cx13 (Gp Gx17) x17.length cx17 p20 (f95.ext z20) rfl f96 rfl) ?_
      rintro _ w21 ⟨S21, rfl, z21, p21⟩
      have p21 := (p21.front 0 _ rfl).drop
      have p21 := (p21.front 0 _ rfl).drop
      have p21 := (p21.front 0 _ rfl).drop
      refine Goes.runs 2 [(100, .bool y97), (101, .bool y97)] [.inRegion (opsOf (sub [1, 1, 1, 1, 1, 1, 1, 1, 1, 1, 1, 0] B9)) [8, 9, 10, 11, 12], .code (sub [1, 1, 1, 1, 1, 1, 1, 1, 1, 1, 1, 1] B9)] (by kernel_rfl) ?_
      refine ite_some h (fun h99 h => ?_) (fun h99 h => ?_)
      · rw [h99]
        refine Goes.runs 6 [(102, .int .i64 x14), (103, .int .i64 x16), (104, .bool (decide (x14 = x16))), (105, .bool (decide (x14 = x16))), (8, .bool (decide (x14 = x16)))] [.code (sub [1, 1, 1, 1, 1, 1, 1, 1, 1, 1, 1, 1] B9)] (by kernel_rfl) ?_
        obtain rfl := Option.some.inj h
        exact Goes.ret (fn := Try.f9) (by kernel_rfl) (v := .bool (decide (x14 = x16))) (by kernel_rfl) ⟨S21, rfl, (((hx.trans z19).trans z20).trans z21), p21⟩
      · have h99' : y97 = false := by simpa using h99
        rw [h99']
        refine Goes.runs 6 [(102, undef), (103, undef), (104, undef), (105, .bool false), (8, .bool false)] [.code (sub [1, 1, 1, 1, 1, 1, 1, 1, 1, 1, 1, 1] B9)] (by kernel_rfl) ?_
        obtain rfl := Option.some.inj h
        exact Goes.ret (fn := Try.f9) (by kernel_rfl) (v := .bool false) (by kernel_rfl) ⟨S21, rfl, (((hx.trans z19).trans z20).trans z21), p21⟩
    · rw [decide_eq_false h94]
      refine Goes.runs 11 [(97, undef), (98, undef), (99, undef), (100, .bool false), (101, .bool false), (102, undef), (103, undef), (104, undef), (105, .bool false), (8, .bool false)] [.code (sub [1, 1, 1, 1, 1, 1, 1, 1, 1, 1, 1, 1] B9)] (by kernel_rfl) ?_
      obtain rfl := Option.some.inj h
      have p1 := (p1.front 0 _ rfl).drop
      have p1 := (p1.front 0 _ rfl).drop
      have p1 := (p1.front 0 _ rfl).drop
      exact Goes.ret (fn := Try.f9) (by kernel_rfl) (v := .bool false) (by kernel_rfl) ⟨S1, rfl, hx, p1⟩

/-! tidepole/tidepolelaw03.FrameFronts -/
def L.tidepolelaw03_FrameFronts_l0 (nz : Nat) (wz : World) (S0 : Fz) (w0 : World) (Lr : List Ent) : Int × (List (List Int)) × Int × (List Int) → Bool → Prop := fun ⟨x0, x9, x11, x12⟩ r => ∀ S1 w1, Ext S0 w0 S1 w1 → ∀ (Gx9 : Option Nat) (nx9 : Nat) (cx9 : Nat) (csx9 : List Value) (kzx9 : Nat) (Gx12 : Option Nat) (nx12 : Nat) (cx12 : Nat) (csx12 : List Value) (_ : Hp nz wz S1 w1 ((Gx9, .row 23 csx9 (cx9 * (kSl (kInt .u8)).size) kzx9) :: (Gx12, .row 5 csx12 (cx12 * (kInt .u8).size) 0) :: Lr)) (_ : Els (kSl (kInt .u8)) S1 w1 csx9 x9) (_ : x9.length = nx9) (_ : Els (kInt .u8) S1 w1 csx12 x12) (_ : x12.length = nx12) (junk : Nat → Value),
  Goes Try.prog (base 9) [.code (sub [1, 1, 1, 1, 1, 1, 1] B9)] ⟨lfr 106 [(0, .int .i64 x0), (9, .slice (Gp Gx9) nx9 cx9), (11, .int .i64 x11), (12, .slice (Gp Gx12) nx12 cx12)] junk, []⟩ w1 (Done Try.prog 9 (Rets (Post.tidepolelaw03_FrameFronts nz wz S0 w0 Lr r)))

theorem W.tidepolelaw03_FrameFronts_l0 (nz : Nat) (wz : World) (S0 : Fz) (w0 : World) (Lr : List Ent) : ∀ a r, M.tidepolelaw03_FrameFronts_l0 a = some r → L.tidepolelaw03_FrameFronts_l0 nz wz S0 w0 Lr a r := by
  intro ⟨x0, x9, x11, x12⟩ r h S1 w1 hx Gx9 nx9 cx9 csx9 kzx9 Gx12 nx12 cx12 csx12 p1 fx9 lx9 fx12 lx12 junk
  rw [M.tidepolelaw03_FrameFronts_l0] at h
  try dsimp only at h
  subst lx9
  subst lx12
  refine Goes.runs 4 [(58, .int .i64 x0), (59, .slice (Gp Gx12) x12.length cx12)] [.inRegion (opsOf (sub [1, 1, 1, 1, 1, 1, 1, 0] B9)) [2, 3, 4, 5, 6, 7, 8, 9], .code (sub [1, 1, 1, 1, 1, 1, 1, 1] B9)] (by kernel_rfl) ?_
  obtain ⟨S11, z11, p11, f50⟩ := p1.freezeRd 1 rfl fx12 (by decide)
  refine bind_some' h fun y51 e52 h => ?_
  refine Op_.call (.call { callee := .value (.func 36), args := #[(.tmp 58), (.tmp 59)], argTypes := #[3, 23] }) 60 54 36 #[.int .i64 x0, .slice (Gp Gx12) x12.length cx12] (Goes.cs (by kernel_rfl)) (by kernel_rfl) (W.frame_Read x0 x12 y51 e52 nz wz S11 w1 ((Gx9, .row 23 csx9 (cx9 * (kSl (kInt .u8)).size) kzx9) :: (Gx12, .row 5 csx12 (cx12 * (kInt .u8).size) csx12.length) :: Lr) (Gp Gx12) x12.length cx12 p11 f50 rfl) ?_
  rintro _ w12 ⟨S12, Gr_12_0, nr_12_0, cr_12_0, csr_12_0, rfl, z12, p12, fr_12_0, rfl⟩
  have p12 := (p12.front 2 _ rfl).drop
  refine Goes.runs 14 [(57, .tuple #[.slice (Gp Gr_12_0) y51.1.length cr_12_0, .int .i64 y51.2.1, .int .i64 y51.2.2]), (61, .slice (Gp Gr_12_0) y51.1.length cr_12_0), (62, .int .i64 y51.2.1), (63, .int .i64 y51.2.2), (13, .slice (Gp Gr_12_0) y51.1.length cr_12_0), (14, .int .i64 y51.2.1), (15, .int .i64 y51.2.2), (16, .int .i64 0)] [.inRegion (opsOf (sub [1, 1, 1, 1, 1, 1, 1, 1, 1, 0] B9)) [0, 1], .code (sub [1, 1, 1, 1, 1, 1, 1, 1, 1, 1] B9)] (by kernel_rfl) ?_
  have f55 : Els (kSl (kInt .u8)) S12 w12 ([] : List Value) ([] : List (List Int)) := by exact Els.nil
  refine Op_.made (.buildSlice 41 0 #[]) 64 41 (fun b => .slice (Gp (some b)) 0 0) 23 ([] : List Value) p12 (Goes.vs (by kernel_rfl)) (by kernel_rfl) ?_
  intro b54 w13 z13 p13
  have p13 : Hp nz wz S12 w13 (((some b54), .row 23 ([] : List Value) (0 * (kSl (kInt .u8)).size) 0) :: (Gr_12_0, .row 23 csr_12_0 (cr_12_0 * (kSl (kInt .u8)).size) 0) :: (Gx9, .row 23 csx9 (cx9 * (kSl (kInt .u8)).size) kzx9) :: Lr) := p13
  refine Goes.runs 9 [(17, .slice (Gp (some b54)) 0 0), (18, .int .i64 0)] [.code (sub [1, 1, 1, 1, 1, 1, 1, 1, 1, 1, 0, 1, 0, 0] B9), .inLoop (sub [1, 1, 1, 1, 1, 1, 1, 1, 1, 1, 0, 1, 0, 0] B9), .inBlock 0, .code (sub [1, 1, 1, 1, 1, 1, 1, 1, 1, 1, 1] B9)] (by kernel_rfl) ?_
  have p13 := p13.front 0 _ rfl
  have p13 := p13.front 1 _ rfl
  have p13 := p13.front 2 _ rfl
  exact Goes.jump 106 [(9, .slice (Gp Gx9) x9.length cx9), (11, .int .i64 x11), (13, .slice (Gp Gr_12_0) y51.1.length cr_12_0), (14, .int .i64 y51.2.1), (15, .int .i64 y51.2.2), (16, .int .i64 0), (17, .slice (Gp (some b54)) 0 0), (18, .int .i64 0)] (by kernel_rfl) (W.tidepolelaw03_FrameFronts_l1 nz wz S0 w0 Lr _ _ h _ _ (((hx.trans z11).trans z12).trans z13) Gx9 x9.length cx9 csx9 kzx9 Gr_12_0 y51.1.length cr_12_0 csr_12_0 (some b54) 0 0 ([] : List Value) p13 (fx9.ext ((z11.trans z12).trans z13)) rfl (fr_12_0.ext z13) rfl (f55.ext z13) rfl)

/-! tidepole/tidepolelaw03.FrameFronts -/
theorem W.tidepolelaw03_FrameFronts (x0 : Int) (x1 : List (List Int)) (x2 : Int) (x3 : Bool) (r : Bool) (h : M.tidepolelaw03_FrameFronts x0 x1 x2 x3 = some r) (nz : Nat) (wz : World) (S0 : Fz) (w0 : World) (Lr : List Ent) (Ax1 : Option Addr) (nx1 : Nat) (cx1 : Nat) (p0 : Hp nz wz S0 w0 (Lr)) (fx1 : Rd (kSl (kInt .u8)) S0 w0 Ax1 cx1 x1) (lx1 : x1.length = nx1) :
    Calls Try.prog 9 #[.int .i64 x0, .slice Ax1 nx1 cx1, .int .i64 x2, .bool x3] w0 (Rets (Post.tidepolelaw03_FrameFronts nz wz S0 w0 Lr r)) := by
  subst lx1
  refine calls_of_goes (fn := Try.f9) (c := B9) (by kernel_rfl) (by kernel_rfl) 102 (by kernel_rfl) ?_
  refine Goes.jump 106 [(0, .int .i64 x0), (1, .slice Ax1 x1.length cx1), (2, .int .i64 x2), (3, .bool x3)] (by kernel_rfl) (fun junk => ?_)
  delta M.tidepolelaw03_FrameFronts at h
  refine Goes.runs 7 [(8, .bool false)] [.inRegion (opsOf (sub [1, 0, 0] B9)) [0, 1], .code (sub [1, 0, 1] B9), .code (sub [1, 1] B9)] (by kernel_rfl) ?_
  refine bind_some' h fun y1 e2 h => ?_
  refine Op_.call (.call { callee := .value (.func 33), args := #[], argTypes := #[] }) 20 4 33 #[] (Goes.cs (by kernel_rfl)) (by kernel_rfl) (W.tidepolelaw03_works y1 e2 nz wz S0 w0 (Lr)  p0 ) ?_
  rintro _ w2 ⟨S2, rfl, z2, p2⟩
  refine Goes.runs 2 [(21, .bool (!y1))] [.code (sub [1, 0, 1] B9), .code (sub [1, 1] B9)] (by kernel_rfl) ?_
  refine ite_some h (fun h3 h => ?_) (fun h3 h => ?_)
  · rw [h3]
    refine Goes.runs 6 [(23, .int .i64 x0), (24, .slice Ax1 x1.length cx1)] [.inRegion (opsOf (sub [1, 1, 0] B9)) [2, 3, 4, 5, 6, 7, 8, 9], .code (sub [1, 1, 1] B9)] (by kernel_rfl) ?_
    refine bind_some' h fun y4 e5 h => ?_
    refine Op_.call (.call { callee := .value (.func 34), args := #[(.tmp 23), (.tmp 24)], argTypes := #[3, 41] }) 25 50 34 #[.int .i64 x0, .slice Ax1 x1.length cx1] (Goes.cs (by kernel_rfl)) (by kernel_rfl) (W.tidepolelaw03_laid x0 x1 y4 e5 nz wz S2 w2 (Lr) Ax1 x1.length cx1 p2 (fx1.ext z2) rfl) ?_
    rintro _ w3 ⟨S3, Gr_3_1, nr_3_1, cr_3_1, csr_3_1, kzr_3_1, Gr_3_2, nr_3_2, cr_3_2, csr_3_2, rfl, z3, p3, fr_3_1, rfl, fr_3_2, rfl⟩
    refine Goes.runs 14 [(22, .tuple #[.int .i64 y4.1, .slice (Gp Gr_3_1) y4.2.1.length cr_3_1, .slice (Gp Gr_3_2) y4.2.2.length cr_3_2]), (26, .int .i64 y4.1), (27, .slice (Gp Gr_3_1) y4.2.1.length cr_3_1), (28, .slice (Gp Gr_3_2) y4.2.2.length cr_3_2), (0, .int .i64 y4.1), (9, .slice (Gp Gr_3_1) y4.2.1.length cr_3_1), (10, .slice (Gp Gr_3_2) y4.2.2.length cr_3_2), (29, .slice (Gp Gr_3_2) y4.2.2.length cr_3_2), (30, .int .i64 (y4.2.2.length : Int)), (31, .bool (decide ((y4.2.2.length : Int) = 0)))] [.inRegion (opsOf (sub [1, 1, 1, 0, 0] B9)) [], .code (sub [1, 1, 1, 0, 1] B9), .code (sub [1, 1, 1, 1] B9)] (by kernel_rfl) ?_
    refine Goes.runs 1 [] [.code (sub [1, 1, 1, 0, 1] B9), .code (sub [1, 1, 1, 1] B9)] (by kernel_rfl) ?_
    refine ite_some h (fun h8 h => ?_) (fun h8 h => ?_)
    · rw [decide_eq_true h8]
      refine Goes.runs 5 [(8, .bool true)] [.code (sub [1, 1, 1, 0, 1, 0, 1] B9), .code (sub [1, 1, 1, 1] B9)] (by kernel_rfl) ?_
      obtain rfl := Option.some.inj h
      have p3 := (p3.front 0 _ rfl).drop
      have p3 := (p3.front 0 _ rfl).drop
      exact Goes.ret (fn := Try.f9) (by kernel_rfl) (v := .bool true) (by kernel_rfl) ⟨S3, rfl, (((Ext.refl S0 w0).trans z2).trans z3), p3⟩
    · rw [decide_eq_false h8]
      refine Goes.runs 8 [(32, .int .i64 x2), (33, .slice (Gp Gr_3_2) y4.2.2.length cr_3_2), (34, .int .i64 (y4.2.2.length : Int)), (35, .int .i64 (iquo .i64 (y4.2.2.length : Int) 256))] [.inRegion (opsOf (sub [1, 1, 1, 1, 0] B9)) [4, 5], .code (sub [1, 1, 1, 1, 1] B9)] (by kernel_rfl) ?_
      refine bind_some' h fun y9 e10 h => ?_
      refine Op_.call (.call { callee := .value (.func 27), args := #[(.tmp 32), (.tmp 35)], argTypes := #[3, 3] }) 36 3 27 #[.int .i64 x2, .int .i64 (iquo .i64 (y4.2.2.length : Int) 256)] (Goes.cs (by kernel_rfl)) (by kernel_rfl) (W.tidepolebase_Among x2 (iquo .i64 (y4.2.2.length : Int) 256) y9 e10 nz wz S3 w3 ((Gr_3_1, .row 23 csr_3_1 (cr_3_1 * (kSl (kInt .u8)).size) kzr_3_1) :: (Gr_3_2, .row 5 csr_3_2 (cr_3_2 * (kInt .u8).size) 0) :: Lr)  p3 ) ?_
      rintro _ w4 ⟨S4, rfl, z4, p4⟩
      refine Goes.runs 3 [(11, .int .i64 y9)] [.code (sub [1, 1, 1, 1, 1, 0] B9), .code (sub [1, 1, 1, 1, 1, 1] B9)] (by kernel_rfl) ?_
      have z5 : Ext S4 w4 S4 (w4).drew := Ext.draw
      have p5 := p4.draw
      refine Goes.drawn (s := []) (F := Fc S4 (w4).drew []) 7 12 (by kernel_rfl) (by kernel_rfl) (by kernel_rfl) (by kernel_rfl) ?_
      generalize (w4).drew = w5 at z5 p5 ⊢
      refine AnyG.pure (i := 0) (.move (.tmp 10)) 37 23 (.slice (Gp Gr_3_2) y4.2.2.length cr_3_2) (by kernel_rfl) (by kernel_rfl) (by kernel_rfl) (Fc.here trivial) ?_
      refine AnyG.pure (i := 1) (.move (.tmp 11)) 38 3 (.int .i64 y9) (by kernel_rfl) (by kernel_rfl) (by kernel_rfl) (Fc.here trivial) ?_
      refine AnyG.pure (i := 2) (.binOp .mul 3 (.const (.int .i64 256)) (.tmp 38) 3) 39 3 (.int .i64 (wr .i64 (256 * y9))) (by kernel_rfl) (by kernel_rfl) (by kernel_rfl) (Fc.here trivial) ?_
      obtain ⟨S6, z6, p6, f11⟩ := p5.freezeRd 1 rfl (fr_3_2.ext (z4.trans z5)) (by decide)
      refine AnyG.refz z6 ?_
      refine guard_some' h fun g12 h => ?_
      refine guard_some' h fun g13 h => ?_
      refine AnyG.slR_n (i := 3) 23 (.tmp 37) none (some (.tmp 39)) 40 23 5 0 (wr .i64 (256 * y9)) (sl y4.2.2 0 (wr .i64 (256 * y9))) rfl rfl f11 (by kernel_rfl) (by kernel_rfl) (Fc.here trivial) (by kernel_rfl) (by kernel_rfl) (by kernel_rfl) Bnd.no (Bnd.at_ .i64 (by kernel_rfl)) (by decide : (0 : Int) ≤ 0) g12 g13 ?_
      intro A14 c15 f16
      refine AnyG.pure (i := 5) (.move (.tmp 10)) 42 23 (.slice (Gp Gr_3_2) y4.2.2.length cr_3_2) (by kernel_rfl) (by kernel_rfl) (by kernel_rfl) (Fc.here trivial) ?_
      refine AnyG.pure (i := 6) (.move (.tmp 11)) 43 3 (.int .i64 y9) (by kernel_rfl) (by kernel_rfl) (by kernel_rfl) (Fc.here trivial) ?_
      refine AnyG.pure (i := 7) (.binOp .mul 3 (.const (.int .i64 256)) (.tmp 43) 3) 44 3 (.int .i64 (wr .i64 (256 * y9))) (by kernel_rfl) (by kernel_rfl) (by kernel_rfl) (Fc.here trivial) ?_
      refine AnyG.pure (i := 8) (.binOp .add 3 (.tmp 44) (.const (.int .i64 256)) 3) 45 3 (.int .i64 (wr .i64 ((wr .i64 (256 * y9)) + 256))) (by kernel_rfl) (by kernel_rfl) (by kernel_rfl) (Fc.here trivial) ?_
      refine guard_some' h fun g17 h => ?_
      refine guard_some' h fun g18 h => ?_
      refine let_some h fun v22 e23 h => ?_
      refine AnyG.slR_n (i := 9) 23 (.tmp 42) (some (.tmp 45)) none 46 23 5 (wr .i64 ((wr .i64 (256 * y9)) + 256)) (y4.2.2.length : Int) v22 rfl e23 f11 (by kernel_rfl) (by kernel_rfl) (Fc.here trivial) (by kernel_rfl) (by kernel_rfl) (by kernel_rfl) (Bnd.at_ .i64 (by kernel_rfl)) Bnd.no g17 g18 (Int.le_refl _) ?_
      intro A19 c20 f21
      refine bind_some' h fun y24 e25 h => ?_
      refine Op_.call (.call { callee := .value (.func 12), args := #[(.tmp 40)], argTypes := #[23] }) 41 23 12 #[.slice A14 ((sl y4.2.2 0 (wr .i64 (256 * y9))).length) c15] (AnyG.cs (i := 4) (by kernel_rfl) (by kernel_rfl)) (by kernel_rfl) (W.tidepolebase_Bytes (sl y4.2.2 0 (wr .i64 (256 * y9))) y24 e25 nz wz S6 w5 ((Gr_3_1, .row 23 csr_3_1 (cr_3_1 * (kSl (kInt .u8)).size) kzr_3_1) :: (Gr_3_2, .row 5 csr_3_2 (cr_3_2 * (kInt .u8).size) csr_3_2.length) :: Lr) A14 ((sl y4.2.2 0 (wr .i64 (256 * y9))).length) c15 p6 f16 rfl) ?_
      rintro _ w7 ⟨S7, Gr_7, nr_7, cr_7, csr_7, rfl, z7, p7, fr_7, rfl⟩
      refine AnyG.next z7 trivial ?_
      obtain ⟨ns27, f28, f29⟩ := src_rd (f21.ext z7)
      refine guard_some' h fun g30 h => ?_
      refine Op_.ap_n (K := (kInt .u8)) 23 (.tmp 41) (.tmp 46) 47 23 5 0 (.int .u8 0) 1 y24.length cr_7 v22.length y24 v22 (y24 ++ v22) A19 c20 rfl rfl rfl p7 rfl fr_7 (AnyG.vs (i := 10) (by kernel_rfl) (by kernel_rfl)) (by kernel_rfl) (by kernel_rfl) (by kernel_rfl) (by kernel_rfl) rfl (by decide) f28 f29 (by have := g30; omega) (by have := g30; omega) ?_
      intro w8 G31 c32 cs33 z8 p8 f34
      refine AnyG.next z8 trivial ?_
      refine AnyG.pure (i := 11) (.assign (.tmp 47)) 12 23 (.slice (Gp G31) ((y24 ++ v22).length) c32) (by kernel_rfl) (by kernel_rfl) (by kernel_rfl) (Fc.here trivial) ?_
      refine AnyG.done (by kernel_rfl) ?_ _
      refine Goes.runs 5 [(48, .bool x3)] [.code (sub [1, 1, 1, 1, 1, 1, 0, 1] B9), .code (sub [1, 1, 1, 1, 1, 1, 1] B9)] (by kernel_rfl) ?_
      refine ite_some h (fun h35 h => ?_) (fun h35 h => ?_)
      · rw [h35]
        refine Goes.runs 6 [(49, .slice (Gp Gr_3_2) y4.2.2.length cr_3_2), (50, .int .i64 y9), (51, .int .i64 (wr .i64 (256 * y9))), (52, .int .i64 x2)] [.inRegion (opsOf (sub [1, 1, 1, 1, 1, 1, 0, 1, 0] B9)) [4, 5, 6, 7, 8], .code (sub [1, 1, 1, 1, 1, 1, 1] B9)] (by kernel_rfl) ?_
        refine bind_some' h fun y36 e37 h => ?_
        refine Op_.call (.call { callee := .value (.func 27), args := #[(.tmp 52), (.const (.int .i64 256))], argTypes := #[3, 3] }) 53 3 27 #[.int .i64 x2, .int .i64 256] (Goes.cs (by kernel_rfl)) (by kernel_rfl) (W.tidepolebase_Among x2 256 y36 e37 nz wz S7 w8 ((G31, .row 5 cs33 (c32 * (kInt .u8).size) 0) :: (Gr_3_1, .row 23 csr_3_1 (cr_3_1 * (kSl (kInt .u8)).size) kzr_3_1) :: (Gr_3_2, .row 5 csr_3_2 (cr_3_2 * (kInt .u8).size) csr_3_2.length) :: Lr)  p8 ) ?_
        rintro _ w9 ⟨S9, rfl, z9, p9⟩
        have p9 := (p9.front 0 _ rfl).drop
        refine Goes.runs 1 [(54, .int .i64 (wr .i64 ((wr .i64 (256 * y9)) + y36)))] [.inRegion (opsOf (sub [1, 1, 1, 1, 1, 1, 0, 1, 0] B9)) [6, 7, 8], .code (sub [1, 1, 1, 1, 1, 1, 1] B9)] (by kernel_rfl) ?_
        refine guard_some' h fun g38 h => ?_
        refine guard_some' h fun g39 h => ?_
        refine let_some h fun v43 e44 h => ?_
        refine Op_.slR_n 23 (.tmp 49) none (some (.tmp 54)) 55 23 5 0 (wr .i64 ((wr .i64 (256 * y9)) + y36)) v43 rfl e44 (f11.ext ((z7.trans z8).trans z9)) (Goes.vs (by kernel_rfl)) (by kernel_rfl) (by kernel_rfl) (by kernel_rfl) Bnd.no (Bnd.at_ .i64 (by kernel_rfl)) (by decide : (0 : Int) ≤ 0) g38 g39 ?_
        intro A40 c41 f42
        refine bind_some' h fun y45 e46 h => ?_
        refine Op_.call (.call { callee := .value (.func 12), args := #[(.tmp 55)], argTypes := #[23] }) 56 23 12 #[.slice A40 v43.length c41] (Goes.cs (by kernel_rfl)) (by kernel_rfl) (W.tidepolebase_Bytes v43 y45 e46 nz wz S9 w9 ((Gr_3_1, .row 23 csr_3_1 (cr_3_1 * (kSl (kInt .u8)).size) kzr_3_1) :: (Gr_3_2, .row 5 csr_3_2 (cr_3_2 * (kInt .u8).size) csr_3_2.length) :: Lr) A40 v43.length c41 p9 f42 rfl) ?_
        rintro _ w10 ⟨S10, Gr_10, nr_10, cr_10, csr_10, rfl, z10, p10, fr_10, rfl⟩
        have p10 := (p10.front 2 _ rfl).drop
        refine Goes.runs 2 [(12, .slice (Gp Gr_10) y45.length cr_10)] [.code (sub [1, 1, 1, 1, 1, 1, 1] B9)] (by kernel_rfl) ?_
        have p10 := p10.front 0 _ rfl
        have p10 := p10.front 1 _ rfl
        exact Goes.jump 106 [(0, .int .i64 y4.1), (9, .slice (Gp Gr_3_1) y4.2.1.length cr_3_1), (11, .int .i64 y9), (12, .slice (Gp Gr_10) y45.length cr_10)] (by kernel_rfl) (W.tidepolelaw03_FrameFronts_l0 nz wz S0 w0 Lr _ _ h _ _ ((((((((((Ext.refl S0 w0).trans z2).trans z3).trans z4).trans z5).trans z6).trans z7).trans z8).trans z9).trans z10) Gr_3_1 y4.2.1.length cr_3_1 csr_3_1 kzr_3_1 Gr_10 y45.length cr_10 csr_10 p10 (fr_3_1.ext ((((((z4.trans z5).trans z6).trans z7).trans z8).trans z9).trans z10)) rfl fr_10 rfl)
      · have h35' : x3 = false := by simpa using h35
        rw [h35']
        refine Goes.runs 2 [] [.code (sub [1, 1, 1, 1, 1, 1, 1] B9)] (by kernel_rfl) ?_
        have p8 := (p8.front 2 _ rfl).drop
        have p8 := p8.front 0 _ rfl
        have p8 := p8.front 1 _ rfl
        exact Goes.jump 106 [(0, .int .i64 y4.1), (9, .slice (Gp Gr_3_1) y4.2.1.length cr_3_1), (11, .int .i64 y9), (12, .slice (Gp G31) ((y24 ++ v22).length) c32)] (by kernel_rfl) (W.tidepolelaw03_FrameFronts_l0 nz wz S0 w0 Lr _ _ h _ _ ((((((((Ext.refl S0 w0).trans z2).trans z3).trans z4).trans z5).trans z6).trans z7).trans z8) Gr_3_1 y4.2.1.length cr_3_1 csr_3_1 kzr_3_1 G31 ((y24 ++ v22).length) c32 cs33 p8 (fr_3_1.ext ((((z4.trans z5).trans z6).trans z7).trans z8)) rfl f34 rfl)
  · have h3' : y1 = false := by simpa using h3
    rw [h3']
    refine Goes.runs 5 [(8, .bool false)] [.code (sub [1, 0, 1, 0, 1] B9), .code (sub [1, 1] B9)] (by kernel_rfl) ?_
    obtain rfl := Option.some.inj h
    exact Goes.ret (fn := Try.f9) (by kernel_rfl) (v := .bool false) (by kernel_rfl) ⟨S2, rfl, ((Ext.refl S0 w0).trans z2), p2⟩

/-! tidepole/tidepolelaw03.FrameOther -/
def Post.tidepolelaw03_FrameOther (nz : Nat) (wz : World) (S0 : Fz) (w0 : World) (Lr : List Ent) (r : Bool) (v : Value) (w' : World) : Prop :=
  ∃ (S' : Fz), v = .bool r ∧ Ext S0 w0 S' w' ∧ Hp nz wz S' w' (Lr)

theorem W.tidepolelaw03_FrameOther (x0 : Int) (x1 : List (List Int)) (x2 : Int) (r : Bool) (h : M.tidepolelaw03_FrameOther x0 x1 x2 = some r) (nz : Nat) (wz : World) (S0 : Fz) (w0 : World) (Lr : List Ent) (Ax1 : Option Addr) (nx1 : Nat) (cx1 : Nat) (p0 : Hp nz wz S0 w0 (Lr)) (fx1 : Rd (kSl (kInt .u8)) S0 w0 Ax1 cx1 x1) (lx1 : x1.length = nx1) :
    Calls Try.prog 10 #[.int .i64 x0, .slice Ax1 nx1 cx1, .int .i64 x2] w0 (Rets (Post.tidepolelaw03_FrameOther nz wz S0 w0 Lr r)) := by
  subst lx1
  refine calls_of_goes (fn := Try.f10) (c := B10) (by kernel_rfl) (by kernel_rfl) 53 (by kernel_rfl) ?_
  refine Goes.jump 56 [(0, .int .i64 x0), (1, .slice Ax1 x1.length cx1), (2, .int .i64 x2)] (by kernel_rfl) (fun junk => ?_)
  delta M.tidepolelaw03_FrameOther at h
  refine Goes.runs 7 [(6, .bool false)] [.inRegion (opsOf (sub [1, 0, 0] B10)) [0, 1], .code (sub [1, 0, 1] B10), .code (sub [1, 1] B10)] (by kernel_rfl) ?_
  refine bind_some' h fun y1 e2 h => ?_
  refine Op_.call (.call { callee := .value (.func 33), args := #[], argTypes := #[] }) 12 4 33 #[] (Goes.cs (by kernel_rfl)) (by kernel_rfl) (W.tidepolelaw03_works y1 e2 nz wz S0 w0 (Lr)  p0 ) ?_
  rintro _ w2 ⟨S2, rfl, z2, p2⟩
  refine Goes.runs 2 [(13, .bool (!y1))] [.code (sub [1, 0, 1] B10), .code (sub [1, 1] B10)] (by kernel_rfl) ?_
  refine ite_some h (fun h3 h => ?_) (fun h3 h => ?_)
  · rw [h3]
    refine Goes.runs 6 [(15, .int .i64 x0), (16, .slice Ax1 x1.length cx1)] [.inRegion (opsOf (sub [1, 1, 0] B10)) [2, 3, 4, 5, 6, 7, 8, 9], .code (sub [1, 1, 1] B10)] (by kernel_rfl) ?_
    refine bind_some' h fun y4 e5 h => ?_
    refine Op_.call (.call { callee := .value (.func 34), args := #[(.tmp 15), (.tmp 16)], argTypes := #[3, 41] }) 17 50 34 #[.int .i64 x0, .slice Ax1 x1.length cx1] (Goes.cs (by kernel_rfl)) (by kernel_rfl) (W.tidepolelaw03_laid x0 x1 y4 e5 nz wz S2 w2 (Lr) Ax1 x1.length cx1 p2 (fx1.ext z2) rfl) ?_
    rintro _ w3 ⟨S3, Gr_3_1, nr_3_1, cr_3_1, csr_3_1, kzr_3_1, Gr_3_2, nr_3_2, cr_3_2, csr_3_2, rfl, z3, p3, fr_3_1, rfl, fr_3_2, rfl⟩
    refine Goes.runs 11 [(14, .tuple #[.int .i64 y4.1, .slice (Gp Gr_3_1) y4.2.1.length cr_3_1, .slice (Gp Gr_3_2) y4.2.2.length cr_3_2]), (18, .int .i64 y4.1), (19, .slice (Gp Gr_3_1) y4.2.1.length cr_3_1), (20, .slice (Gp Gr_3_2) y4.2.2.length cr_3_2), (0, .int .i64 y4.1), (7, .slice (Gp Gr_3_1) y4.2.1.length cr_3_1), (8, .slice (Gp Gr_3_2) y4.2.2.length cr_3_2), (21, .int .i64 x2)] [.inRegion (opsOf (sub [1, 1, 1, 0] B10)) [1, 2], .code (sub [1, 1, 1, 1] B10)] (by kernel_rfl) ?_
    refine bind_some' h fun y8 e9 h => ?_
    refine Op_.call (.call { callee := .value (.func 27), args := #[(.tmp 21), (.const (.int .i64 1000000))], argTypes := #[3, 3] }) 22 3 27 #[.int .i64 x2, .int .i64 1000000] (Goes.cs (by kernel_rfl)) (by kernel_rfl) (W.tidepolebase_Among x2 1000000 y8 e9 nz wz S3 w3 ((Gr_3_1, .row 23 csr_3_1 (cr_3_1 * (kSl (kInt .u8)).size) kzr_3_1) :: (Gr_3_2, .row 5 csr_3_2 (cr_3_2 * (kInt .u8).size) 0) :: Lr)  p3 ) ?_
    rintro _ w4 ⟨S4, rfl, z4, p4⟩
    refine Goes.runs 6 [(2, .int .i64 y8), (24, .int .i64 y8), (25, .slice (Gp Gr_3_2) y4.2.2.length cr_3_2)] [.inRegion (opsOf (sub [1, 1, 1, 1, 0] B10)) [2, 3, 4, 5, 6, 7, 8, 9], .code (sub [1, 1, 1, 1, 1] B10)] (by kernel_rfl) ?_
    obtain ⟨S5, z5, p5, f10⟩ := p4.freezeRd 1 rfl (fr_3_2.ext z4) (by decide)
    refine bind_some' h fun y11 e12 h => ?_
    refine Op_.call (.call { callee := .value (.func 36), args := #[(.tmp 24), (.tmp 25)], argTypes := #[3, 23] }) 26 54 36 #[.int .i64 y8, .slice (Gp Gr_3_2) y4.2.2.length cr_3_2] (Goes.cs (by kernel_rfl)) (by kernel_rfl) (W.frame_Read y8 y4.2.2 y11 e12 nz wz S5 w4 ((Gr_3_1, .row 23 csr_3_1 (cr_3_1 * (kSl (kInt .u8)).size) kzr_3_1) :: (Gr_3_2, .row 5 csr_3_2 (cr_3_2 * (kInt .u8).size) csr_3_2.length) :: Lr) (Gp Gr_3_2) y4.2.2.length cr_3_2 p5 f10 rfl) ?_
    rintro _ w6 ⟨S6, Gr_6_0, nr_6_0, cr_6_0, csr_6_0, rfl, z6, p6, fr_6_0, rfl⟩
    have p6 := (p6.front 2 _ rfl).drop
    refine Goes.runs 13 [(23, .tuple #[.slice (Gp Gr_6_0) y11.1.length cr_6_0, .int .i64 y11.2.1, .int .i64 y11.2.2]), (27, .slice (Gp Gr_6_0) y11.1.length cr_6_0), (28, .int .i64 y11.2.1), (29, .int .i64 y11.2.2), (9, .slice (Gp Gr_6_0) y11.1.length cr_6_0), (10, .int .i64 y11.2.1), (11, .int .i64 y11.2.2), (30, .int .i64 y11.2.2), (31, .bool (decide (y11.2.2 = 0))), (32, .bool (decide (y11.2.2 = 0)))] [.inRegion (opsOf (sub [1, 1, 1, 1, 1, 0] B10)) [3, 4, 5, 6, 7, 8, 9, 10, 11, 12, 13, 14, 15, 16, 17, 18, 19, 20, 21, 22, 23, 24, 25, 26], .code (sub [1, 1, 1, 1, 1, 1] B10)] (by kernel_rfl) ?_
    refine ite_some h (fun h14 h => ?_) (fun h14 h => ?_)
    · rw [decide_eq_true h14]
      refine Goes.runs 4 [(33, .int .i64 y8), (34, .int .i64 y4.1), (35, .bool (decide (y8 = y4.1))), (36, .bool (decide (y8 = y4.1)))] [.inRegion (opsOf (sub [1, 1, 1, 1, 1, 0] B10)) [7, 8, 9, 10, 11, 12, 13, 14, 15, 16, 17, 18, 19, 20, 21, 22, 23, 24, 25, 26], .code (sub [1, 1, 1, 1, 1, 1] B10)] (by kernel_rfl) ?_
      refine ite_some h (fun h15 h => ?_) (fun h15 h => ?_)
      · rw [decide_eq_true h15]
        refine Goes.runs 2 [(37, .slice (Gp Gr_6_0) y11.1.length cr_6_0), (38, .slice (Gp Gr_3_1) y4.2.1.length cr_3_1)] [.inRegion (opsOf (sub [1, 1, 1, 1, 1, 0] B10)) [9, 10, 11, 12, 13, 14, 15, 16, 17, 18, 19, 20, 21, 22, 23, 24, 25, 26], .code (sub [1, 1, 1, 1, 1, 1] B10)] (by kernel_rfl) ?_
        obtain ⟨S7, z7, p7, f16⟩ := p6.freezeRd 0 rfl fr_6_0 (by decide)
        obtain ⟨S8, z8, p8, f17⟩ := p7.freezeRd 1 rfl (fr_3_1.ext (((z4.trans z5).trans z6).trans z7)) (by decide)
        refine bind_some' h fun y18 e19 h => ?_
        refine Op_.call (.call { callee := .value (.func 37), args := #[(.tmp 37), (.tmp 38)], argTypes := #[41, 41] }) 39 4 37 #[.slice (Gp Gr_6_0) y11.1.length cr_6_0, .slice (Gp Gr_3_1) y4.2.1.length cr_3_1] (Goes.cs (by kernel_rfl)) (by kernel_rfl) (W.tidepolelaw03_same y11.1 y4.2.1 y18 e19 nz wz S8 w6 ((Gr_6_0, .row 23 csr_6_0 (cr_6_0 * (kSl (kInt .u8)).size) csr_6_0.length) :: (Gr_3_1, .row 23 csr_3_1 (cr_3_1 * (kSl (kInt .u8)).size) csr_3_1.length) :: Lr) (Gp Gr_6_0) y11.1.length cr_6_0 (Gp Gr_3_1) y4.2.1.length cr_3_1 p8 (f16.ext z8) rfl f17 rfl) ?_
        rintro _ w9 ⟨S9, rfl, z9, p9⟩
        have p9 := (p9.front 1 _ rfl).drop
        refine Goes.runs 2 [(40, .bool y18), (41, .bool y18)] [.inRegion (opsOf (sub [1, 1, 1, 1, 1, 0] B10)) [12, 13, 14, 15, 16, 17, 18, 19, 20, 21, 22, 23, 24, 25, 26], .code (sub [1, 1, 1, 1, 1, 1] B10)] (by kernel_rfl) ?_
        refine ite_some h (fun h20 h => ?_) (fun h20 h => ?_)
        · rw [h20]
          refine Goes.runs 14 [(42, undef), (43, undef), (44, undef), (45, undef), (46, undef), (47, undef), (48, undef), (49, undef), (50, undef), (51, undef), (52, undef), (53, undef), (54, .bool true), (55, .bool true)] [.inRegion (opsOf (sub [1, 1, 1, 1, 1, 0] B10)) [26], .code (sub [1, 1, 1, 1, 1, 1] B10)] (by kernel_rfl) ?_
          refine Goes.runs 2 [(6, .bool true)] [.code (sub [1, 1, 1, 1, 1, 1] B10)] (by kernel_rfl) ?_
          obtain rfl := Option.some.inj h
          have p9 := (p9.front 0 _ rfl).drop
          exact Goes.ret (fn := Try.f10) (by kernel_rfl) (v := .bool true) (by kernel_rfl) ⟨S9, rfl, (((((((((Ext.refl S0 w0).trans z2).trans z3).trans z4).trans z5).trans z6).trans z7).trans z8).trans z9), p9⟩
        · have h20' : y18 = false := by simpa using h20
          rw [h20']
          refine Goes.runs 4 [(42, .int .i64 y8), (43, .int .i64 y4.1), (44, .bool (!(decide (y8 = y4.1)))), (45, .bool (!(decide (y8 = y4.1))))] [.inRegion (opsOf (sub [1, 1, 1, 1, 1, 0] B10)) [16, 17, 18, 19, 20, 21, 22, 23, 24, 25, 26], .code (sub [1, 1, 1, 1, 1, 1] B10)] (by kernel_rfl) ?_
          refine ite_some h (fun h21 h => ?_) (fun h21 h => ?_)
          · rw [decide_eq_true h21]
            refine Goes.runs 12 [(46, undef), (47, undef), (48, undef), (49, .bool false), (50, .bool false), (51, undef), (52, undef), (53, .bool false), (54, .bool false), (55, .bool false), (6, .bool false)] [.code (sub [1, 1, 1, 1, 1, 1] B10)] (by kernel_rfl) ?_
            obtain rfl := Option.some.inj h
            have p9 := (p9.front 0 _ rfl).drop
            exact Goes.ret (fn := Try.f10) (by kernel_rfl) (v := .bool false) (by kernel_rfl) ⟨S9, rfl, (((((((((Ext.refl S0 w0).trans z2).trans z3).trans z4).trans z5).trans z6).trans z7).trans z8).trans z9), p9⟩
          · rw [decide_eq_false h21]
            refine Goes.runs 5 [(46, .slice (Gp Gr_6_0) y11.1.length cr_6_0), (47, .int .i64 (y11.1.length : Int)), (48, .bool (decide ((y11.1.length : Int) = 0))), (49, .bool (decide ((y11.1.length : Int) = 0))), (50, .bool (decide ((y11.1.length : Int) = 0)))] [.inRegion (opsOf (sub [1, 1, 1, 1, 1, 0] B10)) [21, 22, 23, 24, 25, 26], .code (sub [1, 1, 1, 1, 1, 1] B10)] (by kernel_rfl) ?_
            refine ite_some h (fun h22 h => ?_) (fun h22 h => ?_)
            · rw [decide_eq_true h22]
              refine Goes.runs 7 [(51, .int .i64 y11.2.1), (52, .bool (decide (y11.2.1 = 0))), (53, .bool (decide (y11.2.1 = 0))), (54, .bool (decide (y11.2.1 = 0))), (55, .bool (decide (y11.2.1 = 0))), (6, .bool (decide (y11.2.1 = 0)))] [.code (sub [1, 1, 1, 1, 1, 1] B10)] (by kernel_rfl) ?_
              obtain rfl := Option.some.inj h
              have p9 := (p9.front 0 _ rfl).drop
              exact Goes.ret (fn := Try.f10) (by kernel_rfl) (v := .bool (decide (y11.2.1 = 0))) (by kernel_rfl) ⟨S9, rfl, (((((((((Ext.refl S0 w0).trans z2).trans z3).trans z4).trans z5).trans z6).trans z7).trans z8).trans z9), p9⟩
            · rw [decide_eq_false h22]
              refine Goes.runs 7 [(51, undef), (52, undef), (53, .bool false), (54, .bool false), (55, .bool false), (6, .bool false)] [.code (sub [1, 1, 1, 1, 1, 1] B10)] (by kernel_rfl) ?_
              obtain rfl := Option.some.inj h
              have p9 := (p9.front 0 _ rfl).drop
              exact Goes.ret (fn := Try.f10) (by kernel_rfl) (v := .bool false) (by kernel_rfl) ⟨S9, rfl, (((((((((Ext.refl S0 w0).trans z2).trans z3).trans z4).trans z5).trans z6).trans z7).trans z8).trans z9), p9⟩
      · rw [decide_eq_false h15]
        refine Goes.runs 9 [(37, undef), (38, undef), (39, undef), (40, .bool false), (41, .bool false), (42, .int .i64 y8), (43, .int .i64 y4.1), (44, .bool (!(decide (y8 = y4.1)))), (45, .bool (!(decide (y8 = y4.1))))] [.inRegion (opsOf (sub [1, 1, 1, 1, 1, 0] B10)) [16, 17, 18, 19, 20, 21, 22, 23, 24, 25, 26], .code (sub [1, 1, 1, 1, 1, 1] B10)] (by kernel_rfl) ?_
        refine ite_some h (fun h23 h => ?_) (fun h23 h => ?_)
        · rw [decide_eq_true h23]
          refine Goes.runs 12 [(46, undef), (47, undef), (48, undef), (49, .bool false), (50, .bool false), (51, undef), (52, undef), (53, .bool false), (54, .bool false), (55, .bool false), (6, .bool false)] [.code (sub [1, 1, 1, 1, 1, 1] B10)] (by kernel_rfl) ?_
          obtain rfl := Option.some.inj h
          have p6 := (p6.front 0 _ rfl).drop
          have p6 := (p6.front 0 _ rfl).drop
          exact Goes.ret (fn := Try.f10) (by kernel_rfl) (v := .bool false) (by kernel_rfl) ⟨S6, rfl, ((((((Ext.refl S0 w0).trans z2).trans z3).trans z4).trans z5).trans z6), p6⟩
        · rw [decide_eq_false h23]
          refine Goes.runs 5 [(46, .slice (Gp Gr_6_0) y11.1.length cr_6_0), (47, .int .i64 (y11.1.length : Int)), (48, .bool (decide ((y11.1.length : Int) = 0))), (49, .bool (decide ((y11.1.length : Int) = 0))), (50, .bool (decide ((y11.1.length : Int) = 0)))] [.inRegion (opsOf (sub [1, 1, 1, 1, 1, 0] B10)) [21, 22, 23, 24, 25, 26], .code (sub [1, 1, 1, 1, 1, 1] B10)] (by kernel_rfl) ?_
          refine ite_some h (fun h24 h => ?_) (fun h24 h => ?_)
          · rw [decide_eq_true h24]
            refine Goes.runs 7 [(51, .int .i64 y11.2.1), (52, .bool (decide (y11.2.1 = 0))), (53, .bool (decide (y11.2.1 = 0))), (54, .bool (decide (y11.2.1 = 0))), (55, .bool (decide (y11.2.1 = 0))), (6, .bool (decide (y11.2.1 = 0)))] [.code (sub [1, 1, 1, 1, 1, 1] B10)] (by kernel_rfl) ?_
            obtain rfl := Option.some.inj h
            have p6 := (p6.front 0 _ rfl).drop
            have p6 := (p6.front 0 _ rfl).drop
            exact Goes.ret (fn := Try.f10) (by kernel_rfl) (v := .bool (decide (y11.2.1 = 0))) (by kernel_rfl) ⟨S6, rfl, ((((((Ext.refl S0 w0).trans z2).trans z3).trans z4).trans z5).trans z6), p6⟩
          · rw [decide_eq_false h24]
            refine Goes.runs 7 [(51, undef), (52, undef), (53, .bool false), (54, .bool false), (55, .bool false), (6, .bool false)] [.code (sub [1, 1, 1, 1, 1, 1] B10)] (by kernel_rfl) ?_
            obtain rfl := Option.some.inj h
            have p6 := (p6.front 0 _ rfl).drop
            have p6 := (p6.front 0 _ rfl).drop
            exact Goes.ret (fn := Try.f10) (by kernel_rfl) (v := .bool false) (by kernel_rfl) ⟨S6, rfl, ((((((Ext.refl S0 w0).trans z2).trans z3).trans z4).trans z5).trans z6), p6⟩
    · rw [decide_eq_false h14]
      refine Goes.runs 14 [(33, undef), (34, undef), (35, undef), (36, undef), (37, undef), (38, undef), (39, undef), (40, undef), (41, undef), (42, undef), (43, undef), (44, undef), (45, undef), (46, undef)] [.inRegion (opsOf (sub [1, 1, 1, 1, 1, 0] B10)) [17, 18, 19, 20, 21, 22, 23, 24, 25, 26], .code (sub [1, 1, 1, 1, 1, 1] B10)] (by kernel_rfl) ?_
      refine Goes.runs 11 [(47, undef), (48, undef), (49, undef), (50, undef), (51, undef), (52, undef), (53, undef), (54, undef), (55, .bool false), (6, .bool false)] [.code (sub [1, 1, 1, 1, 1, 1] B10)] (by kernel_rfl) ?_
      obtain rfl := Option.some.inj h
      have p6 := (p6.front 0 _ rfl).drop
      have p6 := (p6.front 0 _ rfl).drop
      exact Goes.ret (fn := Try.f10) (by kernel_rfl) (v := .bool false) (by kernel_rfl) ⟨S6, rfl, ((((((Ext.refl S0 w0).trans z2).trans z3).trans z4).trans z5).trans z6), p6⟩
  · have h3' : y1 = false := by simpa using h3
    rw [h3']
    refine Goes.runs 5 [(6, .bool false)] [.code (sub [1, 0, 1, 0, 1] B10), .code (sub [1, 1] B10)] (by kernel_rfl) ?_
    obtain rfl := Option.some.inj h
    exact Goes.ret (fn := Try.f10) (by kernel_rfl) (v := .bool false) (by kernel_rfl) ⟨S2, rfl, ((Ext.refl S0 w0).trans z2), p2⟩

end Go.Gx
