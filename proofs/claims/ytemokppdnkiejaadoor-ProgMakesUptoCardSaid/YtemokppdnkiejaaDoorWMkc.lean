import Derived.Test.YtemokppdnkiejaaDoorWMkb

set_option linter.unusedVariables false

set_option maxRecDepth 100000

set_option maxHeartbeats 4000000

namespace Go.Gx

open Go.RowKit Go.Proofs

variable (nz : Nat) (wz : World) (S0 : Fz) (w0 : World) (Lr : List Ent)

noncomputable section

def Q9g := sub [1, 1, 0, 1, 1, 1, 0, 1] B37
def Jcy : List Item := .code Q9g :: J6z
def Jcz : List Item := .inBlock 1 :: J6z
def Q9h := sub [1, 1, 0, 1, 1, 1, 0, 1, 1, 0, 0] B37
def Jd0 : List Item := .inLoop Q9h :: Jcz
def Jd1 : List Item := .code Q9h :: Jd0
def Q9i := sub [1, 1, 0, 1, 1, 1, 0, 1, 1, 0, 0, 1, 1] B37
def Jd2 : List Item := .code Q9i :: Jd0
def Jd3 : List Item := .inBlock 2 :: Jd2
def Q9j := sub [1, 1, 0, 1, 1, 1, 0, 1, 1, 0, 0, 1, 0, 0, 1, 1] B37
def Jd4 : List Item := .code Q9j :: Jd3
def Q9k := sub [1, 1, 0, 1, 1, 1, 1, 1, 0, 1] B37
def Jd5 : List Item := .code Q9k :: J6z
def Jd6 : List Item := .inBlock 3 :: J6z
def Q9l := sub [1, 1, 0, 1, 1, 1, 1, 1, 0, 1, 1, 0, 0] B37
def Jd7 : List Item := .inLoop Q9l :: Jd6
def Jd8 : List Item := .code Q9l :: Jd7
def Q9m := sub [1, 1, 0, 1, 1, 1, 1, 1, 0, 1, 1, 0, 0, 1, 1] B37
def Jd9 : List Item := .code Q9m :: Jd7
def Jda : List Item := .inBlock 4 :: Jd9
def Q9n := sub [1, 1, 0, 1, 1, 1, 1, 1, 0, 1, 1, 0, 0, 1, 0, 0, 1] B37
def Jdb : List Item := .code Q9n :: Jda
def Q9o := sub [1, 1, 0, 1, 1, 1, 1, 1, 1, 1, 0, 1, 1, 1] B37
def Jdc : List Item := .code Q9o :: J6z
def Jdd : List Item := .inBlock 5 :: Jdc
def Q9p := sub [1, 1, 0, 1, 1, 1, 1, 1, 1, 1, 0, 1, 1, 0, 1, 0, 0] B37
def Jde : List Item := .inLoop Q9p :: Jdd
def Jdf : List Item := .code Q9p :: Jde
def Q9q := sub [1, 1, 0, 1, 1, 1, 1, 1, 1, 1, 0, 1, 1, 0, 1, 0, 0, 1, 1] B37
def Jdg : List Item := .code Q9q :: Jde
def Jdh : List Item := .inBlock 6 :: Jdg
def Q9r := sub [1, 1, 0, 1, 1, 1, 1, 1, 1, 1, 0, 1, 1, 0, 1, 0, 0, 1, 0, 0, 1, 1] B37
def Jdi : List Item := .code Q9r :: Jdh
def Q9s := sub [1, 1, 0, 1, 1, 1, 1, 1, 1, 1, 0, 1, 1, 0, 1, 0, 0, 1, 0, 0, 1, 0, 1] B37
def Jdj : List Item := .code Q9s :: Jdi
def Q9t := sub [1, 1, 0, 1, 1, 1, 1, 1, 1, 1, 0, 1, 1, 1, 1] B37
def Jdk : List Item := .code Q9t :: J6z
def Jdl : List Item := .inBlock 7 :: J6z
def Q9u := sub [1, 1, 0, 1, 1, 1, 1, 1, 1, 1, 0, 1, 1, 1, 1, 1, 0, 0] B37
def Jdm : List Item := .inLoop Q9u :: Jdl
def Jdn : List Item := .code Q9u :: Jdm
def Q9v := sub [1, 1, 0, 1, 1, 1, 1, 1, 1, 1, 0, 1, 1, 1, 1, 1, 0, 0, 1, 1] B37
def Jdo : List Item := .code Q9v :: Jdm
def Jdp : List Item := .inBlock 8 :: Jdo
def Q9w := sub [1, 1, 0, 1, 1, 1, 1, 1, 1, 1, 0, 1, 1, 1, 1, 1, 0, 0, 1, 0, 0, 1, 1, 1] B37
def Jdq : List Item := .code Q9w :: Jdp
def Q9x := sub [1] B37
def Jdr : List Item := [.code Q9x]
def Q9y := sub [0] B37
def Jds : List Item := .inRegion (opsOf Q9y) [0] :: Jdr
def Q9z := sub [1, 1] B37
def Jdt : List Item := [.code Q9z]
def Qa0 := sub [1, 0] B37
def Jdu : List Item := .inRegion (opsOf Qa0) [1] :: Jdt
def Qa1 := sub [1, 1, 0, 1] B37
def Jdv : List Item := .code Qa1 :: J6z
def Qa2 := sub [1, 1, 0, 1, 0] B37
def Jdw : List Item := .inRegion (opsOf Qa2) [3, 4, 5, 6, 7] :: J6z
def Jdx : List Item := .inRegion (opsOf Qa2) [6, 7] :: J6z
def Qa3 := sub [1, 1, 0, 1, 1, 1] B37
def Jdy : List Item := .code Qa3 :: J6z
def Qa4 := sub [1, 1, 0, 1, 1, 1, 0, 0, 1] B37
def Jdz : List Item := .code Qa4 :: Jcy
def Qa5 := sub [1, 1, 0, 1, 1, 1, 0, 0, 0] B37
def Je0 : List Item := .inRegion (opsOf Qa5) [1, 2, 3] :: Jdz
def Qa6 := sub [1, 1, 0, 1, 1, 1, 0, 0, 1, 0] B37
def Je1 : List Item := .inRegion (opsOf Qa6) [4, 5] :: Jcy
def Qa7 := sub [1, 1, 0, 1, 1, 1, 1, 1] B37
def Je2 : List Item := .code Qa7 :: J6z
def Qa8 := sub [1, 1, 0, 1, 1, 1, 1, 1, 0, 0, 1] B37
def Je3 : List Item := .code Qa8 :: Jd5
def Qa9 := sub [1, 1, 0, 1, 1, 1, 1, 1, 0, 0, 0] B37
def Je4 : List Item := .inRegion (opsOf Qa9) [1, 2, 3] :: Je3
def Qaa := sub [1, 1, 0, 1, 1, 1, 1, 1, 0, 0, 1, 0] B37
def Je5 : List Item := .inRegion (opsOf Qaa) [4, 5] :: Jd5
def Qab := sub [1, 1, 0, 1, 1, 1, 1, 1, 1, 1] B37
def Je6 : List Item := .code Qab :: J6z
def Qac := sub [1, 1, 0, 1, 1, 1, 1, 1, 1, 1, 0, 1] B37
def Je7 : List Item := .code Qac :: J6z
def Qad := sub [1, 1, 0, 1, 1, 1, 1, 1, 1, 1, 0, 0] B37
def Je8 : List Item := .inRegion (opsOf Qad) [1, 2, 3, 4, 5] :: Je7
def Qae := sub [1, 1, 0, 1, 1, 1, 1, 1, 1, 1, 0, 1, 1] B37
def Je9 : List Item := .code Qae :: J6z
def Qaf := sub [1, 1, 0, 1, 1, 1, 1, 1, 1, 1, 0, 1, 0, 1] B37
def Jea : List Item := .code Qaf :: Je9
def Qag := sub [1, 1, 0, 1, 1, 1, 1, 1, 1, 1, 0, 1, 0, 0] B37
def Jeb : List Item := .inRegion (opsOf Qag) [1, 2] :: Jea
def Qah := sub [1, 1, 0, 1, 1, 1, 1, 1, 1, 1, 0, 1, 0, 1, 0, 1] B37
def Jec : List Item := .code Qah :: Je9
def Qai := sub [1, 1, 0, 1, 1, 1, 1, 1, 1, 1, 0, 1, 0, 1, 0, 0] B37
def Jed : List Item := .inRegion (opsOf Qai) [4, 5] :: Jec
def Qaj := sub [1, 1, 0, 1, 1, 1, 1, 1, 1, 1, 0, 1, 1, 0, 1, 0, 0, 1] B37
def Jee : List Item := .code Qaj :: Jde
def Qak := sub [1, 1, 0, 1, 1, 1, 1, 1, 1, 1, 0, 1, 1, 0, 1, 0, 0, 0, 1] B37
def Jef : List Item := .code Qak :: Jee
def Qal := sub [1, 1, 0, 1, 1, 1, 1, 1, 1, 1, 0, 1, 1, 0, 1, 0, 0, 0, 0] B37
def Jeg : List Item := .inRegion (opsOf Qal) [2, 3] :: Jef
def Qam := sub [1, 1, 0, 1, 1, 1, 1, 1, 1, 1, 0, 1, 1, 0, 1, 0, 0, 1, 0, 0, 1, 0, 0] B37
def Jeh : List Item := .inRegion (opsOf Qam) [0, 1, 2, 3, 4, 5, 6, 7, 8, 9, 10, 11] :: Jdj
def Jei : List Item := .inRegion (opsOf Qam) [2, 3, 4, 5, 6, 7, 8, 9, 10, 11] :: Jdj
def Jej : List Item := .inRegion (opsOf Qam) [6, 7, 8, 9, 10, 11] :: Jdj
def Jek : List Item := .inRegion (opsOf Qam) [7, 8, 9, 10, 11] :: Jdj
def Jel : List Item := .inRegion (opsOf Qam) [9, 10, 11] :: Jdj
def Qan := sub [1, 1, 0, 1, 1, 1, 1, 1, 1, 1, 0, 1, 1, 1, 0, 1] B37
def Jem : List Item := .code Qan :: Jdk
def Qao := sub [1, 1, 0, 1, 1, 1, 1, 1, 1, 1, 0, 1, 1, 1, 0, 0] B37
def Jen : List Item := .inRegion (opsOf Qao) [1, 2] :: Jem
def Qap := sub [1, 1, 0, 1, 1, 1, 1, 1, 1, 1, 0, 1, 1, 1, 0, 1, 0, 1] B37
def Jeo : List Item := .code Qap :: Jdk
def Qaq := sub [1, 1, 0, 1, 1, 1, 1, 1, 1, 1, 0, 1, 1, 1, 0, 1, 0, 0] B37
def Jep : List Item := .inRegion (opsOf Qaq) [6, 7] :: Jeo
def Jeq : List Item := .inRegion (opsOf Qap) [2, 3, 4, 5, 6, 7, 8] :: Jdk
def Jer : List Item := .inRegion (opsOf Qap) [8] :: Jdk
def Qar := sub [1, 1, 0, 1, 1, 1, 1, 1, 1, 1, 0, 1, 1, 1, 1, 1] B37
def Jes : List Item := .code Qar :: J6z
def Qas := sub [1, 1, 0, 1, 1, 1, 1, 1, 1, 1, 0, 1, 1, 1, 1, 0] B37
def Jet : List Item := .inRegion (opsOf Qas) [1, 2] :: Jes
def Qat := sub [1, 1, 0, 1, 1, 1, 1, 1, 1, 1, 0, 1, 1, 1, 1, 1, 0, 0, 1] B37
def Jeu : List Item := .code Qat :: Jdm
def Qau := sub [1, 1, 0, 1, 1, 1, 1, 1, 1, 1, 0, 1, 1, 1, 1, 1, 0, 0, 0, 1] B37
def Jev : List Item := .code Qau :: Jeu
def Qav := sub [1, 1, 0, 1, 1, 1, 1, 1, 1, 1, 0, 1, 1, 1, 1, 1, 0, 0, 0, 0] B37
def Jew : List Item := .inRegion (opsOf Qav) [2, 3] :: Jev
def Qaw := sub [1, 1, 0, 1, 1, 1, 1, 1, 1, 1, 0, 1, 1, 1, 1, 1, 0, 0, 1, 0, 0, 1] B37
def Jex : List Item := .code Qaw :: Jdp
def Qax := sub [1, 1, 0, 1, 1, 1, 1, 1, 1, 1, 0, 1, 1, 1, 1, 1, 0, 0, 1, 0, 0, 0] B37
def Jey : List Item := .inRegion (opsOf Qax) [6, 7] :: Jex
def Qay := sub [1, 1, 0, 1, 1, 1, 1, 1, 1, 1, 0, 1, 1, 1, 1, 1, 0, 0, 1, 0, 0, 1, 1, 0, 1] B37
def Jez : List Item := .code Qay :: Jdq
def Qaz := sub [1, 1, 0, 1, 1, 1, 1, 1, 1, 1, 0, 1, 1, 1, 1, 1, 0, 0, 1, 0, 0, 1, 1, 0, 0] B37
def Jf0 : List Item := .inRegion (opsOf Qaz) [2, 3, 4] :: Jez
def Qb0 := sub [1, 1, 0, 1, 1, 1, 1, 1, 1, 1, 0, 1, 1, 1, 1, 1, 0, 0, 1, 0, 0, 1, 1, 1, 1] B37
def Jf1 : List Item := .code Qb0 :: Jdp
def Qb1 := sub [1, 1, 0, 1, 1, 1, 1, 1, 1, 1, 0, 1, 1, 1, 1, 1, 0, 0, 1, 0, 0, 1, 1, 1, 0] B37
def Jf2 : List Item := .inRegion (opsOf Qb1) [2, 3, 4, 5, 6, 7, 8] :: Jf1
def Jf3 : List Item := .inRegion (opsOf Qb1) [8] :: Jf1
def Qb2 := sub [1, 1, 0, 1, 1, 1, 1, 1, 1, 1, 0, 1, 1, 0, 1, 0, 0, 1, 0, 0, 1, 1, 1] B37
def Jf4 : List Item := .code Qb2 :: Jdh
def Qb3 := sub [1, 1, 0, 1, 1, 1, 1, 1, 1, 1, 0, 1, 1, 0, 1, 0, 0, 1, 0, 0, 1, 1, 0] B37
def Jf5 : List Item := .inRegion (opsOf Qb3) [2, 3, 4, 5, 6, 7] :: Jf4
def Jf6 : List Item := .inRegion (opsOf Qb3) [7] :: Jf4
def Qb4 := sub [1, 1, 0, 1, 1, 1, 1, 1, 0, 1, 1, 0, 0, 1] B37
def Jf7 : List Item := .code Qb4 :: Jd7
def Qb5 := sub [1, 1, 0, 1, 1, 1, 1, 1, 0, 1, 1, 0, 0, 0, 1] B37
def Jf8 : List Item := .code Qb5 :: Jf7
def Qb6 := sub [1, 1, 0, 1, 1, 1, 1, 1, 0, 1, 1, 0, 0, 0, 0] B37
def Jf9 : List Item := .inRegion (opsOf Qb6) [2, 3, 4] :: Jf8
def Qb7 := sub [1, 1, 0, 1, 1, 1, 1, 1, 0, 1, 1, 0, 0, 1, 0, 0, 0, 1] B37
def Jfa : List Item := .code Qb7 :: Jdb
def Qb8 := sub [1, 1, 0, 1, 1, 1, 1, 1, 0, 1, 1, 0, 0, 1, 0, 0, 0, 0] B37
def Jfb : List Item := .inRegion (opsOf Qb8) [2, 3, 4, 5] :: Jfa
def Qb9 := sub [1, 1, 0, 1, 1, 1, 1, 1, 0, 1, 1, 0, 0, 1, 0, 0, 0, 1, 0, 1] B37
def Jfc : List Item := .code Qb9 :: Jdb
def Qba := sub [1, 1, 0, 1, 1, 1, 1, 1, 0, 1, 1, 0, 0, 1, 0, 0, 0, 1, 0, 0] B37
def Jfd : List Item := .inRegion (opsOf Qba) [7, 8, 9, 10, 11, 12, 13, 14, 15] :: Jfc
def Jfe : List Item := .inRegion (opsOf Qba) [9, 10, 11, 12, 13, 14, 15] :: Jfc
def Jff : List Item := .inRegion (opsOf Qba) [14, 15] :: Jfc
def Qbb := sub [1, 1, 0, 1, 1, 1, 1, 1, 0, 1, 1, 0, 0, 1, 0, 0, 1, 1] B37
def Jfg : List Item := .code Qbb :: Jda
def Qbc := sub [1, 1, 0, 1, 1, 1, 1, 1, 0, 1, 1, 0, 0, 1, 0, 0, 1, 0] B37
def Jfh : List Item := .inRegion (opsOf Qbc) [2, 3, 4, 5, 6, 7, 8] :: Jfg
def Jfi : List Item := .inRegion (opsOf Qbc) [4, 5, 6, 7, 8] :: Jfg
def Jfj : List Item := .inRegion (opsOf Qbc) [8] :: Jfg
def Jfk : List Item := .inRegion (opsOf Qbb) [2, 3, 4, 5, 6, 7, 8] :: Jda
def Jfl : List Item := .inRegion (opsOf Qbb) [4, 5, 6, 7, 8] :: Jda
def Qbd := sub [1, 1, 0, 1, 1, 1, 0, 1, 1, 0, 0, 1] B37
def Jfm : List Item := .code Qbd :: Jd0
def Qbe := sub [1, 1, 0, 1, 1, 1, 0, 1, 1, 0, 0, 0, 1] B37
def Jfn : List Item := .code Qbe :: Jfm
def Qbf := sub [1, 1, 0, 1, 1, 1, 0, 1, 1, 0, 0, 0, 0] B37
def Jfo : List Item := .inRegion (opsOf Qbf) [2, 3, 4] :: Jfn
def Qbg := sub [1, 1, 0, 1, 1, 1, 0, 1, 1, 0, 0, 1, 0, 0, 1] B37
def Jfp : List Item := .code Qbg :: Jd3
def Qbh := sub [1, 1, 0, 1, 1, 1, 0, 1, 1, 0, 0, 1, 0, 0, 0] B37
def Jfq : List Item := .inRegion (opsOf Qbh) [2, 3, 4, 5, 6, 7, 8] :: Jfp
def Jfr : List Item := .inRegion (opsOf Qbh) [4, 5, 6, 7, 8] :: Jfp
def Qbi := sub [1, 1, 0, 1, 1, 1, 0, 1, 1, 0, 0, 1, 0, 0, 1, 0, 1] B37
def Jfs : List Item := .code Qbi :: Jd4
def Qbj := sub [1, 1, 0, 1, 1, 1, 0, 1, 1, 0, 0, 1, 0, 0, 1, 0, 0] B37
def Jft : List Item := .inRegion (opsOf Qbj) [2, 3, 4, 5] :: Jfs
def Qbk := sub [1, 1, 0, 1, 1, 1, 0, 1, 1, 0, 0, 1, 0, 0, 1, 0, 1, 0] B37
def Jfu : List Item := .inRegion (opsOf Qbk) [2, 3, 4, 5, 6, 7, 8] :: Jd4
def Jfv : List Item := .inRegion (opsOf Qbk) [4, 5, 6, 7, 8] :: Jd4
def Jfw : List Item := .inRegion (opsOf Qbk) [8] :: Jd4
def Qbl := sub [1, 1, 0, 1, 1, 1, 0, 1, 1, 0, 0, 1, 0, 0, 1, 0, 1, 1] B37
def Jfx : List Item := .inRegion (opsOf Qbl) [2, 3, 4, 5, 6, 7, 8] :: Jd4
def Jfy : List Item := .inRegion (opsOf Qbl) [4, 5, 6, 7, 8] :: Jd4
def Jfz : List Item := .inRegion (opsOf Qbl) [8] :: Jd4

def Post.z1w (Gx0 : Option Nat) (nx0 : Nat) (cx0 : Nat) (r : List T48) (v : Value) (w' : World) : Prop :=
 ∃ S' u8h, v = .tuple #[] ∧ Ext S0 w0 S' w' ∧ Hp nz wz S' w' ((Gx0, .row 49 u8h (cx0 * kT48.size) 0) :: Lr) ∧ Els kT48 S' w' u8h r ∧ r.length = nx0

def LF.z1w : (List T48) × T27 × Int × Int → (List T48) → Prop := fun ⟨x0, x1, x2, x3⟩ r => ∀ {nz wz S0 w0 Lr} [Gw nz wz] Gx0 nx0 cx0 u8i u2q u2r u2s (_ : Hp nz wz S0 w0 ((Gx0, .row 49 u8i (cx0 * kT48.size) 0) :: Lr)) (_ : Els kT48 S0 w0 u8i x0) (_ : x0.length = nx0) (_ : x1.Set.length = 4) (_ : Rd kT27 S0 w0 u2q u2s x1.L) (_ : x1.L.length = u2r),
 Calls Tryd.prog 37 #[.slice (Gp Gx0) nx0 cx0, (ag (.i x1.Kind :: U4 x1.Set [.slice u2q u2r u2s, .i x1.Min, .i x1.Max])), .i x2, .i x3] w0 (Rets (Post.z1w nz wz S0 w0 Lr Gx0 nx0 cx0 r))

def L.z1x (Gx0 : Option Nat) (nx0 : Nat) (cx0 : Nat) : Int × Int × T27 × (List T48) → (List T48) → Prop := fun ⟨x2, x3, x5v, e0⟩ r => ∀ S1 w1, Ext S0 w0 S1 w1 → ∀ gx5 u8j u8k u8l u8h (_ : Hp nz wz S1 w1 ((some gx5, .row 28 (.i x5v.Kind :: U4 x5v.Set [.slice u8j u8k u8l, .i x5v.Min, .i x5v.Max]) 8 0) :: (Gx0, .row 49 u8h (cx0 * kT48.size) 0) :: Lr)) (_ : x5v.Set.length = 4) (_ : Rd kT27 S1 w1 u8j u8l x5v.L) (_ : x5v.L.length = u8k) (_ : Els kT48 S1 w1 u8h e0) (_ : e0.length = nx0) (junk : Nat → Value),
 Goes Tryd.prog (base 37) Jcy ⟨lfr 241 [(0, .slice (Gp Gx0) nx0 cx0), (2, .i x2), (3, .i x3), (5, (pt gx5 0))] junk, []⟩ w1 (Done Tryd.prog 37 (Rets (Post.z1w nz wz S0 w0 Lr Gx0 nx0 cx0 r)))

def LL.z1x : Int × Int × T27 × (List T48) → (List T48) → Prop := fun a r => ∀ {nz wz S0 w0 Lr} [Gw nz wz] (Gx0 : Option Nat) (nx0 : Nat) (cx0 : Nat), L.z1x nz wz S0 w0 Lr Gx0 nx0 cx0 a r

def L.z1y (Gx0 : Option Nat) (nx0 : Nat) (cx0 : Nat) : Int × Int × T27 × Int × (List T48) → (List T48) → Prop := fun ⟨x2, x3, x5v, x8, e0⟩ r => ∀ S1 w1, Ext S0 w0 S1 w1 → ∀ gx5 u8j u8k u8l u8h (_ : Hp nz wz S1 w1 ((some gx5, .row 28 (.i x5v.Kind :: U4 x5v.Set [.slice u8j u8k u8l, .i x5v.Min, .i x5v.Max]) 8 0) :: (Gx0, .row 49 u8h (cx0 * kT48.size) 0) :: Lr)) (_ : x5v.Set.length = 4) (_ : Rd kT27 S1 w1 u8j u8l x5v.L) (_ : x5v.L.length = u8k) (_ : Els kT48 S1 w1 u8h e0) (_ : e0.length = nx0) (junk : Nat → Value),
 Goes Tryd.prog (base 37) Jd1 ⟨lfr 241 [(0, .slice (Gp Gx0) nx0 cx0), (2, .i x2), (3, .i x3), (5, (pt gx5 0)), (8, .i x8)] junk, []⟩ w1 (Done Tryd.prog 37 (Rets (Post.z1w nz wz S0 w0 Lr Gx0 nx0 cx0 r)))

def LL.z1y : Int × Int × T27 × Int × (List T48) → (List T48) → Prop := fun a r => ∀ {nz wz S0 w0 Lr} [Gw nz wz] (Gx0 : Option Nat) (nx0 : Nat) (cx0 : Nat), L.z1y nz wz S0 w0 Lr Gx0 nx0 cx0 a r

def L.z1z (Gx0 : Option Nat) (nx0 : Nat) (cx0 : Nat) : Int × T27 × Int × Int × (List T48) → (List T48) → Prop := fun ⟨x3, x5v, x8, x9, e0⟩ r => ∀ S1 w1, Ext S0 w0 S1 w1 → ∀ gx5 u8j u8k u8l u8h (_ : Hp nz wz S1 w1 ((some gx5, .row 28 (.i x5v.Kind :: U4 x5v.Set [.slice u8j u8k u8l, .i x5v.Min, .i x5v.Max]) 8 0) :: (Gx0, .row 49 u8h (cx0 * kT48.size) 0) :: Lr)) (_ : x5v.Set.length = 4) (_ : Rd kT27 S1 w1 u8j u8l x5v.L) (_ : x5v.L.length = u8k) (_ : Els kT48 S1 w1 u8h e0) (_ : e0.length = nx0) (junk : Nat → Value),
 Goes Tryd.prog (base 37) Jd4 ⟨lfr 241 [(0, .slice (Gp Gx0) nx0 cx0), (3, .i x3), (5, (pt gx5 0)), (8, .i x8), (9, .i x9)] junk, []⟩ w1 (Done Tryd.prog 37 (Rets (Post.z1w nz wz S0 w0 Lr Gx0 nx0 cx0 r)))

def LL.z1z : Int × T27 × Int × Int × (List T48) → (List T48) → Prop := fun a r => ∀ {nz wz S0 w0 Lr} [Gw nz wz] (Gx0 : Option Nat) (nx0 : Nat) (cx0 : Nat), L.z1z nz wz S0 w0 Lr Gx0 nx0 cx0 a r

def L.z20 (Gx0 : Option Nat) (nx0 : Nat) (cx0 : Nat) : Int × Int × T27 × (List T48) → (List T48) → Prop := fun ⟨x2, x3, x5v, e0⟩ r => ∀ S1 w1, Ext S0 w0 S1 w1 → ∀ gx5 u8j u8k u8l u8h (_ : Hp nz wz S1 w1 ((some gx5, .row 28 (.i x5v.Kind :: U4 x5v.Set [.slice u8j u8k u8l, .i x5v.Min, .i x5v.Max]) 8 0) :: (Gx0, .row 49 u8h (cx0 * kT48.size) 0) :: Lr)) (_ : x5v.Set.length = 4) (_ : Rd kT27 S1 w1 u8j u8l x5v.L) (_ : x5v.L.length = u8k) (_ : Els kT48 S1 w1 u8h e0) (_ : e0.length = nx0) (junk : Nat → Value),
 Goes Tryd.prog (base 37) Jd5 ⟨lfr 241 [(0, .slice (Gp Gx0) nx0 cx0), (2, .i x2), (3, .i x3), (5, (pt gx5 0))] junk, []⟩ w1 (Done Tryd.prog 37 (Rets (Post.z1w nz wz S0 w0 Lr Gx0 nx0 cx0 r)))

def LL.z20 : Int × Int × T27 × (List T48) → (List T48) → Prop := fun a r => ∀ {nz wz S0 w0 Lr} [Gw nz wz] (Gx0 : Option Nat) (nx0 : Nat) (cx0 : Nat), L.z20 nz wz S0 w0 Lr Gx0 nx0 cx0 a r

def L.z21 (Gx0 : Option Nat) (nx0 : Nat) (cx0 : Nat) : Int × Int × T27 × Int × (List T48) → (List T48) → Prop := fun ⟨x2, x3, x5v, x10, e0⟩ r => ∀ S1 w1, Ext S0 w0 S1 w1 → ∀ gx5 u8j u8k u8l u8h (_ : Hp nz wz S1 w1 ((some gx5, .row 28 (.i x5v.Kind :: U4 x5v.Set [.slice u8j u8k u8l, .i x5v.Min, .i x5v.Max]) 8 0) :: (Gx0, .row 49 u8h (cx0 * kT48.size) 0) :: Lr)) (_ : x5v.Set.length = 4) (_ : Rd kT27 S1 w1 u8j u8l x5v.L) (_ : x5v.L.length = u8k) (_ : Els kT48 S1 w1 u8h e0) (_ : e0.length = nx0) (junk : Nat → Value),
 Goes Tryd.prog (base 37) Jd8 ⟨lfr 241 [(0, .slice (Gp Gx0) nx0 cx0), (2, .i x2), (3, .i x3), (5, (pt gx5 0)), (10, .i x10)] junk, []⟩ w1 (Done Tryd.prog 37 (Rets (Post.z1w nz wz S0 w0 Lr Gx0 nx0 cx0 r)))

def LL.z21 : Int × Int × T27 × Int × (List T48) → (List T48) → Prop := fun a r => ∀ {nz wz S0 w0 Lr} [Gw nz wz] (Gx0 : Option Nat) (nx0 : Nat) (cx0 : Nat), L.z21 nz wz S0 w0 Lr Gx0 nx0 cx0 a r

def L.z22 (Gx0 : Option Nat) (nx0 : Nat) (cx0 : Nat) : Int × Int × T27 × Int × (List T48) → (List T48) → Prop := fun ⟨x2, x3, x5v, x10, e0⟩ r => ∀ S1 w1, Ext S0 w0 S1 w1 → ∀ gx5 u8j u8k u8l u8h (_ : Hp nz wz S1 w1 ((some gx5, .row 28 (.i x5v.Kind :: U4 x5v.Set [.slice u8j u8k u8l, .i x5v.Min, .i x5v.Max]) 8 0) :: (Gx0, .row 49 u8h (cx0 * kT48.size) 0) :: Lr)) (_ : x5v.Set.length = 4) (_ : Rd kT27 S1 w1 u8j u8l x5v.L) (_ : x5v.L.length = u8k) (_ : Els kT48 S1 w1 u8h e0) (_ : e0.length = nx0) (junk : Nat → Value),
 Goes Tryd.prog (base 37) Jdb ⟨lfr 241 [(0, .slice (Gp Gx0) nx0 cx0), (2, .i x2), (3, .i x3), (5, (pt gx5 0)), (10, .i x10)] junk, []⟩ w1 (Done Tryd.prog 37 (Rets (Post.z1w nz wz S0 w0 Lr Gx0 nx0 cx0 r)))

def LL.z22 : Int × Int × T27 × Int × (List T48) → (List T48) → Prop := fun a r => ∀ {nz wz S0 w0 Lr} [Gw nz wz] (Gx0 : Option Nat) (nx0 : Nat) (cx0 : Nat), L.z22 nz wz S0 w0 Lr Gx0 nx0 cx0 a r

def L.z23 (Gx0 : Option Nat) (nx0 : Nat) (cx0 : Nat) : Int × Int × T27 × Int × Int × (List T48) → (List T48) → Prop := fun ⟨x2, x3, x5v, x11, x12, e0⟩ r => ∀ S1 w1, Ext S0 w0 S1 w1 → ∀ gx5 u8j u8k u8l u8h (_ : Hp nz wz S1 w1 ((some gx5, .row 28 (.i x5v.Kind :: U4 x5v.Set [.slice u8j u8k u8l, .i x5v.Min, .i x5v.Max]) 8 0) :: (Gx0, .row 49 u8h (cx0 * kT48.size) 0) :: Lr)) (_ : x5v.Set.length = 4) (_ : Rd kT27 S1 w1 u8j u8l x5v.L) (_ : x5v.L.length = u8k) (_ : Els kT48 S1 w1 u8h e0) (_ : e0.length = nx0) (junk : Nat → Value),
 Goes Tryd.prog (base 37) Jdf ⟨lfr 241 [(0, .slice (Gp Gx0) nx0 cx0), (2, .i x2), (3, .i x3), (5, (pt gx5 0)), (11, .i x11), (12, .i x12)] junk, []⟩ w1 (Done Tryd.prog 37 (Rets (Post.z1w nz wz S0 w0 Lr Gx0 nx0 cx0 r)))

def LL.z23 : Int × Int × T27 × Int × Int × (List T48) → (List T48) → Prop := fun a r => ∀ {nz wz S0 w0 Lr} [Gw nz wz] (Gx0 : Option Nat) (nx0 : Nat) (cx0 : Nat), L.z23 nz wz S0 w0 Lr Gx0 nx0 cx0 a r

def L.z24 (Gx0 : Option Nat) (nx0 : Nat) (cx0 : Nat) : Int × Int × T27 × Int × Int × Int × Bool × (List T48) → (List T48) → Prop := fun ⟨x2, x3, x5v, x11, x12, x13, u8m, e0⟩ r => ∀ S1 w1, Ext S0 w0 S1 w1 → ∀ gx5 u8j u8k u8l u8h (_ : Hp nz wz S1 w1 ((some gx5, .row 28 (.i x5v.Kind :: U4 x5v.Set [.slice u8j u8k u8l, .i x5v.Min, .i x5v.Max]) 8 0) :: (Gx0, .row 49 u8h (cx0 * kT48.size) 0) :: Lr)) (_ : x5v.Set.length = 4) (_ : Rd kT27 S1 w1 u8j u8l x5v.L) (_ : x5v.L.length = u8k) (_ : Els kT48 S1 w1 u8h e0) (_ : e0.length = nx0) (junk : Nat → Value),
 Goes Tryd.prog (base 37) Jdj ⟨lfr 241 [(0, .slice (Gp Gx0) nx0 cx0), (2, .i x2), (3, .i x3), (5, (pt gx5 0)), (11, .i x11), (12, .i x12), (13, .i x13), (171, .bool u8m)] junk, []⟩ w1 (Done Tryd.prog 37 (Rets (Post.z1w nz wz S0 w0 Lr Gx0 nx0 cx0 r)))

def LL.z24 : Int × Int × T27 × Int × Int × Int × Bool × (List T48) → (List T48) → Prop := fun a r => ∀ {nz wz S0 w0 Lr} [Gw nz wz] (Gx0 : Option Nat) (nx0 : Nat) (cx0 : Nat), L.z24 nz wz S0 w0 Lr Gx0 nx0 cx0 a r

def L.z25 (Gx0 : Option Nat) (nx0 : Nat) (cx0 : Nat) : Int × Int × T27 × Int × Int × Int × (List T48) → (List T48) → Prop := fun ⟨x2, x3, x5v, x11, x12, x13, e0⟩ r => ∀ S1 w1, Ext S0 w0 S1 w1 → ∀ gx5 u8j u8k u8l u8h (_ : Hp nz wz S1 w1 ((some gx5, .row 28 (.i x5v.Kind :: U4 x5v.Set [.slice u8j u8k u8l, .i x5v.Min, .i x5v.Max]) 8 0) :: (Gx0, .row 49 u8h (cx0 * kT48.size) 0) :: Lr)) (_ : x5v.Set.length = 4) (_ : Rd kT27 S1 w1 u8j u8l x5v.L) (_ : x5v.L.length = u8k) (_ : Els kT48 S1 w1 u8h e0) (_ : e0.length = nx0) (junk : Nat → Value),
 Goes Tryd.prog (base 37) Jdi ⟨lfr 241 [(0, .slice (Gp Gx0) nx0 cx0), (2, .i x2), (3, .i x3), (5, (pt gx5 0)), (11, .i x11), (12, .i x12), (13, .i x13)] junk, []⟩ w1 (Done Tryd.prog 37 (Rets (Post.z1w nz wz S0 w0 Lr Gx0 nx0 cx0 r)))

def LL.z25 : Int × Int × T27 × Int × Int × Int × (List T48) → (List T48) → Prop := fun a r => ∀ {nz wz S0 w0 Lr} [Gw nz wz] (Gx0 : Option Nat) (nx0 : Nat) (cx0 : Nat), L.z25 nz wz S0 w0 Lr Gx0 nx0 cx0 a r

def L.z26 (Gx0 : Option Nat) (nx0 : Nat) (cx0 : Nat) : Int × Int × T27 × Int × (List T48) → (List T48) → Prop := fun ⟨x2, x3, x5v, x11, e0⟩ r => ∀ S1 w1, Ext S0 w0 S1 w1 → ∀ gx5 u8j u8k u8l u8h (_ : Hp nz wz S1 w1 ((some gx5, .row 28 (.i x5v.Kind :: U4 x5v.Set [.slice u8j u8k u8l, .i x5v.Min, .i x5v.Max]) 8 0) :: (Gx0, .row 49 u8h (cx0 * kT48.size) 0) :: Lr)) (_ : x5v.Set.length = 4) (_ : Rd kT27 S1 w1 u8j u8l x5v.L) (_ : x5v.L.length = u8k) (_ : Els kT48 S1 w1 u8h e0) (_ : e0.length = nx0) (junk : Nat → Value),
 Goes Tryd.prog (base 37) Jdk ⟨lfr 241 [(0, .slice (Gp Gx0) nx0 cx0), (2, .i x2), (3, .i x3), (5, (pt gx5 0)), (11, .i x11)] junk, []⟩ w1 (Done Tryd.prog 37 (Rets (Post.z1w nz wz S0 w0 Lr Gx0 nx0 cx0 r)))

def LL.z26 : Int × Int × T27 × Int × (List T48) → (List T48) → Prop := fun a r => ∀ {nz wz S0 w0 Lr} [Gw nz wz] (Gx0 : Option Nat) (nx0 : Nat) (cx0 : Nat), L.z26 nz wz S0 w0 Lr Gx0 nx0 cx0 a r

def L.z27 (Gx0 : Option Nat) (nx0 : Nat) (cx0 : Nat) : Int × Int × T27 × Int × Int × (List T48) → (List T48) → Prop := fun ⟨x2, x3, x5v, x11, x14, e0⟩ r => ∀ S1 w1, Ext S0 w0 S1 w1 → ∀ gx5 u8j u8k u8l u8h (_ : Hp nz wz S1 w1 ((some gx5, .row 28 (.i x5v.Kind :: U4 x5v.Set [.slice u8j u8k u8l, .i x5v.Min, .i x5v.Max]) 8 0) :: (Gx0, .row 49 u8h (cx0 * kT48.size) 0) :: Lr)) (_ : x5v.Set.length = 4) (_ : Rd kT27 S1 w1 u8j u8l x5v.L) (_ : x5v.L.length = u8k) (_ : Els kT48 S1 w1 u8h e0) (_ : e0.length = nx0) (junk : Nat → Value),
 Goes Tryd.prog (base 37) Jdn ⟨lfr 241 [(0, .slice (Gp Gx0) nx0 cx0), (2, .i x2), (3, .i x3), (5, (pt gx5 0)), (11, .i x11), (14, .i x14)] junk, []⟩ w1 (Done Tryd.prog 37 (Rets (Post.z1w nz wz S0 w0 Lr Gx0 nx0 cx0 r)))

def LL.z27 : Int × Int × T27 × Int × Int × (List T48) → (List T48) → Prop := fun a r => ∀ {nz wz S0 w0 Lr} [Gw nz wz] (Gx0 : Option Nat) (nx0 : Nat) (cx0 : Nat), L.z27 nz wz S0 w0 Lr Gx0 nx0 cx0 a r

def L.z28 (Gx0 : Option Nat) (nx0 : Nat) (cx0 : Nat) : Int × Int × T27 × Int × Int × Int × (List T48) → (List T48) → Prop := fun ⟨x2, x3, x5v, x11, x14, x15, e0⟩ r => ∀ S1 w1, Ext S0 w0 S1 w1 → ∀ gx5 u8j u8k u8l u8h (_ : Hp nz wz S1 w1 ((some gx5, .row 28 (.i x5v.Kind :: U4 x5v.Set [.slice u8j u8k u8l, .i x5v.Min, .i x5v.Max]) 8 0) :: (Gx0, .row 49 u8h (cx0 * kT48.size) 0) :: Lr)) (_ : x5v.Set.length = 4) (_ : Rd kT27 S1 w1 u8j u8l x5v.L) (_ : x5v.L.length = u8k) (_ : Els kT48 S1 w1 u8h e0) (_ : e0.length = nx0) (junk : Nat → Value),
 Goes Tryd.prog (base 37) Jdq ⟨lfr 241 [(0, .slice (Gp Gx0) nx0 cx0), (2, .i x2), (3, .i x3), (5, (pt gx5 0)), (11, .i x11), (14, .i x14), (15, .i x15)] junk, []⟩ w1 (Done Tryd.prog 37 (Rets (Post.z1w nz wz S0 w0 Lr Gx0 nx0 cx0 r)))

def LL.z28 : Int × Int × T27 × Int × Int × Int × (List T48) → (List T48) → Prop := fun a r => ∀ {nz wz S0 w0 Lr} [Gw nz wz] (Gx0 : Option Nat) (nx0 : Nat) (cx0 : Nat), L.z28 nz wz S0 w0 Lr Gx0 nx0 cx0 a r

theorem W.z29 : (∀ a r, M.tidepoleref11_code a = some r → LF.z1w a r) ∧ (∀ a r, M.tidepoleref11_code_l2 a = some r → LL.z23 a r) ∧ (∀ a r, M.tidepoleref11_code_l6 a = some r → LL.z26 a r) ∧ (∀ a r, M.tidepoleref11_code_l10 a = some r → LL.z27 a r) ∧ (∀ a r, M.tidepoleref11_code_l11 a = some r → LL.z28 a r) ∧ (∀ a r, M.tidepoleref11_code_l5 a = some r → LL.z24 a r) ∧ (∀ a r, M.tidepoleref11_code_l9 a = some r → LL.z25 a r) ∧ (∀ a r, M.tidepoleref11_code_l1 a = some r → LL.z20 a r) ∧ (∀ a r, M.tidepoleref11_code_l4 a = some r → LL.z21 a r) ∧ (∀ a r, M.tidepoleref11_code_l8 a = some r → LL.z22 a r) ∧ (∀ a r, M.tidepoleref11_code_l0 a = some r → LL.z1x a r) ∧ (∀ a r, M.tidepoleref11_code_l3 a = some r → LL.z1y a r) ∧ (∀ a r, M.tidepoleref11_code_l7 a = some r → LL.z1z a r) := by
 refine M.tidepoleref11_code.mutual_partial_correctness LF.z1w LL.z23 LL.z26 LL.z27 LL.z28 LL.z24 LL.z25 LL.z20 LL.z21 LL.z22 LL.z1x LL.z1y LL.z1z ?_ ?_ ?_ ?_ ?_ ?_ ?_ ?_ ?_ ?_ ?_ ?_ ?_
 ·
  intro u8n u8o u8p u8q u8r u8s ⟨x0, x1, x2, x3⟩ r h nz wz S0 w0 Lr iG Gx0 nx0 cx0 u8i u2q u2r u2s p0 fx0 lx0 u2n u2t u2u
  try dsimp only at h
  subst lx0
  subst u2u
  refine calls_of_goes (fn := Tryd.f37) (c := B37) (by kernel_rfl) (by kernel_rfl) 237 (by kernel_rfl) ?_
  refine Goes.jp 241 [(0, .slice (Gp Gx0) x0.length cx0), (1, (ag (.i x1.Kind :: U4 x1.Set [.slice u2q x1.L.length u2s, .i x1.Min, .i x1.Max]))), (2, .i x2), (3, .i x3)] (fun junk => ?_)
  refine Goes.rn 2 [] Jds ?_
  refine Op_.box 28 (.tmp 1) 5 0 (ag (.i x1.Kind :: U4 x1.Set [.slice u2q x1.L.length u2s, .i x1.Min, .i x1.Max])) (.i x1.Kind :: U4 x1.Set [.slice u2q x1.L.length u2s, .i x1.Min, .i x1.Max]) p0 Goes.v (by kernel_rfl) (by kernel_rfl) ?_
  intro b2 w2 z2 p2
  refine Goes.rn 4 [(16, (pt b2 0))] Jdu ?_
  refine Goes.ld 3 (.tmp 16) 17 3 ⟨b2, 0, none⟩ (.i x1.Kind) (p2.c 0 0) ?_
  refine Goes.rn 7 [(19, .bool (decide (x1.Kind = 1))), (18, .bool (decide (x1.Kind = 1)))] Jdv ?_
  refine ite_some h (fun h4 h => ?_) (fun h4 h => ?_)
  ·
   rw [decide_eq_true h4]
   refine Goes.rn 5 [(20, .slice (Gp Gx0) x0.length cx0), (21, .i x2), (22, (pt b2 1))] Jdw ?_
   refine Goes.ldN 25 (.tmp 22) 23 25 ⟨b2, 1, none⟩ (U4 x1.Set []) (p2.pa 0 1) ?_
   refine Goes.rn 2 [(24, .i x3), (25, (ag (.i 1 :: U4 x1.Set [.i x3, .i 0])))] Jdx ?_
   refine guard_some' h fun g5 h => ?_
   refine guard_some' h fun g6 h => ?_
   refine Op_.ixO_n 37 (.tmp 20) (.tmp 21) 26 0 49 .i64 x2 1 x0.length cx0 (gi x0 x2) rfl rfl p2 rfl (fx0.ext z2) Goes.v (by kernel_rfl) (by kernel_rfl) (by kernel_rfl) (by kernel_rfl) (by decide) g5 g6 ?_
   rintro b7 _ rfl q9 f8
   obtain ⟨_, _, rfl, rfl, ⟨_, _, rfl, ⟨l10, f11⟩, ⟨_, _, rfl, rfl, rfl⟩⟩⟩ := q9
   obtain rfl := els_lit4' f11 l10
   refine Op_.stE_n (K := kT48) 49 (.tmp 26) (.tmp 25) 0 1 x2 (ag (.i 1 :: U4 x1.Set [.i x3, .i 0])) (.i 1 :: U4 x1.Set [.i x3, .i 0]) (⟨1, x1.Set, x3, 0⟩ : T48) (si x0 x2 (⟨1, x1.Set, x3, 0⟩ : T48)) x0.length rfl rfl p2 rfl (fx0.ext z2) Goes.s (by kernel_rfl) (by kernel_rfl) (by kernel_rfl) ⟨[.i 1], (U4 x1.Set [.i x3, .i 0]), rfl, rfl, ⟨(U4 x1.Set []), [.i x3, .i 0], rfl, ⟨u2n, els_mk4 u2n⟩, ⟨[.i x3], [.i 0], rfl, rfl, rfl⟩⟩⟩ (by kernel_rfl) g5 g6 (Nat.zero_le _) ?_
   intro w3 u8t z3 p3 f14 l15
   refine Goes.rn 2 [] [] ?_
   obtain rfl := Option.some.inj h
   have p3 := p3.dp 0
   exact Goes.end_ (fn := Tryd.f37) (by kernel_rfl) (v := .tuple #[]) (by kernel_rfl) ⟨S0, u8t, rfl, (((Ext.refl S0 w0).trans z2).trans z3), p3, f14, l15⟩
  ·
   rw [decide_eq_false h4]
   refine Goes.rn 6 [(28, .bool (decide (x1.Kind = 2))), (27, .bool (decide (x1.Kind = 2)))] Jdy ?_
   refine ite_some h (fun h16 h => ?_) (fun h16 h => ?_)
   ·
    rw [decide_eq_true h16]
    refine Goes.rn 5 [(29, (pt b2 5))] Je0 ?_
    refine Goes.ld 26 (.tmp 29) 30 26 ⟨b2, 5, none⟩ (.slice u2q x1.L.length u2s) (p2.c 0 5) ?_
    refine Goes.rn 3 [(31, .i (x1.L.length : Int)), (32, .bool (decide ((x1.L.length : Int) = 0)))] Jdz ?_
    refine ite_some h (fun h17 h => ?_) (fun h17 h => ?_)
    ·
     rw [decide_eq_true h17]
     refine Goes.rn 6 [(33, .slice (Gp Gx0) x0.length cx0), (34, .i x2), (35, .i x3), (36, .agg #[.i 4, .u 0, .u 0, .u 0, .u 0, .i x3, .i 0])] Je1 ?_
     refine guard_some' h fun g18 h => ?_
     refine guard_some' h fun g19 h => ?_
     refine Op_.ixO_n 37 (.tmp 33) (.tmp 34) 37 0 49 .i64 x2 1 x0.length cx0 (gi x0 x2) rfl rfl p2 rfl (fx0.ext z2) Goes.v (by kernel_rfl) (by kernel_rfl) (by kernel_rfl) (by kernel_rfl) (by decide) g18 g19 ?_
     rintro b20 _ rfl q22 f21
     obtain ⟨_, _, rfl, rfl, ⟨_, _, rfl, ⟨l23, f24⟩, ⟨_, _, rfl, rfl, rfl⟩⟩⟩ := q22
     obtain rfl := els_lit4' f24 l23
     refine Op_.stE_n (K := kT48) 49 (.tmp 37) (.tmp 36) 0 1 x2 (.agg #[.i 4, .u 0, .u 0, .u 0, .u 0, .i x3, .i 0]) [.i 4, .u 0, .u 0, .u 0, .u 0, .i x3, .i 0] (⟨4, [0, 0, 0, 0], x3, 0⟩ : T48) (si x0 x2 (⟨4, [0, 0, 0, 0], x3, 0⟩ : T48)) x0.length rfl rfl p2 rfl (fx0.ext z2) Goes.s (by kernel_rfl) (by kernel_rfl) (by kernel_rfl) ⟨[.i 4], [.u 0, .u 0, .u 0, .u 0, .i x3, .i 0], rfl, rfl, ⟨[.u 0, .u 0, .u 0, .u 0], [.i x3, .i 0], rfl, ⟨rfl, (Els.cons (K := (kInt .u64)) (vs := [.u 0]) (x := 0) rfl (Els.cons (K := (kInt .u64)) (vs := [.u 0]) (x := 0) rfl (Els.cons (K := (kInt .u64)) (vs := [.u 0]) (x := 0) rfl (Els.cons (K := (kInt .u64)) (vs := [.u 0]) (x := 0) rfl Els.nil))))⟩, ⟨[.i x3], [.i 0], rfl, rfl, rfl⟩⟩⟩ (by kernel_rfl) g18 g19 (Nat.zero_le _) ?_
     intro w4 u8u z4 p4 f27 l28
     refine Goes.rn 1 [] Jcy ?_
     exact Goes.jp 241 [(0, .slice (Gp (some b20)) x0.length cx0), (2, .i x2), (3, .i x3), (5, (pt b2 0))] (u8s _ _ h (some b20) x0.length cx0 _ _ (((Ext.refl S0 w0).trans z2).trans z4) b2 u2q x1.L.length u2s u8u p4 u2n (u2t.ext (z2.trans z4)) rfl f27 l28)
    ·
     rw [decide_eq_false h17]
     refine Goes.rn 2 [] Jcy ?_
     exact Goes.jp 241 [(0, .slice (Gp Gx0) x0.length cx0), (2, .i x2), (3, .i x3), (5, (pt b2 0))] (u8s _ _ h Gx0 x0.length cx0 _ _ ((Ext.refl S0 w0).trans z2) b2 u2q x1.L.length u2s u8i p2 u2n (u2t.ext z2) rfl (fx0.ext z2) rfl)
   ·
    rw [decide_eq_false h16]
    refine Goes.rn 6 [(79, .bool (decide (x1.Kind = 3))), (78, .bool (decide (x1.Kind = 3)))] Je2 ?_
    refine ite_some h (fun h30 h => ?_) (fun h30 h => ?_)
    ·
     rw [decide_eq_true h30]
     refine Goes.rn 5 [(80, (pt b2 5))] Je4 ?_
     refine Goes.ld 26 (.tmp 80) 81 26 ⟨b2, 5, none⟩ (.slice u2q x1.L.length u2s) (p2.c 0 5) ?_
     refine Goes.rn 3 [(82, .i (x1.L.length : Int)), (83, .bool (decide ((x1.L.length : Int) = 0)))] Je3 ?_
     refine ite_some h (fun h31 h => ?_) (fun h31 h => ?_)
     ·
      rw [decide_eq_true h31]
      refine Goes.rn 6 [(84, .slice (Gp Gx0) x0.length cx0), (85, .i x2), (86, .i x3), (87, .agg #[.i 1, .u 0, .u 0, .u 0, .u 0, .i x3, .i 0])] Je5 ?_
      refine guard_some' h fun g32 h => ?_
      refine guard_some' h fun g33 h => ?_
      refine Op_.ixO_n 37 (.tmp 84) (.tmp 85) 88 0 49 .i64 x2 1 x0.length cx0 (gi x0 x2) rfl rfl p2 rfl (fx0.ext z2) Goes.v (by kernel_rfl) (by kernel_rfl) (by kernel_rfl) (by kernel_rfl) (by decide) g32 g33 ?_
      rintro b34 _ rfl q36 f35
      obtain ⟨_, _, rfl, rfl, ⟨_, _, rfl, ⟨l37, f38⟩, ⟨_, _, rfl, rfl, rfl⟩⟩⟩ := q36
      obtain rfl := els_lit4' f38 l37
      refine Op_.stE_n (K := kT48) 49 (.tmp 88) (.tmp 87) 0 1 x2 (.agg #[.i 1, .u 0, .u 0, .u 0, .u 0, .i x3, .i 0]) [.i 1, .u 0, .u 0, .u 0, .u 0, .i x3, .i 0] (⟨1, [0, 0, 0, 0], x3, 0⟩ : T48) (si x0 x2 (⟨1, [0, 0, 0, 0], x3, 0⟩ : T48)) x0.length rfl rfl p2 rfl (fx0.ext z2) Goes.s (by kernel_rfl) (by kernel_rfl) (by kernel_rfl) ⟨[.i 1], [.u 0, .u 0, .u 0, .u 0, .i x3, .i 0], rfl, rfl, ⟨[.u 0, .u 0, .u 0, .u 0], [.i x3, .i 0], rfl, ⟨rfl, (Els.cons (K := (kInt .u64)) (vs := [.u 0]) (x := 0) rfl (Els.cons (K := (kInt .u64)) (vs := [.u 0]) (x := 0) rfl (Els.cons (K := (kInt .u64)) (vs := [.u 0]) (x := 0) rfl (Els.cons (K := (kInt .u64)) (vs := [.u 0]) (x := 0) rfl Els.nil))))⟩, ⟨[.i x3], [.i 0], rfl, rfl, rfl⟩⟩⟩ (by kernel_rfl) g32 g33 (Nat.zero_le _) ?_
      intro w5 u8v z5 p5 f41 l42
      refine Goes.rn 1 [] Jd5 ?_
      exact Goes.jp 241 [(0, .slice (Gp (some b34)) x0.length cx0), (2, .i x2), (3, .i x3), (5, (pt b2 0))] (u8r _ _ h (some b34) x0.length cx0 _ _ (((Ext.refl S0 w0).trans z2).trans z5) b2 u2q x1.L.length u2s u8v p5 u2n (u2t.ext (z2.trans z5)) rfl f41 l42)
     ·
      rw [decide_eq_false h31]
      refine Goes.rn 2 [] Jd5 ?_
      exact Goes.jp 241 [(0, .slice (Gp Gx0) x0.length cx0), (2, .i x2), (3, .i x3), (5, (pt b2 0))] (u8r _ _ h Gx0 x0.length cx0 _ _ ((Ext.refl S0 w0).trans z2) b2 u2q x1.L.length u2s u8i p2 u2n (u2t.ext z2) rfl (fx0.ext z2) rfl)
    ·
     rw [decide_eq_false h30]
     refine Goes.rn 6 [(137, .bool (decide (x1.Kind = 4))), (136, .bool (decide (x1.Kind = 4)))] Je6 ?_
     refine ite_some h (fun h44 h => ?_) (fun h44 h => ?_)
     ·
      rw [decide_eq_true h44]
      refine Goes.rn 4 [(138, (pt b2 5))] Je8 ?_
      refine Goes.ld 26 (.tmp 138) 139 26 ⟨b2, 5, none⟩ (.slice u2q x1.L.length u2s) (p2.c 0 5) ?_
      refine guard_some' h fun g45 h => ?_
      refine Op_.ixR_n 26 (.tmp 139) (.const (.int .i64 0)) 140 0 28 .i64 0 (gi x1.L 0) rfl rfl (u2t.ext z2) Goes.v (by kernel_rfl) (by kernel_rfl) (by kernel_rfl) (by kernel_rfl) (by decide : (0 : Int) ≤ 0) g45 ?_
      intro a46 _ f47 q48
      have q49 := q48
      obtain ⟨_, _, rfl, rfl, ⟨_, _, rfl, ⟨l50, f51⟩, ⟨_, _, rfl, ⟨A52, c53, rfl, f54⟩, ⟨_, _, rfl, rfl, rfl⟩⟩⟩⟩ := kT27_open q49
      obtain rfl := els_lit4' f51 l50
      refine Goes.ldN 28 (.tmp 140) 141 28 a46 ([.i ((gi x1.L 0).Kind)] ++ ((U4 ((gi x1.L 0).Set) []) ++ ([.slice A52 (((gi x1.L 0).L).length) c53] ++ ([.i ((gi x1.L 0).Min)] ++ [.i ((gi x1.L 0).Max)])))) (f47.cell) ?_
      refine bind_some' h fun y55 e56 h => ?_
      refine Goes.cal (kc 40 [141] #[28]) 142 3 40 _ (W.z1q (⟨(gi x1.L 0).Kind, ((gi x1.L 0).Set), (gi x1.L 0).L, (gi x1.L 0).Min, (gi x1.L 0).Max⟩ : T27) y55 e56 A52 (((gi x1.L 0).L).length) c53 p2 l50 f54 rfl) ?_
      rintro _ w6 ⟨S6, rfl, z6, p6⟩
      refine Goes.rn 6 [(11, .i y55), (143, (pt b2 7))] Jeb ?_
      refine Goes.ld 3 (.tmp 143) 144 3 ⟨b2, 7, none⟩ (.i x1.Max) (p6.c 0 7) ?_
      refine Goes.rn 2 [(145, .bool (decide (x1.Max = 0)))] Jea ?_
      refine ite_some h (fun h57 h => ?_) (fun h57 h => ?_)
      ·
       rw [decide_eq_true h57]
       refine Goes.rn 7 [(146, .slice (Gp Gx0) x0.length cx0), (147, .i x2), (148, .i x3), (149, .agg #[.i 4, .u 0, .u 0, .u 0, .u 0, .i x3, .i 0])] Jed ?_
       refine guard_some' h fun g58 h => ?_
       refine guard_some' h fun g59 h => ?_
       refine Op_.ixO_n 37 (.tmp 146) (.tmp 147) 150 0 49 .i64 x2 1 x0.length cx0 (gi x0 x2) rfl rfl p6 rfl (fx0.ext (z2.trans z6)) Goes.v (by kernel_rfl) (by kernel_rfl) (by kernel_rfl) (by kernel_rfl) (by decide) g58 g59 ?_
       rintro b60 _ rfl q62 f61
       obtain ⟨_, _, rfl, rfl, ⟨_, _, rfl, ⟨l63, f64⟩, ⟨_, _, rfl, rfl, rfl⟩⟩⟩ := q62
       obtain rfl := els_lit4' f64 l63
       refine Op_.stE_n (K := kT48) 49 (.tmp 150) (.tmp 149) 0 1 x2 (.agg #[.i 4, .u 0, .u 0, .u 0, .u 0, .i x3, .i 0]) [.i 4, .u 0, .u 0, .u 0, .u 0, .i x3, .i 0] (⟨4, [0, 0, 0, 0], x3, 0⟩ : T48) (si x0 x2 (⟨4, [0, 0, 0, 0], x3, 0⟩ : T48)) x0.length rfl rfl p6 rfl (fx0.ext (z2.trans z6)) Goes.s (by kernel_rfl) (by kernel_rfl) (by kernel_rfl) ⟨[.i 4], [.u 0, .u 0, .u 0, .u 0, .i x3, .i 0], rfl, rfl, ⟨[.u 0, .u 0, .u 0, .u 0], [.i x3, .i 0], rfl, ⟨rfl, (Els.cons (K := (kInt .u64)) (vs := [.u 0]) (x := 0) rfl (Els.cons (K := (kInt .u64)) (vs := [.u 0]) (x := 0) rfl (Els.cons (K := (kInt .u64)) (vs := [.u 0]) (x := 0) rfl (Els.cons (K := (kInt .u64)) (vs := [.u 0]) (x := 0) rfl Els.nil))))⟩, ⟨[.i x3], [.i 0], rfl, rfl, rfl⟩⟩⟩ (by kernel_rfl) g58 g59 (Nat.zero_le _) ?_
       intro w7 u8w z7 p7 f67 l68
       refine Goes.rn 1 [] Jec ?_
       obtain rfl := Option.some.inj h
       have p7 := p7.dp 0
       exact Goes.rt Tryd.f37 (.tuple #[]) ⟨S6, u8w, rfl, ((((Ext.refl S0 w0).trans z2).trans z6).trans z7), p7, f67, l68⟩
      ·
       rw [decide_eq_false h57]
       refine Goes.rn 9 [(12, .i 0)] Jdf ?_
       exact Goes.jp 241 [(0, .slice (Gp Gx0) x0.length cx0), (2, .i x2), (3, .i x3), (5, (pt b2 0)), (11, .i y55), (12, .i 0)] (u8q _ _ h Gx0 x0.length cx0 _ _ (((Ext.refl S0 w0).trans z2).trans z6) b2 u2q x1.L.length u2s u8i p6 u2n (u2t.ext (z2.trans z6)) rfl (fx0.ext (z2.trans z6)) rfl)
     ·
      rw [decide_eq_false h44]
      refine Goes.rn 3 [] [] ?_
      obtain rfl := Option.some.inj h
      have p2 := p2.dp 0
      exact Goes.end_ (fn := Tryd.f37) (by kernel_rfl) (v := .tuple #[]) (by kernel_rfl) ⟨S0, u8i, rfl, ((Ext.refl S0 w0).trans z2), p2, (fx0.ext z2), rfl⟩
 ·
  intro u8x u8y u8z u90 u91 u92 ⟨x2, x3, x5v, x11, x12, e0⟩ r h nz wz S0 w0 Lr iG Gx0 nx0 cx0 S1 w1 hx gx5 u8j u8k u8l u8h p1 u93 u94 u95 fe0 le0 junk
  try dsimp only at h
  subst u95
  subst le0
  refine Goes.rn 5 [(151, .i x12), (152, (pt gx5 6))] Jeg ?_
  refine Goes.ld 3 (.tmp 152) 153 3 ⟨gx5, 6, none⟩ (.i x5v.Min) (p1.c 0 6) ?_
  refine Goes.rn 2 [(154, .bool (decide (x12 < x5v.Min)))] Jef ?_
  refine ite_some h (fun h72 h => ?_) (fun h72 h => ?_)
  ·
   rw [decide_eq_true h72]
   refine Goes.rn 14 [(157, .i x2), (158, .i x11), (159, .i (wr .i64 (x2 + x11))), (13, .i (wr .i64 (x2 + x11)))] Jeh ?_
   refine Goes.rn 2 [(160, .i x12), (161, (pt gx5 6))] Jei ?_
   refine Goes.ld 3 (.tmp 161) 162 3 ⟨gx5, 6, none⟩ (.i x5v.Min) (p1.c 0 6) ?_
   refine Goes.rn 3 [(163, .i (wr .i64 (x5v.Min - 1))), (164, .bool (decide (x12 = wr .i64 (x5v.Min - 1)))), (165, .bool (decide (x12 = wr .i64 (x5v.Min - 1))))] Jej ?_
   refine ite_some h (fun h73 h => ?_) (fun h73 h => ?_)
   ·
    rw [decide_eq_true h73]
    refine Goes.rn 1 [(166, (pt gx5 7))] Jek ?_
    refine Goes.ld 3 (.tmp 166) 167 3 ⟨gx5, 7, none⟩ (.i x5v.Max) (p1.c 0 7) ?_
    refine Goes.rn 1 [(168, (pt gx5 6))] Jel ?_
    refine Goes.ld 3 (.tmp 168) 169 3 ⟨gx5, 6, none⟩ (.i x5v.Min) (p1.c 0 6) ?_
    refine Goes.rn 3 [(170, .bool (decide (x5v.Max = x5v.Min))), (171, .bool (decide (x5v.Max = x5v.Min)))] Jdj ?_
    exact Goes.jp 241 [(0, .slice (Gp Gx0) e0.length cx0), (2, .i x2), (3, .i x3), (5, (pt gx5 0)), (11, .i x11), (12, .i x12), (13, .i (wr .i64 (x2 + x11))), (171, .bool (decide (x5v.Max = x5v.Min)))] (u92 _ _ h Gx0 e0.length cx0 _ _ hx gx5 u8j x5v.L.length u8l u8h p1 u93 u94 rfl fe0 rfl)
   ·
    rw [decide_eq_false h73]
    refine Goes.rn 7 [(166, undef), (167, undef), (168, undef), (169, undef), (170, undef), (171, .bool false)] Jdj ?_
    exact Goes.jp 241 [(0, .slice (Gp Gx0) e0.length cx0), (2, .i x2), (3, .i x3), (5, (pt gx5 0)), (11, .i x11), (12, .i x12), (13, .i (wr .i64 (x2 + x11))), (171, .bool false)] (u92 _ _ h Gx0 e0.length cx0 _ _ hx gx5 u8j x5v.L.length u8l u8h p1 u93 u94 rfl fe0 rfl)
  ·
   rw [decide_eq_false h72]
   refine Goes.rn 6 [(184, (pt gx5 7))] Jen ?_
   refine Goes.ld 3 (.tmp 184) 185 3 ⟨gx5, 7, none⟩ (.i x5v.Max) (p1.c 0 7) ?_
   refine Goes.rn 2 [(186, .bool (decide (x5v.Max < 0)))] Jem ?_
   refine ite_some h (fun h75 h => ?_) (fun h75 h => ?_)
   ·
    rw [decide_eq_true h75]
    refine Goes.rn 9 [(187, .slice (Gp Gx0) e0.length cx0), (188, .i x2), (189, .i x2), (190, .i (wr .i64 (x2 + 1))), (191, .i x3), (192, .agg #[.i 2, .u 0, .u 0, .u 0, .u 0, .i (wr .i64 (x2 + 1)), .i x3])] Jep ?_
    refine guard_some' h fun g76 h => ?_
    refine guard_some' h fun g77 h => ?_
    refine Op_.ixO_n 37 (.tmp 187) (.tmp 188) 193 0 49 .i64 x2 1 e0.length cx0 (gi e0 x2) rfl rfl p1 rfl fe0 Goes.v (by kernel_rfl) (by kernel_rfl) (by kernel_rfl) (by kernel_rfl) (by decide) g76 g77 ?_
    rintro b78 _ rfl q80 f79
    obtain ⟨_, _, rfl, rfl, ⟨_, _, rfl, ⟨l81, f82⟩, ⟨_, _, rfl, rfl, rfl⟩⟩⟩ := q80
    obtain rfl := els_lit4' f82 l81
    refine let_some h fun v84 e85 h => ?_
    refine Op_.stE_n (K := kT48) 49 (.tmp 193) (.tmp 192) 0 1 x2 (.agg #[.i 2, .u 0, .u 0, .u 0, .u 0, .i (wr .i64 (x2 + 1)), .i x3]) [.i 2, .u 0, .u 0, .u 0, .u 0, .i (wr .i64 (x2 + 1)), .i x3] (⟨2, [0, 0, 0, 0], wr .i64 (x2 + 1), x3⟩ : T48) v84 e0.length rfl e85 p1 rfl fe0 Goes.s (by kernel_rfl) (by kernel_rfl) (by kernel_rfl) ⟨[.i 2], [.u 0, .u 0, .u 0, .u 0, .i (wr .i64 (x2 + 1)), .i x3], rfl, rfl, ⟨[.u 0, .u 0, .u 0, .u 0], [.i (wr .i64 (x2 + 1)), .i x3], rfl, ⟨rfl, (Els.cons (K := (kInt .u64)) (vs := [.u 0]) (x := 0) rfl (Els.cons (K := (kInt .u64)) (vs := [.u 0]) (x := 0) rfl (Els.cons (K := (kInt .u64)) (vs := [.u 0]) (x := 0) rfl (Els.cons (K := (kInt .u64)) (vs := [.u 0]) (x := 0) rfl Els.nil))))⟩, ⟨[.i (wr .i64 (x2 + 1))], [.i x3], rfl, rfl, rfl⟩⟩⟩ (by kernel_rfl) g76 g77 (Nat.zero_le _) ?_
    intro w8 u96 z8 p8 f87 l88
    refine Goes.rn 4 [(194, .slice (Gp (some b78)) e0.length cx0), (195, (pt gx5 5))] Jeq ?_
    refine Goes.ld 26 (.tmp 195) 196 26 ⟨gx5, 5, none⟩ (.slice u8j x5v.L.length u8l) (p8.c 0 5) ?_
    refine guard_some' h fun g89 h => ?_
    refine Op_.ixR_n 26 (.tmp 196) (.const (.int .i64 0)) 197 0 28 .i64 0 (gi x5v.L 0) rfl rfl (u94.ext z8) Goes.v (by kernel_rfl) (by kernel_rfl) (by kernel_rfl) (by kernel_rfl) (by decide : (0 : Int) ≤ 0) g89 ?_
    intro a90 _ f91 q92
    have q93 := q92
    obtain ⟨_, _, rfl, rfl, ⟨_, _, rfl, ⟨l94, f95⟩, ⟨_, _, rfl, ⟨A96, c97, rfl, f98⟩, ⟨_, _, rfl, rfl, rfl⟩⟩⟩⟩ := kT27_open q93
    obtain rfl := els_lit4' f95 l94
    refine Goes.ldN 28 (.tmp 197) 198 28 a90 ([.i ((gi x5v.L 0).Kind)] ++ ((U4 ((gi x5v.L 0).Set) []) ++ ([.slice A96 (((gi x5v.L 0).L).length) c97] ++ ([.i ((gi x5v.L 0).Min)] ++ [.i ((gi x5v.L 0).Max)])))) (f91.cell) ?_
    refine Goes.rn 3 [(199, .i x2), (200, .i (wr .i64 (x2 + 1))), (201, .i x2)] Jer ?_
    have p8 := p8.fr 1
    refine bind_some' h fun y99 u97 h => ?_
    refine Goes.cal (kc 37 [194, 198, 200, 201] #[37, 28, 3, 3]) 202 0 37 _ (u90 (v84, (⟨(gi x5v.L 0).Kind, ((gi x5v.L 0).Set), (gi x5v.L 0).L, (gi x5v.L 0).Min, (gi x5v.L 0).Max⟩ : T27), wr .i64 (x2 + 1), x2) y99 u97 (some b78) e0.length cx0 u96 A96 (((gi x5v.L 0).L).length) c97 p8 f87 l88 l94 f98 rfl) ?_
    rintro _ w9 ⟨S9, u98, rfl, z9, p9, u99, u9a⟩
    refine Goes.rn 1 [] Jdk ?_
    have p9 := (p9.fr 0).fr 1
    exact Goes.jp 241 [(0, .slice (Gp (some b78)) e0.length cx0), (2, .i x2), (3, .i x3), (5, (pt gx5 0)), (11, .i x11)] (u91 _ _ h (some b78) e0.length cx0 _ _ ((hx.trans z8).trans z9) gx5 u8j x5v.L.length u8l u98 p9 u93 (u94.ext (z8.trans z9)) rfl u99 u9a)
   ·
    rw [decide_eq_false h75]
    refine Goes.rn 2 [] Jdk ?_
    exact Goes.jp 241 [(0, .slice (Gp Gx0) e0.length cx0), (2, .i x2), (3, .i x3), (5, (pt gx5 0)), (11, .i x11)] (u91 _ _ h Gx0 e0.length cx0 _ _ hx gx5 u8j x5v.L.length u8l u8h p1 u93 u94 rfl fe0 rfl)
 ·
  intro u9b u9c ⟨x2, x3, x5v, x11, e0⟩ r h nz wz S0 w0 Lr iG Gx0 nx0 cx0 S1 w1 hx gx5 u8j u8k u8l u8h p1 u93 u94 u95 fe0 le0 junk
  try dsimp only at h
  subst u95
  subst le0
  refine Goes.rn 3 [(203, (pt gx5 6))] Jet ?_
  refine Goes.ld 3 (.tmp 203) 204 3 ⟨gx5, 6, none⟩ (.i x5v.Min) (p1.c 0 6) ?_
  refine Goes.rn 4 [(14, .i x5v.Min)] Jdn ?_
  exact Goes.jp 241 [(0, .slice (Gp Gx0) e0.length cx0), (2, .i x2), (3, .i x3), (5, (pt gx5 0)), (11, .i x11), (14, .i x5v.Min)] (u9c _ _ h Gx0 e0.length cx0 _ _ hx gx5 u8j x5v.L.length u8l u8h p1 u93 u94 rfl fe0 rfl)
 ·
  intro u9d u9e ⟨x2, x3, x5v, x11, x14, e0⟩ r h nz wz S0 w0 Lr iG Gx0 nx0 cx0 S1 w1 hx gx5 u8j u8k u8l u8h p1 u93 u94 u95 fe0 le0 junk
  try dsimp only at h
  subst u95
  subst le0
  refine Goes.rn 5 [(205, .i x14), (206, (pt gx5 7))] Jew ?_
  refine Goes.ld 3 (.tmp 206) 207 3 ⟨gx5, 7, none⟩ (.i x5v.Max) (p1.c 0 7) ?_
  refine Goes.rn 2 [(208, .bool (decide (x14 < x5v.Max)))] Jev ?_
  refine ite_some h (fun u9f h => ?_) (fun u9f h => ?_)
  ·
   rw [decide_eq_true u9f]
   refine Goes.rn 12 [(211, .slice (Gp Gx0) e0.length cx0), (212, .i x2), (213, .i x2), (214, .i (wr .i64 (x2 + 1))), (215, .i x3), (216, .agg #[.i 2, .u 0, .u 0, .u 0, .u 0, .i (wr .i64 (x2 + 1)), .i x3])] Jey ?_
   refine guard_some' h fun u9g h => ?_
   refine guard_some' h fun u9h h => ?_
   refine Op_.ixO_n 37 (.tmp 211) (.tmp 212) 217 0 49 .i64 x2 1 e0.length cx0 (gi e0 x2) rfl rfl p1 rfl fe0 Goes.v (by kernel_rfl) (by kernel_rfl) (by kernel_rfl) (by kernel_rfl) (by decide) u9g u9h ?_
   rintro u9i _ rfl u9j u9k
   obtain ⟨_, _, rfl, rfl, ⟨_, _, rfl, ⟨u9l, u9m⟩, ⟨_, _, rfl, rfl, rfl⟩⟩⟩ := u9j
   obtain rfl := els_lit4' u9m u9l
   refine let_some h fun u9n u9o h => ?_
   refine Op_.stE_n (K := kT48) 49 (.tmp 217) (.tmp 216) 0 1 x2 (.agg #[.i 2, .u 0, .u 0, .u 0, .u 0, .i (wr .i64 (x2 + 1)), .i x3]) [.i 2, .u 0, .u 0, .u 0, .u 0, .i (wr .i64 (x2 + 1)), .i x3] (⟨2, [0, 0, 0, 0], wr .i64 (x2 + 1), x3⟩ : T48) u9n e0.length rfl u9o p1 rfl fe0 Goes.s (by kernel_rfl) (by kernel_rfl) (by kernel_rfl) ⟨[.i 2], [.u 0, .u 0, .u 0, .u 0, .i (wr .i64 (x2 + 1)), .i x3], rfl, rfl, ⟨[.u 0, .u 0, .u 0, .u 0], [.i (wr .i64 (x2 + 1)), .i x3], rfl, ⟨rfl, (Els.cons (K := (kInt .u64)) (vs := [.u 0]) (x := 0) rfl (Els.cons (K := (kInt .u64)) (vs := [.u 0]) (x := 0) rfl (Els.cons (K := (kInt .u64)) (vs := [.u 0]) (x := 0) rfl (Els.cons (K := (kInt .u64)) (vs := [.u 0]) (x := 0) rfl Els.nil))))⟩, ⟨[.i (wr .i64 (x2 + 1))], [.i x3], rfl, rfl, rfl⟩⟩⟩ (by kernel_rfl) u9g u9h (Nat.zero_le _) ?_
   intro w18 u9p z18 p18 u9q u9r
   refine Goes.rn 14 [(218, .i x2), (219, .i (wr .i64 (x2 + 1))), (220, .i x11), (221, .i (wr .i64 ((wr .i64 (x2 + 1)) + x11))), (15, .i (wr .i64 ((wr .i64 (x2 + 1)) + x11))), (222, .i x14), (223, (pt gx5 7))] Jf0 ?_
   refine Goes.ld 3 (.tmp 223) 224 3 ⟨gx5, 7, none⟩ (.i x5v.Max) (p18.c 0 7) ?_
   refine Goes.rn 3 [(225, .i (wr .i64 (x5v.Max - 1))), (226, .bool (decide (x14 = wr .i64 (x5v.Max - 1))))] Jez ?_
   refine ite_some h (fun u9s h => ?_) (fun u9s h => ?_)
   ·
    rw [decide_eq_true u9s]
    refine Goes.rn 5 [(227, .i x3), (15, .i x3)] Jdq ?_
    exact Goes.jp 241 [(0, .slice (Gp (some u9i)) e0.length cx0), (2, .i x2), (3, .i x3), (5, (pt gx5 0)), (11, .i x11), (14, .i x14), (15, .i x3)] (u9e _ _ h (some u9i) e0.length cx0 _ _ (hx.trans z18) gx5 u8j x5v.L.length u8l u9p p18 u93 (u94.ext z18) rfl u9q u9r)
   ·
    rw [decide_eq_false u9s]
    refine Goes.rn 2 [] Jdq ?_
    exact Goes.jp 241 [(0, .slice (Gp (some u9i)) e0.length cx0), (2, .i x2), (3, .i x3), (5, (pt gx5 0)), (11, .i x11), (14, .i x14), (15, .i (wr .i64 ((wr .i64 (x2 + 1)) + x11)))] (u9e _ _ h (some u9i) e0.length cx0 _ _ (hx.trans z18) gx5 u8j x5v.L.length u8l u9p p18 u93 (u94.ext z18) rfl u9q u9r)
  ·
   rw [decide_eq_false u9f]
   refine Goes.rn 3 [] [] ?_
   obtain rfl := Option.some.inj h
   have p1 := p1.dp 0
   exact Goes.end_ (fn := Tryd.f37) (by kernel_rfl) (v := .tuple #[]) (by kernel_rfl) ⟨S1, u8h, rfl, hx, p1, fe0, rfl⟩
 ·
  intro u8x u9b u90 u9c ⟨x2, x3, x5v, x11, x14, x15, e0⟩ r h nz wz S0 w0 Lr iG Gx0 nx0 cx0 S1 w1 hx gx5 u8j u8k u8l u8h p1 u93 u94 u95 fe0 le0 junk
  try dsimp only at h
  subst u95
  subst le0
  refine Goes.rn 4 [(228, .slice (Gp Gx0) e0.length cx0), (229, (pt gx5 5))] Jf2 ?_
  refine Goes.ld 26 (.tmp 229) 230 26 ⟨gx5, 5, none⟩ (.slice u8j x5v.L.length u8l) (p1.c 0 5) ?_
  refine guard_some' h fun u9t h => ?_
  refine Op_.ixR_n 26 (.tmp 230) (.const (.int .i64 0)) 231 0 28 .i64 0 (gi x5v.L 0) rfl rfl u94 Goes.v (by kernel_rfl) (by kernel_rfl) (by kernel_rfl) (by kernel_rfl) (by decide : (0 : Int) ≤ 0) u9t ?_
  intro u9u _ u9v u9w
  have u9x := u9w
  obtain ⟨_, _, rfl, rfl, ⟨_, _, rfl, ⟨u9y, u9z⟩, ⟨_, _, rfl, ⟨ua0, ua1, rfl, ua2⟩, ⟨_, _, rfl, rfl, rfl⟩⟩⟩⟩ := kT27_open u9x
  obtain rfl := els_lit4' u9z u9y
  refine Goes.ldN 28 (.tmp 231) 232 28 u9u ([.i ((gi x5v.L 0).Kind)] ++ ((U4 ((gi x5v.L 0).Set) []) ++ ([.slice ua0 (((gi x5v.L 0).L).length) ua1] ++ ([.i ((gi x5v.L 0).Min)] ++ [.i ((gi x5v.L 0).Max)])))) (u9v.cell) ?_
  refine Goes.rn 3 [(233, .i x2), (234, .i (wr .i64 (x2 + 1))), (235, .i x15)] Jf3 ?_
  have p1 := p1.fr 1
  refine bind_some' h fun ua3 ua4 h => ?_
  refine Goes.cal (kc 37 [228, 232, 234, 235] #[37, 28, 3, 3]) 236 0 37 _ (u90 (e0, (⟨(gi x5v.L 0).Kind, ((gi x5v.L 0).Set), (gi x5v.L 0).L, (gi x5v.L 0).Min, (gi x5v.L 0).Max⟩ : T27), wr .i64 (x2 + 1), x15) ua3 ua4 Gx0 e0.length cx0 u8h ua0 (((gi x5v.L 0).L).length) ua1 p1 fe0 rfl u9y ua2 rfl) ?_
  rintro _ w19 ⟨S19, ua5, rfl, z19, p19, ua6, ua7⟩
  refine Goes.rn 14 [(237, .i x2), (238, .i x11), (239, .i (wr .i64 (x11 + 1))), (240, .i (wr .i64 (x2 + (wr .i64 (x11 + 1))))), (2, .i (wr .i64 (x2 + (wr .i64 (x11 + 1))))), (209, .i x14), (210, .i (wr .i64 (x14 + 1))), (14, .i (wr .i64 (x14 + 1)))] Jdm ?_
  refine Goes.rn 1 [] Jdn ?_
  have p19 := (p19.fr 0).fr 1
  exact Goes.jp 241 [(0, .slice (Gp Gx0) e0.length cx0), (2, .i (wr .i64 (x2 + (wr .i64 (x11 + 1))))), (3, .i x3), (5, (pt gx5 0)), (11, .i x11), (14, .i (wr .i64 (x14 + 1)))] (u9c _ _ h Gx0 e0.length cx0 _ _ (hx.trans z19) gx5 u8j x5v.L.length u8l ua5 p19 u93 (u94.ext z19) rfl ua6 ua7)
 ·
  intro ua8 ua9 ⟨x2, x3, x5v, x11, x12, x13, u8m, e0⟩ r h nz wz S0 w0 Lr iG Gx0 nx0 cx0 S1 w1 hx gx5 u8j u8k u8l u8h p1 u93 u94 u95 fe0 le0 junk
  try dsimp only at h
  subst u95
  subst le0
  refine ite_some h (fun uaa h => ?_) (fun uaa h => ?_)
  ·
   rw [uaa]
   refine Goes.rn 5 [(172, .i x3), (13, .i x3)] Jdi ?_
   exact Goes.jp 241 [(0, .slice (Gp Gx0) e0.length cx0), (2, .i x2), (3, .i x3), (5, (pt gx5 0)), (11, .i x11), (12, .i x12), (13, .i x3)] (ua9 _ _ h Gx0 e0.length cx0 _ _ hx gx5 u8j x5v.L.length u8l u8h p1 u93 u94 rfl fe0 rfl)
  ·
   have uab : u8m = false := by simpa using uaa
   rw [uab]
   refine Goes.rn 2 [] Jdi ?_
   exact Goes.jp 241 [(0, .slice (Gp Gx0) e0.length cx0), (2, .i x2), (3, .i x3), (5, (pt gx5 0)), (11, .i x11), (12, .i x12), (13, .i x13)] (ua9 _ _ h Gx0 e0.length cx0 _ _ hx gx5 u8j x5v.L.length u8l u8h p1 u93 u94 rfl fe0 rfl)
 ·
  intro u8x u8n u90 u8q ⟨x2, x3, x5v, x11, x12, x13, e0⟩ r h nz wz S0 w0 Lr iG Gx0 nx0 cx0 S1 w1 hx gx5 u8j u8k u8l u8h p1 u93 u94 u95 fe0 le0 junk
  try dsimp only at h
  subst u95
  subst le0
  refine Goes.rn 4 [(173, .slice (Gp Gx0) e0.length cx0), (174, (pt gx5 5))] Jf5 ?_
  refine Goes.ld 26 (.tmp 174) 175 26 ⟨gx5, 5, none⟩ (.slice u8j x5v.L.length u8l) (p1.c 0 5) ?_
  refine guard_some' h fun uac h => ?_
  refine Op_.ixR_n 26 (.tmp 175) (.const (.int .i64 0)) 176 0 28 .i64 0 (gi x5v.L 0) rfl rfl u94 Goes.v (by kernel_rfl) (by kernel_rfl) (by kernel_rfl) (by kernel_rfl) (by decide : (0 : Int) ≤ 0) uac ?_
  intro uad _ uae uaf
  have uag := uaf
  obtain ⟨_, _, rfl, rfl, ⟨_, _, rfl, ⟨uah, uai⟩, ⟨_, _, rfl, ⟨uaj, uak, rfl, ual⟩, ⟨_, _, rfl, rfl, rfl⟩⟩⟩⟩ := kT27_open uag
  obtain rfl := els_lit4' uai uah
  refine Goes.ldN 28 (.tmp 176) 177 28 uad ([.i ((gi x5v.L 0).Kind)] ++ ((U4 ((gi x5v.L 0).Set) []) ++ ([.slice uaj (((gi x5v.L 0).L).length) uak] ++ ([.i ((gi x5v.L 0).Min)] ++ [.i ((gi x5v.L 0).Max)])))) (uae.cell) ?_
  refine Goes.rn 2 [(178, .i x2), (179, .i x13)] Jf6 ?_
  have p1 := p1.fr 1
  refine bind_some' h fun uam uan h => ?_
  refine Goes.cal (kc 37 [173, 177, 178, 179] #[37, 28, 3, 3]) 180 0 37 _ (u90 (e0, (⟨(gi x5v.L 0).Kind, ((gi x5v.L 0).Set), (gi x5v.L 0).L, (gi x5v.L 0).Min, (gi x5v.L 0).Max⟩ : T27), x2, x13) uam uan Gx0 e0.length cx0 u8h uaj (((gi x5v.L 0).L).length) uak p1 fe0 rfl uah ual rfl) ?_
  rintro _ w17 ⟨S17, uao, rfl, z17, p17, uap, uaq⟩
  refine Goes.rn 14 [(181, .i x2), (182, .i x11), (183, .i (wr .i64 (x2 + x11))), (2, .i (wr .i64 (x2 + x11))), (155, .i x12), (156, .i (wr .i64 (x12 + 1))), (12, .i (wr .i64 (x12 + 1)))] Jdf ?_
  have p17 := (p17.fr 0).fr 1
  exact Goes.jp 241 [(0, .slice (Gp Gx0) e0.length cx0), (2, .i (wr .i64 (x2 + x11))), (3, .i x3), (5, (pt gx5 0)), (11, .i x11), (12, .i (wr .i64 (x12 + 1)))] (u8q _ _ h Gx0 e0.length cx0 _ _ (hx.trans z17) gx5 u8j x5v.L.length u8l uao p17 u93 (u94.ext z17) rfl uap uaq)
 ·
  intro uar uas ⟨x2, x3, x5v, e0⟩ r h nz wz S0 w0 Lr iG Gx0 nx0 cx0 S1 w1 hx gx5 u8j u8k u8l u8h p1 u93 u94 u95 fe0 le0 junk
  try dsimp only at h
  subst u95
  subst le0
  refine Goes.rn 6 [(10, .i 0)] Jd8 ?_
  exact Goes.jp 241 [(0, .slice (Gp Gx0) e0.length cx0), (2, .i x2), (3, .i x3), (5, (pt gx5 0)), (10, .i 0)] (uas _ _ h Gx0 e0.length cx0 _ _ hx gx5 u8j x5v.L.length u8l u8h p1 u93 u94 rfl fe0 rfl)
 ·
  intro uat uau ⟨x2, x3, x5v, x10, e0⟩ r h nz wz S0 w0 Lr iG Gx0 nx0 cx0 S1 w1 hx gx5 u8j u8k u8l u8h p1 u93 u94 u95 fe0 le0 junk
  try dsimp only at h
  subst u95
  subst le0
  refine Goes.rn 5 [(89, .i x10), (90, (pt gx5 5))] Jf9 ?_
  refine Goes.ld 26 (.tmp 90) 91 26 ⟨gx5, 5, none⟩ (.slice u8j x5v.L.length u8l) (p1.c 0 5) ?_
  refine Goes.rn 3 [(92, .i (x5v.L.length : Int)), (93, .bool (decide (x10 < (x5v.L.length : Int))))] Jf8 ?_
  refine ite_some h (fun uav h => ?_) (fun uav h => ?_)
  ·
   rw [decide_eq_true uav]
   refine Goes.rn 9 [(96, .i x10), (97, (pt gx5 5))] Jfb ?_
   refine Goes.ld 26 (.tmp 97) 98 26 ⟨gx5, 5, none⟩ (.slice u8j x5v.L.length u8l) (p1.c 0 5) ?_
   refine Goes.rn 4 [(99, .i (x5v.L.length : Int)), (100, .i (wr .i64 ((x5v.L.length : Int) - 1))), (101, .bool (decide (x10 < wr .i64 ((x5v.L.length : Int) - 1))))] Jfa ?_
   refine ite_some h (fun uaw h => ?_) (fun uaw h => ?_)
   ·
    rw [decide_eq_true uaw]
    refine Goes.rn 10 [(102, .slice (Gp Gx0) e0.length cx0), (103, .i x2), (104, .i x2), (105, .i (wr .i64 (x2 + 1))), (106, .i x2), (107, .i (wr .i64 (x2 + 1))), (108, (pt gx5 5))] Jfd ?_
    refine Goes.ld 26 (.tmp 108) 109 26 ⟨gx5, 5, none⟩ (.slice u8j x5v.L.length u8l) (p1.c 0 5) ?_
    refine Goes.rn 1 [(110, .i x10)] Jfe ?_
    refine guard_some' h fun uax h => ?_
    refine Op_.ixR_n 26 (.tmp 109) (.tmp 110) 111 0 28 .i64 x10 (gi x5v.L x10) rfl rfl u94 Goes.v (by kernel_rfl) (by kernel_rfl) (by kernel_rfl) (by kernel_rfl) uax uav ?_
    intro uay _ uaz ub0
    have ub1 := ub0
    obtain ⟨_, _, rfl, rfl, ⟨_, _, rfl, ⟨ub2, ub3⟩, ⟨_, _, rfl, ⟨ub4, ub5, rfl, ub6⟩, ⟨_, _, rfl, rfl, rfl⟩⟩⟩⟩ := kT27_open ub1
    obtain rfl := els_lit4' ub3 ub2
    refine Goes.ldN 28 (.tmp 111) 112 28 uay ([.i ((gi x5v.L x10).Kind)] ++ ((U4 ((gi x5v.L x10).Set) []) ++ ([.slice ub4 (((gi x5v.L x10).L).length) ub5] ++ ([.i ((gi x5v.L x10).Min)] ++ [.i ((gi x5v.L x10).Max)])))) (uaz.cell) ?_
    refine bind_some' h fun ub7 ub8 h => ?_
    refine Goes.cal (kc 40 [112] #[28]) 113 3 40 _ (W.z1q (⟨(gi x5v.L x10).Kind, ((gi x5v.L x10).Set), (gi x5v.L x10).L, (gi x5v.L x10).Min, (gi x5v.L x10).Max⟩ : T27) ub7 ub8 ub4 (((gi x5v.L x10).L).length) ub5 p1 ub2 ub6 rfl) ?_
    rintro _ w13 ⟨S13, rfl, z13, p13⟩
    refine Goes.rn 2 [(114, .i (wr .i64 ((wr .i64 (x2 + 1)) + ub7))), (115, .agg #[.i 2, .u 0, .u 0, .u 0, .u 0, .i (wr .i64 (x2 + 1)), .i (wr .i64 ((wr .i64 (x2 + 1)) + ub7))])] Jff ?_
    refine guard_some' h fun ub9 h => ?_
    refine guard_some' h fun uba h => ?_
    refine Op_.ixO_n 37 (.tmp 102) (.tmp 103) 116 0 49 .i64 x2 1 e0.length cx0 (gi e0 x2) rfl rfl p13 rfl (fe0.ext z13) Goes.v (by kernel_rfl) (by kernel_rfl) (by kernel_rfl) (by kernel_rfl) (by decide) ub9 uba ?_
    rintro ubb _ rfl ubc ubd
    obtain ⟨_, _, rfl, rfl, ⟨_, _, rfl, ⟨ube, ubf⟩, ⟨_, _, rfl, rfl, rfl⟩⟩⟩ := ubc
    obtain rfl := els_lit4' ubf ube
    refine let_some h fun ubg ubh h => ?_
    refine Op_.stE_n (K := kT48) 49 (.tmp 116) (.tmp 115) 0 1 x2 (.agg #[.i 2, .u 0, .u 0, .u 0, .u 0, .i (wr .i64 (x2 + 1)), .i (wr .i64 ((wr .i64 (x2 + 1)) + ub7))]) [.i 2, .u 0, .u 0, .u 0, .u 0, .i (wr .i64 (x2 + 1)), .i (wr .i64 ((wr .i64 (x2 + 1)) + ub7))] (⟨2, [0, 0, 0, 0], wr .i64 (x2 + 1), wr .i64 ((wr .i64 (x2 + 1)) + ub7)⟩ : T48) ubg e0.length rfl ubh p13 rfl (fe0.ext z13) Goes.s (by kernel_rfl) (by kernel_rfl) (by kernel_rfl) ⟨[.i 2], [.u 0, .u 0, .u 0, .u 0, .i (wr .i64 (x2 + 1)), .i (wr .i64 ((wr .i64 (x2 + 1)) + ub7))], rfl, rfl, ⟨[.u 0, .u 0, .u 0, .u 0], [.i (wr .i64 (x2 + 1)), .i (wr .i64 ((wr .i64 (x2 + 1)) + ub7))], rfl, ⟨rfl, (Els.cons (K := (kInt .u64)) (vs := [.u 0]) (x := 0) rfl (Els.cons (K := (kInt .u64)) (vs := [.u 0]) (x := 0) rfl (Els.cons (K := (kInt .u64)) (vs := [.u 0]) (x := 0) rfl (Els.cons (K := (kInt .u64)) (vs := [.u 0]) (x := 0) rfl Els.nil))))⟩, ⟨[.i (wr .i64 (x2 + 1))], [.i (wr .i64 ((wr .i64 (x2 + 1)) + ub7))], rfl, rfl, rfl⟩⟩⟩ (by kernel_rfl) ub9 uba (Nat.zero_le _) ?_
    intro w14 ubi z14 p14 ubj ubk
    refine Goes.rn 6 [(117, .i x2), (118, .i (wr .i64 (x2 + 1))), (2, .i (wr .i64 (x2 + 1)))] Jdb ?_
    exact Goes.jp 241 [(0, .slice (Gp (some ubb)) e0.length cx0), (2, .i (wr .i64 (x2 + 1))), (3, .i x3), (5, (pt gx5 0)), (10, .i x10)] (uau _ _ h (some ubb) e0.length cx0 _ _ ((hx.trans z13).trans z14) gx5 u8j x5v.L.length u8l ubi p14 u93 (u94.ext (z13.trans z14)) rfl ubj ubk)
   ·
    rw [decide_eq_false uaw]
    refine Goes.rn 2 [] Jdb ?_
    exact Goes.jp 241 [(0, .slice (Gp Gx0) e0.length cx0), (2, .i x2), (3, .i x3), (5, (pt gx5 0)), (10, .i x10)] (uau _ _ h Gx0 e0.length cx0 _ _ hx gx5 u8j x5v.L.length u8l u8h p1 u93 u94 rfl fe0 rfl)
  ·
   rw [decide_eq_false uav]
   refine Goes.rn 3 [] [] ?_
   obtain rfl := Option.some.inj h
   have p1 := p1.dp 0
   exact Goes.end_ (fn := Tryd.f37) (by kernel_rfl) (v := .tuple #[]) (by kernel_rfl) ⟨S1, u8h, rfl, hx, p1, fe0, rfl⟩
 ·
  intro u8x uar u90 uas ⟨x2, x3, x5v, x10, e0⟩ r h nz wz S0 w0 Lr iG Gx0 nx0 cx0 S1 w1 hx gx5 u8j u8k u8l u8h p1 u93 u94 u95 fe0 le0 junk
  try dsimp only at h
  subst u95
  subst le0
  refine Goes.rn 4 [(119, .slice (Gp Gx0) e0.length cx0), (120, (pt gx5 5))] Jfh ?_
  refine Goes.ld 26 (.tmp 120) 121 26 ⟨gx5, 5, none⟩ (.slice u8j x5v.L.length u8l) (p1.c 0 5) ?_
  refine Goes.rn 1 [(122, .i x10)] Jfi ?_
  refine guard_some' h fun ubl h => ?_
  refine guard_some' h fun ubm h => ?_
  refine Op_.ixR_n 26 (.tmp 121) (.tmp 122) 123 0 28 .i64 x10 (gi x5v.L x10) rfl rfl u94 Goes.v (by kernel_rfl) (by kernel_rfl) (by kernel_rfl) (by kernel_rfl) ubl ubm ?_
  intro ubn _ ubo ubp
  have ubq := ubp
  obtain ⟨_, _, rfl, rfl, ⟨_, _, rfl, ⟨ubr, ubs⟩, ⟨_, _, rfl, ⟨ubt, ubu, rfl, ubv⟩, ⟨_, _, rfl, rfl, rfl⟩⟩⟩⟩ := kT27_open ubq
  obtain rfl := els_lit4' ubs ubr
  refine Goes.ldN 28 (.tmp 123) 124 28 ubn ([.i ((gi x5v.L x10).Kind)] ++ ((U4 ((gi x5v.L x10).Set) []) ++ ([.slice ubt (((gi x5v.L x10).L).length) ubu] ++ ([.i ((gi x5v.L x10).Min)] ++ [.i ((gi x5v.L x10).Max)])))) (ubo.cell) ?_
  refine Goes.rn 2 [(125, .i x2), (126, .i x3)] Jfj ?_
  have p1 := p1.fr 1
  refine bind_some' h fun ubw ubx h => ?_
  refine Goes.cal (kc 37 [119, 124, 125, 126] #[37, 28, 3, 3]) 127 0 37 _ (u90 (e0, (⟨(gi x5v.L x10).Kind, ((gi x5v.L x10).Set), (gi x5v.L x10).L, (gi x5v.L x10).Min, (gi x5v.L x10).Max⟩ : T27), x2, x3) ubw ubx Gx0 e0.length cx0 u8h ubt (((gi x5v.L x10).L).length) ubu p1 fe0 rfl ubr ubv rfl) ?_
  rintro _ w15 ⟨S15, uby, rfl, z15, p15, ubz, uc0⟩
  refine Goes.rn 4 [(128, .i x2), (129, (pt gx5 5))] Jfk ?_
  refine Goes.ld 26 (.tmp 129) 130 26 ⟨gx5, 5, none⟩ (.slice u8j x5v.L.length u8l) (p15.c 1 5) ?_
  refine Goes.rn 1 [(131, .i x10)] Jfl ?_
  refine Op_.ixR_n 26 (.tmp 130) (.tmp 131) 132 0 28 .i64 x10 (gi x5v.L x10) rfl rfl (u94.ext z15) Goes.v (by kernel_rfl) (by kernel_rfl) (by kernel_rfl) (by kernel_rfl) ubl ubm ?_
  intro uc1 _ uc2 uc3
  have uc4 := uc3
  obtain ⟨_, _, rfl, rfl, ⟨_, _, rfl, ⟨uc5, uc6⟩, ⟨_, _, rfl, ⟨uc7, uc8, rfl, uc9⟩, ⟨_, _, rfl, rfl, rfl⟩⟩⟩⟩ := kT27_open uc4
  obtain rfl := els_lit4' uc6 uc5
  refine Goes.ldN 28 (.tmp 132) 133 28 uc1 ([.i ((gi x5v.L x10).Kind)] ++ ((U4 ((gi x5v.L x10).Set) []) ++ ([.slice uc7 (((gi x5v.L x10).L).length) uc8] ++ ([.i ((gi x5v.L x10).Min)] ++ [.i ((gi x5v.L x10).Max)])))) (uc2.cell) ?_
  refine bind_some' h fun uca ucb h => ?_
  refine Goes.cal (kc 40 [133] #[28]) 134 3 40 _ (W.z1q (⟨(gi x5v.L x10).Kind, ((gi x5v.L x10).Set), (gi x5v.L x10).L, (gi x5v.L x10).Min, (gi x5v.L x10).Max⟩ : T27) uca ucb uc7 (((gi x5v.L x10).L).length) uc8 p15 uc5 uc9 rfl) ?_
  rintro _ w16 ⟨S16, rfl, z16, p16⟩
  refine Goes.rn 10 [(135, .i (wr .i64 (x2 + uca))), (2, .i (wr .i64 (x2 + uca))), (94, .i x10), (95, .i (wr .i64 (x10 + 1))), (10, .i (wr .i64 (x10 + 1)))] Jd8 ?_
  have p16 := (p16.fr 0).fr 1
  exact Goes.jp 241 [(0, .slice (Gp Gx0) e0.length cx0), (2, .i (wr .i64 (x2 + uca))), (3, .i x3), (5, (pt gx5 0)), (10, .i (wr .i64 (x10 + 1)))] (uas _ _ h Gx0 e0.length cx0 _ _ ((hx.trans z15).trans z16) gx5 u8j x5v.L.length u8l uby p16 u93 (u94.ext (z15.trans z16)) rfl (ubz.ext z16) uc0)
 ·
  intro ucc ucd ⟨x2, x3, x5v, e0⟩ r h nz wz S0 w0 Lr iG Gx0 nx0 cx0 S1 w1 hx gx5 u8j u8k u8l u8h p1 u93 u94 u95 fe0 le0 junk
  try dsimp only at h
  subst u95
  subst le0
  refine Goes.rn 6 [(8, .i 0)] Jd1 ?_
  exact Goes.jp 241 [(0, .slice (Gp Gx0) e0.length cx0), (2, .i x2), (3, .i x3), (5, (pt gx5 0)), (8, .i 0)] (ucd _ _ h Gx0 e0.length cx0 _ _ hx gx5 u8j x5v.L.length u8l u8h p1 u93 u94 rfl fe0 rfl)
 ·
  intro u8x uce u90 ucf ⟨x2, x3, x5v, x8, e0⟩ r h nz wz S0 w0 Lr iG Gx0 nx0 cx0 S1 w1 hx gx5 u8j u8k u8l u8h p1 u93 u94 u95 fe0 le0 junk
  try dsimp only at h
  subst u95
  subst le0
  refine Goes.rn 5 [(38, .i x8), (39, (pt gx5 5))] Jfo ?_
  refine Goes.ld 26 (.tmp 39) 40 26 ⟨gx5, 5, none⟩ (.slice u8j x5v.L.length u8l) (p1.c 0 5) ?_
  refine Goes.rn 3 [(41, .i (x5v.L.length : Int)), (42, .bool (decide (x8 < (x5v.L.length : Int))))] Jfn ?_
  refine ite_some h (fun ucg h => ?_) (fun ucg h => ?_)
  ·
   rw [decide_eq_true ucg]
   refine Goes.rn 8 [(45, .i x2), (46, (pt gx5 5))] Jfq ?_
   refine Goes.ld 26 (.tmp 46) 47 26 ⟨gx5, 5, none⟩ (.slice u8j x5v.L.length u8l) (p1.c 0 5) ?_
   refine Goes.rn 1 [(48, .i x8)] Jfr ?_
   refine guard_some' h fun uch h => ?_
   refine Op_.ixR_n 26 (.tmp 47) (.tmp 48) 49 0 28 .i64 x8 (gi x5v.L x8) rfl rfl u94 Goes.v (by kernel_rfl) (by kernel_rfl) (by kernel_rfl) (by kernel_rfl) uch ucg ?_
   intro uci _ ucj uck
   have ucl := uck
   obtain ⟨_, _, rfl, rfl, ⟨_, _, rfl, ⟨ucm, ucn⟩, ⟨_, _, rfl, ⟨uco, ucp, rfl, u3e⟩, ⟨_, _, rfl, rfl, rfl⟩⟩⟩⟩ := kT27_open ucl
   obtain rfl := els_lit4' ucn ucm
   refine Goes.ldN 28 (.tmp 49) 50 28 uci ([.i ((gi x5v.L x8).Kind)] ++ ((U4 ((gi x5v.L x8).Set) []) ++ ([.slice uco (((gi x5v.L x8).L).length) ucp] ++ ([.i ((gi x5v.L x8).Min)] ++ [.i ((gi x5v.L x8).Max)])))) (ucj.cell) ?_
   refine bind_some' h fun ucq ucr h => ?_
   refine Goes.cal (kc 40 [50] #[28]) 51 3 40 _ (W.z1q (⟨(gi x5v.L x8).Kind, ((gi x5v.L x8).Set), (gi x5v.L x8).L, (gi x5v.L x8).Min, (gi x5v.L x8).Max⟩ : T27) ucq ucr uco (((gi x5v.L x8).L).length) ucp p1 ucm u3e rfl) ?_
   rintro _ w10 ⟨S10, rfl, z10, p10⟩
   refine Goes.rn 8 [(52, .i (wr .i64 (x2 + ucq))), (9, .i (wr .i64 (x2 + ucq))), (53, .i x8), (54, (pt gx5 5))] Jft ?_
   refine Goes.ld 26 (.tmp 54) 55 26 ⟨gx5, 5, none⟩ (.slice u8j x5v.L.length u8l) (p10.c 0 5) ?_
   refine Goes.rn 4 [(56, .i (x5v.L.length : Int)), (57, .i (wr .i64 ((x5v.L.length : Int) - 1))), (58, .bool (decide (x8 = wr .i64 ((x5v.L.length : Int) - 1))))] Jfs ?_
   refine ite_some h (fun ucs h => ?_) (fun ucs h => ?_)
   ·
    rw [decide_eq_true ucs]
    refine Goes.rn 4 [(59, .slice (Gp Gx0) e0.length cx0), (60, (pt gx5 5))] Jfu ?_
    refine Goes.ld 26 (.tmp 60) 61 26 ⟨gx5, 5, none⟩ (.slice u8j x5v.L.length u8l) (p10.c 0 5) ?_
    refine Goes.rn 1 [(62, .i x8)] Jfv ?_
    refine Op_.ixR_n 26 (.tmp 61) (.tmp 62) 63 0 28 .i64 x8 (gi x5v.L x8) rfl rfl (u94.ext z10) Goes.v (by kernel_rfl) (by kernel_rfl) (by kernel_rfl) (by kernel_rfl) uch ucg ?_
    intro uct _ ucu ucv
    have ucw := ucv
    obtain ⟨_, _, rfl, rfl, ⟨_, _, rfl, ⟨ucx, ucy⟩, ⟨_, _, rfl, ⟨ucz, ud0, rfl, ud1⟩, ⟨_, _, rfl, rfl, rfl⟩⟩⟩⟩ := kT27_open ucw
    obtain rfl := els_lit4' ucy ucx
    refine Goes.ldN 28 (.tmp 63) 64 28 uct ([.i ((gi x5v.L x8).Kind)] ++ ((U4 ((gi x5v.L x8).Set) []) ++ ([.slice ucz (((gi x5v.L x8).L).length) ud0] ++ ([.i ((gi x5v.L x8).Min)] ++ [.i ((gi x5v.L x8).Max)])))) (ucu.cell) ?_
    refine Goes.rn 2 [(65, .i x2), (66, .i x3)] Jfw ?_
    have p10 := p10.fr 1
    refine bind_some' h fun ud2 ud3 h => ?_
    refine Goes.cal (kc 37 [59, 64, 65, 66] #[37, 28, 3, 3]) 67 0 37 _ (u90 (e0, (⟨(gi x5v.L x8).Kind, ((gi x5v.L x8).Set), (gi x5v.L x8).L, (gi x5v.L x8).Min, (gi x5v.L x8).Max⟩ : T27), x2, x3) ud2 ud3 Gx0 e0.length cx0 u8h ucz (((gi x5v.L x8).L).length) ud0 p10 (fe0.ext z10) rfl ucx ud1 rfl) ?_
    rintro _ w11 ⟨S11, ud4, rfl, z11, p11, ud5, ud6⟩
    refine Goes.rn 1 [] Jd4 ?_
    have p11 := (p11.fr 0).fr 1
    exact Goes.jp 241 [(0, .slice (Gp Gx0) e0.length cx0), (3, .i x3), (5, (pt gx5 0)), (8, .i x8), (9, .i (wr .i64 (x2 + ucq)))] (ucf _ _ h Gx0 e0.length cx0 _ _ ((hx.trans z10).trans z11) gx5 u8j x5v.L.length u8l ud4 p11 u93 (u94.ext (z10.trans z11)) rfl ud5 ud6)
   ·
    rw [decide_eq_false ucs]
    refine Goes.rn 4 [(68, .slice (Gp Gx0) e0.length cx0), (69, (pt gx5 5))] Jfx ?_
    refine Goes.ld 26 (.tmp 69) 70 26 ⟨gx5, 5, none⟩ (.slice u8j x5v.L.length u8l) (p10.c 0 5) ?_
    refine Goes.rn 1 [(71, .i x8)] Jfy ?_
    refine Op_.ixR_n 26 (.tmp 70) (.tmp 71) 72 0 28 .i64 x8 (gi x5v.L x8) rfl rfl (u94.ext z10) Goes.v (by kernel_rfl) (by kernel_rfl) (by kernel_rfl) (by kernel_rfl) uch ucg ?_
    intro ud7 _ ud8 ud9
    have uda := ud9
    obtain ⟨_, _, rfl, rfl, ⟨_, _, rfl, ⟨udb, udc⟩, ⟨_, _, rfl, ⟨udd, ude, rfl, udf⟩, ⟨_, _, rfl, rfl, rfl⟩⟩⟩⟩ := kT27_open uda
    obtain rfl := els_lit4' udc udb
    refine Goes.ldN 28 (.tmp 72) 73 28 ud7 ([.i ((gi x5v.L x8).Kind)] ++ ((U4 ((gi x5v.L x8).Set) []) ++ ([.slice udd (((gi x5v.L x8).L).length) ude] ++ ([.i ((gi x5v.L x8).Min)] ++ [.i ((gi x5v.L x8).Max)])))) (ud8.cell) ?_
    refine Goes.rn 2 [(74, .i x2), (75, .i (wr .i64 (x2 + ucq)))] Jfz ?_
    have p10 := p10.fr 1
    refine bind_some' h fun udg udh h => ?_
    refine Goes.cal (kc 37 [68, 73, 74, 75] #[37, 28, 3, 3]) 76 0 37 _ (u90 (e0, (⟨(gi x5v.L x8).Kind, ((gi x5v.L x8).Set), (gi x5v.L x8).L, (gi x5v.L x8).Min, (gi x5v.L x8).Max⟩ : T27), x2, wr .i64 (x2 + ucq)) udg udh Gx0 e0.length cx0 u8h udd (((gi x5v.L x8).L).length) ude p10 (fe0.ext z10) rfl udb udf rfl) ?_
    rintro _ w12 ⟨S12, udi, rfl, z12, p12, udj, udk⟩
    refine Goes.rn 1 [] Jd4 ?_
    have p12 := (p12.fr 0).fr 1
    exact Goes.jp 241 [(0, .slice (Gp Gx0) e0.length cx0), (3, .i x3), (5, (pt gx5 0)), (8, .i x8), (9, .i (wr .i64 (x2 + ucq)))] (ucf _ _ h Gx0 e0.length cx0 _ _ ((hx.trans z10).trans z12) gx5 u8j x5v.L.length u8l udi p12 u93 (u94.ext (z10.trans z12)) rfl udj udk)
  ·
   rw [decide_eq_false ucg]
   refine Goes.rn 3 [] [] ?_
   obtain rfl := Option.some.inj h
   have p1 := p1.dp 0
   exact Goes.end_ (fn := Tryd.f37) (by kernel_rfl) (v := .tuple #[]) (by kernel_rfl) ⟨S1, u8h, rfl, hx, p1, fe0, rfl⟩
 ·
  intro ucc ucd ⟨x3, x5v, x8, x9, e0⟩ r h nz wz S0 w0 Lr iG Gx0 nx0 cx0 S1 w1 hx gx5 u8j u8k u8l u8h p1 u93 u94 u95 fe0 le0 junk
  try dsimp only at h
  subst u95
  subst le0
  refine Goes.rn 11 [(77, .i x9), (2, .i x9), (43, .i x8), (44, .i (wr .i64 (x8 + 1))), (8, .i (wr .i64 (x8 + 1)))] Jd1 ?_
  exact Goes.jp 241 [(0, .slice (Gp Gx0) e0.length cx0), (2, .i x9), (3, .i x3), (5, (pt gx5 0)), (8, .i (wr .i64 (x8 + 1)))] (ucd _ _ h Gx0 e0.length cx0 _ _ hx gx5 u8j x5v.L.length u8l u8h p1 u93 u94 rfl fe0 rfl)

theorem W.z1w : ∀ a r, M.tidepoleref11_code a = some r → LF.z1w a r := (W.z29).1

theorem W.z23 : ∀ a r, M.tidepoleref11_code_l2 a = some r → LL.z23 a r := (W.z29).2.1

theorem W.z26 : ∀ a r, M.tidepoleref11_code_l6 a = some r → LL.z26 a r := (W.z29).2.2.1

theorem W.z27 : ∀ a r, M.tidepoleref11_code_l10 a = some r → LL.z27 a r := (W.z29).2.2.2.1

theorem W.z28 : ∀ a r, M.tidepoleref11_code_l11 a = some r → LL.z28 a r := (W.z29).2.2.2.2.1

theorem W.z24 : ∀ a r, M.tidepoleref11_code_l5 a = some r → LL.z24 a r := (W.z29).2.2.2.2.2.1

theorem W.z25 : ∀ a r, M.tidepoleref11_code_l9 a = some r → LL.z25 a r := (W.z29).2.2.2.2.2.2.1

theorem W.z20 : ∀ a r, M.tidepoleref11_code_l1 a = some r → LL.z20 a r := (W.z29).2.2.2.2.2.2.2.1

theorem W.z21 : ∀ a r, M.tidepoleref11_code_l4 a = some r → LL.z21 a r := (W.z29).2.2.2.2.2.2.2.2.1

theorem W.z22 : ∀ a r, M.tidepoleref11_code_l8 a = some r → LL.z22 a r := (W.z29).2.2.2.2.2.2.2.2.2.1

theorem W.z1x : ∀ a r, M.tidepoleref11_code_l0 a = some r → LL.z1x a r := (W.z29).2.2.2.2.2.2.2.2.2.2.1

theorem W.z1y : ∀ a r, M.tidepoleref11_code_l3 a = some r → LL.z1y a r := (W.z29).2.2.2.2.2.2.2.2.2.2.2.1

theorem W.z1z : ∀ a r, M.tidepoleref11_code_l7 a = some r → LL.z1z a r := (W.z29).2.2.2.2.2.2.2.2.2.2.2.2

def Qbm := sub [1] B16
def Jg0 : List Item := [.code Qbm]
def Qbn := sub [0] B16
def Jg1 : List Item := .inRegion (opsOf Qbn) [0, 1, 2] :: Jg0
def Qbo := sub [1, 1] B16
def Jg2 : List Item := [.code Qbo]
def Qbp := sub [1, 0] B16
def Jg3 : List Item := .inRegion (opsOf Qbp) [0, 1, 2, 3, 4, 5, 6] :: Jg2
def Qbq := sub [1, 1, 1] B16
def Jg4 : List Item := [.code Qbq]
def Qbr := sub [1, 1, 0, 1] B16
def Jg5 : List Item := .code Qbr :: Jg4
def Qbs := sub [1, 1, 1, 1] B16
def Jg6 : List Item := [.code Qbs]
def Qbt := sub [1, 1, 1, 0, 1] B16
def Jg7 : List Item := .code Qbt :: Jg6
def Qbu := sub [1, 1, 1, 0, 1, 0, 1] B16
def Jg8 : List Item := .code Qbu :: Jg6
def Qbv := sub [1, 1, 1, 1, 1] B16
def Jg9 : List Item := [.code Qbv]
def Qbw := sub [1, 1, 1, 1, 0] B16
def Jga : List Item := .inRegion (opsOf Qbw) [1, 2] :: Jg9
def Qbx := sub [1, 1, 1, 1, 1, 1] B16
def Jgb : List Item := [.code Qbx]
def Qby := sub [1, 1, 1, 1, 1, 0] B16
def Jgc : List Item := .inRegion (opsOf Qby) [1, 2, 3, 4] :: Jgb
def Jgd : List Item := .inRegion (opsOf Qby) [4] :: Jgb
def Qbz := sub [1, 1, 1, 1, 1, 1, 1] B16
def Jge : List Item := [.code Qbz]
def Qc0 := sub [1, 1, 1, 1, 1, 1, 0] B16
def Jgf : List Item := .inRegion (opsOf Qc0) [4, 5] :: Jge
def Qc1 := sub [1, 1, 1, 1, 1, 1, 1, 1] B16
def Jgg : List Item := [.code Qc1]
def Qc2 := sub [1, 1, 0, 1, 0, 1] B16
def Jgh : List Item := .code Qc2 :: Jg4

def Post.z2a (r : (List T48) × Int) (v : Value) (w' : World) : Prop :=
 ∃ S' u7d u7e u7f u7g, v = .tuple #[.slice (Gp u7d) u7e u7f, .i r.2] ∧ Ext S0 w0 S' w' ∧ Hp nz wz S' w' ((u7d, .row 49 u7g (u7f * kT48.size) 0) :: Lr) ∧ Els kT48 S' w' u7g r.1 ∧ r.1.length = u7e

theorem W.z2a (x0 : T27) (r : (List T48) × Int) (h : M.tidepoleref11_Make x0 = some r) {nz wz S0 w0 Lr} [Gw nz wz] (u5 u6 u7) (p0 : Hp nz wz S0 w0 (Lr)) (um : x0.Set.length = 4) (un : Rd kT27 S0 w0 u5 u7 x0.L) (uo : x0.L.length = u6) :
  Calls Tryd.prog 16 #[(ag (.i x0.Kind :: U4 x0.Set [.slice u5 u6 u7, .i x0.Min, .i x0.Max]))] w0 (Rets (Post.z2a nz wz S0 w0 Lr r)) := by
 subst uo
 refine calls_of_goes (fn := Tryd.f16) (c := B16) (by kernel_rfl) (by kernel_rfl) 29 (by kernel_rfl) ?_
 refine Goes.jp 30 [(0, (ag (.i x0.Kind :: U4 x0.Set [.slice u5 x0.L.length u7, .i x0.Min, .i x0.Max])))] (fun junk => ?_)
 delta M.tidepoleref11_Make at h
 refine Goes.rn 2 [] Jg1 ?_
 refine Op_.box 28 (.tmp 0) 1 0 (ag (.i x0.Kind :: U4 x0.Set [.slice u5 x0.L.length u7, .i x0.Min, .i x0.Max])) (.i x0.Kind :: U4 x0.Set [.slice u5 x0.L.length u7, .i x0.Min, .i x0.Max]) p0 Goes.v (by kernel_rfl) (by kernel_rfl) ?_
 intro b1 w2 z2 p2
 refine Goes.rn 5 [(2, .slice none 0 0), (3, .i 0)] Jg3 ?_
 refine Goes.ldN 28 (.tmp 1) 8 28 ⟨b1, 0, none⟩ (.i x0.Kind :: U4 x0.Set [.slice u5 x0.L.length u7, .i x0.Min, .i x0.Max]) (p2.pa 0 0) ?_
 refine bind_some' h fun y3 e4 h => ?_
 refine Goes.cal (kc 18 [8] #[28]) 9 40 18 _ (W.z1v x0 y3 e4 u5 x0.L.length u7 p2 um (un.ext z2) rfl) ?_
 rintro _ w3 ⟨S3, rfl, z3, p3⟩
 refine Goes.rn 12 [(7, .tuple #[.i y3.1, .i y3.2]), (10, .i y3.1), (11, .i y3.2), (4, .i y3.1), (5, .i y3.2), (12, .i y3.2), (13, .bool (!(decide (y3.2 = 0))))] Jg5 ?_
 refine ite_some h (fun h5 h => ?_) (fun h5 h => ?_)
 ·
  rw [decide_eq_true h5]
  refine Goes.rn 8 [(15, .i y3.1), (16, .bool (decide (y3.1 > 2048)))] Jg7 ?_
  refine ite_some h (fun h6 h => ?_) (fun h6 h => ?_)
  ·
   rw [decide_eq_true h6]
   refine Goes.rn 6 [(2, .slice none 0 0), (3, .i 110)] Jg8 ?_
   have p3 : Hp nz wz S3 w3 ((none, .row 49 [] (0 * kT48.size) 0) :: (some b1, .row 28 (.i x0.Kind :: U4 x0.Set [.slice u5 x0.L.length u7, .i x0.Min, .i x0.Max]) 8 0) :: Lr) := p3.nilRow' 49
   obtain rfl := Option.some.inj h
   have p3 := p3.dp 1
   exact Goes.rt Tryd.f16 (.tuple #[.slice (Gp none) 0 0, .i 110]) ⟨S3, none, 0, 0, [], rfl, (((Ext.refl S0 w0).trans z2).trans z3), p3, (Els.nil (K := kT48)), rfl⟩
  ·
   rw [decide_eq_false h6]
   refine Goes.rn 5 [(17, .i y3.1)] Jga ?_
   refine guard_some' h fun g8 h => ?_
   refine guard_some' h fun g9 h => ?_
   refine let_some h fun v10 e11 h => ?_
   refine Op_.mk_n (K := kT48) 37 (.tmp 17) (.tmp 17) 18 37 49 .i64 .i64 y3.1 y3.1 (.agg #[.i 0, .u 0, .u 0, .u 0, .u 0, .i 0, .i 0]) [.i 0, .u 0, .u 0, .u 0, .u 0, .i 0, .i 0] 56 (⟨0, [0, 0, 0, 0], 0, 0⟩ : T48) v10 e11 p3 Goes.v (by kernel_rfl) (by kernel_rfl) (by kernel_rfl) (by kernel_rfl) (by kernel_rfl) (fun _ _ => ⟨[.i 0], [.u 0, .u 0, .u 0, .u 0, .i 0, .i 0], rfl, rfl, ⟨[.u 0, .u 0, .u 0, .u 0], [.i 0, .i 0], rfl, ⟨rfl, (Els.cons (K := (kInt .u64)) (vs := [.u 0]) (x := 0) rfl (Els.cons (K := (kInt .u64)) (vs := [.u 0]) (x := 0) rfl (Els.cons (K := (kInt .u64)) (vs := [.u 0]) (x := 0) rfl (Els.cons (K := (kInt .u64)) (vs := [.u 0]) (x := 0) rfl Els.nil))))⟩, ⟨[.i 0], [.i 0], rfl, rfl, rfl⟩⟩⟩) g8 (Int.le_refl _) (by have := g9; omega) (by have := g9; omega) ?_
   intro b12 w4 u8t z4 p4 f14
   refine Goes.rn 5 [(6, .slice (Gp (some b12)) v10.length ((y3.1 : Int).toNat)), (19, .slice (Gp (some b12)) v10.length ((y3.1 : Int).toNat))] Jgc ?_
   refine Goes.ldN 28 (.tmp 1) 20 28 ⟨b1, 0, none⟩ (.i x0.Kind :: U4 x0.Set [.slice u5 x0.L.length u7, .i x0.Min, .i x0.Max]) (p4.pa 1 0) ?_
   refine Goes.rn 2 [(21, .i y3.1), (22, .i (wr .i64 (y3.1 - 1)))] Jgd ?_
   refine bind_some' h fun y16 e17 h => ?_
   refine Goes.cal (.call { callee := .value (.func 37), args := #[(.tmp 19), (.tmp 20), (.const (.int .i64 0)), (.tmp 22)], argTypes := #[37, 28, 3, 3] }) 23 0 37 _ (W.z1w (v10, x0, 0, wr .i64 (y3.1 - 1)) y16 e17 (some b12) v10.length ((y3.1 : Int).toNat) u8t u5 x0.L.length u7 p4 f14 rfl um (un.ext ((z2.trans z3).trans z4)) rfl) ?_
   rintro _ w5 ⟨S5, udl, rfl, z5, p5, udm, udn⟩
   have p5 := p5.dp 1
   refine Goes.rn 7 [(24, .slice (Gp (some b12)) v10.length ((y3.1 : Int).toNat)), (25, .i y3.1), (26, .i (wr .i64 (y3.1 - 1))), (27, .agg #[.i 3, .u 0, .u 0, .u 0, .u 0, .i 0, .i 0])] Jgf ?_
   refine guard_some' h fun g18 h => ?_
   refine guard_some' h fun g19 h => ?_
   refine Op_.ixO_n 37 (.tmp 24) (.tmp 26) 28 0 49 .i64 (wr .i64 (y3.1 - 1)) 0 v10.length ((y3.1 : Int).toNat) (gi y16 (wr .i64 (y3.1 - 1))) udn rfl p5 rfl udm Goes.v (by kernel_rfl) (by kernel_rfl) (by kernel_rfl) (by kernel_rfl) (by decide) g18 g19 ?_
   rintro b20 _ e25 q22 f21
   injection e25 with udo; subst udo
   obtain ⟨_, _, rfl, rfl, ⟨_, _, rfl, ⟨l23, f24⟩, ⟨_, _, rfl, rfl, rfl⟩⟩⟩ := q22
   obtain rfl := els_lit4' f24 l23
   refine let_some h fun v26 e27 h => ?_
   refine Op_.stE_n (K := kT48) 49 (.tmp 28) (.tmp 27) 0 0 (wr .i64 (y3.1 - 1)) (.agg #[.i 3, .u 0, .u 0, .u 0, .u 0, .i 0, .i 0]) [.i 3, .u 0, .u 0, .u 0, .u 0, .i 0, .i 0] (⟨3, [0, 0, 0, 0], 0, 0⟩ : T48) v26 v10.length udn e27 p5 rfl udm Goes.s (by kernel_rfl) (by kernel_rfl) (by kernel_rfl) ⟨[.i 3], [.u 0, .u 0, .u 0, .u 0, .i 0, .i 0], rfl, rfl, ⟨[.u 0, .u 0, .u 0, .u 0], [.i 0, .i 0], rfl, ⟨rfl, (Els.cons (K := (kInt .u64)) (vs := [.u 0]) (x := 0) rfl (Els.cons (K := (kInt .u64)) (vs := [.u 0]) (x := 0) rfl (Els.cons (K := (kInt .u64)) (vs := [.u 0]) (x := 0) rfl (Els.cons (K := (kInt .u64)) (vs := [.u 0]) (x := 0) rfl Els.nil))))⟩, ⟨[.i 0], [.i 0], rfl, rfl, rfl⟩⟩⟩ (by kernel_rfl) g18 g19 (Nat.zero_le _) ?_
   intro w6 udp z6 p6 f29 l30
   refine Goes.rn 7 [(29, .slice (Gp (some b12)) v10.length ((y3.1 : Int).toNat)), (2, .slice (Gp (some b12)) v10.length ((y3.1 : Int).toNat)), (3, .i 0)] Jgg ?_
   obtain rfl := Option.some.inj h
   exact Goes.rt Tryd.f16 (.tuple #[.slice (Gp (some b12)) v10.length ((y3.1 : Int).toNat), .i 0]) ⟨S5, (some b12), v10.length, (y3.1 : Int).toNat, udp, rfl, ((((((Ext.refl S0 w0).trans z2).trans z3).trans z4).trans z5).trans z6), p6, f29, l30⟩
 ·
  rw [decide_eq_false h5]
  refine Goes.rn 7 [(14, .i y3.2), (2, .slice none 0 0), (3, .i y3.2)] Jgh ?_
  have p3 : Hp nz wz S3 w3 ((none, .row 49 [] (0 * kT48.size) 0) :: (some b1, .row 28 (.i x0.Kind :: U4 x0.Set [.slice u5 x0.L.length u7, .i x0.Min, .i x0.Max]) 8 0) :: Lr) := p3.nilRow' 49
  obtain rfl := Option.some.inj h
  have p3 := p3.dp 1
  exact Goes.rt Tryd.f16 (.tuple #[.slice (Gp none) 0 0, .i y3.2]) ⟨S3, none, 0, 0, [], rfl, (((Ext.refl S0 w0).trans z2).trans z3), p3, (Els.nil (K := kT48)), rfl⟩

def Qc3 := sub [1, 1, 1] B19
def Jgi : List Item := [.code Qc3]
def Jgj : List Item := .inBlock 0 :: Jgi
def Qc4 := sub [1, 1, 0, 1, 0, 0] B19
def Jgk : List Item := .inLoop Qc4 :: Jgj
def Jgl : List Item := .code Qc4 :: Jgk
def Qc5 := sub [1, 1, 0, 1, 0, 0, 1] B19
def Jgm : List Item := .code Qc5 :: Jgk
def Qc6 := sub [1, 1, 0, 1, 0, 0, 0, 1] B19
def Jgn : List Item := .code Qc6 :: Jgm
def Qc7 := sub [1, 1, 0, 1, 0, 0, 1, 1] B19
def Jgo : List Item := .code Qc7 :: Jgk
def Jgp : List Item := .inBlock 1 :: Jgo
def Qc8 := sub [1, 1, 0, 1, 0, 0, 1, 0, 0, 1] B19
def Jgq : List Item := .code Qc8 :: Jgp
def Qc9 := sub [1, 1, 0, 1, 0, 0, 1, 0, 0, 0] B19
def Jgr : List Item := .code Qc9 :: Jgq
def Qca := sub [1, 1, 0, 1, 0, 0, 1, 0, 0, 1, 0, 1] B19
def Jgs : List Item := .code Qca :: Jgp
def Qcb := sub [1, 1, 1, 1] B19
def Jgt : List Item := [.code Qcb]

def Post.z2b (r : Bool) (v : Value) (w' : World) : Prop :=
 ∃ S', v = .bool r ∧ Ext S0 w0 S' w' ∧ Hp nz wz S' w' (Lr)

def L.z2c : (List T48) × (List T48) × Int → Bool → Prop := fun ⟨x0, x1, x5⟩ r => ∀ S1 w1, Ext S0 w0 S1 w1 → ∀ Ax0 nx0 cx0 Ax1 nx1 cx1 (_ : Hp nz wz S1 w1 (Lr)) (_ : Rd kT48 S1 w1 Ax0 cx0 x0) (_ : x0.length = nx0) (_ : Rd kT48 S1 w1 Ax1 cx1 x1) (_ : x1.length = nx1) (junk : Nat → Value),
 Goes Tryd.prog (base 19) Jgl ⟨lfr 26 [(0, .slice Ax0 nx0 cx0), (1, .slice Ax1 nx1 cx1), (5, .i x5)] junk, []⟩ w1 (Done Tryd.prog 19 (Rets (Post.z2b nz wz S0 w0 Lr r)))

theorem W.z2c {nz wz S0 w0 Lr} [Gw nz wz] : ∀ a r, M.tidepolelaw11_same_l0 a = some r → (L.z2c nz wz S0 w0 Lr) a r := by
 refine M.tidepolelaw11_same_l0.partial_correctness (motive := (L.z2c nz wz S0 w0 Lr)) ?_
 intro udq udr ⟨x0, x1, x5⟩ r h S1 w1 hx Ax0 nx0 cx0 Ax1 nx1 cx1 p1 fx0 lx0 fx1 lx1 junk
 try dsimp only at h
 subst lx0
 subst lx1
 refine Goes.rn 8 [(11, .i x5), (12, .slice Ax0 x0.length cx0), (13, .i (x0.length : Int)), (14, .bool (decide (x5 < (x0.length : Int))))] Jgn ?_
 refine ite_some h (fun h2 h => ?_) (fun h2 h => ?_)
 ·
  rw [decide_eq_true h2]
  refine Goes.rn 5 [] Jgr ?_
  have z2 : Ext S1 w1 S1 (w1).drew := Ext.draw
  have p2 := p1.draw
  refine Goes.drawn (s := []) (F := Fc S1 (w1).drew []) 6 9 (by kernel_rfl) (by kernel_rfl) (by kernel_rfl) (by kernel_rfl) ?_
  generalize (w1).drew = w2 at z2 p2 ⊢
  refine AnyG.pu 0 (.move (.tmp 0)) 17 37 (.slice Ax0 x0.length cx0) (Fc.here trivial) ?_
  refine AnyG.pu 1 (.move (.tmp 5)) 18 3 (.i x5) (Fc.here trivial) ?_
  refine guard_some' h fun g3 h => ?_
  refine AnyG.ixR_n (i := 2) 37 (.tmp 17) (.tmp 18) 19 0 49 .i64 x5 (gi x0 x5) rfl rfl (fx0.ext z2) (by kernel_rfl) (by kernel_rfl) (Fc.here trivial) (by kernel_rfl) (by kernel_rfl) (by kernel_rfl) (by kernel_rfl) g3 h2 ?_
  intro a4 _ f5 q6
  obtain ⟨_, _, rfl, rfl, ⟨_, _, rfl, ⟨l7, f8⟩, ⟨_, _, rfl, rfl, rfl⟩⟩⟩ := q6
  obtain rfl := els_lit4' f8 l7
  refine AnyG.ldN (i := 3) 49 (.tmp 19) 20 49 a4 ([.i ((gi x0 x5).Op)] ++ ((U4 ((gi x0 x5).Set) []) ++ ([.i ((gi x0 x5).X)] ++ [.i ((gi x0 x5).Y)]))) (by kernel_rfl) (by kernel_rfl) (Fc.here trivial) (by kernel_rfl) (by kernel_rfl) (by kernel_rfl) (fun _ h => f5.fc h) ?_
  refine AnyG.pu 4 (.move (.tmp 1)) 21 37 (.slice Ax1 x1.length cx1) (Fc.here trivial) ?_
  refine AnyG.pu 5 (.move (.tmp 5)) 22 3 (.i x5) (Fc.here trivial) ?_
  refine guard_some' h fun g9 h => ?_
  refine AnyG.ixR_n (i := 6) 37 (.tmp 21) (.tmp 22) 23 0 49 .i64 x5 (gi x1 x5) rfl rfl (fx1.ext z2) (by kernel_rfl) (by kernel_rfl) (Fc.here trivial) (by kernel_rfl) (by kernel_rfl) (by kernel_rfl) (by kernel_rfl) g3 g9 ?_
  intro a10 _ f11 q12
  obtain ⟨_, _, rfl, rfl, ⟨_, _, rfl, ⟨l13, f14⟩, ⟨_, _, rfl, rfl, rfl⟩⟩⟩ := q12
  obtain rfl := els_lit4' f14 l13
  refine AnyG.ldN (i := 7) 49 (.tmp 23) 24 49 a10 ([.i ((gi x1 x5).Op)] ++ ((U4 ((gi x1 x5).Set) []) ++ ([.i ((gi x1 x5).X)] ++ [.i ((gi x1 x5).Y)]))) (by kernel_rfl) (by kernel_rfl) (Fc.here trivial) (by kernel_rfl) (by kernel_rfl) (by kernel_rfl) (fun _ h => f11.fc h) ?_
  refine Op_.neS (us := (.i ((gi x0 x5).Op) :: U4 ((gi x0 x5).Set) [.i ((gi x0 x5).X), .i ((gi x0 x5).Y)])) (vs := (.i ((gi x1 x5).Op) :: U4 ((gi x1 x5).Set) [.i ((gi x1 x5).X), .i ((gi x1 x5).Y)])) 49 (.tmp 20) (.tmp 24) 49 25 4 [.i64, .u64, .u64, .u64, .u64, .i64, .i64] [(gi x0 x5).Op, gi ((gi x0 x5).Set) 0, gi ((gi x0 x5).Set) 1, gi ((gi x0 x5).Set) 2, gi ((gi x0 x5).Set) 3, (gi x0 x5).X, (gi x0 x5).Y] [(gi x1 x5).Op, gi ((gi x1 x5).Set) 0, gi ((gi x1 x5).Set) 1, gi ((gi x1 x5).Set) 2, gi ((gi x1 x5).Set) 3, (gi x1 x5).X, (gi x1 x5).Y] (AnyG.vs (i := 8) (by kernel_rfl) (by kernel_rfl)) (by kernel_rfl) (by kernel_rfl) (by kernel_rfl) rfl rfl rfl rfl ?_
  refine AnyG.next (Ext.refl _ _) trivial ?_
  refine AnyG.done (by kernel_rfl) ?_ _
  refine ite_some h (fun h15 h => ?_) (fun h15 h => ?_)
  ·
   rw [decide_eq_true h15]
   refine Goes.rn 9 [(15, .i x5), (16, .i (wr .i64 (x5 + 1))), (5, .i (wr .i64 (x5 + 1)))] Jgl ?_
   exact Goes.jp 26 [(0, .slice Ax0 x0.length cx0), (1, .slice Ax1 x1.length cx1), (5, .i (wr .i64 (x5 + 1)))] (udr _ _ h _ _ (hx.trans z2) Ax0 x0.length cx0 Ax1 x1.length cx1 p2 (fx0.ext z2) rfl (fx1.ext z2) rfl)
  ·
   rw [decide_eq_false h15]
   refine Goes.rn 5 [(4, .bool false)] Jgs ?_
   obtain rfl := Option.some.inj h
   exact Goes.rt Tryd.f19 (.bool false) ⟨S1, rfl, (hx.trans z2), p2⟩
 ·
  rw [decide_eq_false h2]
  refine Goes.rn 6 [(4, .bool true)] Jgt ?_
  obtain rfl := Option.some.inj h
  exact Goes.rt Tryd.f19 (.bool true) ⟨S1, rfl, hx, p1⟩

def Qcc := sub [1, 1] B19
def Jgu : List Item := [.code Qcc]
def Qcd := sub [1, 0, 1] B19
def Jgv : List Item := .code Qcd :: Jgu
def Qce := sub [1, 0, 1, 0, 1] B19
def Jgw : List Item := .code Qce :: Jgu

theorem W.z2b (x0 : List T48) (x1 : List T48) (r : Bool) (h : M.tidepolelaw11_same x0 x1 = some r) {nz wz S0 w0 Lr} [Gw nz wz] (Ax0 nx0 cx0 Ax1 nx1 cx1) (p0 : Hp nz wz S0 w0 (Lr)) (fx0 : Rd kT48 S0 w0 Ax0 cx0 x0) (lx0 : x0.length = nx0) (fx1 : Rd kT48 S0 w0 Ax1 cx1 x1) (lx1 : x1.length = nx1) :
  Calls Tryd.prog 19 #[.slice Ax0 nx0 cx0, .slice Ax1 nx1 cx1] w0 (Rets (Post.z2b nz wz S0 w0 Lr r)) := by
 subst lx0
 subst lx1
 refine calls_of_goes (fn := Tryd.f19) (c := B19) (by kernel_rfl) (by kernel_rfl) 24 (by kernel_rfl) ?_
 refine Goes.jp 26 [(0, .slice Ax0 x0.length cx0), (1, .slice Ax1 x1.length cx1)] (fun junk => ?_)
 delta M.tidepolelaw11_same at h
 refine Goes.rn 13 [(4, .bool false), (6, .slice Ax0 x0.length cx0), (7, .i (x0.length : Int)), (8, .slice Ax1 x1.length cx1), (9, .i (x1.length : Int)), (10, .bool (!(decide ((x0.length : Int) = (x1.length : Int)))))] Jgv ?_
 refine ite_some h (fun h1 h => ?_) (fun h1 h => ?_)
 ·
  rw [decide_eq_true h1]
  refine Goes.rn 9 [(5, .i 0)] Jgl ?_
  exact Goes.jp 26 [(0, .slice Ax0 x0.length cx0), (1, .slice Ax1 x1.length cx1), (5, .i 0)] (W.z2c _ _ h _ _ (Ext.refl S0 w0) Ax0 x0.length cx0 Ax1 x1.length cx1 p0 fx0 rfl fx1 rfl)
 ·
  rw [decide_eq_false h1]
  refine Goes.rn 5 [(4, .bool false)] Jgw ?_
  obtain rfl := Option.some.inj h
  exact Goes.rt Tryd.f19 (.bool false) ⟨S0, rfl, (Ext.refl S0 w0), p0⟩

def Qcf := sub [1, 1] B65
def Jgx : List Item := [.code Qcf]
def Qcg := sub [1, 0, 1] B65
def Jgy : List Item := .code Qcg :: Jgx
def Qch := sub [1, 0, 1, 0, 1] B65
def Jgz : List Item := .code Qch :: Jgx
def Qci := sub [1, 1, 1] B65
def Jh0 : List Item := [.code Qci]
def Qcj := sub [1, 1, 0] B65
def Jh1 : List Item := .code Qcj :: Jh0

def Post.z2d (gx0 : Nat) (r : Int × T68) (v : Value) (w' : World) : Prop :=
 ∃ S' uds, v = .int .u8 r.1 ∧ Ext S0 w0 S' w' ∧ Hp nz wz S' w' ((some gx0, .row 69 [.string r.2.s, .i r.2.at_, .i r.2.deep, uds] 4 0) :: Lr) ∧ PtO kT72 S' w' uds r.2.bad

def L.z2e (gx0 : Nat) : Bool × T68 → (Int × T68) → Prop := fun ⟨x19, e0v⟩ r => ∀ S1 w1, Ext S0 w0 S1 w1 → ∀ uds (_ : Hp nz wz S1 w1 ((some gx0, .row 69 [.string e0v.s, .i e0v.at_, .i e0v.deep, uds] 4 0) :: Lr)) (_ : PtO kT72 S1 w1 uds e0v.bad) (junk : Nat → Value),
 Goes Tryd.prog (base 65) Jgy ⟨lfr 29 [(0, (pt gx0 0)), (19, .bool x19)] junk, []⟩ w1 (Done Tryd.prog 65 (Rets (Post.z2d nz wz S0 w0 Lr gx0 r)))

theorem W.z2e {nz wz S0 w0 Lr} [Gw nz wz] (gx0 : Nat) : ∀ a r, M.syntax_parser_peek_l0 a = some r → L.z2e nz wz S0 w0 Lr gx0 a r := by
 intro ⟨x19, e0v⟩ r h S1 w1 hx uds p1 udt junk
 rw [M.syntax_parser_peek_l0] at h
 try dsimp only at h
 refine ite_some h (fun h9 h => ?_) (fun h9 h => ?_)
 ·
  rw [h9]
  refine Goes.rn 5 [(2, .int .u8 0)] Jgz ?_
  obtain rfl := Option.some.inj h
  exact Goes.rt Tryd.f65 (.int .u8 0) ⟨S1, uds, rfl, hx, p1, udt⟩
 ·
  have h9' : x19 = false := by simpa using h9
  rw [h9']
  refine Goes.rn 3 [] Jh1 ?_
  have z3 : Ext S1 w1 S1 (w1).drew := Ext.draw
  have p3 := p1.draw
  refine Goes.drawn (s := []) (F := Fc S1 (w1).drew [(⟨gx0, 0, none⟩, .string e0v.s), (⟨gx0, 1, none⟩, .i e0v.at_)]) 3 10 (by kernel_rfl) (by kernel_rfl) (by kernel_rfl) (by kernel_rfl) ?_
  generalize (w1).drew = w3 at z3 p3 ⊢
  refine AnyG.pu 0 (.move (.tmp 0)) 20 66 ((pt gx0 0)) (Fc.here (p3.cs [(0, 0, 2)])) ?_
  refine AnyG.pu 1 (.nilCheck (.tmp 20)) 21 0 ((pt gx0 0)) (Fc.here (p3.cs [(0, 0, 2)])) ?_
  refine AnyG.pu 2 (.fieldAddr 69 (.tmp 21) 0) 22 0 ((pt gx0 0)) (Fc.here (p3.cs [(0, 0, 2)])) ?_
  refine AnyG.ld1 (i := 3) 9 (.tmp 22) 23 9 ⟨gx0, 0, none⟩ (.string e0v.s) (by kernel_rfl) (by kernel_rfl) (Fc.here (p3.cs [(0, 0, 2)])) (by kernel_rfl) (by kernel_rfl) (fun _ h => h.2.at_ 0 rfl) ?_
  refine AnyG.pu 4 (.move (.tmp 0)) 24 66 ((pt gx0 0)) (Fc.here (p3.cs [(0, 0, 2)])) ?_
  refine AnyG.pu 5 (.nilCheck (.tmp 24)) 25 0 ((pt gx0 0)) (Fc.here (p3.cs [(0, 0, 2)])) ?_
  refine AnyG.pu 6 (.fieldAddr 69 (.tmp 25) 1) 26 0 ((pt gx0 1)) (Fc.here (p3.cs [(0, 0, 2)])) ?_
  refine AnyG.ld1 (i := 7) 3 (.tmp 26) 27 3 ⟨gx0, 1, none⟩ (.i e0v.at_) (by kernel_rfl) (by kernel_rfl) (Fc.here (p3.cs [(0, 0, 2)])) (by kernel_rfl) (by kernel_rfl) (fun _ h => h.2.at_ 1 rfl) ?_
  refine guard_some' h fun g10 h => ?_
  refine guard_some' h fun g11 h => ?_
  refine AnyG.ixS (i := 8) 9 (.tmp 23) (.tmp 27) 28 5 .i64 e0v.s e0v.at_ (by kernel_rfl) (by kernel_rfl) (Fc.here (p3.cs [(0, 0, 2)])) (by kernel_rfl) (by kernel_rfl) (by kernel_rfl) g10 g11 ?_
  refine AnyG.pu 9 (.assign (.tmp 28)) 2 5 (.int .u8 (bt e0v.s e0v.at_)) (Fc.here (p3.cs [(0, 0, 2)])) ?_
  refine AnyG.done (by kernel_rfl) ?_ _
  obtain rfl := Option.some.inj h
  exact Goes.rt Tryd.f65 (.int .u8 (bt e0v.s e0v.at_)) ⟨S1, uds, rfl, (hx.trans z3), p3, (udt.ext z3)⟩

def Qck := sub [1, 0, 0] B65
def Jh2 : List Item := .code Qck :: Jgy

theorem W.z2d (x0v : T68) (r : Int × T68) (h : M.syntax_parser_peek x0v = some r) {nz wz S0 w0 Lr} [Gw nz wz] (gx0 udu) (p0 : Hp nz wz S0 w0 ((some gx0, .row 69 [.string x0v.s, .i x0v.at_, .i x0v.deep, udu] 4 0) :: Lr)) (udv : PtO kT72 S0 w0 udu x0v.bad) :
  Calls Tryd.prog 65 #[(pt gx0 0)] w0 (Rets (Post.z2d nz wz S0 w0 Lr gx0 r)) := by
 refine calls_of_goes (fn := Tryd.f65) (c := B65) (by kernel_rfl) (by kernel_rfl) 28 (by kernel_rfl) ?_
 refine Goes.jp 29 [(0, (pt gx0 0))] (fun junk => ?_)
 delta M.syntax_parser_peek at h
 refine Goes.rn 6 [(2, .int .u8 0)] Jh2 ?_
 have z2 : Ext S0 w0 S0 (w0).drew := Ext.draw
 have p2 := p0.draw
 refine Goes.drawn (s := []) (F := Fc S0 (w0).drew [(⟨gx0, 3, none⟩, udu), (⟨gx0, 1, none⟩, .i x0v.at_), (⟨gx0, 0, none⟩, .string x0v.s)]) 1 17 (by kernel_rfl) (by kernel_rfl) (by kernel_rfl) (by kernel_rfl) ?_
 generalize (w0).drew = w2 at z2 p2 ⊢
 refine AnyG.pu 0 (.move (.tmp 0)) 3 66 ((pt gx0 0)) (Fc.here (p2.cs [(0, 3, 1), (0, 1, 1), (0, 0, 1)])) ?_
 refine AnyG.pu 1 (.nilCheck (.tmp 3)) 4 0 ((pt gx0 0)) (Fc.here (p2.cs [(0, 3, 1), (0, 1, 1), (0, 0, 1)])) ?_
 refine AnyG.pu 2 (.fieldAddr 69 (.tmp 4) 3) 5 0 ((pt gx0 3)) (Fc.here (p2.cs [(0, 3, 1), (0, 1, 1), (0, 0, 1)])) ?_
 refine AnyG.ld1 (i := 3) 67 (.tmp 5) 6 67 ⟨gx0, 3, none⟩ (udu) (by kernel_rfl) (by kernel_rfl) (Fc.here (p2.cs [(0, 3, 1), (0, 1, 1), (0, 0, 1)])) (by kernel_rfl) (by kernel_rfl) (fun _ h => h.2.at_ 0 rfl) ?_
 refine let_some h fun v8 h2 h => ?_
 rcases v8 with _ | y3
 ·
  try dsimp only at h
  obtain rfl := PtO.nil (udv.ext z2) h2
  refine AnyG.pu 4 (.binOp .neq 67 (.tmp 6) (.const (.pointer none)) 67) 7 4 (.bool false) (Fc.here (p2.cs [(0, 3, 1), (0, 1, 1), (0, 0, 1)])) ?_
  refine AnyG.pu 5 (.move (.tmp 7)) 8 4 (.bool false) (Fc.here (p2.cs [(0, 3, 1), (0, 1, 1), (0, 0, 1)])) ?_
  refine AnyG.pu 6 (.move (.tmp 0)) 9 66 ((pt gx0 0)) (Fc.here (p2.cs [(0, 3, 1), (0, 1, 1), (0, 0, 1)])) ?_
  refine AnyG.pu 7 (.nilCheck (.tmp 9)) 10 0 ((pt gx0 0)) (Fc.here (p2.cs [(0, 3, 1), (0, 1, 1), (0, 0, 1)])) ?_
  refine AnyG.pu 8 (.fieldAddr 69 (.tmp 10) 1) 11 0 ((pt gx0 1)) (Fc.here (p2.cs [(0, 3, 1), (0, 1, 1), (0, 0, 1)])) ?_
  refine AnyG.ld1 (i := 9) 3 (.tmp 11) 12 3 ⟨gx0, 1, none⟩ (.i x0v.at_) (by kernel_rfl) (by kernel_rfl) (Fc.here (p2.cs [(0, 3, 1), (0, 1, 1), (0, 0, 1)])) (by kernel_rfl) (by kernel_rfl) (fun _ h => h.2.at_ 1 rfl) ?_
  refine AnyG.pu 10 (.move (.tmp 0)) 13 66 ((pt gx0 0)) (Fc.here (p2.cs [(0, 3, 1), (0, 1, 1), (0, 0, 1)])) ?_
  refine AnyG.pu 11 (.nilCheck (.tmp 13)) 14 0 ((pt gx0 0)) (Fc.here (p2.cs [(0, 3, 1), (0, 1, 1), (0, 0, 1)])) ?_
  refine AnyG.pu 12 (.fieldAddr 69 (.tmp 14) 0) 15 0 ((pt gx0 0)) (Fc.here (p2.cs [(0, 3, 1), (0, 1, 1), (0, 0, 1)])) ?_
  refine AnyG.ld1 (i := 13) 9 (.tmp 15) 16 9 ⟨gx0, 0, none⟩ (.string x0v.s) (by kernel_rfl) (by kernel_rfl) (Fc.here (p2.cs [(0, 3, 1), (0, 1, 1), (0, 0, 1)])) (by kernel_rfl) (by kernel_rfl) (fun _ h => h.2.at_ 2 rfl) ?_
  refine AnyG.pu 14 (.call { callee := .builtin .len, args := #[(.tmp 16)], argTypes := #[9] }) 17 3 (.i (x0v.s.size : Int)) (Fc.here (p2.cs [(0, 3, 1), (0, 1, 1), (0, 0, 1)])) ?_
  refine AnyG.pu 15 (.binOp .geq 3 (.tmp 12) (.tmp 17) 3) 18 4 (.bool (decide (x0v.at_ ≥ (x0v.s.size : Int)))) (Fc.here (p2.cs [(0, 3, 1), (0, 1, 1), (0, 0, 1)])) ?_
  refine AnyG.pu 16 (.pick (.tmp 8) (.const (.bool true)) (.tmp 18)) 19 4 (.bool (decide (x0v.at_ ≥ (x0v.s.size : Int)))) (Fc.here (p2.cs [(0, 3, 1), (0, 1, 1), (0, 0, 1)])) ?_
  refine AnyG.done (by kernel_rfl) ?_ _
  exact Goes.jp 29 [(0, (pt gx0 0)), (19, .bool (decide (x0v.at_ ≥ (x0v.s.size : Int))))] (W.z2e gx0 _ _ h _ _ ((Ext.refl S0 w0).trans z2) (.pointer none) p2 rfl)
 ·
  try dsimp only at h
  obtain ⟨a5, _, rfl, -, f6, q7⟩ := PtO.got (udv.ext z2) h2
  obtain rfl := q7
  refine AnyG.pu 4 (.binOp .neq 67 (.tmp 6) (.const (.pointer none)) 67) 7 4 (.bool true) (Fc.here (p2.cs [(0, 3, 1), (0, 1, 1), (0, 0, 1)])) ?_
  refine AnyG.pu 5 (.move (.tmp 7)) 8 4 (.bool true) (Fc.here (p2.cs [(0, 3, 1), (0, 1, 1), (0, 0, 1)])) ?_
  refine AnyG.s1 6 9 (Fc.here (p2.cs [(0, 3, 1), (0, 1, 1), (0, 0, 1)])) ?_
  refine AnyG.s1 7 10 (Fc.here (p2.cs [(0, 3, 1), (0, 1, 1), (0, 0, 1)])) ?_
  refine AnyG.s1 8 11 (Fc.here (p2.cs [(0, 3, 1), (0, 1, 1), (0, 0, 1)])) ?_
  refine AnyG.s1 9 12 (Fc.here (p2.cs [(0, 3, 1), (0, 1, 1), (0, 0, 1)])) ?_
  refine AnyG.s1 10 13 (Fc.here (p2.cs [(0, 3, 1), (0, 1, 1), (0, 0, 1)])) ?_
  refine AnyG.s1 11 14 (Fc.here (p2.cs [(0, 3, 1), (0, 1, 1), (0, 0, 1)])) ?_
  refine AnyG.s1 12 15 (Fc.here (p2.cs [(0, 3, 1), (0, 1, 1), (0, 0, 1)])) ?_
  refine AnyG.s1 13 16 (Fc.here (p2.cs [(0, 3, 1), (0, 1, 1), (0, 0, 1)])) ?_
  refine AnyG.s1 14 17 (Fc.here (p2.cs [(0, 3, 1), (0, 1, 1), (0, 0, 1)])) ?_
  refine AnyG.s1 15 18 (Fc.here (p2.cs [(0, 3, 1), (0, 1, 1), (0, 0, 1)])) ?_
  refine AnyG.pu 16 (.pick (.tmp 8) (.const (.bool true)) (.tmp 18)) 19 4 (.bool true) (Fc.here (p2.cs [(0, 3, 1), (0, 1, 1), (0, 0, 1)])) ?_
  refine AnyG.done (by kernel_rfl) ?_ _
  exact Goes.jp 29 [(0, (pt gx0 0)), (19, .bool true)] (W.z2e gx0 _ _ h _ _ ((Ext.refl S0 w0).trans z2) (.pointer (some a5)) p2 ⟨_, _, rfl, List.cons_ne_nil _ _, f6, rfl⟩)

def Qcl := sub [1] B31
def Jh3 : List Item := [.code Qcl]
def Qcm := sub [0] B31
def Jh4 : List Item := .inRegion (opsOf Qcm) [0] :: Jh3
def Qcn := sub [1, 1] B31
def Jh5 : List Item := [.code Qcn]
def Qco := sub [1, 0, 1] B31
def Jh6 : List Item := .code Qco :: Jh5
def Qcp := sub [1, 0, 0] B31
def Jh7 : List Item := .inRegion (opsOf Qcp) [3, 4] :: Jh6
def Qcq := sub [1, 0, 1, 0] B31
def Jh8 : List Item := .inRegion (opsOf Qcq) [3, 4, 5, 6] :: Jh5
def Jh9 : List Item := .inRegion (opsOf Qcq) [6] :: Jh5
def Qcr := sub [1, 1, 1] B31
def Jha : List Item := [.code Qcr]
def Qcs := sub [1, 1, 0] B31
def Jhb : List Item := .inRegion (opsOf Qcs) [1] :: Jha

def Post.z2f (gx0 : Nat) (r : T27 × T68) (v : Value) (w' : World) : Prop :=
 ∃ S' udw u1 u2 uds, v = (ag (.i r.1.Kind :: U4 r.1.Set [.slice udw u1 u2, .i r.1.Min, .i r.1.Max])) ∧ Ext S0 w0 S' w' ∧ Hp nz wz S' w' ((some gx0, .row 69 [.string r.2.s, .i r.2.at_, .i r.2.deep, uds] 4 0) :: Lr) ∧ r.1.Set.length = 4 ∧ Rd kT27 S' w' udw u2 r.1.L ∧ r.1.L.length = u1 ∧ PtO kT72 S' w' uds r.2.bad

theorem W.z2f (x0v : T68) (x1 : Int) (r : T27 × T68) (h : M.syntax_parser_fail x0v x1 = some r) {nz wz S0 w0 Lr} [Gw nz wz] (gx0 udu) (p0 : Hp nz wz S0 w0 ((some gx0, .row 69 [.string x0v.s, .i x0v.at_, .i x0v.deep, udu] 4 0) :: Lr)) (udv : PtO kT72 S0 w0 udu x0v.bad) :
  Calls Tryd.prog 31 #[(pt gx0 0), .i x1] w0 (Rets (Post.z2f nz wz S0 w0 Lr gx0 r)) := by
 refine calls_of_goes (fn := Tryd.f31) (c := B31) (by kernel_rfl) (by kernel_rfl) 15 (by kernel_rfl) ?_
 refine Goes.jp 17 [(0, (pt gx0 0)), (1, .i x1)] (fun junk => ?_)
 delta M.syntax_parser_fail at h
 refine Goes.rn 2 [] Jh4 ?_
 refine Op_.alloc 28 4 0 (.agg #[.i 0, .u 0, .u 0, .u 0, .u 0, .slice none 0 0, .i 0, .i 0]) [.i 0, .u 0, .u 0, .u 0, .u 0, .slice none 0 0, .i 0, .i 0] p0 Goes.v (by kernel_rfl) (by kernel_rfl) ?_
 intro b2 w2 z2 p2
 refine Goes.rn 7 [(5, (pt gx0 0)), (6, (pt gx0 0)), (7, (pt gx0 3))] Jh7 ?_
 refine Goes.ld 67 (.tmp 7) 8 67 ⟨gx0, 3, none⟩ (udu) (p2.c 1 3) ?_
 refine let_some h fun v13 h4 h => ?_
 rcases v13 with _ | y5
 ·
  try dsimp only at h
  obtain rfl := PtO.nil (udv.ext z2) h4
  refine Goes.rn 7 [(9, .bool true), (10, (pt gx0 0)), (11, .i x1), (12, .agg #[.i x1])] Jh8 ?_
  refine Op_.box 73 (.tmp 12) 13 67 (.agg #[.i x1]) [.i x1] p2 Goes.v (by kernel_rfl) (by kernel_rfl) ?_
  intro b10 w3 z3 p3
  refine Goes.rn 2 [(14, (pt gx0 0)), (15, (pt gx0 3))] Jh9 ?_
  refine Op_.st 67 (.tmp 15) (.tmp 13) 0 2 gx0 3 ((pt b10 0)) [(pt b10 0)] p3 rfl Goes.s (by kernel_rfl) (by kernel_rfl) (by kernel_rfl) (by kernel_rfl) (Nat.zero_le _) (by simp only [List.length_cons, List.length_nil]; omega) (by simp [Value.oneCell']) ?_
  intro w4 z4 p4
  have p4 : Hp nz wz S0 w4 ((some b10, .row 73 [.i x1] 1 0) :: (some b2, .row 28 [.i 0, .u 0, .u 0, .u 0, .u 0, .slice none 0 0, .i 0, .i 0] 8 0) :: (some gx0, .row 69 [.string x0v.s, .i x0v.at_, .i x0v.deep, (pt b10 0)] 4 0) :: Lr) := p4
  refine Goes.rn 4 [(16, .agg #[.i 0, .u 0, .u 0, .u 0, .u 0, .slice none 0 0, .i 0, .i 0])] Jhb ?_
  refine Op_.st 28 (.tmp 4) (.tmp 16) 0 1 b2 0 (.agg #[.i 0, .u 0, .u 0, .u 0, .u 0, .slice none 0 0, .i 0, .i 0]) [.i 0, .u 0, .u 0, .u 0, .u 0, .slice none 0 0, .i 0, .i 0] p4 rfl Goes.s (by kernel_rfl) (by kernel_rfl) (by kernel_rfl) (by kernel_rfl) (Nat.zero_le _) (by simp only [List.length_cons, List.length_nil]; omega) (by simp [Value.oneCell']) ?_
  intro w5 z5 p5
  have p5 : Hp nz wz S0 w5 ((some b10, .row 73 [.i x1] 1 0) :: (some b2, .row 28 [.i 0, .u 0, .u 0, .u 0, .u 0, .slice none 0 0, .i 0, .i 0] 8 0) :: (some gx0, .row 69 [.string x0v.s, .i x0v.at_, .i x0v.deep, (pt b10 0)] 4 0) :: Lr) := p5
  refine Goes.rn 1 [] Jha ?_
  obtain ⟨S6, z6, p6, f12⟩ := p5.freezeBlk 0 rfl
  obtain rfl := Option.some.inj h
  exact Goes.ret (fn := Tryd.f31) (by kernel_rfl) (v := .agg #[.i 0, .u 0, .u 0, .u 0, .u 0, .slice none 0 0, .i 0, .i 0]) (results_n1 (fn := Tryd.f31) (a := .cell 4 28) (by kernel_rfl) (resV_cell ⟨b2, 0, none⟩ (by kernel_rfl) (run_loadN [.i 0, .u 0, .u 0, .u 0, .u 0, .slice none 0 0, .i 0, .i 0] (by kernel_rfl) (by kernel_rfl) (p6.pa 0 0)))) ⟨S6, none, 0, 0, (pt b10 0), rfl, ((((((Ext.refl S0 w0).trans z2).trans z3).trans z4).trans z5).trans z6), p6.drop, rfl, Rd.none_, rfl, ⟨_, _, rfl, List.cons_ne_nil _ _, f12, rfl⟩⟩
 ·
  try dsimp only at h
  obtain ⟨a7, _, rfl, -, f8, q9⟩ := PtO.got (udv.ext z2) h4
  obtain rfl := q9
  refine Goes.rn 7 [(9, .bool false), (16, .agg #[.i 0, .u 0, .u 0, .u 0, .u 0, .slice none 0 0, .i 0, .i 0])] Jhb ?_
  refine Op_.st 28 (.tmp 4) (.tmp 16) 0 0 b2 0 (.agg #[.i 0, .u 0, .u 0, .u 0, .u 0, .slice none 0 0, .i 0, .i 0]) [.i 0, .u 0, .u 0, .u 0, .u 0, .slice none 0 0, .i 0, .i 0] p2 rfl Goes.s (by kernel_rfl) (by kernel_rfl) (by kernel_rfl) (by kernel_rfl) (Nat.zero_le _) (by simp only [List.length_cons, List.length_nil]; omega) (by simp [Value.oneCell']) ?_
  intro w7 z7 p7
  have p7 : Hp nz wz S0 w7 ((some b2, .row 28 [.i 0, .u 0, .u 0, .u 0, .u 0, .slice none 0 0, .i 0, .i 0] 8 0) :: (some gx0, .row 69 [.string x0v.s, .i x0v.at_, .i x0v.deep, .pointer (some a7)] 4 0) :: Lr) := p7
  refine Goes.rn 1 [] Jha ?_
  obtain rfl := Option.some.inj h
  exact Goes.ret (fn := Tryd.f31) (by kernel_rfl) (v := .agg #[.i 0, .u 0, .u 0, .u 0, .u 0, .slice none 0 0, .i 0, .i 0]) (results_n1 (fn := Tryd.f31) (a := .cell 4 28) (by kernel_rfl) (resV_cell ⟨b2, 0, none⟩ (by kernel_rfl) (run_loadN [.i 0, .u 0, .u 0, .u 0, .u 0, .slice none 0 0, .i 0, .i 0] (by kernel_rfl) (by kernel_rfl) (p7.pa 0 0)))) ⟨S0, none, 0, 0, .pointer (some a7), rfl, (((Ext.refl S0 w0).trans z2).trans z7), p7.drop, rfl, Rd.none_, rfl, ⟨_, _, rfl, List.cons_ne_nil _ _, (f8.ext z7), rfl⟩⟩

def Qct := sub [1, 1] B48
def Jhc : List Item := [.code Qct]
def Qcu := sub [1, 0, 1] B48
def Jhd : List Item := .code Qcu :: Jhc
def Qcv := sub [1, 0, 1, 0, 1] B48
def Jhe : List Item := .code Qcv :: Jhc
def Qcw := sub [1, 1, 1] B48
def Jhf : List Item := [.code Qcw]
def Qcx := sub [1, 1, 0] B48
def Jhg : List Item := .inRegion (opsOf Qcx) [3, 4, 5, 6, 7] :: Jhf
def Jhh : List Item := .inRegion (opsOf Qcx) [7] :: Jhf
def Qcy := sub [1, 1, 1, 1] B48
def Jhi : List Item := [.code Qcy]

def Post.z2g (gx0 : Nat) (r : Bool × T68) (v : Value) (w' : World) : Prop :=
 ∃ S' uds, v = .bool r.1 ∧ Ext S0 w0 S' w' ∧ Hp nz wz S' w' ((some gx0, .row 69 [.string r.2.s, .i r.2.at_, .i r.2.deep, uds] 4 0) :: Lr) ∧ PtO kT72 S' w' uds r.2.bad

def L.z2h (gx0 : Nat) : Bool × T68 → (Bool × T68) → Prop := fun ⟨x12, e0v⟩ r => ∀ S1 w1, Ext S0 w0 S1 w1 → ∀ uds (_ : Hp nz wz S1 w1 ((some gx0, .row 69 [.string e0v.s, .i e0v.at_, .i e0v.deep, uds] 4 0) :: Lr)) (_ : PtO kT72 S1 w1 uds e0v.bad) (junk : Nat → Value),
 Goes Tryd.prog (base 48) Jhd ⟨lfr 20 [(0, (pt gx0 0)), (12, .bool x12)] junk, []⟩ w1 (Done Tryd.prog 48 (Rets (Post.z2g nz wz S0 w0 Lr gx0 r)))

theorem W.z2h {nz wz S0 w0 Lr} [Gw nz wz] (gx0 : Nat) : ∀ a r, M.syntax_parser_take_l0 a = some r → L.z2h nz wz S0 w0 Lr gx0 a r := by
 intro ⟨x12, e0v⟩ r h S1 w1 hx uds p1 udt junk
 rw [M.syntax_parser_take_l0] at h
 try dsimp only at h
 refine ite_some h (fun h5 h => ?_) (fun h5 h => ?_)
 ·
  rw [h5]
  refine Goes.rn 5 [(4, .bool false)] Jhe ?_
  obtain rfl := Option.some.inj h
  exact Goes.rt Tryd.f48 (.bool false) ⟨S1, uds, rfl, hx, p1, udt⟩
 ·
  have h5' : x12 = false := by simpa using h5
  rw [h5']
  refine Goes.rn 7 [(13, (pt gx0 0)), (14, (pt gx0 0)), (15, (pt gx0 1))] Jhg ?_
  refine Goes.ld 3 (.tmp 15) 16 3 ⟨gx0, 1, none⟩ (.i e0v.at_) (p1.c 0 1) ?_
  refine Goes.rn 3 [(17, .i (wr .i64 (e0v.at_ + 1))), (18, (pt gx0 0)), (19, (pt gx0 1))] Jhh ?_
  refine Op_.st 3 (.tmp 19) (.tmp 17) 0 0 gx0 1 (.i (wr .i64 (e0v.at_ + 1))) [.i (wr .i64 (e0v.at_ + 1))] p1 rfl Goes.s (by kernel_rfl) (by kernel_rfl) (by kernel_rfl) (by kernel_rfl) (Nat.zero_le _) (by simp only [List.length_cons, List.length_nil]; omega) (by simp [Value.oneCell']) ?_
  intro w3 z3 p3
  have p3 : Hp nz wz S1 w3 ((some gx0, .row 69 [.string e0v.s, .i (wr .i64 (e0v.at_ + 1)), .i e0v.deep, uds] 4 0) :: Lr) := p3
  refine Goes.rn 5 [(4, .bool true)] Jhi ?_
  obtain rfl := Option.some.inj h
  exact Goes.rt Tryd.f48 (.bool true) ⟨S1, uds, rfl, (hx.trans z3), p3, (udt.ext z3)⟩

def Qcz := sub [1, 0, 0] B48
def Jhj : List Item := .inRegion (opsOf Qcz) [3, 4, 5, 6, 7] :: Jhd
def Jhk : List Item := .inRegion (opsOf Qcz) [4, 5, 6, 7] :: Jhd

theorem W.z2g (x0v : T68) (x1 : Int) (r : Bool × T68) (h : M.syntax_parser_take x0v x1 = some r) {nz wz S0 w0 Lr} [Gw nz wz] (gx0 udu) (p0 : Hp nz wz S0 w0 ((some gx0, .row 69 [.string x0v.s, .i x0v.at_, .i x0v.deep, udu] 4 0) :: Lr)) (udv : PtO kT72 S0 w0 udu x0v.bad) :
  Calls Tryd.prog 48 #[(pt gx0 0), .int .u8 x1] w0 (Rets (Post.z2g nz wz S0 w0 Lr gx0 r)) := by
 refine calls_of_goes (fn := Tryd.f48) (c := B48) (by kernel_rfl) (by kernel_rfl) 18 (by kernel_rfl) ?_
 refine Goes.jp 20 [(0, (pt gx0 0)), (1, .int .u8 x1)] (fun junk => ?_)
 delta M.syntax_parser_take at h
 refine Goes.rn 10 [(4, .bool false), (5, .int .u8 x1), (6, .bool (decide (x1 = 0))), (7, .bool (decide (x1 = 0)))] Jhj ?_
 refine ite_some h (fun h2 h => ?_) (fun h2 h => ?_)
 ·
  rw [decide_eq_true h2]
  refine Goes.rn 6 [(8, undef), (9, undef), (10, undef), (11, undef), (12, .bool true)] Jhd ?_
  exact Goes.jp 20 [(0, (pt gx0 0)), (12, .bool true)] (W.z2h gx0 _ _ h _ _ (Ext.refl S0 w0) udu p0 udv)
 ·
  rw [decide_eq_false h2]
  refine Goes.rn 1 [(8, (pt gx0 0))] Jhk ?_
  refine bind_some' h fun y3 e4 h => ?_
  refine Goes.cal (kc 65 [8] #[66]) 9 5 65 _ (W.z2d x0v y3 e4 gx0 udu p0 udv) ?_
  rintro _ w2 ⟨S2, udx, rfl, z2, p2, udy⟩
  refine Goes.rn 4 [(10, .int .u8 x1), (11, .bool (!(decide (y3.1 = x1)))), (12, .bool (!(decide (y3.1 = x1))))] Jhd ?_
  exact Goes.jp 20 [(0, (pt gx0 0)), (12, .bool (!(decide (y3.1 = x1))))] (W.z2h gx0 _ _ h _ _ ((Ext.refl S0 w0).trans z2) udx p2 udy)

def Qd0 := sub [1] B90
def Jhl : List Item := [.code Qd0]
def Qd1 := sub [0] B90
def Jhm : List Item := .inRegion (opsOf Qd1) [0] :: Jhl
def Qd2 := sub [1, 1] B90
def Jhn : List Item := [.code Qd2]
def Qd3 := sub [1, 0] B90
def Jho : List Item := .inRegion (opsOf Qd3) [0] :: Jhn
def Qd4 := sub [1, 1, 1] B90
def Jhp : List Item := [.code Qd4]
def Qd5 := sub [1, 1, 0] B90
def Jhq : List Item := .inRegion (opsOf Qd5) [4, 5, 6] :: Jhp
def Qd6 := sub [1, 1, 1, 1] B90
def Jhr : List Item := [.code Qd6]
def Qd7 := sub [1, 1, 1, 0] B90
def Jhs : List Item := .inRegion (opsOf Qd7) [0, 1] :: Jhr

def Post.z2i (r : List Int) (v : Value) (w' : World) : Prop :=
 ∃ S' vsq, v = .agg vsq.toArray ∧ Ext S0 w0 S' w' ∧ Hp nz wz S' w' (Lr) ∧ Els (kInt .u64) S' w' vsq r ∧ vsq.length = 4

theorem W.z2i (x0 : Int) (r : List Int) (h : M.syntax_one x0 = some r) {nz wz S0 w0 Lr} [Gw nz wz] (p0 : Hp nz wz S0 w0 (Lr)) :
  Calls Tryd.prog 90 #[.int .u8 x0] w0 (Rets (Post.z2i nz wz S0 w0 Lr r)) := by
 refine calls_of_goes (fn := Tryd.f90) (c := B90) (by kernel_rfl) (by kernel_rfl) 10 (by kernel_rfl) ?_
 refine Goes.jp 11 [(0, .int .u8 x0)] (fun junk => ?_)
 delta M.syntax_one at h
 refine Goes.rn 2 [] Jhm ?_
 refine Op_.alloc 25 2 0 (.agg #[.u 0, .u 0, .u 0, .u 0]) [.u 0, .u 0, .u 0, .u 0] p0 Goes.v (by kernel_rfl) (by kernel_rfl) ?_
 intro b1 w2 z2 p2
 refine Goes.rn 3 [] Jho ?_
 refine Op_.alloc 25 3 0 (.agg #[.u 0, .u 0, .u 0, .u 0]) [.u 0, .u 0, .u 0, .u 0] p2 Goes.v (by kernel_rfl) (by kernel_rfl) ?_
 intro b3 w3 z3 p3
 refine Goes.rn 7 [(4, .int .u8 x0), (5, .int .u8 (iquo .u8 x0 64)), (6, .int .u8 x0), (7, .int .u8 (irem .u8 x0 64))] Jhq ?_
 refine guard_some' h fun g5 h => ?_
 refine Op_.binshl 23 (.const (.int .u64 1)) (.tmp 7) 5 8 23 .u64 .u8 1 (irem .u8 x0 64) Goes.v (by kernel_rfl) (by kernel_rfl) g5 ?_
 have f6 : Els (kInt .u64) S0 w3 ([.u 0, .u 0, .u 0, .u 0] : List Value) [0, 0, 0, 0] := (Els.cons (K := (kInt .u64)) (vs := [.u 0]) (x := 0) rfl (Els.cons (K := (kInt .u64)) (vs := [.u 0]) (x := 0) rfl (Els.cons (K := (kInt .u64)) (vs := [.u 0]) (x := 0) rfl (Els.cons (K := (kInt .u64)) (vs := [.u 0]) (x := 0) rfl Els.nil))))
 refine guard_some' h fun g7 h => ?_
 refine guard_some' h fun g8 h => ?_
 refine Op_.ixA_n (K := (kInt .u64)) 25 (.tmp 3) (.tmp 5) 9 0 23 4 .u8 (iquo .u8 x0 64) 0 (gi [0, 0, 0, 0] (iquo .u8 x0 64)) rfl p3 rfl f6 (Els.len1 f6 rfl rfl) Goes.v (by kernel_rfl) (by kernel_rfl) (by kernel_rfl) (by kernel_rfl) g7 g8 ?_
 intro _ q10 f9
 obtain rfl := q10
 refine let_some h fun v11 e12 h => ?_
 refine Op_.stE_n (K := (kInt .u64)) 23 (.tmp 9) (.tmp 8) 0 0 (iquo .u8 x0 64) (.u (ishl .u64 1 (irem .u8 x0 64))) [.u (ishl .u64 1 (irem .u8 x0 64))] (ishl .u64 1 (irem .u8 x0 64)) v11 4 (Els.len1 f6 rfl rfl) e12 p3 rfl f6 Goes.s (by kernel_rfl) (by kernel_rfl) (by kernel_rfl) rfl (by kernel_rfl) g7 g8 (Nat.zero_le _) ?_
 intro w4 u8t z4 p4 f14 l15
 have l16 : u8t.length = 4 := by rw [f14.length, l15]; rfl
 refine Goes.rn 3 [] Jhs ?_
 refine Op_.ldN 25 (.tmp 3) 10 25 ⟨b3, 0, none⟩ u8t Goes.v (by kernel_rfl) (by kernel_rfl) (by rw [l16]; kernel_rfl) (At_all (p4.mem 0 rfl)) ?_
 have f17 : Els (kInt .u64) S0 w4 ([.u 0, .u 0, .u 0, .u 0] : List Value) [0, 0, 0, 0] := (Els.cons (K := (kInt .u64)) (vs := [.u 0]) (x := 0) rfl (Els.cons (K := (kInt .u64)) (vs := [.u 0]) (x := 0) rfl (Els.cons (K := (kInt .u64)) (vs := [.u 0]) (x := 0) rfl (Els.cons (K := (kInt .u64)) (vs := [.u 0]) (x := 0) rfl Els.nil))))
 refine Op_.stA 25 (.tmp 2) (.tmp 10) 0 1 b1 4 u8t p4 rfl rfl Goes.s (by kernel_rfl) (by kernel_rfl) (by kernel_rfl) l16 (Els.one f14) ?_
 intro w5 z5 p5
 refine Goes.rn 1 [] Jhr ?_
 obtain rfl := Option.some.inj h
 have p5 := p5.dp 0
 exact Goes.ret (fn := Tryd.f90) (by kernel_rfl) (v := .agg u8t.toArray) (results_n1 (fn := Tryd.f90) (a := .cell 2 25) (by kernel_rfl) (resV_cell ⟨b1, 0, none⟩ (by kernel_rfl) (run_loadN u8t (by kernel_rfl) (by rw [l16]; kernel_rfl) (At_all (p5.mem 0 rfl))))) ⟨S0, u8t, rfl, (((((Ext.refl S0 w0).trans z2).trans z3).trans z4).trans z5), p5.drop, (f14.ext z5), l16⟩

def Qd8 := sub [1, 1] B89
def Jht : List Item := [.code Qd8]
def Jhu : List Item := .inBlock 0 :: Jht
def Qd9 := sub [1, 0, 1, 0, 0] B89
def Jhv : List Item := .inLoop Qd9 :: Jhu
def Jhw : List Item := .code Qd9 :: Jhv
def Qda := sub [1, 0, 1, 0, 0, 1, 1] B89
def Jhx : List Item := .code Qda :: Jhv
def Qdb := sub [1, 0, 1, 0, 0, 1, 0] B89
def Jhy : List Item := .code Qdb :: Jhx
def Qdc := sub [1, 0, 1, 0, 0, 1, 1, 1] B89
def Jhz : List Item := .code Qdc :: Jhv
def Ji0 : List Item := .inBlock 1 :: Jhz
def Qdd := sub [1, 0, 1, 0, 0, 1, 1, 0, 0, 1] B89
def Ji1 : List Item := .inRegion (opsOf Qdd) [2, 3, 4, 5, 6] :: Ji0
def Ji2 : List Item := .inRegion (opsOf Qdd) [5, 6] :: Ji0
def Qde := sub [1, 1, 1] B89
def Ji3 : List Item := [.code Qde]
def Qdf := sub [1, 1, 0] B89
def Ji4 : List Item := .inRegion (opsOf Qdf) [0, 1] :: Ji3

def Post.z2j (r : List Int) (v : Value) (w' : World) : Prop :=
 ∃ S' vsq, v = .agg vsq.toArray ∧ Ext S0 w0 S' w' ∧ Hp nz wz S' w' (Lr) ∧ Els (kInt .u64) S' w' vsq r ∧ vsq.length = 4

def L.z2k : (List Int) × (List Int) × Int → (List Int) → Prop := fun ⟨x1, u4, x4⟩ r => ∀ S1 w1, Ext S0 w0 S1 w1 → ∀ gx1 udz gx2 (_ : Hp nz wz S1 w1 ((some gx1, .row 25 udz 4 0) :: (some gx2, .row 25 (U4 u4 []) 4 0) :: Lr)) (_ : Els (kInt .u64) S1 w1 udz x1) (_ : udz.length = 4) (_ : u4.length = 4) (junk : Nat → Value),
 Goes Tryd.prog (base 89) Jhw ⟨lfr 15 [(1, (pt gx1 0)), (2, (pt gx2 0)), (4, .i x4)] junk, []⟩ w1 (Done Tryd.prog 89 (Rets (Post.z2j nz wz S0 w0 Lr r)))

theorem W.z2k {nz wz S0 w0 Lr} [Gw nz wz] : ∀ a r, M.syntax_not_l0 a = some r → (L.z2k nz wz S0 w0 Lr) a r := by
 refine M.syntax_not_l0.partial_correctness (motive := (L.z2k nz wz S0 w0 Lr)) ?_
 intro ue0 ue1 ⟨x1, u4, x4⟩ r h S1 w1 hx gx1 udz gx2 p1 fx1 lx1 ue2 junk
 try dsimp only at h
 refine Goes.rn 5 [(5, .bool (decide (x4 < 4)))] Jhy ?_
 refine ite_some h (fun h7 h => ?_) (fun h7 h => ?_)
 ·
  rw [decide_eq_true h7]
  refine Goes.rn 12 [(6, .i x4), (3, .i x4), (7, .i x4), (8, .i x4)] Ji1 ?_
  refine guard_some' h fun g8 h => ?_
  refine Op_.ixA_n (K := (kInt .u64)) 25 (.tmp 1) (.tmp 8) 9 0 23 4 .i64 x4 0 (gi x1 x4) rfl p1 rfl fx1 (Els.len1 fx1 lx1 rfl) Goes.v (by kernel_rfl) (by kernel_rfl) (by kernel_rfl) (by kernel_rfl) g8 h7 ?_
  intro _ q10 f9
  obtain rfl := q10
  refine Goes.ld 23 (.tmp 9) 10 23 ⟨gx1, (x4 : Int).toNat * (kInt .u64).size, none⟩ (.u (gi x1 x4)) (f9 0 _ rfl) ?_
  refine Goes.rn 1 [(11, .u (ixor .u64 18446744073709551615 (gi x1 x4)))] Ji2 ?_
  refine Op_.ixA_n (K := (kInt .u64)) 25 (.tmp 1) (.tmp 7) 12 0 23 4 .i64 x4 0 (gi x1 x4) rfl p1 rfl fx1 (Els.len1 fx1 lx1 rfl) Goes.v (by kernel_rfl) (by kernel_rfl) (by kernel_rfl) (by kernel_rfl) g8 h7 ?_
  intro _ q12 f11
  obtain rfl := q12
  refine let_some h fun v13 e14 h => ?_
  refine Op_.stE_n (K := (kInt .u64)) 23 (.tmp 12) (.tmp 11) 0 0 x4 (.u (ixor .u64 18446744073709551615 (gi x1 x4))) [.u (ixor .u64 18446744073709551615 (gi x1 x4))] (ixor .u64 18446744073709551615 (gi x1 x4)) v13 4 (Els.len1 fx1 lx1 rfl) e14 p1 rfl fx1 Goes.s (by kernel_rfl) (by kernel_rfl) (by kernel_rfl) rfl (by kernel_rfl) g8 h7 (Nat.zero_le _) ?_
  intro w4 ue3 z4 p4 f16 l17
  have l18 : ue3.length = 4 := by rw [f16.length, l17]; rfl
  refine Goes.rn 7 [(13, .i (wr .i64 (x4 + 1))), (4, .i (wr .i64 (x4 + 1)))] Jhw ?_
  exact Goes.jp 15 [(1, (pt gx1 0)), (2, (pt gx2 0)), (4, .i (wr .i64 (x4 + 1)))] (ue1 _ _ h _ _ (hx.trans z4) gx1 ue3 gx2 p4 f16 l18 ue2)
 ·
  rw [decide_eq_false h7]
  refine Goes.rn 4 [] Ji4 ?_
  refine Op_.ldN 25 (.tmp 1) 14 25 ⟨gx1, 0, none⟩ udz Goes.v (by kernel_rfl) (by kernel_rfl) (by rw [lx1]; kernel_rfl) (At_all (p1.mem 0 rfl)) ?_
  have f19 : Els (kInt .u64) S1 w1 ((U4 u4 []) : List Value) u4 := (els_mk4 (k := .u64) ue2)
  refine Op_.stA 25 (.tmp 2) (.tmp 14) 0 1 gx2 4 udz p1 rfl rfl Goes.s (by kernel_rfl) (by kernel_rfl) (by kernel_rfl) lx1 (Els.one fx1) ?_
  intro w5 z5 p5
  refine Goes.rn 1 [] Ji3 ?_
  obtain rfl := Option.some.inj h
  have p5 := p5.dp 0
  exact Goes.ret (fn := Tryd.f89) (by kernel_rfl) (v := .agg udz.toArray) (results_n1 (fn := Tryd.f89) (a := .cell 2 25) (by kernel_rfl) (resV_cell ⟨gx2, 0, none⟩ (by kernel_rfl) (run_loadN udz (by kernel_rfl) (by rw [lx1]; kernel_rfl) (At_all (p5.mem 0 rfl))))) ⟨S1, udz, rfl, (hx.trans z5), p5.drop, (fx1.ext z5), lx1⟩

def Qdg := sub [1] B89
def Ji5 : List Item := [.code Qdg]
def Qdh := sub [0] B89
def Ji6 : List Item := .inRegion (opsOf Qdh) [0, 1] :: Ji5

theorem W.z2j (x0 : List Int) (r : List Int) (h : M.syntax_not x0 = some r) {nz wz S0 w0 Lr} [Gw nz wz] (ue4) (p0 : Hp nz wz S0 w0 (Lr)) (fx0 : Els (kInt .u64) S0 w0 ue4 x0) (lx0 : ue4.length = 4) :
  Calls Tryd.prog 89 #[.agg ue4.toArray] w0 (Rets (Post.z2j nz wz S0 w0 Lr r)) := by
 refine calls_of_goes (fn := Tryd.f89) (c := B89) (by kernel_rfl) (by kernel_rfl) 14 (by kernel_rfl) ?_
 refine Goes.jp 15 [(0, .agg ue4.toArray)] (fun junk => ?_)
 delta M.syntax_not at h
 refine Goes.rn 2 [] Ji6 ?_
 refine Op_.box 25 (.tmp 0) 1 0 (.agg ue4.toArray) ue4 p0 Goes.v (by kernel_rfl) rfl ?_
 intro b1 w2 z2 p2
 replace p2 : Hp nz wz S0 w2 ((some b1, .row 25 ue4 4 0) :: Lr) := by rw [show (ue4).length = 4 from lx0] at p2; exact p2
 refine Op_.alloc 25 2 0 (.agg #[.u 0, .u 0, .u 0, .u 0]) [.u 0, .u 0, .u 0, .u 0] p2 Goes.v (by kernel_rfl) (by kernel_rfl) ?_
 intro b3 w3 z3 p3
 refine Goes.rn 8 [(4, .i 0)] Jhw ?_
 have p3 := (p3.fr 0).fr 1
 exact Goes.jp 15 [(1, (pt b1 0)), (2, (pt b3 0)), (4, .i 0)] (W.z2k _ _ h _ _ (((Ext.refl S0 w0).trans z2).trans z3) b1 ue4 b3 p3 (fx0.ext (z2.trans z3)) lx0 rfl)

def Qdi := sub [1] B101
def Ji7 : List Item := [.code Qdi]
def Qdj := sub [0] B101
def Ji8 : List Item := .inRegion (opsOf Qdj) [0, 1] :: Ji7
def Qdk := sub [1, 1] B101
def Ji9 : List Item := [.code Qdk]

def Post.z2l (gx0 : Nat) (udu : Value) (x0v : T68) (r : Unit) (v : Value) (w' : World) : Prop :=
 ∃ S' ue5, v = .func (.func 111) #[] #[(pt ue5 0)] ∧ Ext S0 w0 S' w' ∧ Hp nz wz S' w' ((some ue5, .row 66 [(pt gx0 0)] 1 0) :: (some gx0, .row 69 [.string x0v.s, .i x0v.at_, .i x0v.deep, udu] 4 0) :: Lr)

theorem W.z2l (x0v : T68) (r : Unit) (h : M.syntax_parser_items x0v = some r) {nz wz S0 w0 Lr} [Gw nz wz] (gx0 udu) (p0 : Hp nz wz S0 w0 ((some gx0, .row 69 [.string x0v.s, .i x0v.at_, .i x0v.deep, udu] 4 0) :: Lr)) (udv : PtO kT72 S0 w0 udu x0v.bad) :
  Calls Tryd.prog 101 #[(pt gx0 0)] w0 (Rets (Post.z2l nz wz S0 w0 Lr gx0 udu x0v r)) := by
 refine calls_of_goes (fn := Tryd.f101) (c := B101) (by kernel_rfl) (by kernel_rfl) 3 (by kernel_rfl) ?_
 refine Goes.jp 4 [(0, (pt gx0 0))] (fun junk => ?_)
 delta M.syntax_parser_items at h
 refine Goes.rn 2 [] Ji8 ?_
 refine Op_.box 66 (.tmp 0) 1 0 ((pt gx0 0)) [(pt gx0 0)] p0 Goes.v (by kernel_rfl) (by kernel_rfl) ?_
 intro b2 w2 z2 p2
 refine Goes.rn 7 [(2, .func (.func 111) #[] #[(pt b2 0)]), (3, .func (.func 111) #[] #[(pt b2 0)])] Ji9 ?_
 obtain rfl := Option.some.inj h
 exact Goes.rt Tryd.f101 (.func (.func 111) #[] #[(pt b2 0)]) ⟨S0, b2, rfl, ((Ext.refl S0 w0).trans z2), p2⟩

def Qdl := sub [1, 1, 1] B113
def Jia : List Item := [.code Qdl]
def Jib : List Item := .inBlock 0 :: Jia
def Qdm := sub [1, 1, 0, 1, 0, 0] B113
def Jic : List Item := .inLoop Qdm :: Jib
def Jid : List Item := .code Qdm :: Jic
def Qdn := sub [1, 1, 0, 1, 0, 0, 1] B113
def Jie : List Item := .code Qdn :: Jic
def Qdo := sub [1, 1, 0, 1, 0, 0, 0, 1] B113
def Jif : List Item := .code Qdo :: Jie
def Qdp := sub [1, 1, 0, 1, 0, 0, 1, 1] B113
def Jig : List Item := .code Qdp :: Jic
def Jih : List Item := .inBlock 1 :: Jig
def Qdq := sub [1, 1, 0, 1, 0, 0, 1, 0, 0] B113
def Jii : List Item := .code Qdq :: Jih
def Qdr := sub [1, 1, 1, 1] B113
def Jij : List Item := [.code Qdr]
def Qds := sub [1, 1, 1, 0] B113
def Jik : List Item := .inRegion (opsOf Qds) [0, 1] :: Jij

def Post.z2m (r : List Int) (v : Value) (w' : World) : Prop :=
 ∃ S' vsq, v = .agg vsq.toArray ∧ Ext S0 w0 S' w' ∧ Hp nz wz S' w' (Lr) ∧ Els (kInt .u64) S' w' vsq r ∧ vsq.length = 4

def L.z2n : Int × (List Int) × (List Int) × Int → (List Int) → Prop := fun ⟨x1, ue6, x5, x6⟩ r => ∀ S1 w1, Ext S0 w0 S1 w1 → ∀ gx4 gx5 ue7 (_ : Hp nz wz S1 w1 ((some gx4, .row 25 (U4 ue6 []) 4 0) :: (some gx5, .row 25 ue7 4 0) :: Lr)) (_ : ue6.length = 4) (_ : Els (kInt .u64) S1 w1 ue7 x5) (_ : ue7.length = 4) (junk : Nat → Value),
 Goes Tryd.prog (base 113) Jid ⟨lfr 25 [(1, .int .u8 x1), (4, (pt gx4 0)), (5, (pt gx5 0)), (6, .i x6)] junk, []⟩ w1 (Done Tryd.prog 113 (Rets (Post.z2m nz wz S0 w0 Lr r)))

theorem W.z2n {nz wz S0 w0 Lr} [Gw nz wz] : ∀ a r, M.syntax_span_l0 a = some r → (L.z2n nz wz S0 w0 Lr) a r := by
 refine M.syntax_span_l0.partial_correctness (motive := (L.z2n nz wz S0 w0 Lr)) ?_
 intro ue8 ue9 ⟨x1, ue6, x5, x6⟩ r h S1 w1 hx gx4 gx5 ue7 p1 uea fx5 lx5 junk
 try dsimp only at h
 refine Goes.rn 8 [(9, .i x6), (10, .int .u8 x1), (11, .i (wr .i64 x1)), (12, .bool (decide (x6 ≤ wr .i64 x1)))] Jif ?_
 refine ite_some h (fun h8 h => ?_) (fun h8 h => ?_)
 ·
  rw [decide_eq_true h8]
  refine Goes.rn 4 [] Jii ?_
  have z4 : Ext S1 w1 S1 (w1).drew := Ext.draw
  have p4 := p1.draw
  refine Goes.drawn (s := [9]) (F := Fc S1 (w1).drew ([] ++ (rowCellsO (some gx5) ue7 ++ []))) 5 10 (by kernel_rfl) (by kernel_rfl) (by kernel_rfl) (by kernel_rfl) ?_
  generalize (w1).drew = w4 at z4 p4 ⊢
  refine AnyG.pu 0 (.move (.tmp 6)) 15 3 (.i x6) (Fc.here (Cells.app trivial (Cells.app (Cells.rowO (p4.mem 1 rfl)) trivial))) ?_
  refine AnyG.pu 1 (.binOp .quo 3 (.tmp 15) (.const (.int .i64 64)) 3) 16 3 (.i (iquo .i64 x6 64)) (Fc.here (Cells.app trivial (Cells.app (Cells.rowO (p4.mem 1 rfl)) trivial))) ?_
  refine guard_some' h fun g9 h => ?_
  refine guard_some' h fun g10 h => ?_
  refine AnyG.ixA_n (i := 2) (K := (kInt .u64)) 25 (.tmp 5) (.tmp 16) 17 0 23 4 .i64 (iquo .i64 x6 64) 1 (gi x5 (iquo .i64 x6 64)) rfl p4 rfl (fx5.ext z4) (Els.len1 (fx5.ext z4) lx5 rfl) (by kernel_rfl) (by kernel_rfl) (Fc.here (Cells.app trivial (Cells.app (Cells.rowO (p4.mem 1 rfl)) trivial))) (by kernel_rfl) (by kernel_rfl) (by kernel_rfl) (by kernel_rfl) g9 g10 ?_
  intro _ q12 f13 f11
  obtain rfl := q12
  refine AnyG.ld1 (i := 3) 23 (.tmp 17) 18 23 ⟨gx5, (iquo .i64 x6 64 : Int).toNat * (kInt .u64).size, none⟩ (.u (gi x5 (iquo .i64 x6 64))) (by kernel_rfl) (by kernel_rfl) (Fc.here (Cells.app trivial (Cells.app (Cells.rowO (p4.mem 1 rfl)) trivial))) (by kernel_rfl) (by kernel_rfl) (fun _ h => h.2.right.left.rowAt (f13 0 _ rfl)) ?_
  refine AnyG.pu 4 (.move (.tmp 6)) 19 3 (.i x6) (Fc.here (Cells.app trivial (Cells.app (Cells.rowO (p4.mem 1 rfl)) trivial))) ?_
  refine AnyG.pu 5 (.binOp .rem 3 (.tmp 19) (.const (.int .i64 64)) 3) 20 3 (.i (irem .i64 x6 64)) (Fc.here (Cells.app trivial (Cells.app (Cells.rowO (p4.mem 1 rfl)) trivial))) ?_
  refine guard_some' h fun g14 h => ?_
  refine AnyG.binshl (i := 6) 23 (.const (.int .u64 1)) (.tmp 20) 3 21 23 .u64 .i64 1 (irem .i64 x6 64) (by kernel_rfl) (by kernel_rfl) (Fc.here (Cells.app trivial (Cells.app (Cells.rowO (p4.mem 1 rfl)) trivial))) (by kernel_rfl) (by kernel_rfl) g14 ?_
  refine AnyG.pu 7 (.binOp .or 23 (.tmp 18) (.tmp 21) 23) 22 23 (.u (ior .u64 (gi x5 (iquo .i64 x6 64)) (ishl .u64 1 (irem .i64 x6 64)))) (Fc.here (Cells.app trivial (Cells.app (Cells.rowO (p4.mem 1 rfl)) trivial))) ?_
  refine AnyG.ixA_n (i := 8) (K := (kInt .u64)) 25 (.tmp 5) (.tmp 16) 23 0 23 4 .i64 (iquo .i64 x6 64) 1 (gi x5 (iquo .i64 x6 64)) rfl p4 rfl (fx5.ext z4) (Els.len1 (fx5.ext z4) lx5 rfl) (by kernel_rfl) (by kernel_rfl) (Fc.here (Cells.app trivial (Cells.app (Cells.rowO (p4.mem 1 rfl)) trivial))) (by kernel_rfl) (by kernel_rfl) (by kernel_rfl) (by kernel_rfl) g9 g10 ?_
  intro _ q16 f17 f15
  obtain rfl := q16
  refine let_some h fun v18 e19 h => ?_
  refine Op_.stE_n (K := (kInt .u64)) 23 (.tmp 23) (.tmp 22) 0 1 (iquo .i64 x6 64) (.u (ior .u64 (gi x5 (iquo .i64 x6 64)) (ishl .u64 1 (irem .i64 x6 64)))) [.u (ior .u64 (gi x5 (iquo .i64 x6 64)) (ishl .u64 1 (irem .i64 x6 64)))] (ior .u64 (gi x5 (iquo .i64 x6 64)) (ishl .u64 1 (irem .i64 x6 64))) v18 4 (Els.len1 (fx5.ext z4) lx5 rfl) e19 p4 rfl (fx5.ext z4) (AnyG.ss (i := 9) (by kernel_rfl) (by kernel_rfl)) (by kernel_rfl) (by kernel_rfl) (by kernel_rfl) rfl (by kernel_rfl) g9 g10 (Nat.zero_le _) ?_
  intro w5 ueb z5 p5 f21 l22
  have l23 : ueb.length = 4 := by rw [f21.length, l22]; rfl
  refine AnyG.last [] (Fc S1 w5 []) (by decide) ?_
  refine AnyG.done (by kernel_rfl) ?_ _
  refine Goes.rn 7 [(13, .i x6), (14, .i (wr .i64 (x6 + 1))), (6, .i (wr .i64 (x6 + 1)))] Jid ?_
  exact Goes.jp 25 [(1, .int .u8 x1), (4, (pt gx4 0)), (5, (pt gx5 0)), (6, .i (wr .i64 (x6 + 1)))] (ue9 _ _ h _ _ ((hx.trans z4).trans z5) gx4 gx5 ueb p5 uea f21 l23)
 ·
  rw [decide_eq_false h8]
  refine Goes.rn 4 [] Jik ?_
  refine Op_.ldN 25 (.tmp 5) 24 25 ⟨gx5, 0, none⟩ ue7 Goes.v (by kernel_rfl) (by kernel_rfl) (by rw [lx5]; kernel_rfl) (At_all (p1.mem 1 rfl)) ?_
  have f24 : Els (kInt .u64) S1 w1 ((U4 ue6 []) : List Value) ue6 := (els_mk4 (k := .u64) uea)
  refine Op_.stA 25 (.tmp 4) (.tmp 24) 0 0 gx4 4 ue7 p1 rfl rfl Goes.s (by kernel_rfl) (by kernel_rfl) (by kernel_rfl) lx5 (Els.one fx5) ?_
  intro w6 z6 p6
  refine Goes.rn 1 [] Jij ?_
  obtain rfl := Option.some.inj h
  have p6 := p6.dp 1
  exact Goes.ret (fn := Tryd.f113) (by kernel_rfl) (v := .agg ue7.toArray) (results_n1 (fn := Tryd.f113) (a := .cell 4 25) (by kernel_rfl) (resV_cell ⟨gx4, 0, none⟩ (by kernel_rfl) (run_loadN ue7 (by kernel_rfl) (by rw [lx5]; kernel_rfl) (At_all (p6.mem 0 rfl))))) ⟨S1, ue7, rfl, (hx.trans z6), p6.drop, (fx5.ext z6), lx5⟩

def Qdt := sub [1] B113
def Jil : List Item := [.code Qdt]
def Qdu := sub [0] B113
def Jim : List Item := .inRegion (opsOf Qdu) [0] :: Jil
def Qdv := sub [1, 1] B113
def Jin : List Item := [.code Qdv]
def Qdw := sub [1, 0] B113
def Jio : List Item := .inRegion (opsOf Qdw) [0] :: Jin

theorem W.z2m (x0 : Int) (x1 : Int) (r : List Int) (h : M.syntax_span x0 x1 = some r) {nz wz S0 w0 Lr} [Gw nz wz] (p0 : Hp nz wz S0 w0 (Lr)) :
  Calls Tryd.prog 113 #[.int .u8 x0, .int .u8 x1] w0 (Rets (Post.z2m nz wz S0 w0 Lr r)) := by
 refine calls_of_goes (fn := Tryd.f113) (c := B113) (by kernel_rfl) (by kernel_rfl) 23 (by kernel_rfl) ?_
 refine Goes.jp 25 [(0, .int .u8 x0), (1, .int .u8 x1)] (fun junk => ?_)
 delta M.syntax_span at h
 refine Goes.rn 2 [] Jim ?_
 refine Op_.alloc 25 4 0 (.agg #[.u 0, .u 0, .u 0, .u 0]) [.u 0, .u 0, .u 0, .u 0] p0 Goes.v (by kernel_rfl) (by kernel_rfl) ?_
 intro b1 w2 z2 p2
 refine Goes.rn 3 [] Jio ?_
 refine Op_.alloc 25 5 0 (.agg #[.u 0, .u 0, .u 0, .u 0]) [.u 0, .u 0, .u 0, .u 0] p2 Goes.v (by kernel_rfl) (by kernel_rfl) ?_
 intro b3 w3 z3 p3
 refine Goes.rn 10 [(7, .int .u8 x0), (8, .i (wr .i64 x0)), (6, .i (wr .i64 x0))] Jid ?_
 have f7 : Els (kInt .u64) S0 w3 ([.u 0, .u 0, .u 0, .u 0] : List Value) [0, 0, 0, 0] := (Els.cons (K := (kInt .u64)) (vs := [.u 0]) (x := 0) rfl (Els.cons (K := (kInt .u64)) (vs := [.u 0]) (x := 0) rfl (Els.cons (K := (kInt .u64)) (vs := [.u 0]) (x := 0) rfl (Els.cons (K := (kInt .u64)) (vs := [.u 0]) (x := 0) rfl Els.nil))))
 have p3 := (p3.fr 0).fr 1
 exact Goes.jp 25 [(1, .int .u8 x1), (4, (pt b1 0)), (5, (pt b3 0)), (6, .i (wr .i64 x0))] (W.z2n _ _ h _ _ (((Ext.refl S0 w0).trans z2).trans z3) b1 b3 ([.u 0, .u 0, .u 0, .u 0] : List Value) p3 rfl f7 rfl)

def Qdx := sub [1, 1, 1] B102
def Jip : List Item := [.code Qdx]
def Jiq : List Item := .inBlock 0 :: Jip
def Qdy := sub [1, 1, 0, 1, 0, 0] B102
def Jir : List Item := .inLoop Qdy :: Jiq
def Jis : List Item := .code Qdy :: Jir
def Qdz := sub [1, 1, 0, 1, 0, 0, 1, 1, 1] B102
def Jit : List Item := .code Qdz :: Jir
def Jiu : List Item := .inBlock 1 :: Jit
def Jiv : List Item := .inBlock 2 :: Jiu
def Qe0 := sub [1, 1, 0, 1, 0, 0, 1, 1, 0, 0, 1, 1, 0, 0] B102
def Jiw : List Item := .inLoop Qe0 :: Jiv
def Jix : List Item := .code Qe0 :: Jiw
def Qe1 := sub [1, 1, 0, 1, 0, 0, 1, 1] B102
def Jiy : List Item := .code Qe1 :: Jir
def Qe2 := sub [1, 1, 0, 1, 0, 0, 1, 0] B102
def Jiz : List Item := .code Qe2 :: Jiy
def Qe3 := sub [1, 1, 0, 1, 0, 0, 1, 1, 0, 0, 1] B102
def Jj0 : List Item := .code Qe3 :: Jiu
def Qe4 := sub [1, 1, 0, 1, 0, 0, 1, 1, 0, 0, 0] B102
def Jj1 : List Item := .inRegion (opsOf Qe4) [0, 1, 2, 3] :: Jj0
def Qe5 := sub [1, 1, 1, 1] B102
def Jj2 : List Item := [.code Qe5]
def Qe6 := sub [1, 1, 1, 0] B102
def Jj3 : List Item := .inRegion (opsOf Qe6) [0, 1] :: Jj2
def Qe7 := sub [1, 1, 0, 1, 0, 0, 1, 1, 0, 0, 1, 1, 0, 0, 1, 1] B102
def Jj4 : List Item := .code Qe7 :: Jiw
def Qe8 := sub [1, 1, 0, 1, 0, 0, 1, 1, 0, 0, 1, 1, 0, 0, 1, 0] B102
def Jj5 : List Item := .code Qe8 :: Jj4
def Qe9 := sub [1, 1, 0, 1, 0, 0, 1, 1, 0, 0, 1, 1, 0, 0, 1, 1, 1] B102
def Jj6 : List Item := .code Qe9 :: Jiw
def Jj7 : List Item := .inBlock 3 :: Jj6
def Qea := sub [1, 1, 0, 1, 0, 0, 1, 1, 0, 0, 1, 1, 0, 0, 1, 1, 0, 0, 1] B102
def Jj8 : List Item := .code Qea :: Jj7

def Post.z2o (r : List Int) (v : Value) (w' : World) : Prop :=
 ∃ S' vsq, v = .agg vsq.toArray ∧ Ext S0 w0 S' w' ∧ Hp nz wz S' w' (Lr) ∧ Els (kInt .u64) S' w' vsq r ∧ vsq.length = 4

def L.z2p : (List Int) × (List Int) × (List (List Int)) × Int × Int → (List Int) → Prop := fun ⟨u4, x3, x7, x8, x9⟩ r => ∀ S1 w1, Ext S0 w0 S1 w1 → ∀ gx2 gx3 uec Ax7 nx7 cx7 (_ : Hp nz wz S1 w1 ((some gx2, .row 25 (U4 u4 []) 4 0) :: (some gx3, .row 25 uec 4 0) :: Lr)) (_ : u4.length = 4) (_ : Els (kInt .u64) S1 w1 uec x3) (_ : uec.length = 4) (_ : Rd (kArr 4 (kInt .u64)) S1 w1 Ax7 cx7 x7) (_ : x7.length = nx7) (junk : Nat → Value),
 Goes Tryd.prog (base 102) Jis ⟨lfr 27 [(2, (pt gx2 0)), (3, (pt gx3 0)), (7, .slice Ax7 nx7 cx7), (8, .i x8), (9, .i x9)] junk, []⟩ w1 (Done Tryd.prog 102 (Rets (Post.z2o nz wz S0 w0 Lr r)))

def L.z2q : (List Int) × (List Int) × (List Int) × (List (List Int)) × Int × Int × Int → (List Int) → Prop := fun ⟨u4, x3, x5, x7, x8, x9, x13⟩ r => ∀ S1 w1, Ext S0 w0 S1 w1 → ∀ gx2 gx3 uec gx5 ue7 Ax7 nx7 cx7 (_ : Hp nz wz S1 w1 ((some gx2, .row 25 (U4 u4 []) 4 0) :: (some gx3, .row 25 uec 4 0) :: (some gx5, .row 25 ue7 4 0) :: Lr)) (_ : u4.length = 4) (_ : Els (kInt .u64) S1 w1 uec x3) (_ : uec.length = 4) (_ : Els (kInt .u64) S1 w1 ue7 x5) (_ : ue7.length = 4) (_ : Rd (kArr 4 (kInt .u64)) S1 w1 Ax7 cx7 x7) (_ : x7.length = nx7) (junk : Nat → Value),
 Goes Tryd.prog (base 102) Jix ⟨lfr 27 [(2, (pt gx2 0)), (3, (pt gx3 0)), (5, (pt gx5 0)), (7, .slice Ax7 nx7 cx7), (8, .i x8), (9, .i x9), (13, .i x13)] junk, []⟩ w1 (Done Tryd.prog 102 (Rets (Post.z2o nz wz S0 w0 Lr r)))

theorem W.z2r {nz wz S0 w0 Lr} [Gw nz wz] : (∀ a r, M.syntax_join_l0 a = some r → (L.z2p nz wz S0 w0 Lr) a r) ∧ (∀ a r, M.syntax_join_l1 a = some r → (L.z2q nz wz S0 w0 Lr) a r) := by
 refine M.syntax_join_l0.mutual_partial_correctness (L.z2p nz wz S0 w0 Lr) (L.z2q nz wz S0 w0 Lr) ?_ ?_
 ·
  intro ued uee ⟨u4, x3, x7, x8, x9⟩ r h S1 w1 hx gx2 gx3 uec Ax7 nx7 cx7 p1 ue2 fx3 lx3 fx7 lx7 junk
  try dsimp only at h
  subst lx7
  refine Goes.rn 5 [(10, .bool (decide (x9 < x8)))] Jiz ?_
  refine ite_some h (fun h8 h => ?_) (fun h8 h => ?_)
  ·
   rw [decide_eq_true h8]
   refine Goes.rn 6 [] Jj1 ?_
   refine guard_some' h fun g9 h => ?_
   refine guard_some' h fun g10 h => ?_
   refine Op_.ixR_n 151 (.tmp 7) (.tmp 9) 11 0 25 .i64 x9 (gi x7 x9) rfl rfl fx7 Goes.v (by kernel_rfl) (by kernel_rfl) (by kernel_rfl) (by kernel_rfl) g9 g10 ?_
   intro a11 _ f12 q13
   obtain ⟨l14, f15⟩ := q13
   obtain rfl := els_lit4' f15 l14
   refine Goes.ldN 25 (.tmp 11) 12 25 a11 (U4 (gi x7 x9) []) (f12.cell) ?_
   refine Op_.alloc 25 5 0 (.agg #[.u 0, .u 0, .u 0, .u 0]) [.u 0, .u 0, .u 0, .u 0] p1 Goes.v (by kernel_rfl) (by kernel_rfl) ?_
   intro b16 w4 z4 p4
   refine Op_.st 25 (.tmp 5) (.tmp 12) 0 0 b16 0 (ag (U4 (gi x7 x9) [])) (U4 (gi x7 x9) []) p4 rfl Goes.s (by kernel_rfl) (by kernel_rfl) (by kernel_rfl) (by kernel_rfl) (Nat.zero_le _) (by simp only [List.length_cons, List.length_nil]; omega) (by simp [Value.oneCell']) ?_
   intro w5 z5 p5
   have p5 : Hp nz wz S1 w5 ((some b16, .row 25 (U4 (gi x7 x9) []) 4 0) :: (some gx2, .row 25 (U4 u4 []) 4 0) :: (some gx3, .row 25 uec 4 0) :: Lr) := p5
   refine Goes.rn 7 [(13, .i 0)] Jix ?_
   have f21 : Els (kInt .u64) S1 w5 ((U4 (gi x7 x9) []) : List Value) (gi x7 x9) := (els_mk4 (k := .u64) l14)
   have p5 := ((p5.fr 0).fr 2).fr 2
   exact Goes.jp 27 [(2, (pt gx2 0)), (3, (pt gx3 0)), (5, (pt b16 0)), (7, .slice Ax7 x7.length cx7), (8, .i x8), (9, .i x9), (13, .i 0)] (uee _ _ h _ _ ((hx.trans z4).trans z5) gx2 gx3 uec b16 ((U4 (gi x7 x9) []) : List Value) Ax7 x7.length cx7 p5 ue2 (fx3.ext (z4.trans z5)) lx3 f21 rfl (fx7.ext (z4.trans z5)) rfl)
  ·
   rw [decide_eq_false h8]
   refine Goes.rn 4 [] Jj3 ?_
   refine Op_.ldN 25 (.tmp 3) 26 25 ⟨gx3, 0, none⟩ uec Goes.v (by kernel_rfl) (by kernel_rfl) (by rw [lx3]; kernel_rfl) (At_all (p1.mem 1 rfl)) ?_
   have f22 : Els (kInt .u64) S1 w1 ((U4 u4 []) : List Value) u4 := (els_mk4 (k := .u64) ue2)
   refine Op_.stA 25 (.tmp 2) (.tmp 26) 0 0 gx2 4 uec p1 rfl rfl Goes.s (by kernel_rfl) (by kernel_rfl) (by kernel_rfl) lx3 (Els.one fx3) ?_
   intro w6 z6 p6
   refine Goes.rn 1 [] Jj2 ?_
   obtain rfl := Option.some.inj h
   have p6 := p6.dp 1
   exact Goes.ret (fn := Tryd.f102) (by kernel_rfl) (v := .agg uec.toArray) (results_n1 (fn := Tryd.f102) (a := .cell 2 25) (by kernel_rfl) (resV_cell ⟨gx2, 0, none⟩ (by kernel_rfl) (run_loadN uec (by kernel_rfl) (by rw [lx3]; kernel_rfl) (At_all (p6.mem 0 rfl))))) ⟨S1, uec, rfl, (hx.trans z6), p6.drop, (fx3.ext z6), lx3⟩
 ·
  intro uef ued ueg uee ⟨u4, x3, x5, x7, x8, x9, x13⟩ r h S1 w1 hx gx2 gx3 uec gx5 ue7 Ax7 nx7 cx7 p1 ue2 fx3 lx3 fx5 lx5 fx7 lx7 junk
  try dsimp only at h
  subst lx7
  refine Goes.rn 5 [(14, .bool (decide (x13 < 4)))] Jj5 ?_
  refine ite_some h (fun h23 h => ?_) (fun h23 h => ?_)
  ·
   rw [decide_eq_true h23]
   refine Goes.rn 9 [(15, .i x13), (6, .i x13)] Jj8 ?_
   have z7 : Ext S1 w1 S1 (w1).drew := Ext.draw
   have p7 := p1.draw
   refine Goes.drawn (s := [8]) (F := Fc S1 (w1).drew ([] ++ (rowCellsO (some gx3) uec ++ (rowCellsO (some gx5) ue7 ++ [])))) 8 9 (by kernel_rfl) (by kernel_rfl) (by kernel_rfl) (by kernel_rfl) ?_
   generalize (w1).drew = w7 at z7 p7 ⊢
   refine AnyG.pu 0 (.move (.tmp 6)) 16 3 (.i x13) (Fc.here (Cells.app trivial (Cells.app (Cells.rowO (p7.mem 1 rfl)) (Cells.app (Cells.rowO (p7.mem 2 rfl)) trivial)))) ?_
   refine guard_some' h fun g24 h => ?_
   refine AnyG.ixA_n (i := 1) (K := (kInt .u64)) 25 (.tmp 3) (.tmp 16) 17 0 23 4 .i64 x13 1 (gi x3 x13) rfl p7 rfl (fx3.ext z7) (Els.len1 (fx3.ext z7) lx3 rfl) (by kernel_rfl) (by kernel_rfl) (Fc.here (Cells.app trivial (Cells.app (Cells.rowO (p7.mem 1 rfl)) (Cells.app (Cells.rowO (p7.mem 2 rfl)) trivial)))) (by kernel_rfl) (by kernel_rfl) (by kernel_rfl) (by kernel_rfl) g24 h23 ?_
   intro _ q26 f27 f25
   obtain rfl := q26
   refine AnyG.ld1 (i := 2) 23 (.tmp 17) 18 23 ⟨gx3, (x13 : Int).toNat * (kInt .u64).size, none⟩ (.u (gi x3 x13)) (by kernel_rfl) (by kernel_rfl) (Fc.here (Cells.app trivial (Cells.app (Cells.rowO (p7.mem 1 rfl)) (Cells.app (Cells.rowO (p7.mem 2 rfl)) trivial)))) (by kernel_rfl) (by kernel_rfl) (fun _ h => h.2.right.left.rowAt (f27 0 _ rfl)) ?_
   refine AnyG.pu 3 (.move (.tmp 6)) 19 3 (.i x13) (Fc.here (Cells.app trivial (Cells.app (Cells.rowO (p7.mem 1 rfl)) (Cells.app (Cells.rowO (p7.mem 2 rfl)) trivial)))) ?_
   refine AnyG.ixA_n (i := 4) (K := (kInt .u64)) 25 (.tmp 5) (.tmp 19) 20 0 23 4 .i64 x13 2 (gi x5 x13) rfl p7 rfl (fx5.ext z7) (Els.len1 (fx5.ext z7) lx5 rfl) (by kernel_rfl) (by kernel_rfl) (Fc.here (Cells.app trivial (Cells.app (Cells.rowO (p7.mem 1 rfl)) (Cells.app (Cells.rowO (p7.mem 2 rfl)) trivial)))) (by kernel_rfl) (by kernel_rfl) (by kernel_rfl) (by kernel_rfl) g24 h23 ?_
   intro _ q29 f30 f28
   obtain rfl := q29
   refine AnyG.ld1 (i := 5) 23 (.tmp 20) 21 23 ⟨gx5, (x13 : Int).toNat * (kInt .u64).size, none⟩ (.u (gi x5 x13)) (by kernel_rfl) (by kernel_rfl) (Fc.here (Cells.app trivial (Cells.app (Cells.rowO (p7.mem 1 rfl)) (Cells.app (Cells.rowO (p7.mem 2 rfl)) trivial)))) (by kernel_rfl) (by kernel_rfl) (fun _ h => h.2.right.right.left.rowAt (f30 0 _ rfl)) ?_
   refine AnyG.pu 6 (.binOp .or 23 (.tmp 18) (.tmp 21) 23) 22 23 (.u (ior .u64 (gi x3 x13) (gi x5 x13))) (Fc.here (Cells.app trivial (Cells.app (Cells.rowO (p7.mem 1 rfl)) (Cells.app (Cells.rowO (p7.mem 2 rfl)) trivial)))) ?_
   refine AnyG.ixA_n (i := 7) (K := (kInt .u64)) 25 (.tmp 3) (.tmp 16) 23 0 23 4 .i64 x13 1 (gi x3 x13) rfl p7 rfl (fx3.ext z7) (Els.len1 (fx3.ext z7) lx3 rfl) (by kernel_rfl) (by kernel_rfl) (Fc.here (Cells.app trivial (Cells.app (Cells.rowO (p7.mem 1 rfl)) (Cells.app (Cells.rowO (p7.mem 2 rfl)) trivial)))) (by kernel_rfl) (by kernel_rfl) (by kernel_rfl) (by kernel_rfl) g24 h23 ?_
   intro _ q32 f33 f31
   obtain rfl := q32
   refine let_some h fun v34 e35 h => ?_
   refine Op_.stE_n (K := (kInt .u64)) 23 (.tmp 23) (.tmp 22) 0 1 x13 (.u (ior .u64 (gi x3 x13) (gi x5 x13))) [.u (ior .u64 (gi x3 x13) (gi x5 x13))] (ior .u64 (gi x3 x13) (gi x5 x13)) v34 4 (Els.len1 (fx3.ext z7) lx3 rfl) e35 p7 rfl (fx3.ext z7) (AnyG.ss (i := 8) (by kernel_rfl) (by kernel_rfl)) (by kernel_rfl) (by kernel_rfl) (by kernel_rfl) rfl (by kernel_rfl) g24 h23 (Nat.zero_le _) ?_
   intro w8 ueh z8 p8 f37 l38
   have l39 : ueh.length = 4 := by rw [f37.length, l38]; rfl
   refine AnyG.last [] (Fc S1 w8 []) (by decide) ?_
   refine AnyG.done (by kernel_rfl) ?_ _
   refine Goes.rn 6 [(24, .i (wr .i64 (x13 + 1))), (13, .i (wr .i64 (x13 + 1)))] Jix ?_
   exact Goes.jp 27 [(2, (pt gx2 0)), (3, (pt gx3 0)), (5, (pt gx5 0)), (7, .slice Ax7 x7.length cx7), (8, .i x8), (9, .i x9), (13, .i (wr .i64 (x13 + 1)))] (uee _ _ h _ _ ((hx.trans z7).trans z8) gx2 gx3 ueh gx5 ue7 Ax7 x7.length cx7 p8 ue2 f37 l39 (fx5.ext (z7.trans z8)) lx5 (fx7.ext (z7.trans z8)) rfl)
  ·
   rw [decide_eq_false h23]
   refine Goes.rn 8 [(25, .i (wr .i64 (x9 + 1))), (9, .i (wr .i64 (x9 + 1)))] Jis ?_
   have p1 := p1.dp 2
   exact Goes.jp 27 [(2, (pt gx2 0)), (3, (pt gx3 0)), (7, .slice Ax7 x7.length cx7), (8, .i x8), (9, .i (wr .i64 (x9 + 1)))] (ueg _ _ h _ _ hx gx2 gx3 uec Ax7 x7.length cx7 p1 ue2 fx3 lx3 fx7 rfl)

theorem W.z2p {nz wz S0 w0 Lr} [Gw nz wz] : ∀ a r, M.syntax_join_l0 a = some r → (L.z2p nz wz S0 w0 Lr) a r := (W.z2r).1

theorem W.z2q {nz wz S0 w0 Lr} [Gw nz wz] : ∀ a r, M.syntax_join_l1 a = some r → (L.z2q nz wz S0 w0 Lr) a r := (W.z2r).2

def Qeb := sub [1] B102
def Jj9 : List Item := [.code Qeb]
def Qec := sub [0] B102
def Jja : List Item := .inRegion (opsOf Qec) [0] :: Jj9
def Qed := sub [1, 1] B102
def Jjb : List Item := [.code Qed]
def Qee := sub [1, 0] B102
def Jjc : List Item := .inRegion (opsOf Qee) [0] :: Jjb

theorem W.z2o (x0 : List (List Int)) (r : List Int) (h : M.syntax_join x0 = some r) {nz wz S0 w0 Lr} [Gw nz wz] (Ax0 nx0 cx0) (p0 : Hp nz wz S0 w0 (Lr)) (fx0 : Rd (kArr 4 (kInt .u64)) S0 w0 Ax0 cx0 x0) (lx0 : x0.length = nx0) :
  Calls Tryd.prog 102 #[.slice Ax0 nx0 cx0] w0 (Rets (Post.z2o nz wz S0 w0 Lr r)) := by
 subst lx0
 refine calls_of_goes (fn := Tryd.f102) (c := B102) (by kernel_rfl) (by kernel_rfl) 26 (by kernel_rfl) ?_
 refine Goes.jp 27 [(0, .slice Ax0 x0.length cx0)] (fun junk => ?_)
 delta M.syntax_join at h
 refine Goes.rn 2 [] Jja ?_
 refine Op_.alloc 25 2 0 (.agg #[.u 0, .u 0, .u 0, .u 0]) [.u 0, .u 0, .u 0, .u 0] p0 Goes.v (by kernel_rfl) (by kernel_rfl) ?_
 intro b1 w2 z2 p2
 refine Goes.rn 3 [] Jjc ?_
 refine Op_.alloc 25 3 0 (.agg #[.u 0, .u 0, .u 0, .u 0]) [.u 0, .u 0, .u 0, .u 0] p2 Goes.v (by kernel_rfl) (by kernel_rfl) ?_
 intro b3 w3 z3 p3
 refine Goes.rn 10 [(7, .slice Ax0 x0.length cx0), (8, .i (x0.length : Int)), (9, .i 0)] Jis ?_
 have f7 : Els (kInt .u64) S0 w3 ([.u 0, .u 0, .u 0, .u 0] : List Value) [0, 0, 0, 0] := (Els.cons (K := (kInt .u64)) (vs := [.u 0]) (x := 0) rfl (Els.cons (K := (kInt .u64)) (vs := [.u 0]) (x := 0) rfl (Els.cons (K := (kInt .u64)) (vs := [.u 0]) (x := 0) rfl (Els.cons (K := (kInt .u64)) (vs := [.u 0]) (x := 0) rfl Els.nil))))
 have p3 := (p3.fr 0).fr 1
 exact Goes.jp 27 [(2, (pt b1 0)), (3, (pt b3 0)), (7, .slice Ax0 x0.length cx0), (8, .i (x0.length : Int)), (9, .i 0)] (W.z2p _ _ h _ _ (((Ext.refl S0 w0).trans z2).trans z3) b1 b3 ([.u 0, .u 0, .u 0, .u 0] : List Value) Ax0 x0.length cx0 p3 rfl f7 rfl (fx0.ext (z2.trans z3)) rfl)

def Qef := sub [1] B103
def Jjd : List Item := [.code Qef]
def Qeg := sub [0] B103
def Jje : List Item := .inRegion (opsOf Qeg) [0, 1] :: Jjd
def Qeh := sub [1, 1] B103
def Jjf : List Item := [.code Qeh]
def Qei := sub [1, 0] B103
def Jjg : List Item := .inRegion (opsOf Qei) [0] :: Jjf
def Qej := sub [1, 1, 1] B103
def Jjh : List Item := [.code Qej]
def Jji : List Item := .inBlock 0 :: Jjh
def Qek := sub [1, 1, 0, 1, 0, 1] B103
def Jjj : List Item := .code Qek :: Jji
def Jjk : List Item := .inBlock 4 :: Jjj
def Qel := sub [1, 1, 0, 1, 0, 0, 0, 1] B103
def Jjl : List Item := .code Qel :: Jjk
def Jjm : List Item := .inBlock 3 :: Jjl
def Qem := sub [1, 1, 0, 1, 0, 0, 0, 0, 0, 1] B103
def Jjn : List Item := .code Qem :: Jjm
def Jjo : List Item := .inBlock 2 :: Jjn
def Qen := sub [1, 1, 0, 1, 0, 0, 0, 0, 0, 0, 0] B103
def Jjp : List Item := .code Qen :: Jjo
def Qeo := sub [1, 1, 0, 1, 0, 0, 0, 0, 0, 0, 0, 1] B103
def Jjq : List Item := .code Qeo :: Jjo
def Jjr : List Item := .inBlock 1 :: Jjq
def Qep := sub [1, 1, 0, 1, 0, 0, 0, 0, 0, 0, 0, 0, 0, 1] B103
def Jjs : List Item := .code Qep :: Jjr
def Qeq := sub [1, 1, 0, 1, 0, 0, 0, 0, 0, 0, 0, 0, 0, 0, 1] B103
def Jjt : List Item := .code Qeq :: Jjs
def Qer := sub [1, 1, 0, 1, 0, 0, 0, 0, 0, 0, 0, 0, 0, 0, 0, 1] B103
def Jju : List Item := .code Qer :: Jjt
def Qes := sub [1, 1, 0, 1, 0, 0, 0, 0, 0, 1, 1] B103
def Jjv : List Item := .code Qes :: Jjm
def Qet := sub [1, 1, 0, 1, 0, 0, 0, 0, 0, 1, 0] B103
def Jjw : List Item := .code Qet :: Jjv
def Qeu := sub [1, 1, 1, 1] B103
def Jjx : List Item := [.code Qeu]
def Qev := sub [1, 1, 1, 0, 1] B103
def Jjy : List Item := .code Qev :: Jjx
def Qew := sub [1, 1, 1, 0, 1, 0] B103
def Jjz : List Item := .inRegion (opsOf Qew) [0, 1, 2] :: Jjx
def Qex := sub [1, 1, 1, 1, 1] B103
def Jk0 : List Item := [.code Qex]
def Qey := sub [1, 1, 1, 1, 0] B103
def Jk1 : List Item := .inRegion (opsOf Qey) [0, 1, 2] :: Jk0
def Qez := sub [1, 1, 0, 1, 0, 0, 0, 0, 0, 0, 0, 0, 0, 0, 1, 1] B103
def Jk2 : List Item := .code Qez :: Jjs
def Qf0 := sub [1, 1, 0, 1, 0, 0, 0, 0, 0, 0, 0, 0, 0, 0, 1, 0, 1] B103
def Jk3 : List Item := .code Qf0 :: Jk2
def Qf1 := sub [1, 1, 0, 1, 0, 0, 0, 0, 0, 0, 0, 0, 0, 0, 1, 1, 1] B103
def Jk4 : List Item := .code Qf1 :: Jjs
def Qf2 := sub [1, 1, 0, 1, 0, 0, 0, 1, 1] B103
def Jk5 : List Item := .code Qf2 :: Jjk
def Qf3 := sub [1, 1, 0, 1, 0, 0, 0, 1, 0] B103
def Jk6 : List Item := .inRegion (opsOf Qf3) [0, 1, 2, 3, 4, 5] :: Jk5
def Qf4 := sub [1, 1, 0, 1, 0, 1, 1] B103
def Jk7 : List Item := .code Qf4 :: Jji
def Qf5 := sub [1, 1, 0, 1, 0, 1, 0, 1] B103
def Jk8 : List Item := .code Qf5 :: Jk7
def Qf6 := sub [1, 1, 0, 1, 0, 1, 0, 0] B103
def Jk9 : List Item := .inRegion (opsOf Qf6) [0, 1, 2] :: Jk8

def Post.z2s (r : (List Int) × Bool) (v : Value) (w' : World) : Prop :=
 ∃ S' uei, v = .tuple #[.agg uei.toArray, .bool r.2] ∧ Ext S0 w0 S' w' ∧ Hp nz wz S' w' (Lr) ∧ Els (kInt .u64) S' w' uei r.1 ∧ uei.length = 4

theorem W.z2s (x0 : Int) (r : (List Int) × Bool) (h : M.syntax_class x0 = some r) {nz wz S0 w0 Lr} [Gw nz wz] (p0 : Hp nz wz S0 w0 (Lr)) :
  Calls Tryd.prog 103 #[.int .u8 x0] w0 (Rets (Post.z2s nz wz S0 w0 Lr r)) := by
 refine calls_of_goes (fn := Tryd.f103) (c := B103) (by kernel_rfl) (by kernel_rfl) 34 (by kernel_rfl) ?_
 refine Goes.jp 35 [(0, .int .u8 x0)] (fun junk => ?_)
 delta M.syntax_class at h
 refine Goes.rn 2 [] Jje ?_
 refine Op_.alloc 25 2 0 (.agg #[.u 0, .u 0, .u 0, .u 0]) [.u 0, .u 0, .u 0, .u 0] p0 Goes.v (by kernel_rfl) (by kernel_rfl) ?_
 intro b1 w2 z2 p2
 refine Goes.rn 4 [(3, .bool false)] Jjg ?_
 refine Op_.alloc 25 4 0 (.agg #[.u 0, .u 0, .u 0, .u 0]) [.u 0, .u 0, .u 0, .u 0] p2 Goes.v (by kernel_rfl) (by kernel_rfl) ?_
 intro b3 w3 z3 p3
 refine Goes.rn 14 [(5, .int .u8 x0), (6, .int .u8 (ior .u8 x0 32))] Jjp ?_
 refine Goes.rn 9 [(8, .bool (decide (ior .u8 x0 32 = 119))), (7, .bool (decide (ior .u8 x0 32 = 119)))] Jju ?_
 refine ite_some h (fun h5 h => ?_) (fun h5 h => ?_)
 ·
  rw [decide_eq_true h5]
  refine Goes.rn 2 [] Jjq ?_
  have z4 : Ext S0 w3 S0 (w3).drew := Ext.draw
  have p4 := p3.draw
  refine Goes.drawn (s := [4, 5, 6]) (F := Fc S0 (w3).drew [(⟨b3, 0, none⟩, .u 0), (⟨b3, 1, none⟩, .u 0), (⟨b3, 2, none⟩, .u 0), (⟨b3, 3, none⟩, .u 0)]) 6 7 (by kernel_rfl) (by kernel_rfl) (by kernel_rfl) (by kernel_rfl) ?_
  generalize (w3).drew = w4 at z4 p4 ⊢
  refine AnyG.ldN (i := 0) 25 (.tmp 4) 13 25 ⟨b3, 0, none⟩ [.u 0, .u 0, .u 0, .u 0] (by kernel_rfl) (by kernel_rfl) (Fc.here (p4.cs [(0, 0, 4)])) (by kernel_rfl) (by kernel_rfl) (by kernel_rfl) (fun _ h j v hj => by match j, hj with | 0, rfl => exact h.2.at_ 0 rfl | 1, rfl => exact h.2.at_ 1 rfl | 2, rfl => exact h.2.at_ 2 rfl | 3, rfl => exact h.2.at_ 3 rfl | (j + 4), hj => simp at hj) ?_
  refine bind_some' h fun y6 e7 h => ?_
  refine Op_.call (.call { callee := .value (.func 113), args := #[(.const (.int .u8 97)), (.const (.int .u8 122))], argTypes := #[5, 5] }) 14 25 113 #[.int .u8 97, .int .u8 122] (AnyG.cs (i := 1) (by kernel_rfl) (by kernel_rfl)) (by kernel_rfl) (W.z2m 97 122 y6 e7  p4 ) ?_
  rintro _ w5 ⟨S5, uej, rfl, z5, p5, u53, uek⟩
  refine AnyG.next z5 ⟨(p5.c 0 0), (p5.c 0 1), (p5.c 0 2), (p5.c 0 3), trivial⟩ ?_
  refine bind_some' h fun y8 e9 h => ?_
  refine Op_.call (.call { callee := .value (.func 113), args := #[(.const (.int .u8 65)), (.const (.int .u8 90))], argTypes := #[5, 5] }) 15 25 113 #[.int .u8 65, .int .u8 90] (AnyG.cs (i := 2) (by kernel_rfl) (by kernel_rfl)) (by kernel_rfl) (W.z2m 65 90 y8 e9  p5 ) ?_
  rintro _ w6 ⟨S6, uel, rfl, z6, p6, uem, uen⟩
  refine AnyG.next z6 ⟨(p6.c 0 0), (p6.c 0 1), (p6.c 0 2), (p6.c 0 3), trivial⟩ ?_
  refine bind_some' h fun y10 e11 h => ?_
  refine Op_.call (.call { callee := .value (.func 90), args := #[(.const (.int .u8 95))], argTypes := #[5] }) 16 25 90 #[.int .u8 95] (AnyG.cs (i := 3) (by kernel_rfl) (by kernel_rfl)) (by kernel_rfl) (W.z2i 95 y10 e11  p6 ) ?_
  rintro _ w7 ⟨S7, ueo, rfl, z7, p7, uep, ueq⟩
  refine AnyG.next z7 ⟨(p7.c 0 0), (p7.c 0 1), (p7.c 0 2), (p7.c 0 3), trivial⟩ ?_
  have l12 := Els.len1 (u53.ext (z6.trans z7)) uek rfl
  obtain rfl := els_lit4 (u53.ext (z6.trans z7)) uek
  have l13 := Els.len1 (uem.ext z7) uen rfl
  obtain rfl := els_lit4 (uem.ext z7) uen
  have l14 := Els.len1 uep ueq rfl
  obtain rfl := els_lit4 uep ueq
  have f16 : Els (kArr 4 (kInt .u64)) S7 w7 ((.u 0 :: .u 0 :: .u 0 :: .u 0 :: U4 y6 (U4 y8 (U4 y10 []))) : List Value) [[0, 0, 0, 0], y6, y8, y10] := by exact (Els.cons (K := (kArr 4 (kInt .u64))) (vs := [.u 0, .u 0, .u 0, .u 0]) (x := [0, 0, 0, 0]) ⟨rfl, (Els.cons (K := (kInt .u64)) (vs := [.u 0]) (x := 0) rfl (Els.cons (K := (kInt .u64)) (vs := [.u 0]) (x := 0) rfl (Els.cons (K := (kInt .u64)) (vs := [.u 0]) (x := 0) rfl (Els.cons (K := (kInt .u64)) (vs := [.u 0]) (x := 0) rfl Els.nil))))⟩ (Els.cons (K := (kArr 4 (kInt .u64))) (vs := (U4 y6 [])) (x := y6) ⟨l12, els_mk4 l12⟩ (Els.cons (K := (kArr 4 (kInt .u64))) (vs := (U4 y8 [])) (x := y8) ⟨l13, els_mk4 l13⟩ (Els.cons (K := (kArr 4 (kInt .u64))) (vs := (U4 y10 [])) (x := y10) ⟨l14, els_mk4 l14⟩ Els.nil))))
  refine Op_.made (.buildSlice 151 4 #[(0, (.tmp 13)), (1, (.tmp 14)), (2, (.tmp 15)), (3, (.tmp 16))]) 17 151 (fun b => .slice (Gp (some b)) 4 4) 25 ((.u 0 :: .u 0 :: .u 0 :: .u 0 :: U4 y6 (U4 y8 (U4 y10 []))) : List Value) p7 (AnyG.vs (i := 4) (by kernel_rfl) (by kernel_rfl)) (by kernel_rfl) ?_
  intro b15 w8 z8 p8
  have p8 : Hp nz wz S7 w8 (((some b15), .row 25 ((.u 0 :: .u 0 :: .u 0 :: .u 0 :: U4 y6 (U4 y8 (U4 y10 []))) : List Value) (4 * (kArr 4 (kInt .u64)).size) 0) :: (some b3, .row 25 [.u 0, .u 0, .u 0, .u 0] 4 0) :: (some b1, .row 25 [.u 0, .u 0, .u 0, .u 0] 4 0) :: Lr) := p8
  refine AnyG.last [5, 6] (Fc S7 w8 []) (by decide) ?_
  obtain ⟨S9, z9, p9, f18⟩ := p8.freezeRd 0 rfl (f16.ext z8) (by decide)
  refine AnyG.refz z9 ?_
  refine bind_some' h fun y19 e20 h => ?_
  refine Op_.call (kc 102 [17] #[151]) 18 25 102 #[.slice (Gp (some b15)) 4 4] (AnyG.cs (i := 5) (by kernel_rfl) (by kernel_rfl)) (by kernel_rfl) (W.z2o [[0, 0, 0, 0], y6, y8, y10] y19 e20 (Gp (some b15)) 4 4 p9 f18 rfl) ?_
  rintro _ w10 ⟨S10, uer, rfl, z10, p10, ues, uet⟩
  refine AnyG.last [6] (Fc S10 w10 []) (by decide) ?_
  have f21 : Els (kInt .u64) S10 w10 ([.u 0, .u 0, .u 0, .u 0] : List Value) [0, 0, 0, 0] := (Els.cons (K := (kInt .u64)) (vs := [.u 0]) (x := 0) rfl (Els.cons (K := (kInt .u64)) (vs := [.u 0]) (x := 0) rfl (Els.cons (K := (kInt .u64)) (vs := [.u 0]) (x := 0) rfl (Els.cons (K := (kInt .u64)) (vs := [.u 0]) (x := 0) rfl Els.nil))))
  refine Op_.stA 25 (.tmp 4) (.tmp 18) 0 1 b3 4 uer p10 rfl rfl (AnyG.ss (i := 6) (by kernel_rfl) (by kernel_rfl)) (by kernel_rfl) (by kernel_rfl) (by kernel_rfl) uet (Els.one ues) ?_
  intro w11 z11 p11
  refine AnyG.last [] (Fc S10 w11 []) (by decide) ?_
  refine AnyG.done (by kernel_rfl) ?_ _
  have p11 := p11.dp 0
  refine Goes.rn 2 [] Jjw ?_
  have z12 : Ext S10 w11 S10 (w11).drew := Ext.draw
  have p12 := p11.draw
  refine Goes.drawn (s := [2, 3, 4]) (F := Fc S10 (w11).drew ([] ++ (rowCellsO (some b3) uer ++ []))) 7 5 (by kernel_rfl) (by kernel_rfl) (by kernel_rfl) (by kernel_rfl) ?_
  generalize (w11).drew = w12 at z12 p12 ⊢
  refine AnyG.ldN (i := 0) 25 (.tmp 4) 19 25 ⟨b3, 0, none⟩ uer (by kernel_rfl) (by kernel_rfl) (Fc.here (Cells.app trivial (Cells.app (Cells.rowO (p12.mem 0 rfl)) trivial))) (by kernel_rfl) (by kernel_rfl) (by rw [uet]; kernel_rfl) (fun _ h => h.2.right.left.rowsAt (fun q v hq => by rw [Nat.zero_add]; exact hq)) ?_
  refine bind_some' h fun y22 e23 h => ?_
  refine Op_.call (.call { callee := .value (.func 113), args := #[(.const (.int .u8 48)), (.const (.int .u8 57))], argTypes := #[5, 5] }) 20 25 113 #[.int .u8 48, .int .u8 57] (AnyG.cs (i := 1) (by kernel_rfl) (by kernel_rfl)) (by kernel_rfl) (W.z2m 48 57 y22 e23  p12 ) ?_
  rintro _ w13 ⟨S13, ueu, rfl, z13, p13, uev, uew⟩
  refine AnyG.next z13 (Cells.app trivial (Cells.app (Cells.rowO (p13.mem 0 rfl)) trivial)) ?_
  have l24 := Els.len1 (ues.ext ((z11.trans z12).trans z13)) uet rfl
  obtain rfl := els_lit4 (ues.ext ((z11.trans z12).trans z13)) uet
  have l25 := Els.len1 uev uew rfl
  obtain rfl := els_lit4 uev uew
  have f27 : Els (kArr 4 (kInt .u64)) S13 w13 ((U4 y19 (U4 y22 [])) : List Value) [y19, y22] := by exact (Els.cons (K := (kArr 4 (kInt .u64))) (vs := (U4 y19 [])) (x := y19) ⟨l24, els_mk4 l24⟩ (Els.cons (K := (kArr 4 (kInt .u64))) (vs := (U4 y22 [])) (x := y22) ⟨l25, els_mk4 l25⟩ Els.nil))
  refine Op_.made (.buildSlice 151 2 #[(0, (.tmp 19)), (1, (.tmp 20))]) 21 151 (fun b => .slice (Gp (some b)) 2 2) 25 ((U4 y19 (U4 y22 [])) : List Value) p13 (AnyG.vs (i := 2) (by kernel_rfl) (by kernel_rfl)) (by kernel_rfl) ?_
  intro b26 w14 z14 p14
  have p14 : Hp nz wz S13 w14 (((some b26), .row 25 ((U4 y19 (U4 y22 [])) : List Value) (2 * (kArr 4 (kInt .u64)).size) 0) :: (some b3, .row 25 ((U4 y19 []) : List Value) 4 0) :: (some b1, .row 25 [.u 0, .u 0, .u 0, .u 0] 4 0) :: Lr) := p14
  refine AnyG.last [3, 4] (Fc S13 w14 []) (by decide) ?_
  obtain ⟨S15, z15, p15, f29⟩ := p14.freezeRd 0 rfl (f27.ext z14) (by decide)
  refine AnyG.refz z15 ?_
  refine bind_some' h fun y30 e31 h => ?_
  refine Op_.call (kc 102 [21] #[151]) 22 25 102 #[.slice (Gp (some b26)) 2 2] (AnyG.cs (i := 3) (by kernel_rfl) (by kernel_rfl)) (by kernel_rfl) (W.z2o [y19, y22] y30 e31 (Gp (some b26)) 2 2 p15 f29 rfl) ?_
  rintro _ w16 ⟨S16, uex, rfl, z16, p16, uey, uez⟩
  refine AnyG.last [4] (Fc S16 w16 []) (by decide) ?_
  refine Op_.stA 25 (.tmp 4) (.tmp 22) 0 1 b3 4 uex p16 rfl uet (AnyG.ss (i := 4) (by kernel_rfl) (by kernel_rfl)) (by kernel_rfl) (by kernel_rfl) (by kernel_rfl) uez (Els.one uey) ?_
  intro w17 z17 p17
  refine AnyG.last [] (Fc S16 w17 []) (by decide) ?_
  refine AnyG.done (by kernel_rfl) ?_ _
  have p17 := p17.dp 0
  refine Goes.rn 8 [(29, .int .u8 x0), (30, .int .u8 (iand .u8 x0 32)), (31, .bool (decide (iand .u8 x0 32 = 0)))] Jjy ?_
  refine ite_some h (fun h32 h => ?_) (fun h32 h => ?_)
  ·
   rw [decide_eq_true h32]
   refine Goes.rn 2 [] Jjz ?_
   refine Op_.ldN 25 (.tmp 4) 32 25 ⟨b3, 0, none⟩ uex Goes.v (by kernel_rfl) (by kernel_rfl) (by rw [uez]; kernel_rfl) (At_all (p17.mem 0 rfl)) ?_
   refine bind_some' h fun y33 e34 h => ?_
   refine Goes.cal (kc 89 [32] #[25]) 33 25 89 _ (W.z2j y30 y33 e34 uex p17 (uey.ext z17) uez) ?_
   rintro _ w18 ⟨S18, uf0, rfl, z18, p18, uf1, uf2⟩
   refine Op_.stA 25 (.tmp 4) (.tmp 33) 0 0 b3 4 uf0 p18 rfl uez Goes.s (by kernel_rfl) (by kernel_rfl) (by kernel_rfl) uf2 (Els.one uf1) ?_
   intro w19 z19 p19
   refine Goes.rn 3 [] Jk1 ?_
   refine Op_.ldN 25 (.tmp 4) 34 25 ⟨b3, 0, none⟩ uf0 Goes.v (by kernel_rfl) (by kernel_rfl) (by rw [uf2]; kernel_rfl) (At_all (p19.mem 0 rfl)) ?_
   have f35 : Els (kInt .u64) S18 w19 ([.u 0, .u 0, .u 0, .u 0] : List Value) [0, 0, 0, 0] := (Els.cons (K := (kInt .u64)) (vs := [.u 0]) (x := 0) rfl (Els.cons (K := (kInt .u64)) (vs := [.u 0]) (x := 0) rfl (Els.cons (K := (kInt .u64)) (vs := [.u 0]) (x := 0) rfl (Els.cons (K := (kInt .u64)) (vs := [.u 0]) (x := 0) rfl Els.nil))))
   refine Op_.stA 25 (.tmp 2) (.tmp 34) 0 1 b1 4 uf0 p19 rfl rfl Goes.s (by kernel_rfl) (by kernel_rfl) (by kernel_rfl) uf2 (Els.one (uf1.ext z19)) ?_
   intro w20 z20 p20
   refine Goes.rn 2 [(3, .bool true)] Jk0 ?_
   obtain rfl := Option.some.inj h
   have p20 := p20.dp 0
   exact Goes.ret (fn := Tryd.f103) (by kernel_rfl) (v := .tuple #[.agg uf0.toArray, .bool true]) (results_n2 (fn := Tryd.f103) (a := .cell 2 25) (b := .tmp 3) (by kernel_rfl) (resV_cell ⟨b1, 0, none⟩ (by kernel_rfl) (run_loadN uf0 (by kernel_rfl) (by rw [uf2]; kernel_rfl) (At_all (p20.mem 0 rfl)))) (resV_tmp (by kernel_rfl))) ⟨S18, uf0, rfl, ((((((((((((((((((((Ext.refl S0 w0).trans z2).trans z3).trans z4).trans z5).trans z6).trans z7).trans z8).trans z9).trans z10).trans z11).trans z12).trans z13).trans z14).trans z15).trans z16).trans z17).trans z18).trans z19).trans z20), p20.drop, (uf1.ext (z19.trans z20)), uf2⟩
  ·
   rw [decide_eq_false h32]
   refine Goes.rn 4 [] Jk1 ?_
   refine Op_.ldN 25 (.tmp 4) 34 25 ⟨b3, 0, none⟩ uex Goes.v (by kernel_rfl) (by kernel_rfl) (by rw [uez]; kernel_rfl) (At_all (p17.mem 0 rfl)) ?_
   have f36 : Els (kInt .u64) S16 w17 ([.u 0, .u 0, .u 0, .u 0] : List Value) [0, 0, 0, 0] := (Els.cons (K := (kInt .u64)) (vs := [.u 0]) (x := 0) rfl (Els.cons (K := (kInt .u64)) (vs := [.u 0]) (x := 0) rfl (Els.cons (K := (kInt .u64)) (vs := [.u 0]) (x := 0) rfl (Els.cons (K := (kInt .u64)) (vs := [.u 0]) (x := 0) rfl Els.nil))))
   refine Op_.stA 25 (.tmp 2) (.tmp 34) 0 1 b1 4 uex p17 rfl rfl Goes.s (by kernel_rfl) (by kernel_rfl) (by kernel_rfl) uez (Els.one (uey.ext z17)) ?_
   intro w21 z21 p21
   refine Goes.rn 2 [(3, .bool true)] Jk0 ?_
   obtain rfl := Option.some.inj h
   have p21 := p21.dp 0
   exact Goes.ret (fn := Tryd.f103) (by kernel_rfl) (v := .tuple #[.agg uex.toArray, .bool true]) (results_n2 (fn := Tryd.f103) (a := .cell 2 25) (b := .tmp 3) (by kernel_rfl) (resV_cell ⟨b1, 0, none⟩ (by kernel_rfl) (run_loadN uex (by kernel_rfl) (by rw [uez]; kernel_rfl) (At_all (p21.mem 0 rfl)))) (resV_tmp (by kernel_rfl))) ⟨S16, uex, rfl, ((((((((((((((((((Ext.refl S0 w0).trans z2).trans z3).trans z4).trans z5).trans z6).trans z7).trans z8).trans z9).trans z10).trans z11).trans z12).trans z13).trans z14).trans z15).trans z16).trans z17).trans z21), p21.drop, (uey.ext (z17.trans z21)), uez⟩
 ·
  rw [decide_eq_false h5]
  refine Goes.rn 8 [(10, .bool (decide (ior .u8 x0 32 = 100))), (9, .bool (decide (ior .u8 x0 32 = 100)))] Jk3 ?_
  refine ite_some h (fun h37 h => ?_) (fun h37 h => ?_)
  ·
   rw [decide_eq_true h37]
   refine Goes.rn 3 [] Jjw ?_
   have z22 : Ext S0 w3 S0 (w3).drew := Ext.draw
   have p22 := p3.draw
   refine Goes.drawn (s := [2, 3, 4]) (F := Fc S0 (w3).drew [(⟨b3, 0, none⟩, .u 0), (⟨b3, 1, none⟩, .u 0), (⟨b3, 2, none⟩, .u 0), (⟨b3, 3, none⟩, .u 0)]) 7 5 (by kernel_rfl) (by kernel_rfl) (by kernel_rfl) (by kernel_rfl) ?_
   generalize (w3).drew = w22 at z22 p22 ⊢
   refine AnyG.ldN (i := 0) 25 (.tmp 4) 19 25 ⟨b3, 0, none⟩ [.u 0, .u 0, .u 0, .u 0] (by kernel_rfl) (by kernel_rfl) (Fc.here (p22.cs [(0, 0, 4)])) (by kernel_rfl) (by kernel_rfl) (by kernel_rfl) (fun _ h j v hj => by match j, hj with | 0, rfl => exact h.2.at_ 0 rfl | 1, rfl => exact h.2.at_ 1 rfl | 2, rfl => exact h.2.at_ 2 rfl | 3, rfl => exact h.2.at_ 3 rfl | (j + 4), hj => simp at hj) ?_
   refine bind_some' h fun y38 e39 h => ?_
   refine Op_.call (.call { callee := .value (.func 113), args := #[(.const (.int .u8 48)), (.const (.int .u8 57))], argTypes := #[5, 5] }) 20 25 113 #[.int .u8 48, .int .u8 57] (AnyG.cs (i := 1) (by kernel_rfl) (by kernel_rfl)) (by kernel_rfl) (W.z2m 48 57 y38 e39  p22 ) ?_
   rintro _ w23 ⟨S23, uf3, rfl, z23, p23, uf4, uf5⟩
   refine AnyG.next z23 ⟨(p23.c 0 0), (p23.c 0 1), (p23.c 0 2), (p23.c 0 3), trivial⟩ ?_
   have l40 := Els.len1 uf4 uf5 rfl
   obtain rfl := els_lit4 uf4 uf5
   have f42 : Els (kArr 4 (kInt .u64)) S23 w23 ((.u 0 :: .u 0 :: .u 0 :: .u 0 :: U4 y38 []) : List Value) [[0, 0, 0, 0], y38] := by exact (Els.cons (K := (kArr 4 (kInt .u64))) (vs := [.u 0, .u 0, .u 0, .u 0]) (x := [0, 0, 0, 0]) ⟨rfl, (Els.cons (K := (kInt .u64)) (vs := [.u 0]) (x := 0) rfl (Els.cons (K := (kInt .u64)) (vs := [.u 0]) (x := 0) rfl (Els.cons (K := (kInt .u64)) (vs := [.u 0]) (x := 0) rfl (Els.cons (K := (kInt .u64)) (vs := [.u 0]) (x := 0) rfl Els.nil))))⟩ (Els.cons (K := (kArr 4 (kInt .u64))) (vs := (U4 y38 [])) (x := y38) ⟨l40, els_mk4 l40⟩ Els.nil))
   refine Op_.made (.buildSlice 151 2 #[(0, (.tmp 19)), (1, (.tmp 20))]) 21 151 (fun b => .slice (Gp (some b)) 2 2) 25 ((.u 0 :: .u 0 :: .u 0 :: .u 0 :: U4 y38 []) : List Value) p23 (AnyG.vs (i := 2) (by kernel_rfl) (by kernel_rfl)) (by kernel_rfl) ?_
   intro b41 w24 z24 p24
   have p24 : Hp nz wz S23 w24 (((some b41), .row 25 ((.u 0 :: .u 0 :: .u 0 :: .u 0 :: U4 y38 []) : List Value) (2 * (kArr 4 (kInt .u64)).size) 0) :: (some b3, .row 25 [.u 0, .u 0, .u 0, .u 0] 4 0) :: (some b1, .row 25 [.u 0, .u 0, .u 0, .u 0] 4 0) :: Lr) := p24
   refine AnyG.last [3, 4] (Fc S23 w24 []) (by decide) ?_
   obtain ⟨S25, z25, p25, f44⟩ := p24.freezeRd 0 rfl (f42.ext z24) (by decide)
   refine AnyG.refz z25 ?_
   refine bind_some' h fun y45 e46 h => ?_
   refine Op_.call (kc 102 [21] #[151]) 22 25 102 #[.slice (Gp (some b41)) 2 2] (AnyG.cs (i := 3) (by kernel_rfl) (by kernel_rfl)) (by kernel_rfl) (W.z2o [[0, 0, 0, 0], y38] y45 e46 (Gp (some b41)) 2 2 p25 f44 rfl) ?_
   rintro _ w26 ⟨S26, uf6, rfl, z26, p26, uf7, uf8⟩
   refine AnyG.last [4] (Fc S26 w26 []) (by decide) ?_
   have f47 : Els (kInt .u64) S26 w26 ([.u 0, .u 0, .u 0, .u 0] : List Value) [0, 0, 0, 0] := (Els.cons (K := (kInt .u64)) (vs := [.u 0]) (x := 0) rfl (Els.cons (K := (kInt .u64)) (vs := [.u 0]) (x := 0) rfl (Els.cons (K := (kInt .u64)) (vs := [.u 0]) (x := 0) rfl (Els.cons (K := (kInt .u64)) (vs := [.u 0]) (x := 0) rfl Els.nil))))
   refine Op_.stA 25 (.tmp 4) (.tmp 22) 0 1 b3 4 uf6 p26 rfl rfl (AnyG.ss (i := 4) (by kernel_rfl) (by kernel_rfl)) (by kernel_rfl) (by kernel_rfl) (by kernel_rfl) uf8 (Els.one uf7) ?_
   intro w27 z27 p27
   refine AnyG.last [] (Fc S26 w27 []) (by decide) ?_
   refine AnyG.done (by kernel_rfl) ?_ _
   have p27 := p27.dp 0
   refine Goes.rn 8 [(29, .int .u8 x0), (30, .int .u8 (iand .u8 x0 32)), (31, .bool (decide (iand .u8 x0 32 = 0)))] Jjy ?_
   refine ite_some h (fun h48 h => ?_) (fun h48 h => ?_)
   ·
    rw [decide_eq_true h48]
    refine Goes.rn 2 [] Jjz ?_
    refine Op_.ldN 25 (.tmp 4) 32 25 ⟨b3, 0, none⟩ uf6 Goes.v (by kernel_rfl) (by kernel_rfl) (by rw [uf8]; kernel_rfl) (At_all (p27.mem 0 rfl)) ?_
    refine bind_some' h fun y49 e50 h => ?_
    refine Goes.cal (kc 89 [32] #[25]) 33 25 89 _ (W.z2j y45 y49 e50 uf6 p27 (uf7.ext z27) uf8) ?_
    rintro _ w28 ⟨S28, uf9, rfl, z28, p28, ufa, ufb⟩
    refine Op_.stA 25 (.tmp 4) (.tmp 33) 0 0 b3 4 uf9 p28 rfl uf8 Goes.s (by kernel_rfl) (by kernel_rfl) (by kernel_rfl) ufb (Els.one ufa) ?_
    intro w29 z29 p29
    refine Goes.rn 3 [] Jk1 ?_
    refine Op_.ldN 25 (.tmp 4) 34 25 ⟨b3, 0, none⟩ uf9 Goes.v (by kernel_rfl) (by kernel_rfl) (by rw [ufb]; kernel_rfl) (At_all (p29.mem 0 rfl)) ?_
    have f51 : Els (kInt .u64) S28 w29 ([.u 0, .u 0, .u 0, .u 0] : List Value) [0, 0, 0, 0] := (Els.cons (K := (kInt .u64)) (vs := [.u 0]) (x := 0) rfl (Els.cons (K := (kInt .u64)) (vs := [.u 0]) (x := 0) rfl (Els.cons (K := (kInt .u64)) (vs := [.u 0]) (x := 0) rfl (Els.cons (K := (kInt .u64)) (vs := [.u 0]) (x := 0) rfl Els.nil))))
    refine Op_.stA 25 (.tmp 2) (.tmp 34) 0 1 b1 4 uf9 p29 rfl rfl Goes.s (by kernel_rfl) (by kernel_rfl) (by kernel_rfl) ufb (Els.one (ufa.ext z29)) ?_
    intro w30 z30 p30
    refine Goes.rn 2 [(3, .bool true)] Jk0 ?_
    obtain rfl := Option.some.inj h
    have p30 := p30.dp 0
    exact Goes.ret (fn := Tryd.f103) (by kernel_rfl) (v := .tuple #[.agg uf9.toArray, .bool true]) (results_n2 (fn := Tryd.f103) (a := .cell 2 25) (b := .tmp 3) (by kernel_rfl) (resV_cell ⟨b1, 0, none⟩ (by kernel_rfl) (run_loadN uf9 (by kernel_rfl) (by rw [ufb]; kernel_rfl) (At_all (p30.mem 0 rfl)))) (resV_tmp (by kernel_rfl))) ⟨S28, uf9, rfl, ((((((((((((Ext.refl S0 w0).trans z2).trans z3).trans z22).trans z23).trans z24).trans z25).trans z26).trans z27).trans z28).trans z29).trans z30), p30.drop, (ufa.ext (z29.trans z30)), ufb⟩
   ·
    rw [decide_eq_false h48]
    refine Goes.rn 4 [] Jk1 ?_
    refine Op_.ldN 25 (.tmp 4) 34 25 ⟨b3, 0, none⟩ uf6 Goes.v (by kernel_rfl) (by kernel_rfl) (by rw [uf8]; kernel_rfl) (At_all (p27.mem 0 rfl)) ?_
    have f52 : Els (kInt .u64) S26 w27 ([.u 0, .u 0, .u 0, .u 0] : List Value) [0, 0, 0, 0] := (Els.cons (K := (kInt .u64)) (vs := [.u 0]) (x := 0) rfl (Els.cons (K := (kInt .u64)) (vs := [.u 0]) (x := 0) rfl (Els.cons (K := (kInt .u64)) (vs := [.u 0]) (x := 0) rfl (Els.cons (K := (kInt .u64)) (vs := [.u 0]) (x := 0) rfl Els.nil))))
    refine Op_.stA 25 (.tmp 2) (.tmp 34) 0 1 b1 4 uf6 p27 rfl rfl Goes.s (by kernel_rfl) (by kernel_rfl) (by kernel_rfl) uf8 (Els.one (uf7.ext z27)) ?_
    intro w31 z31 p31
    refine Goes.rn 2 [(3, .bool true)] Jk0 ?_
    obtain rfl := Option.some.inj h
    have p31 := p31.dp 0
    exact Goes.ret (fn := Tryd.f103) (by kernel_rfl) (v := .tuple #[.agg uf6.toArray, .bool true]) (results_n2 (fn := Tryd.f103) (a := .cell 2 25) (b := .tmp 3) (by kernel_rfl) (resV_cell ⟨b1, 0, none⟩ (by kernel_rfl) (run_loadN uf6 (by kernel_rfl) (by rw [uf8]; kernel_rfl) (At_all (p31.mem 0 rfl)))) (resV_tmp (by kernel_rfl))) ⟨S26, uf6, rfl, ((((((((((Ext.refl S0 w0).trans z2).trans z3).trans z22).trans z23).trans z24).trans z25).trans z26).trans z27).trans z31), p31.drop, (uf7.ext (z27.trans z31)), uf8⟩
  ·
   rw [decide_eq_false h37]
   refine Goes.rn 7 [(12, .bool (decide (ior .u8 x0 32 = 115))), (11, .bool (decide (ior .u8 x0 32 = 115)))] Jk4 ?_
   refine ite_some h (fun h53 h => ?_) (fun h53 h => ?_)
   ·
    rw [decide_eq_true h53]
    refine Goes.rn 4 [] Jk6 ?_
    refine bind_some' h fun y54 e55 h => ?_
    refine Goes.cal (.call { callee := .value (.func 113), args := #[(.const (.int .u8 9)), (.const (.int .u8 10))], argTypes := #[5, 5] }) 23 25 113 _ (W.z2m 9 10 y54 e55  p3 ) ?_
    rintro _ w32 ⟨S32, ufc, rfl, z32, p32, ufd, ufe⟩
    refine bind_some' h fun y56 e57 h => ?_
    refine Goes.cal (.call { callee := .value (.func 113), args := #[(.const (.int .u8 12)), (.const (.int .u8 13))], argTypes := #[5, 5] }) 24 25 113 _ (W.z2m 12 13 y56 e57  p32 ) ?_
    rintro _ w33 ⟨S33, uff, rfl, z33, p33, ufg, ufh⟩
    refine bind_some' h fun y58 e59 h => ?_
    refine Goes.cal (.call { callee := .value (.func 90), args := #[(.const (.int .u8 32))], argTypes := #[5] }) 25 25 90 _ (W.z2i 32 y58 e59  p33 ) ?_
    rintro _ w34 ⟨S34, ufi, rfl, z34, p34, ufj, ufk⟩
    have l60 := Els.len1 (ufd.ext (z33.trans z34)) ufe rfl
    obtain rfl := els_lit4 (ufd.ext (z33.trans z34)) ufe
    have l61 := Els.len1 (ufg.ext z34) ufh rfl
    obtain rfl := els_lit4 (ufg.ext z34) ufh
    have l62 := Els.len1 ufj ufk rfl
    obtain rfl := els_lit4 ufj ufk
    have f64 : Els (kArr 4 (kInt .u64)) S34 w34 ((U4 y54 (U4 y56 (U4 y58 []))) : List Value) [y54, y56, y58] := by exact (Els.cons (K := (kArr 4 (kInt .u64))) (vs := (U4 y54 [])) (x := y54) ⟨l60, els_mk4 l60⟩ (Els.cons (K := (kArr 4 (kInt .u64))) (vs := (U4 y56 [])) (x := y56) ⟨l61, els_mk4 l61⟩ (Els.cons (K := (kArr 4 (kInt .u64))) (vs := (U4 y58 [])) (x := y58) ⟨l62, els_mk4 l62⟩ Els.nil)))
    refine Op_.made (.buildSlice 151 3 #[(0, (.tmp 23)), (1, (.tmp 24)), (2, (.tmp 25))]) 26 151 (fun b => .slice (Gp (some b)) 3 3) 25 ((U4 y54 (U4 y56 (U4 y58 []))) : List Value) p34 Goes.v (by kernel_rfl) ?_
    intro b63 w35 z35 p35
    have p35 : Hp nz wz S34 w35 (((some b63), .row 25 ((U4 y54 (U4 y56 (U4 y58 []))) : List Value) (3 * (kArr 4 (kInt .u64)).size) 0) :: (some b3, .row 25 [.u 0, .u 0, .u 0, .u 0] 4 0) :: (some b1, .row 25 [.u 0, .u 0, .u 0, .u 0] 4 0) :: Lr) := p35
    obtain ⟨S36, z36, p36, f66⟩ := p35.freezeRd 0 rfl (f64.ext z35) (by decide)
    refine bind_some' h fun y67 e68 h => ?_
    refine Goes.cal (kc 102 [26] #[151]) 27 25 102 _ (W.z2o [y54, y56, y58] y67 e68 (Gp (some b63)) 3 3 p36 f66 rfl) ?_
    rintro _ w37 ⟨S37, ufl, rfl, z37, p37, ufm, ufn⟩
    have p37 := p37.dp 0
    have f69 : Els (kInt .u64) S37 w37 ([.u 0, .u 0, .u 0, .u 0] : List Value) [0, 0, 0, 0] := (Els.cons (K := (kInt .u64)) (vs := [.u 0]) (x := 0) rfl (Els.cons (K := (kInt .u64)) (vs := [.u 0]) (x := 0) rfl (Els.cons (K := (kInt .u64)) (vs := [.u 0]) (x := 0) rfl (Els.cons (K := (kInt .u64)) (vs := [.u 0]) (x := 0) rfl Els.nil))))
    refine Op_.stA 25 (.tmp 4) (.tmp 27) 0 0 b3 4 ufl p37 rfl rfl Goes.s (by kernel_rfl) (by kernel_rfl) (by kernel_rfl) ufn (Els.one ufm) ?_
    intro w38 z38 p38
    refine Goes.rn 9 [(29, .int .u8 x0), (30, .int .u8 (iand .u8 x0 32)), (31, .bool (decide (iand .u8 x0 32 = 0)))] Jjy ?_
    refine ite_some h (fun h70 h => ?_) (fun h70 h => ?_)
    ·
     rw [decide_eq_true h70]
     refine Goes.rn 2 [] Jjz ?_
     refine Op_.ldN 25 (.tmp 4) 32 25 ⟨b3, 0, none⟩ ufl Goes.v (by kernel_rfl) (by kernel_rfl) (by rw [ufn]; kernel_rfl) (At_all (p38.mem 0 rfl)) ?_
     refine bind_some' h fun y71 e72 h => ?_
     refine Goes.cal (kc 89 [32] #[25]) 33 25 89 _ (W.z2j y67 y71 e72 ufl p38 (ufm.ext z38) ufn) ?_
     rintro _ w39 ⟨S39, ufo, rfl, z39, p39, ufp, ufq⟩
     refine Op_.stA 25 (.tmp 4) (.tmp 33) 0 0 b3 4 ufo p39 rfl ufn Goes.s (by kernel_rfl) (by kernel_rfl) (by kernel_rfl) ufq (Els.one ufp) ?_
     intro w40 z40 p40
     refine Goes.rn 3 [] Jk1 ?_
     refine Op_.ldN 25 (.tmp 4) 34 25 ⟨b3, 0, none⟩ ufo Goes.v (by kernel_rfl) (by kernel_rfl) (by rw [ufq]; kernel_rfl) (At_all (p40.mem 0 rfl)) ?_
     have f73 : Els (kInt .u64) S39 w40 ([.u 0, .u 0, .u 0, .u 0] : List Value) [0, 0, 0, 0] := (Els.cons (K := (kInt .u64)) (vs := [.u 0]) (x := 0) rfl (Els.cons (K := (kInt .u64)) (vs := [.u 0]) (x := 0) rfl (Els.cons (K := (kInt .u64)) (vs := [.u 0]) (x := 0) rfl (Els.cons (K := (kInt .u64)) (vs := [.u 0]) (x := 0) rfl Els.nil))))
     refine Op_.stA 25 (.tmp 2) (.tmp 34) 0 1 b1 4 ufo p40 rfl rfl Goes.s (by kernel_rfl) (by kernel_rfl) (by kernel_rfl) ufq (Els.one (ufp.ext z40)) ?_
     intro w41 z41 p41
     refine Goes.rn 2 [(3, .bool true)] Jk0 ?_
     obtain rfl := Option.some.inj h
     have p41 := p41.dp 0
     exact Goes.ret (fn := Tryd.f103) (by kernel_rfl) (v := .tuple #[.agg ufo.toArray, .bool true]) (results_n2 (fn := Tryd.f103) (a := .cell 2 25) (b := .tmp 3) (by kernel_rfl) (resV_cell ⟨b1, 0, none⟩ (by kernel_rfl) (run_loadN ufo (by kernel_rfl) (by rw [ufq]; kernel_rfl) (At_all (p41.mem 0 rfl)))) (resV_tmp (by kernel_rfl))) ⟨S39, ufo, rfl, (((((((((((((Ext.refl S0 w0).trans z2).trans z3).trans z32).trans z33).trans z34).trans z35).trans z36).trans z37).trans z38).trans z39).trans z40).trans z41), p41.drop, (ufp.ext (z40.trans z41)), ufq⟩
    ·
     rw [decide_eq_false h70]
     refine Goes.rn 4 [] Jk1 ?_
     refine Op_.ldN 25 (.tmp 4) 34 25 ⟨b3, 0, none⟩ ufl Goes.v (by kernel_rfl) (by kernel_rfl) (by rw [ufn]; kernel_rfl) (At_all (p38.mem 0 rfl)) ?_
     have f74 : Els (kInt .u64) S37 w38 ([.u 0, .u 0, .u 0, .u 0] : List Value) [0, 0, 0, 0] := (Els.cons (K := (kInt .u64)) (vs := [.u 0]) (x := 0) rfl (Els.cons (K := (kInt .u64)) (vs := [.u 0]) (x := 0) rfl (Els.cons (K := (kInt .u64)) (vs := [.u 0]) (x := 0) rfl (Els.cons (K := (kInt .u64)) (vs := [.u 0]) (x := 0) rfl Els.nil))))
     refine Op_.stA 25 (.tmp 2) (.tmp 34) 0 1 b1 4 ufl p38 rfl rfl Goes.s (by kernel_rfl) (by kernel_rfl) (by kernel_rfl) ufn (Els.one (ufm.ext z38)) ?_
     intro w42 z42 p42
     refine Goes.rn 2 [(3, .bool true)] Jk0 ?_
     obtain rfl := Option.some.inj h
     have p42 := p42.dp 0
     exact Goes.ret (fn := Tryd.f103) (by kernel_rfl) (v := .tuple #[.agg ufl.toArray, .bool true]) (results_n2 (fn := Tryd.f103) (a := .cell 2 25) (b := .tmp 3) (by kernel_rfl) (resV_cell ⟨b1, 0, none⟩ (by kernel_rfl) (run_loadN ufl (by kernel_rfl) (by rw [ufn]; kernel_rfl) (At_all (p42.mem 0 rfl)))) (resV_tmp (by kernel_rfl))) ⟨S37, ufl, rfl, (((((((((((Ext.refl S0 w0).trans z2).trans z3).trans z32).trans z33).trans z34).trans z35).trans z36).trans z37).trans z38).trans z42), p42.drop, (ufm.ext (z38.trans z42)), ufn⟩
   ·
    rw [decide_eq_false h53]
    refine Goes.rn 6 [] Jk9 ?_
    refine Goes.ldN 25 (.tmp 4) 28 25 ⟨b3, 0, none⟩ [.u 0, .u 0, .u 0, .u 0] (p3.pa 0 0) ?_
    refine Op_.st 25 (.tmp 2) (.tmp 28) 0 1 b1 0 (.agg #[.u 0, .u 0, .u 0, .u 0]) [.u 0, .u 0, .u 0, .u 0] p3 rfl Goes.s (by kernel_rfl) (by kernel_rfl) (by kernel_rfl) (by kernel_rfl) (Nat.zero_le _) (by simp only [List.length_cons, List.length_nil]; omega) (by simp [Value.oneCell']) ?_
    intro w43 z43 p43
    have p43 : Hp nz wz S0 w43 ((some b3, .row 25 [.u 0, .u 0, .u 0, .u 0] 4 0) :: (some b1, .row 25 [.u 0, .u 0, .u 0, .u 0] 4 0) :: Lr) := p43
    refine Goes.rn 2 [(3, .bool false)] Jk8 ?_
    obtain rfl := Option.some.inj h
    have p43 := p43.dp 0
    exact Goes.ret (fn := Tryd.f103) (by kernel_rfl) (v := .tuple #[.agg #[.u 0, .u 0, .u 0, .u 0], .bool false]) (results_n2 (fn := Tryd.f103) (a := .cell 2 25) (b := .tmp 3) (by kernel_rfl) (resV_cell ⟨b1, 0, none⟩ (by kernel_rfl) (run_loadN [.u 0, .u 0, .u 0, .u 0] (by kernel_rfl) (by kernel_rfl) (p43.pa 0 0))) (resV_tmp (by kernel_rfl))) ⟨S0, ([.u 0, .u 0, .u 0, .u 0] : List Value), rfl, ((((Ext.refl S0 w0).trans z2).trans z3).trans z43), p43.drop, (show Els (kInt .u64) S0 w43 ([.u 0, .u 0, .u 0, .u 0] : List Value) _ from (Els.cons (K := (kInt .u64)) (vs := [.u 0]) (x := 0) rfl (Els.cons (K := (kInt .u64)) (vs := [.u 0]) (x := 0) rfl (Els.cons (K := (kInt .u64)) (vs := [.u 0]) (x := 0) rfl (Els.cons (K := (kInt .u64)) (vs := [.u 0]) (x := 0) rfl Els.nil))))), rfl⟩

def Qf7 := sub [1, 1] B121
def Jka : List Item := [.code Qf7]
def Qf8 := sub [1, 0, 1] B121
def Jkb : List Item := .code Qf8 :: Jka
def Qf9 := sub [1, 0, 0] B121
def Jkc : List Item := .inRegion (opsOf Qf9) [3, 4, 5] :: Jkb
def Qfa := sub [1, 0, 1, 0, 1] B121
def Jkd : List Item := .code Qfa :: Jka
def Qfb := sub [1, 1, 1] B121
def Jke : List Item := [.code Qfb]

def Post.z2t (r : Int) (v : Value) (w' : World) : Prop :=
 ∃ S', v = .int .u8 r ∧ Ext S0 w0 S' w' ∧ Hp nz wz S' w' (Lr)

theorem W.z2t (x0 : Int) (r : Int) (h : M.syntax_lower x0 = some r) {nz wz S0 w0 Lr} [Gw nz wz] (p0 : Hp nz wz S0 w0 (Lr)) :
  Calls Tryd.prog 121 #[.int .u8 x0] w0 (Rets (Post.z2t nz wz S0 w0 Lr r)) := by
 refine calls_of_goes (fn := Tryd.f121) (c := B121) (by kernel_rfl) (by kernel_rfl) 12 (by kernel_rfl) ?_
 refine Goes.jp 13 [(0, .int .u8 x0)] (fun junk => ?_)
 delta M.syntax_lower at h
 refine Goes.rn 10 [(2, .int .u8 0), (3, .int .u8 x0), (4, .bool (decide (x0 ≥ 65))), (5, .bool (decide (x0 ≥ 65)))] Jkc ?_
 refine ite_some h (fun h1 h => ?_) (fun h1 h => ?_)
 ·
  rw [decide_eq_true h1]
  refine Goes.rn 4 [(6, .int .u8 x0), (7, .bool (decide (x0 ≤ 70))), (8, .bool (decide (x0 ≤ 70)))] Jkb ?_
  refine ite_some h (fun h2 h => ?_) (fun h2 h => ?_)
  ·
   rw [decide_eq_true h2]
   refine Goes.rn 8 [(9, .int .u8 x0), (10, .int .u8 (wr .u8 (x0 + 97))), (11, .int .u8 (wr .u8 ((wr .u8 (x0 + 97)) - 65))), (2, .int .u8 (wr .u8 ((wr .u8 (x0 + 97)) - 65)))] Jkd ?_
   obtain rfl := Option.some.inj h
   exact Goes.rt Tryd.f121 (.int .u8 (wr .u8 ((wr .u8 (x0 + 97)) - 65))) ⟨S0, rfl, (Ext.refl S0 w0), p0⟩
  ·
   rw [decide_eq_false h2]
   refine Goes.rn 7 [(12, .int .u8 x0), (2, .int .u8 x0)] Jke ?_
   obtain rfl := Option.some.inj h
   exact Goes.rt Tryd.f121 (.int .u8 x0) ⟨S0, rfl, (Ext.refl S0 w0), p0⟩
 ·
  rw [decide_eq_false h1]
  refine Goes.rn 11 [(6, undef), (7, undef), (8, .bool false), (12, .int .u8 x0), (2, .int .u8 x0)] Jke ?_
  obtain rfl := Option.some.inj h
  exact Goes.rt Tryd.f121 (.int .u8 x0) ⟨S0, rfl, (Ext.refl S0 w0), p0⟩

def Qfc := sub [1, 1] B63
def Jkf : List Item := [.code Qfc]
def Qfd := sub [1, 0] B63
def Jkg : List Item := .inRegion (opsOf Qfd) [2, 3] :: Jkf

def Post.z2u (r : Int) (v : Value) (w' : World) : Prop :=
 ∃ S', v = .i r ∧ Ext S0 w0 S' w' ∧ Hp nz wz S' w' (Lr)

theorem W.z2u (x0 : ByteArray) (x1 : Int) (r : Int) (h : M.stringslite_IndexByte x0 x1 = some r) {nz wz S0 w0 Lr} [Gw nz wz] (p0 : Hp nz wz S0 w0 (Lr)) :
  Calls Tryd.prog 63 #[.string x0, .int .u8 x1] w0 (Rets (Post.z2u nz wz S0 w0 Lr r)) := by
 refine calls_of_goes (fn := Tryd.f63) (c := B63) (by kernel_rfl) (by kernel_rfl) 6 (by kernel_rfl) ?_
 refine Goes.jp 8 [(0, .string x0), (1, .int .u8 x1)] (fun junk => ?_)
 delta M.stringslite_IndexByte at h
 refine Goes.rn 8 [(4, .i 0), (5, .string x0), (6, .int .u8 x1)] Jkg ?_
 refine Op_.ext { callee := .value (.func 77), args := #[(.tmp 5), (.tmp 6)], argTypes := #[9, 5] } 7 3 77 #[.string x0, .int .u8 x1] Tryd.f77 Extern.BytealgIndexByte.indexByte (.i (ixB x0 x1)) Goes.v (by kernel_rfl) (by kernel_rfl) (by kernel_rfl) (by kernel_rfl) (by kernel_rfl) (by kernel_rfl) (ixB_run _ _) ?_
 refine Goes.rn 2 [(4, .i (ixB x0 x1))] Jkf ?_
 obtain rfl := Option.some.inj h
 exact Goes.rt Tryd.f63 (.i (ixB x0 x1)) ⟨S0, rfl, (Ext.refl S0 w0), p0⟩

def Qfe := sub [1, 1] B45
def Jkh : List Item := [.code Qfe]
def Qff := sub [1, 0] B45
def Jki : List Item := .inRegion (opsOf Qff) [2, 3] :: Jkh

def Post.z2v (r : Int) (v : Value) (w' : World) : Prop :=
 ∃ S', v = .i r ∧ Ext S0 w0 S' w' ∧ Hp nz wz S' w' (Lr)

theorem W.z2v (x0 : ByteArray) (x1 : Int) (r : Int) (h : M.strings_IndexByte x0 x1 = some r) {nz wz S0 w0 Lr} [Gw nz wz] (p0 : Hp nz wz S0 w0 (Lr)) :
  Calls Tryd.prog 45 #[.string x0, .int .u8 x1] w0 (Rets (Post.z2v nz wz S0 w0 Lr r)) := by
 refine calls_of_goes (fn := Tryd.f45) (c := B45) (by kernel_rfl) (by kernel_rfl) 6 (by kernel_rfl) ?_
 refine Goes.jp 8 [(0, .string x0), (1, .int .u8 x1)] (fun junk => ?_)
 delta M.strings_IndexByte at h
 refine Goes.rn 8 [(4, .i 0), (5, .string x0), (6, .int .u8 x1)] Jki ?_
 refine bind_some' h fun y1 e2 h => ?_
 refine Goes.cal (kc 63 [5, 6] #[9, 5]) 7 3 63 _ (W.z2u x0 x1 y1 e2  p0 ) ?_
 rintro _ w2 ⟨S2, rfl, z2, p2⟩
 refine Goes.rn 2 [(4, .i y1)] Jkh ?_
 obtain rfl := Option.some.inj h
 exact Goes.rt Tryd.f45 (.i y1) ⟨S2, rfl, ((Ext.refl S0 w0).trans z2), p2⟩

def Qfg := sub [1, 1] B114
def Jkj : List Item := [.code Qfg]
def Qfh := sub [1, 0] B114
def Jkk : List Item := .inRegion (opsOf Qfh) [1, 2, 3] :: Jkj

def Post.z2w (r : Int) (v : Value) (w' : World) : Prop :=
 ∃ S', v = .i r ∧ Ext S0 w0 S' w' ∧ Hp nz wz S' w' (Lr)

theorem W.z2w (x0 : Int) (r : Int) (h : M.syntax_nibble x0 = some r) {nz wz S0 w0 Lr} [Gw nz wz] (p0 : Hp nz wz S0 w0 (Lr)) :
  Calls Tryd.prog 114 #[.int .u8 x0] w0 (Rets (Post.z2w nz wz S0 w0 Lr r)) := by
 refine calls_of_goes (fn := Tryd.f114) (c := B114) (by kernel_rfl) (by kernel_rfl) 5 (by kernel_rfl) ?_
 refine Goes.jp 6 [(0, .int .u8 x0)] (fun junk => ?_)
 delta M.syntax_nibble at h
 refine Goes.rn 7 [(2, .i 0), (3, .int .u8 x0)] Jkk ?_
 refine bind_some' h fun y1 e2 h => ?_
 refine Goes.cal (kc 121 [3] #[5]) 4 5 121 _ (W.z2t x0 y1 e2  p0 ) ?_
 rintro _ w2 ⟨S2, rfl, z2, p2⟩
 refine bind_some' h fun y3 e4 h => ?_
 refine Goes.cal (.call { callee := .value (.func 45), args := #[(.const (.string ⟨#[48, 49, 50, 51, 52, 53, 54, 55, 56, 57, 97, 98, 99, 100, 101, 102]⟩)), (.tmp 4)], argTypes := #[9, 5] }) 5 3 45 _ (W.z2v (⟨#[48, 49, 50, 51, 52, 53, 54, 55, 56, 57, 97, 98, 99, 100, 101, 102]⟩ : ByteArray) y1 y3 e4  p2 ) ?_
 rintro _ w3 ⟨S3, rfl, z3, p3⟩
 refine Goes.rn 2 [(2, .i y3)] Jkj ?_
 obtain rfl := Option.some.inj h
 exact Goes.rt Tryd.f114 (.i y3) ⟨S3, rfl, (((Ext.refl S0 w0).trans z2).trans z3), p3⟩

def Qfi := sub [1, 1] B104
def Jkl : List Item := [.code Qfi]
def Qfj := sub [1, 0] B104
def Jkm : List Item := .inRegion (opsOf Qfj) [1, 2, 3] :: Jkl
def Qfk := sub [1, 1, 1] B104
def Jkn : List Item := [.code Qfk]
def Qfl := sub [1, 1, 0, 1] B104
def Jko : List Item := .code Qfl :: Jkn
def Qfm := sub [1, 1, 0, 1, 0, 1] B104
def Jkp : List Item := .code Qfm :: Jkn
def Qfn := sub [1, 1, 0, 1, 0, 0] B104
def Jkq : List Item := .inRegion (opsOf Qfn) [4, 5] :: Jkp
def Qfo := sub [1, 1, 0, 1, 0, 1, 1] B104
def Jkr : List Item := .code Qfo :: Jkn
def Qfp := sub [1, 1, 1, 1] B104
def Jks : List Item := [.code Qfp]
def Qfq := sub [1, 1, 1, 0] B104
def Jkt : List Item := .inRegion (opsOf Qfq) [3, 4, 5, 6, 7] :: Jks
def Jku : List Item := .inRegion (opsOf Qfq) [7] :: Jks
def Qfr := sub [1, 1, 1, 1, 1] B104
def Jkv : List Item := [.code Qfr]

def Post.z2x (gx0 : Nat) (r : Int × T68) (v : Value) (w' : World) : Prop :=
 ∃ S' uds, v = .int .u8 r.1 ∧ Ext S0 w0 S' w' ∧ Hp nz wz S' w' ((some gx0, .row 69 [.string r.2.s, .i r.2.at_, .i r.2.deep, uds] 4 0) :: Lr) ∧ PtO kT72 S' w' uds r.2.bad

theorem W.z2x (x0v : T68) (r : Int × T68) (h : M.syntax_parser_digit x0v = some r) {nz wz S0 w0 Lr} [Gw nz wz] (gx0 udu) (p0 : Hp nz wz S0 w0 ((some gx0, .row 69 [.string x0v.s, .i x0v.at_, .i x0v.deep, udu] 4 0) :: Lr)) (udv : PtO kT72 S0 w0 udu x0v.bad) :
  Calls Tryd.prog 104 #[(pt gx0 0)] w0 (Rets (Post.z2x nz wz S0 w0 Lr gx0 r)) := by
 refine calls_of_goes (fn := Tryd.f104) (c := B104) (by kernel_rfl) (by kernel_rfl) 23 (by kernel_rfl) ?_
 refine Goes.jp 24 [(0, (pt gx0 0))] (fun junk => ?_)
 delta M.syntax_parser_digit at h
 refine Goes.rn 7 [(2, .int .u8 0), (4, (pt gx0 0))] Jkm ?_
 refine bind_some' h fun y2 e3 h => ?_
 refine Goes.cal (kc 65 [4] #[66]) 5 5 65 _ (W.z2d x0v y2 e3 gx0 udu p0 udv) ?_
 rintro _ w2 ⟨S2, udx, rfl, z2, p2, udy⟩
 refine bind_some' h fun y4 e5 h => ?_
 refine Goes.cal (kc 114 [5] #[5]) 6 3 114 _ (W.z2w y2.1 y4 e5  p2 ) ?_
 rintro _ w3 ⟨S3, rfl, z3, p3⟩
 refine Goes.rn 8 [(3, .i y4), (7, .i y4), (8, .bool (decide (y4 < 0)))] Jko ?_
 refine ite_some h (fun h6 h => ?_) (fun h6 h => ?_)
 ·
  rw [decide_eq_true h6]
  refine Goes.rn 7 [(9, (pt gx0 0)), (10, (pt gx0 0)), (11, (pt gx0 0)), (12, (pt gx0 1))] Jkq ?_
  refine Goes.ld 3 (.tmp 12) 13 3 ⟨gx0, 1, none⟩ (.i y2.2.at_) (p3.c 0 1) ?_
  refine bind_some' h fun y7 e8 h => ?_
  refine Goes.cal (kc 31 [9, 13] #[66, 3]) 14 28 31 _ (W.z2f y2.2 y2.2.at_ y7 e8 gx0 udx p3 (udy.ext z3)) ?_
  rintro _ w4 ⟨S4, ufr, ufs, uft, ufu, rfl, z4, p4, ufv, ufw, rfl, ufx⟩
  refine Goes.rn 5 [(2, .int .u8 0)] Jkr ?_
  obtain rfl := Option.some.inj h
  exact Goes.rt Tryd.f104 (.int .u8 0) ⟨S4, ufu, rfl, ((((Ext.refl S0 w0).trans z2).trans z3).trans z4), p4, ufx⟩
 ·
  rw [decide_eq_false h6]
  refine Goes.rn 7 [(15, (pt gx0 0)), (16, (pt gx0 0)), (17, (pt gx0 1))] Jkt ?_
  refine Goes.ld 3 (.tmp 17) 18 3 ⟨gx0, 1, none⟩ (.i y2.2.at_) (p3.c 0 1) ?_
  refine Goes.rn 3 [(19, .i (wr .i64 (y2.2.at_ + 1))), (20, (pt gx0 0)), (21, (pt gx0 1))] Jku ?_
  refine Op_.st 3 (.tmp 21) (.tmp 19) 0 0 gx0 1 (.i (wr .i64 (y2.2.at_ + 1))) [.i (wr .i64 (y2.2.at_ + 1))] p3 rfl Goes.s (by kernel_rfl) (by kernel_rfl) (by kernel_rfl) (by kernel_rfl) (Nat.zero_le _) (by simp only [List.length_cons, List.length_nil]; omega) (by simp [Value.oneCell']) ?_
  intro w5 z5 p5
  have p5 : Hp nz wz S3 w5 ((some gx0, .row 69 [.string y2.2.s, .i (wr .i64 (y2.2.at_ + 1)), .i y2.2.deep, udx] 4 0) :: Lr) := p5
  refine Goes.rn 7 [(22, .i y4), (23, .int .u8 (wr .u8 y4)), (2, .int .u8 (wr .u8 y4))] Jkv ?_
  obtain rfl := Option.some.inj h
  exact Goes.rt Tryd.f104 (.int .u8 (wr .u8 y4)) ⟨S3, udx, rfl, ((((Ext.refl S0 w0).trans z2).trans z3).trans z5), p5, (udy.ext (z3.trans z5))⟩

def Qfs := sub [1] B105
def Jkw : List Item := [.code Qfs]
def Qft := sub [0] B105
def Jkx : List Item := .inRegion (opsOf Qft) [0] :: Jkw
def Qfu := sub [1, 1] B105
def Jky : List Item := [.code Qfu]
def Qfv := sub [1, 0] B105
def Jkz : List Item := .inRegion (opsOf Qfv) [1, 2, 3, 4] :: Jky
def Jl0 : List Item := .inRegion (opsOf Qfv) [3, 4] :: Jky
def Jl1 : List Item := .inRegion (opsOf Qfv) [4] :: Jky

def Post.z2y (r : T126) (v : Value) (w' : World) : Prop :=
 ∃ S', v = (ag (U4 r.set_ [.int .u8 r.b, .bool r.single])) ∧ Ext S0 w0 S' w' ∧ Hp nz wz S' w' (Lr) ∧ r.set_.length = 4

theorem W.z2y (x0 : Int) (r : T126) (h : M.syntax_of x0 = some r) {nz wz S0 w0 Lr} [Gw nz wz] (p0 : Hp nz wz S0 w0 (Lr)) :
  Calls Tryd.prog 105 #[.int .u8 x0] w0 (Rets (Post.z2y nz wz S0 w0 Lr r)) := by
 refine calls_of_goes (fn := Tryd.f105) (c := B105) (by kernel_rfl) (by kernel_rfl) 6 (by kernel_rfl) ?_
 refine Goes.jp 7 [(0, .int .u8 x0)] (fun junk => ?_)
 delta M.syntax_of at h
 refine Goes.rn 2 [] Jkx ?_
 refine Op_.alloc 127 2 0 (.agg #[.u 0, .u 0, .u 0, .u 0, .int .u8 0, .bool false]) [.u 0, .u 0, .u 0, .u 0, .int .u8 0, .bool false] p0 Goes.v (by kernel_rfl) (by kernel_rfl) ?_
 intro b1 w2 z2 p2
 refine Goes.rn 4 [(3, .int .u8 x0)] Jkz ?_
 refine bind_some' h fun y3 e4 h => ?_
 refine Goes.cal (kc 90 [3] #[5]) 4 25 90 _ (W.z2i x0 y3 e4  p2 ) ?_
 rintro _ w3 ⟨S3, ufy, rfl, z3, p3, ufz, ug0⟩
 refine Goes.rn 1 [(5, .int .u8 x0)] Jl0 ?_
 have l5 := Els.len1 ufz ug0 rfl
 obtain rfl := els_lit4 ufz ug0
 refine Goes.rn 1 [(6, (ag (U4 y3 [.int .u8 x0, .bool true])))] Jl1 ?_
 refine Op_.st 127 (.tmp 2) (.tmp 6) 0 0 b1 0 (ag (U4 y3 [.int .u8 x0, .bool true])) (U4 y3 [.int .u8 x0, .bool true]) p3 rfl Goes.s (by kernel_rfl) (by kernel_rfl) (by kernel_rfl) (by kernel_rfl) (Nat.zero_le _) (by simp only [List.length_cons, List.length_nil]; omega) (by simp [Value.oneCell']) ?_
 intro w4 z4 p4
 have p4 : Hp nz wz S3 w4 ((some b1, .row 127 (U4 y3 [.int .u8 x0, .bool true]) 6 0) :: Lr) := p4
 refine Goes.rn 1 [] Jky ?_
 obtain rfl := Option.some.inj h
 exact Goes.ret (fn := Tryd.f105) (by kernel_rfl) (v := (ag (U4 y3 [.int .u8 x0, .bool true]))) (results_n1 (fn := Tryd.f105) (a := .cell 2 127) (by kernel_rfl) (resV_cell ⟨b1, 0, none⟩ (by kernel_rfl) (run_loadN (U4 y3 [.int .u8 x0, .bool true]) (by kernel_rfl) (by kernel_rfl) (p4.pa 0 0)))) ⟨S3, rfl, ((((Ext.refl S0 w0).trans z2).trans z3).trans z4), p4.drop, l5⟩

def Qfw := sub [1, 1, 1, 1] B93
def Jl2 : List Item := [.code Qfw]
def Jl3 : List Item := .inBlock 0 :: Jl2
def Qfx := sub [1, 1, 1, 0, 0, 1, 1, 1, 1, 1, 1, 1] B93
def Jl4 : List Item := .code Qfx :: Jl3
def Qfy := sub [1, 1, 1, 0, 0, 1, 1, 1, 1, 1, 1, 1, 0, 1] B93
def Jl5 : List Item := .code Qfy :: Jl3
def Qfz := sub [1, 1, 1, 0, 0, 1, 1, 1, 1, 1, 1, 1, 0, 0] B93
def Jl6 : List Item := .inRegion (opsOf Qfz) [4, 5] :: Jl5
def Qg0 := sub [1, 1, 1, 0, 0, 1, 1, 1, 1, 1, 1, 1, 0, 1, 1] B93
def Jl7 : List Item := .code Qg0 :: Jl3
def Qg1 := sub [1, 1, 1, 0, 0, 1, 1, 1, 1, 1, 1, 1, 0, 1, 0] B93
def Jl8 : List Item := .inRegion (opsOf Qg1) [1] :: Jl7
def Qg2 := sub [1, 1, 1, 1, 1] B93
def Jl9 : List Item := [.code Qg2]
def Qg3 := sub [1, 1, 1, 1, 0] B93
def Jla : List Item := .inRegion (opsOf Qg3) [3, 4, 5, 6, 7] :: Jl9
def Jlb : List Item := .inRegion (opsOf Qg3) [7] :: Jl9
def Qg4 := sub [1, 1, 1, 1, 1, 1] B93
def Jlc : List Item := [.code Qg4]
def Qg5 := sub [1, 1, 1, 1, 1, 0] B93
def Jld : List Item := .inRegion (opsOf Qg5) [1, 2] :: Jlc

def Post.z2z (gx0 : Nat) (r : T126 × T68) (v : Value) (w' : World) : Prop :=
 ∃ S' uds, v = (ag (U4 r.1.set_ [.int .u8 r.1.b, .bool r.1.single])) ∧ Ext S0 w0 S' w' ∧ Hp nz wz S' w' ((some gx0, .row 69 [.string r.2.s, .i r.2.at_, .i r.2.deep, uds] 4 0) :: Lr) ∧ r.1.set_.length = 4 ∧ PtO kT72 S' w' uds r.2.bad

def L.z30 (gx0 : Nat) : T126 × Int × Bool × T68 → (T126 × T68) → Prop := fun ⟨x2v, x3, x66, e0v⟩ r => ∀ S1 w1, Ext S0 w0 S1 w1 → ∀ gx2 uds (_ : Hp nz wz S1 w1 ((some gx2, .row 127 (U4 x2v.set_ [.int .u8 x2v.b, .bool x2v.single]) 6 0) :: (some gx0, .row 69 [.string e0v.s, .i e0v.at_, .i e0v.deep, uds] 4 0) :: Lr)) (_ : x2v.set_.length = 4) (_ : PtO kT72 S1 w1 uds e0v.bad) (junk : Nat → Value),
 Goes Tryd.prog (base 93) Jl4 ⟨lfr 90 [(0, (pt gx0 0)), (2, (pt gx2 0)), (3, .int .u8 x3), (66, .bool x66)] junk, []⟩ w1 (Done Tryd.prog 93 (Rets (Post.z2z nz wz S0 w0 Lr gx0 r)))

theorem W.z30 {nz wz S0 w0 Lr} [Gw nz wz] (gx0 : Nat) : ∀ a r, M.syntax_parser_escape_l0 a = some r → L.z30 nz wz S0 w0 Lr gx0 a r := by
 intro ⟨x2v, x3, x66, e0v⟩ r h S1 w1 hx gx2 uds p1 ue2 udt junk
 rw [M.syntax_parser_escape_l0] at h
 try dsimp only at h
 refine ite_some h (fun h30 h => ?_) (fun h30 h => ?_)
 ·
  rw [h30]
  refine Goes.rn 7 [(74, (pt gx0 0)), (75, (pt gx0 0)), (76, (pt gx0 0)), (77, (pt gx0 1))] Jl6 ?_
  refine Goes.ld 3 (.tmp 77) 78 3 ⟨gx0, 1, none⟩ (.i e0v.at_) (p1.c 1 1) ?_
  have p1 := p1.fr 1
  refine bind_some' h fun y31 e32 h => ?_
  refine Goes.cal (kc 31 [74, 78] #[66, 3]) 79 28 31 _ (W.z2f e0v e0v.at_ y31 e32 gx0 uds p1 udt) ?_
  rintro _ w21 ⟨S21, ug1, ug2, ug3, ug4, rfl, z21, p21, ug5, ug6, rfl, ug7⟩
  refine Goes.rn 4 [(80, .agg #[.u 0, .u 0, .u 0, .u 0, .int .u8 0, .bool false])] Jl8 ?_
  refine Op_.st 127 (.tmp 2) (.tmp 80) 0 1 gx2 0 (.agg #[.u 0, .u 0, .u 0, .u 0, .int .u8 0, .bool false]) [.u 0, .u 0, .u 0, .u 0, .int .u8 0, .bool false] p21 rfl Goes.s (by kernel_rfl) (by kernel_rfl) (by kernel_rfl) (by kernel_rfl) (Nat.zero_le _) (by simp only [List.length_cons, List.length_nil]; omega) (by simp [Value.oneCell']) ?_
  intro w22 z22 p22
  have p22 : Hp nz wz S21 w22 ((some gx0, .row 69 [.string y31.2.s, .i y31.2.at_, .i y31.2.deep, ug4] 4 0) :: (some gx2, .row 127 [.u 0, .u 0, .u 0, .u 0, .int .u8 0, .bool false] 6 0) :: Lr) := p22
  refine Goes.rn 1 [] Jl7 ?_
  obtain rfl := Option.some.inj h
  have p22 := (p22.fr 0).fr 1
  exact Goes.ret (fn := Tryd.f93) (by kernel_rfl) (v := .agg #[.u 0, .u 0, .u 0, .u 0, .int .u8 0, .bool false]) (results_n1 (fn := Tryd.f93) (a := .cell 2 127) (by kernel_rfl) (resV_cell ⟨gx2, 0, none⟩ (by kernel_rfl) (run_loadN [.u 0, .u 0, .u 0, .u 0, .int .u8 0, .bool false] (by kernel_rfl) (by kernel_rfl) (p22.pa 0 0)))) ⟨S21, ug4, rfl, ((hx.trans z21).trans z22), p22.drop, rfl, (ug7.ext z22)⟩
 ·
  have ug8 : x66 = false := by simpa using h30
  rw [ug8]
  refine Goes.rn 8 [(81, (pt gx0 0)), (82, (pt gx0 0)), (83, (pt gx0 1))] Jla ?_
  refine Goes.ld 3 (.tmp 83) 84 3 ⟨gx0, 1, none⟩ (.i e0v.at_) (p1.c 1 1) ?_
  refine Goes.rn 3 [(85, .i (wr .i64 (e0v.at_ + 1))), (86, (pt gx0 0)), (87, (pt gx0 1))] Jlb ?_
  refine Op_.st 3 (.tmp 87) (.tmp 85) 0 1 gx0 1 (.i (wr .i64 (e0v.at_ + 1))) [.i (wr .i64 (e0v.at_ + 1))] p1 rfl Goes.s (by kernel_rfl) (by kernel_rfl) (by kernel_rfl) (by kernel_rfl) (Nat.zero_le _) (by simp only [List.length_cons, List.length_nil]; omega) (by simp [Value.oneCell']) ?_
  intro w23 z23 p23
  have p23 : Hp nz wz S1 w23 ((some gx2, .row 127 (U4 x2v.set_ [.int .u8 x2v.b, .bool x2v.single]) 6 0) :: (some gx0, .row 69 [.string e0v.s, .i (wr .i64 (e0v.at_ + 1)), .i e0v.deep, uds] 4 0) :: Lr) := p23
  refine Goes.rn 4 [(88, .int .u8 x3)] Jld ?_
  refine bind_some' h fun y33 e34 h => ?_
  refine Goes.cal (kc 105 [88] #[5]) 89 127 105 _ (W.z2y x3 y33 e34  p23 ) ?_
  rintro _ w24 ⟨S24, rfl, z24, p24, ug9⟩
  refine Op_.st 127 (.tmp 2) (.tmp 89) 0 0 gx2 0 (ag (U4 y33.set_ [.int .u8 y33.b, .bool y33.single])) (U4 y33.set_ [.int .u8 y33.b, .bool y33.single]) p24 rfl Goes.s (by kernel_rfl) (by kernel_rfl) (by kernel_rfl) (by kernel_rfl) (Nat.zero_le _) (by simp only [List.length_cons, List.length_nil]; omega) (by simp [Value.oneCell']) ?_
  intro w25 z25 p25
  have p25 : Hp nz wz S24 w25 ((some gx2, .row 127 (U4 y33.set_ [.int .u8 y33.b, .bool y33.single]) 6 0) :: (some gx0, .row 69 [.string e0v.s, .i (wr .i64 (e0v.at_ + 1)), .i e0v.deep, uds] 4 0) :: Lr) := p25
  refine Goes.rn 1 [] Jlc ?_
  obtain rfl := Option.some.inj h
  exact Goes.ret (fn := Tryd.f93) (by kernel_rfl) (v := (ag (U4 y33.set_ [.int .u8 y33.b, .bool y33.single]))) (results_n1 (fn := Tryd.f93) (a := .cell 2 127) (by kernel_rfl) (resV_cell ⟨gx2, 0, none⟩ (by kernel_rfl) (run_loadN (U4 y33.set_ [.int .u8 y33.b, .bool y33.single]) (by kernel_rfl) (by kernel_rfl) (p25.pa 0 0)))) ⟨S24, uds, rfl, (((hx.trans z23).trans z24).trans z25), p25.drop, ug9, (udt.ext ((z23.trans z24).trans z25))⟩

end

end Go.Gx
