import Derived.Test.YtajadnlejdpceaaProg
import Derived.Test.YtajadnlejdpceaaTlRule
import Derived.Test.YtajadnlejdpceaaTlU12
import Derived.WalkKit
set_option linter.unusedVariables false
set_option linter.unusedSimpArgs false
set_option maxRecDepth 100000
set_option maxHeartbeats 1000000
namespace Go.Proofs.Ytajadnlejdpceaa.Tw
open Go Go.TL Go.Proofs
def tab : List (Nat × TI) := [(2,⟨.int .i64,1,8,[.lit (.int .i64 0)]⟩),
  (3,⟨.int .i64,1,8,[.lit (.int .i64 0)]⟩),
  (4,⟨.bool,1,1,[.lit (.bool false)]⟩),
  (5,⟨.int .u8,1,1,[.lit (.int .u8 0)]⟩),
  (6,⟨.int .u8,1,1,[.lit (.int .u8 0)]⟩),
  (7,⟨.st [(0,1,2),(1,1,3),(2,1,4),(3,1,6)],4,24,[.lit (.int .i64 0),.lit (.int .i64 0),.lit (.bool false),.lit (.int .u8 0)]⟩),
  (8,⟨.st [(0,1,2),(1,1,3),(2,1,4),(3,1,6)],4,24,[.lit (.int .i64 0),.lit (.int .i64 0),.lit (.bool false),.lit (.int .u8 0)]⟩),
  (9,⟨.str,1,16,[.lit (.string ⟨#[]⟩)]⟩),
  (27,⟨.sl 68,1,24,[.sl true 5 []]⟩),
  (33,⟨.sl 5,1,24,[.sl true 1 []]⟩),
  (35,⟨.sl 55,1,24,[.sl true 8 []]⟩),
  (36,⟨.sl 60,1,24,[.sl true 5 []]⟩),
  (37,⟨.sl 114,1,24,[.sl true 3 []]⟩),
  (38,⟨.sl 3,1,24,[.sl true 1 []]⟩),
  (40,⟨.st [(0,1,37),(1,1,38)],2,48,[.sl true 3 [],.sl true 1 []]⟩),
  (42,⟨.st [(0,1,3),(1,1,9),(2,1,35),(3,1,36),(4,2,40),(6,1,3),(7,1,3),(8,1,3),(9,1,3),(10,1,3)],11,160,[.lit (.int .i64 0),.lit (.string ⟨#[]⟩),.sl true 8 [],.sl true 5 [],.sl true 3 [],.sl true 1 [],.lit (.int .i64 0),.lit (.int .i64 0),.lit (.int .i64 0),.lit (.int .i64 0),.lit (.int .i64 0)]⟩),
  (46,⟨.st [(0,1,3),(1,1,3),(2,1,3),(3,1,3),(4,1,3)],5,40,[.lit (.int .i64 0),.lit (.int .i64 0),.lit (.int .i64 0),.lit (.int .i64 0),.lit (.int .i64 0)]⟩),
  (55,⟨.st [(0,1,4),(1,1,3),(2,1,4),(3,5,46)],8,64,[.lit (.bool false),.lit (.int .i64 0),.lit (.bool false),.lit (.int .i64 0),.lit (.int .i64 0),.lit (.int .i64 0),.lit (.int .i64 0),.lit (.int .i64 0)]⟩),
  (60,⟨.st [(0,1,3),(1,1,3),(2,1,3),(3,1,3),(4,1,4)],5,40,[.lit (.int .i64 0),.lit (.int .i64 0),.lit (.int .i64 0),.lit (.int .i64 0),.lit (.bool false)]⟩),
  (66,⟨.st [(0,1,3),(1,1,3),(2,1,9),(3,1,38)],4,56,[.lit (.int .i64 0),.lit (.int .i64 0),.lit (.string ⟨#[]⟩),.sl true 1 []]⟩),
  (68,⟨.st [(0,1,38),(1,4,66)],5,80,[.sl true 1 [],.lit (.int .i64 0),.lit (.int .i64 0),.lit (.string ⟨#[]⟩),.sl true 1 []]⟩),
  (103,⟨.int .u64,1,8,[.lit (.int .u64 0)]⟩),
  (114,⟨.st [(0,1,3),(1,1,3),(2,1,3)],3,24,[.lit (.int .i64 0),.lit (.int .i64 0),.lit (.int .i64 0)]⟩),
  (139,⟨.st [(0,1,33),(1,1,3),(2,1,3)],3,40,[.sl true 1 [],.lit (.int .i64 0),.lit (.int .i64 0)]⟩),
  (142,⟨.sl 9,1,24,[.sl true 1 []]⟩)]
def tI (t : Nat) : TI := (lk tab t).getD ⟨.bool,1,1,[]⟩
theorem mixed : Try.prog.follows .mixedOrders = true := by kernel_rfl
theorem tOk : TOk Try.prog (lk tab) := zIj (by kernel_rfl)
instance : TC Try.prog (lk tab) := ⟨tOk⟩
structure Src where
  b : (List Int)
  i : Int
  h : Int
def Src.row (v : Src) : List CV := [.sl true 1 (v.b.map zh),.lit (.int .i64 v.i),.lit (.int .i64 v.h)]
def Src.wf (v : Src) : Prop := Zf zFA v.b ∧ zm v.i ∧ zm v.h ∧ True
theorem Src.enc : Enc Src [.sl 1 [.int .u8],.int .i64,.int .i64] Src.row Src.wf := fun cs h => by
  obtain ⟨c0,r0,rfl,k0,h⟩ := zK h
  obtain ⟨c1,r1,rfl,k1,h⟩ := zK h
  obtain ⟨c2,r2,rfl,k2,h⟩ := zK h
  obtain rfl := Zg h
  obtain ⟨x0,rfl,w0⟩ := Enc.sl zGD k0
  obtain ⟨x1,rfl,w1⟩ := zj k1
  obtain ⟨x2,rfl,w2⟩ := zj k2
  exact ⟨⟨x0,x1,x2⟩,rfl,⟨w0,w1,w2,trivial⟩⟩
theorem Src.row_mine (v : Src) : CV.mineRow (Src.row v) := zG (QT (Zi zE9 _)) (zG zN (zG zN (qA)))
structure zA where
  Id : Int
  Members : Int
  Bare : Int
def zA.row (v : zA) : List CV := [.lit (.int .i64 v.Id),.lit (.int .i64 v.Members),.lit (.int .i64 v.Bare)]
def zA.wf (v : zA) : Prop := zm v.Id ∧ zm v.Members ∧ zm v.Bare ∧ True
theorem zA.enc : Enc zA [.int .i64,.int .i64,.int .i64] zA.row zA.wf := fun cs h => by
  obtain ⟨c0,r0,rfl,k0,h⟩ := zK h
  obtain ⟨c1,r1,rfl,k1,h⟩ := zK h
  obtain ⟨c2,r2,rfl,k2,h⟩ := zK h
  obtain rfl := Zg h
  obtain ⟨x0,rfl,w0⟩ := zj k0
  obtain ⟨x1,rfl,w1⟩ := zj k1
  obtain ⟨x2,rfl,w2⟩ := zj k2
  exact ⟨⟨x0,x1,x2⟩,rfl,⟨w0,w1,w2,trivial⟩⟩
theorem zA.row_mine (v : zA) : CV.mineRow (zA.row v) := zG zN (zG zN (zG zN (qA)))
structure zD where
  Rows : (List zA)
  Pv : (List Int)
def zD.row (v : zD) : List CV := [.sl true 3 (v.Rows.map zA.row),.sl true 1 (v.Pv.map intRow)]
def zD.wf (v : zD) : Prop := Zf zA.wf v.Rows ∧ Zf zm v.Pv ∧ True
theorem zD.enc : Enc zD [.sl 3 [.int .i64,.int .i64,.int .i64],.sl 1 [.int .i64]] zD.row zD.wf := fun cs h => by
  obtain ⟨c0,r0,rfl,k0,h⟩ := zK h
  obtain ⟨c1,r1,rfl,k1,h⟩ := zK h
  obtain rfl := Zg h
  obtain ⟨x0,rfl,w0⟩ := Enc.sl zA.enc k0
  obtain ⟨x1,rfl,w1⟩ := Enc.sl zBx k1
  exact ⟨⟨x0,x1⟩,rfl,⟨w0,w1,trivial⟩⟩
theorem zD.row_mine (v : zD) : CV.mineRow (zD.row v) := zG (QT (Zi zA.row_mine _)) (zG (QT (Zi JA _)) (qA))
structure Vec where
  Root : Int
  Co : Int
  Hops : Int
  Bridge : Int
  Port : Int
def Vec.row (v : Vec) : List CV := [.lit (.int .i64 v.Root),.lit (.int .i64 v.Co),.lit (.int .i64 v.Hops),.lit (.int .i64 v.Bridge),.lit (.int .i64 v.Port)]
def Vec.wf (v : Vec) : Prop := zm v.Root ∧ zm v.Co ∧ zm v.Hops ∧ zm v.Bridge ∧ zm v.Port ∧ True
theorem Vec.enc : Enc Vec [.int .i64,.int .i64,.int .i64,.int .i64,.int .i64] Vec.row Vec.wf := fun cs h => by
  obtain ⟨c0,r0,rfl,k0,h⟩ := zK h
  obtain ⟨c1,r1,rfl,k1,h⟩ := zK h
  obtain ⟨c2,r2,rfl,k2,h⟩ := zK h
  obtain ⟨c3,r3,rfl,k3,h⟩ := zK h
  obtain ⟨c4,r4,rfl,k4,h⟩ := zK h
  obtain rfl := Zg h
  obtain ⟨x0,rfl,w0⟩ := zj k0
  obtain ⟨x1,rfl,w1⟩ := zj k1
  obtain ⟨x2,rfl,w2⟩ := zj k2
  obtain ⟨x3,rfl,w3⟩ := zj k3
  obtain ⟨x4,rfl,w4⟩ := zj k4
  exact ⟨⟨x0,x1,x2,x3,x4⟩,rfl,⟨w0,w1,w2,w3,w4,trivial⟩⟩
theorem Vec.row_mine (v : Vec) : CV.mineRow (Vec.row v) := zG zN (zG zN (zG zN (zG zN (zG zN (qA)))))
structure Pt where
  Up : Bool
  Co : Int
  Has : Bool
  Hd : Vec
def Pt.row (v : Pt) : List CV := [.lit (.bool v.Up),.lit (.int .i64 v.Co),.lit (.bool v.Has),.lit (.int .i64 v.Hd.Root),.lit (.int .i64 v.Hd.Co),.lit (.int .i64 v.Hd.Hops),.lit (.int .i64 v.Hd.Bridge),.lit (.int .i64 v.Hd.Port)]
def Pt.wf (v : Pt) : Prop := zm v.Co ∧ zm v.Hd.Root ∧ zm v.Hd.Co ∧ zm v.Hd.Hops ∧ zm v.Hd.Bridge ∧ zm v.Hd.Port ∧ True
theorem Pt.enc : Enc Pt [.bool,.int .i64,.bool,.int .i64,.int .i64,.int .i64,.int .i64,.int .i64] Pt.row Pt.wf := fun cs h => by
  obtain ⟨c0,r0,rfl,k0,h⟩ := zK h
  obtain ⟨c1,r1,rfl,k1,h⟩ := zK h
  obtain ⟨c2,r2,rfl,k2,h⟩ := zK h
  obtain ⟨c3,r3,rfl,k3,h⟩ := zK h
  obtain ⟨c4,r4,rfl,k4,h⟩ := zK h
  obtain ⟨c5,r5,rfl,k5,h⟩ := zK h
  obtain ⟨c6,r6,rfl,k6,h⟩ := zK h
  obtain ⟨c7,r7,rfl,k7,h⟩ := zK h
  obtain rfl := Zg h
  obtain ⟨x0,rfl⟩ := zAy k0
  obtain ⟨x1,rfl,w1⟩ := zj k1
  obtain ⟨x2,rfl⟩ := zAy k2
  obtain ⟨x3,rfl,w3⟩ := zj k3
  obtain ⟨x4,rfl,w4⟩ := zj k4
  obtain ⟨x5,rfl,w5⟩ := zj k5
  obtain ⟨x6,rfl,w6⟩ := zj k6
  obtain ⟨x7,rfl,w7⟩ := zj k7
  exact ⟨⟨x0,x1,x2,⟨x3,x4,x5,x6,x7⟩⟩,rfl,⟨w1,w3,w4,w5,w6,w7,trivial⟩⟩
theorem Pt.row_mine (v : Pt) : CV.mineRow (Pt.row v) := zG zN (zG zN (zG zN (zG zN (zG zN (zG zN (zG zN (zG zN (qA))))))))
structure zB where
  Tag : Int
  Mac : Int
  Port : Int
  Age : Int
  Sc : Bool
def zB.row (v : zB) : List CV := [.lit (.int .i64 v.Tag),.lit (.int .i64 v.Mac),.lit (.int .i64 v.Port),.lit (.int .i64 v.Age),.lit (.bool v.Sc)]
def zB.wf (v : zB) : Prop := zm v.Tag ∧ zm v.Mac ∧ zm v.Port ∧ zm v.Age ∧ True
theorem zB.enc : Enc zB [.int .i64,.int .i64,.int .i64,.int .i64,.bool] zB.row zB.wf := fun cs h => by
  obtain ⟨c0,r0,rfl,k0,h⟩ := zK h
  obtain ⟨c1,r1,rfl,k1,h⟩ := zK h
  obtain ⟨c2,r2,rfl,k2,h⟩ := zK h
  obtain ⟨c3,r3,rfl,k3,h⟩ := zK h
  obtain ⟨c4,r4,rfl,k4,h⟩ := zK h
  obtain rfl := Zg h
  obtain ⟨x0,rfl,w0⟩ := zj k0
  obtain ⟨x1,rfl,w1⟩ := zj k1
  obtain ⟨x2,rfl,w2⟩ := zj k2
  obtain ⟨x3,rfl,w3⟩ := zj k3
  obtain ⟨x4,rfl⟩ := zAy k4
  exact ⟨⟨x0,x1,x2,x3,x4⟩,rfl,⟨w0,w1,w2,w3,trivial⟩⟩
theorem zB.row_mine (v : zB) : CV.mineRow (zB.row v) := zG zN (zG zN (zG zN (zG zN (zG zN (qA)))))
structure zE where
  Id : Int
  Name : ByteArray
  Ps : (List Pt)
  F : (List zB)
  V : zD
  Tk : Int
  Pa : Int
  Wo : Int
  Dr : Int
  Ve : Int
def zE.row (v : zE) : List CV := [.lit (.int .i64 v.Id),.lit (.string v.Name),.sl true 8 (v.Ps.map Pt.row),.sl true 5 (v.F.map zB.row),.sl true 3 (v.V.Rows.map zA.row),.sl true 1 (v.V.Pv.map intRow),.lit (.int .i64 v.Tk),.lit (.int .i64 v.Pa),.lit (.int .i64 v.Wo),.lit (.int .i64 v.Dr),.lit (.int .i64 v.Ve)]
def zE.wf (v : zE) : Prop := zm v.Id ∧ v.Name.size ≤ maxLen ∧ Zf Pt.wf v.Ps ∧ Zf zB.wf v.F ∧ Zf zA.wf v.V.Rows ∧ Zf zm v.V.Pv ∧ zm v.Tk ∧ zm v.Pa ∧ zm v.Wo ∧ zm v.Dr ∧ zm v.Ve ∧ True
theorem zE.enc : Enc zE [.int .i64,.str,.sl 8 [.bool,.int .i64,.bool,.int .i64,.int .i64,.int .i64,.int .i64,.int .i64],.sl 5 [.int .i64,.int .i64,.int .i64,.int .i64,.bool],.sl 3 [.int .i64,.int .i64,.int .i64],.sl 1 [.int .i64],.int .i64,.int .i64,.int .i64,.int .i64,.int .i64] zE.row zE.wf := fun cs h => by
  obtain ⟨c0,r0,rfl,k0,h⟩ := zK h
  obtain ⟨c1,r1,rfl,k1,h⟩ := zK h
  obtain ⟨c2,r2,rfl,k2,h⟩ := zK h
  obtain ⟨c3,r3,rfl,k3,h⟩ := zK h
  obtain ⟨c4,r4,rfl,k4,h⟩ := zK h
  obtain ⟨c5,r5,rfl,k5,h⟩ := zK h
  obtain ⟨c6,r6,rfl,k6,h⟩ := zK h
  obtain ⟨c7,r7,rfl,k7,h⟩ := zK h
  obtain ⟨c8,r8,rfl,k8,h⟩ := zK h
  obtain ⟨c9,r9,rfl,k9,h⟩ := zK h
  obtain ⟨c10,r10,rfl,k10,h⟩ := zK h
  obtain rfl := Zg h
  obtain ⟨x0,rfl,w0⟩ := zj k0
  obtain ⟨x1,rfl,w1⟩ := zC0 k1
  obtain ⟨x2,rfl,w2⟩ := Enc.sl Pt.enc k2
  obtain ⟨x3,rfl,w3⟩ := Enc.sl zB.enc k3
  obtain ⟨x4,rfl,w4⟩ := Enc.sl zA.enc k4
  obtain ⟨x5,rfl,w5⟩ := Enc.sl zBx k5
  obtain ⟨x6,rfl,w6⟩ := zj k6
  obtain ⟨x7,rfl,w7⟩ := zj k7
  obtain ⟨x8,rfl,w8⟩ := zj k8
  obtain ⟨x9,rfl,w9⟩ := zj k9
  obtain ⟨x10,rfl,w10⟩ := zj k10
  exact ⟨⟨x0,x1,x2,x3,⟨x4,x5⟩,x6,x7,x8,x9,x10⟩,rfl,⟨w0,w1,w2,w3,w4,w5,w6,w7,w8,w9,w10,trivial⟩⟩
theorem zE.row_mine (v : zE) : CV.mineRow (zE.row v) := zG zN (zG zN (zG (QT (Zi Pt.row_mine _)) (zG (QT (Zi zB.row_mine _)) (zG (QT (Zi zA.row_mine _)) (zG (QT (Zi JA _)) (zG zN (zG zN (zG zN (zG zN (zG zN (qA)))))))))))
structure Val where
  K : Int
  N : Int
  S : ByteArray
  O : (List Int)
def Val.row (v : Val) : List CV := [.lit (.int .i64 v.K),.lit (.int .i64 v.N),.lit (.string v.S),.sl true 1 (v.O.map intRow)]
def Val.wf (v : Val) : Prop := zm v.K ∧ zm v.N ∧ v.S.size ≤ maxLen ∧ Zf zm v.O ∧ True
theorem Val.enc : Enc Val [.int .i64,.int .i64,.str,.sl 1 [.int .i64]] Val.row Val.wf := fun cs h => by
  obtain ⟨c0,r0,rfl,k0,h⟩ := zK h
  obtain ⟨c1,r1,rfl,k1,h⟩ := zK h
  obtain ⟨c2,r2,rfl,k2,h⟩ := zK h
  obtain ⟨c3,r3,rfl,k3,h⟩ := zK h
  obtain rfl := Zg h
  obtain ⟨x0,rfl,w0⟩ := zj k0
  obtain ⟨x1,rfl,w1⟩ := zj k1
  obtain ⟨x2,rfl,w2⟩ := zC0 k2
  obtain ⟨x3,rfl,w3⟩ := Enc.sl zBx k3
  exact ⟨⟨x0,x1,x2,x3⟩,rfl,⟨w0,w1,w2,w3,trivial⟩⟩
theorem Val.row_mine (v : Val) : CV.mineRow (Val.row v) := zG zN (zG zN (zG zN (zG (QT (Zi JA _)) (qA))))
structure zC where
  O : (List Int)
  V : Val
def zC.row (v : zC) : List CV := [.sl true 1 (v.O.map intRow),.lit (.int .i64 v.V.K),.lit (.int .i64 v.V.N),.lit (.string v.V.S),.sl true 1 (v.V.O.map intRow)]
def zC.wf (v : zC) : Prop := Zf zm v.O ∧ zm v.V.K ∧ zm v.V.N ∧ v.V.S.size ≤ maxLen ∧ Zf zm v.V.O ∧ True
theorem zC.enc : Enc zC [.sl 1 [.int .i64],.int .i64,.int .i64,.str,.sl 1 [.int .i64]] zC.row zC.wf := fun cs h => by
  obtain ⟨c0,r0,rfl,k0,h⟩ := zK h
  obtain ⟨c1,r1,rfl,k1,h⟩ := zK h
  obtain ⟨c2,r2,rfl,k2,h⟩ := zK h
  obtain ⟨c3,r3,rfl,k3,h⟩ := zK h
  obtain ⟨c4,r4,rfl,k4,h⟩ := zK h
  obtain rfl := Zg h
  obtain ⟨x0,rfl,w0⟩ := Enc.sl zBx k0
  obtain ⟨x1,rfl,w1⟩ := zj k1
  obtain ⟨x2,rfl,w2⟩ := zj k2
  obtain ⟨x3,rfl,w3⟩ := zC0 k3
  obtain ⟨x4,rfl,w4⟩ := Enc.sl zBx k4
  exact ⟨⟨x0,⟨x1,x2,x3,x4⟩⟩,rfl,⟨w0,w1,w2,w3,w4,trivial⟩⟩
theorem zC.row_mine (v : zC) : CV.mineRow (zC.row v) := zG (QT (Zi JA _)) (zG zN (zG zN (zG zN (zG (QT (Zi JA _)) (qA)))))
def zA2 (n : Nat) (x0 : (List Int)) : Option (Bool) :=
  (some (decide ((x0.length : Int) > 1048576)))
theorem zHU (n : Nat) (x0 : (List Int)) (r : Bool) (H : zA2 n x0 = some r) : zH Try.prog 13 [.val false [.sl false 1 (CV.frzEs (x0.map zh))]] [.val false [.lit (.bool r)]] [] := by
 refine cW Try.func13 (fun g d => sl [g 0,g 1] .ret) [.tmp 2] fun cx => ?_
 unfold zA2 at H
 refine gA 1 1 0 ?_
 refine rA 1 ?_
 refine kF x0 zh ?_
 refine uA 2 4 0 ?_
 exact te (fJ [(false,[cB (decide ((x0.length : Int) > 1048576))])] H)
def JR (n : Nat) (x0 : (List Int)) (y3 : Int) : Option (Src) :=
  (some (⟨x0,0,y3⟩ : Src))
def Zb (n : Nat) : Nat → (List Int) → Int → Int → Option ((Int) ⊕ (Src))
  | 0,_,_,_ => none
  | mo4 + 1,x0,y1,y2 => (bif (decide (y1 < (x0.length : Int))) then (bif (decide (y1 < 4000)) then ((idx x0 y1).bind fun v5 => (Zb n mo4 x0 (IntKind.wrap .i64 (y1 + 1)) (IntKind.wrap .i64 (BitVec.ofInt (IntKind.bits .i64) (IntKind.wrap .i64 ((IntKind.wrap .i64 ((IntKind.wrap .i64 (y2 * 137)) + (IntKind.wrap .i64 v5))) + 11)) &&& BitVec.ofInt (IntKind.bits .i64) 1073741823).toNat))) else (some (Sum.inl y2))) else (some (Sum.inl y2)))
def JE (n : Nat) (x0 : (List Int)) : Option (Src) :=
  ((Zb n n x0 0 (IntKind.wrap .i64 (762762 + (x0.length : Int)))).bind fun o => match o with | .inl y3 => (JR n x0 y3) | .inr r => some r)
noncomputable abbrev G47 (k : Nat) := Rg Try.f47 k
theorem zGp (n : Nat) (x0 : (List Int)) (r : Src) (H : JE n x0 = some r) : zH Try.prog 47 [.val false [.sl false 1 (CV.frzEs (x0.map zh))]] [.ptr (CV.frzRow (Src.row r))] [] := by
 refine zH.of_body_ptr tOk Try.func47 rfl (c := (.seq (G47 0) (.seq (G47 1) (.seq (.seq (G47 2) (.block 0 (.loop (.seq (.seq (G47 3) (.cond (.tmp 15) .skip (.exit 0))) (.seq (.block 1 (G47 5)) (G47 4)))))) (.seq (G47 6) .ret))))) kr (Nat.le_of_ble_eq_true kr) 2 31 rfl (CV.frzRow (Src.row r)) fun cx => ?_
 show Tr _ _ _ ⟨32,0,[sC 0 (cF 1 x0 zh)],[]⟩ _
 unfold JE at H
 refine gA 1 1 0 ?_
 refine rA 1 ?_
 refine kF x0 zh ?_
 refine uA 2 9 0 ?_
 refine tS ?_
 refine gA 1 25 0 ?_
 obtain ⟨o4,eo4,Ho4⟩ := bs H
 clear H
 refine Tr.mid (ι := Int) (fun v => ⟨32,0,[sI 3 v,sC 0 (cF 1 x0 zh)],[]⟩) (fun v => JR n x0 v = some r) ?_ ?_
 ·refine tB ?_
  refine Tr.loop (ι := Nat × (Int × Int)) (fun v => ⟨32,0,[sI 4 v.2.1,sI 3 v.2.2,sC 0 (cF 1 x0 zh)],[]⟩) (fun v => Zb n v.1 x0 v.2.1 v.2.2 = some o4) (fun v => v.1) (n,(0,(IntKind.wrap .i64 (762762 + (x0.length : Int))))) eo4 (St.sub_of [4,3,0] [] kr) ?_
  rintro ⟨mo4,y1,y2⟩ H
  have H : Zb n mo4 x0 y1 y2 = some o4 := H
  obtain _ | mo4 := mo4
  ·exact nN H
  rw [Zb] at H
  refine tS ?_
  refine rA 2 ?_
  refine kF x0 zh ?_
  refine lA 2 ?_
  refine sL 4121 0 ⟨32,0,[sB 12 (decide (y1 < (x0.length : Int))),sI 4 y1,sI 3 y2,sC 0 (cF 1 x0 zh)],[]⟩ ?_
  cases h1 : (decide (y1 < (x0.length : Int)))
  ·have H := zI h1 H
   refine uA 3 32793 0 ?_
   refine nB_ ?_
   refine Tr.exit ?_
   refine aJ ?_
   obtain rfl := si H
   have H := Ho4
   dsimp only at H
   exact jA y2 H [3,0] []
  have H := zJ h1 H
  refine uA 3 32793 0 ?_
  obtain ⟨h2,H⟩ | ⟨h2,H⟩ := bC H
  ·refine nA h2 ?_
   refine Tr.exit ?_
   refine aJ ?_
   obtain rfl := si H
   have H := Ho4
   dsimp only at H
   exact jA y2 H [3,0] []
  refine tA h2 ?_
  refine tK ?_
  refine tS ?_
  refine tB ?_
  refine Tr.at ?_
  refine lA 4 ?_
  obtain ⟨v5,ev5,H⟩ := bs H
  refine iA zh ev5 ?_
  refine uA 6 25 0 ?_
  refine eA 3 25 0 ?_
  exact jB mo4 ((IntKind.wrap .i64 (y1 + 1)),(IntKind.wrap .i64 (BitVec.ofInt (IntKind.bits .i64) (IntKind.wrap .i64 ((IntKind.wrap .i64 ((IntKind.wrap .i64 (y2 * 137)) + (IntKind.wrap .i64 v5))) + 11)) &&& BitVec.ofInt (IntKind.bits .i64) 1073741823).toNat)) H [4,3,0] []
 rintro y3 H
 have H : (JR n x0 y3) = some r := H
 unfold JR at H
 refine gA 5 4 2147483648 ?_
 refine te ?_
 obtain rfl := si H
 exact And.intro kr kr
def Zs (n : Nat) (x0 : Src) : Option (Int × Src) :=
  (bif (decide ((0 : Int) ≤ 33)) then (bif (decide ((0 : Int) ≤ 47)) then (bif (decide (x0.i < (x0.b.length : Int))) then ((idx x0.b x0.i).bind fun v3 => (some ((IntKind.wrap .i64 (BitVec.ofInt (IntKind.bits .i64) (IntKind.wrap .i64 ((IntKind.wrap .i64 (BitVec.ofInt (IntKind.bits .i64) (IntKind.wrap .i64 (BitVec.ofInt (IntKind.bits .i64) (Int.fdiv (IntKind.wrap .i64 ((IntKind.wrap .i64 (x0.h * 6364136223846793005)) + 1442695040888963407)) (2 ^ min ((33 : Int)).toNat (IntKind.bits .i64))) ^^^ BitVec.ofInt (IntKind.bits .i64) (Int.fdiv (IntKind.wrap .i64 ((IntKind.wrap .i64 (x0.h * 6364136223846793005)) + 1442695040888963407)) (2 ^ min ((47 : Int)).toNat (IntKind.bits .i64)))).toNat) &&& BitVec.ofInt (IntKind.bits .i64) 255).toNat) + (IntKind.wrap .i64 v3))) &&& BitVec.ofInt (IntKind.bits .i64) 255).toNat),(⟨x0.b,(IntKind.wrap .i64 (x0.i + 1)),(IntKind.wrap .i64 ((IntKind.wrap .i64 (x0.h * 6364136223846793005)) + 1442695040888963407))⟩ : Src)))) else (some ((IntKind.wrap .i64 (BitVec.ofInt (IntKind.bits .i64) (IntKind.wrap .i64 (BitVec.ofInt (IntKind.bits .i64) (Int.fdiv (IntKind.wrap .i64 ((IntKind.wrap .i64 (x0.h * 6364136223846793005)) + 1442695040888963407)) (2 ^ min ((33 : Int)).toNat (IntKind.bits .i64))) ^^^ BitVec.ofInt (IntKind.bits .i64) (Int.fdiv (IntKind.wrap .i64 ((IntKind.wrap .i64 (x0.h * 6364136223846793005)) + 1442695040888963407)) (2 ^ min ((47 : Int)).toNat (IntKind.bits .i64)))).toNat) &&& BitVec.ofInt (IntKind.bits .i64) 255).toNat),(⟨x0.b,x0.i,(IntKind.wrap .i64 ((IntKind.wrap .i64 (x0.h * 6364136223846793005)) + 1442695040888963407))⟩ : Src)))) else none) else none)
def zIF : Tab := ⟨13,[0,1,2,4,8,0,32,64,128,256,528,1024,4095],[0,1,2,4,8,0,32,64,128,256,528,1024,2048],[0,1,3,7,15,0,32,96,224,480,1023,2047,4095]⟩
noncomputable abbrev zGP (k : Nat) := Rg Try.f102 k
noncomputable abbrev zHM (k : Nat) := Rd Try.f102 k
theorem J5 : zq (rg Try.f102 2) zIF = true := kr
def zIG : Tab := ⟨15,[0,0,2,4,8,0,32,64,128,272,512,1024,2049,4096,16383],[0,0,2,4,8,0,32,64,128,272,512,1024,2049,4096,8193],[0,0,2,6,14,0,32,96,224,510,1022,2046,4095,8191,16383]⟩
theorem zDK : zq (rg Try.f102 4) zIG = true := kr
theorem J2 (n : Nat) (x0 : Src) (r : Int × Src) (H : Zs n x0 = some r) : zH Try.prog 102 [.ptr (CV.frzRow (Src.row x0))] [.val false [.lit (.int .i64 r.1)]] [(0,(CV.frzRow (Src.row r.2)))] := by
 refine zH.of_body tOk Try.func102 rfl (c := (.seq (zGP 0) (.seq (zGP 1) (.seq (zHM 2) (.seq (.seq (zHM 3) (.cond (.tmp 34) (.seq (zHM 4) (zGP 5)) .skip)) (.seq (zGP 6) .ret)))))) kr (Nat.le_of_ble_eq_true kr) 1 (rs := [.tmp 2]) rfl [] .nil [(false,[.lit (.int .i64 r.1)])] [] [(0,(CV.frzRow (Src.row r.2)))] fun cx => ?_
 show Tr _ _ _ ⟨58,1,[sA 0 0 3 0],[(0,(CV.frzRow (Src.row x0)))]⟩ _
 unfold Zs at H
 refine gA 1 1 1 ?_
 refine gA 10 1 1 ?_
 obtain ⟨hg1,H⟩ := gs H
 obtain ⟨hg2,H⟩ := gs H
 refine Tr.draws mixed 13 kr ⟨58,1,[sI 3 (IntKind.wrap .i64 (BitVec.ofInt (IntKind.bits .i64) (IntKind.wrap .i64 (BitVec.ofInt (IntKind.bits .i64) (Int.fdiv (IntKind.wrap .i64 ((IntKind.wrap .i64 (x0.h * 0x5851f42d4c957f2d)) + 0x14057b7ef767814f)) (2 ^ min ((33 : Int)).toNat (IntKind.bits .i64))) ^^^ BitVec.ofInt (IntKind.bits .i64) (Int.fdiv (IntKind.wrap .i64 ((IntKind.wrap .i64 (x0.h * 0x5851f42d4c957f2d)) + 0x14057b7ef767814f)) (2 ^ min ((47 : Int)).toNat (IntKind.bits .i64)))).toNat) &&& BitVec.ofInt (IntKind.bits .i64) 255).toNat),sA 0 0 3 0],[(0,[cF 1 x0.b zh,cI x0.i,cI (IntKind.wrap .i64 ((IntKind.wrap .i64 (x0.h * 0x5851f42d4c957f2d)) + 0x14057b7ef767814f))])]⟩ (fun cx => ?_) ?_
 ·refine mA J5 [(0,[]),(1,[]),(2,[]),(3,[4]),(5,[]),(6,[]),(7,[]),(8,[9])] 5 [⟨[9],3,20,21⟩,⟨[4],3,15,16⟩] fun cx => ?_
  refine mB2 tOk J5 4 9 kr (And.intro kr ?_) (And.intro kr ?_)
  ·refine LAt.binC tOk (op := .shr) (t := 3) (ty := 103) (ty' := 3) (x := (.tmp 16)) (y := (.const (.int .u64 33))) (d := 17) (g := none) (.int .i64 (IntKind.wrap .i64 ((IntKind.wrap .i64 (x0.h * 0x5851f42d4c957f2d)) + 0x14057b7ef767814f))) (.int .u64 33) (.int .i64 (Int.fdiv (IntKind.wrap .i64 ((IntKind.wrap .i64 (x0.h * 0x5851f42d4c957f2d)) + 0x14057b7ef767814f)) (2 ^ min ((33 : Int)).toNat (IntKind.bits .i64)))) _ kr kr kr kr kr (φ := (0 : Int) ≤ 33) kr (of_decide_eq_true hg1) rfl ?_
   refine fA ?_
   refine mC J5 9 ?_
   refine LAt.binC tOk (op := .shr) (t := 3) (ty := 103) (ty' := 3) (x := (.tmp 21)) (y := (.const (.int .u64 47))) (d := 22) (g := none) (.int .i64 (IntKind.wrap .i64 ((IntKind.wrap .i64 (x0.h * 0x5851f42d4c957f2d)) + 0x14057b7ef767814f))) (.int .u64 47) (.int .i64 (Int.fdiv (IntKind.wrap .i64 ((IntKind.wrap .i64 (x0.h * 0x5851f42d4c957f2d)) + 0x14057b7ef767814f)) (2 ^ min ((47 : Int)).toNat (IntKind.bits .i64)))) _ kr kr kr kr kr (φ := (0 : Int) ≤ 47) kr (of_decide_eq_true hg2) rfl ?_
   refine fA ?_
   refine mA J5 [(10,[]),(11,[]),(12,[])] 0 [⟨[9],3,20,21⟩,⟨[4],3,15,16⟩] fun cx => ?_
   exact mE J5 [3,0] [0]
  ·refine LAt.binC tOk (op := .shr) (t := 3) (ty := 103) (ty' := 3) (x := (.tmp 21)) (y := (.const (.int .u64 47))) (d := 22) (g := none) (.int .i64 (IntKind.wrap .i64 ((IntKind.wrap .i64 (x0.h * 0x5851f42d4c957f2d)) + 0x14057b7ef767814f))) (.int .u64 47) (.int .i64 (Int.fdiv (IntKind.wrap .i64 ((IntKind.wrap .i64 (x0.h * 0x5851f42d4c957f2d)) + 0x14057b7ef767814f)) (2 ^ min ((47 : Int)).toNat (IntKind.bits .i64)))) _ kr kr kr kr kr (φ := (0 : Int) ≤ 47) kr (of_decide_eq_true hg2) rfl ?_
   refine fA ?_
   refine mC J5 4 ?_
   refine LAt.binC tOk (op := .shr) (t := 3) (ty := 103) (ty' := 3) (x := (.tmp 16)) (y := (.const (.int .u64 33))) (d := 17) (g := none) (.int .i64 (IntKind.wrap .i64 ((IntKind.wrap .i64 (x0.h * 0x5851f42d4c957f2d)) + 0x14057b7ef767814f))) (.int .u64 33) (.int .i64 (Int.fdiv (IntKind.wrap .i64 ((IntKind.wrap .i64 (x0.h * 0x5851f42d4c957f2d)) + 0x14057b7ef767814f)) (2 ^ min ((33 : Int)).toNat (IntKind.bits .i64)))) _ kr kr kr kr kr (φ := (0 : Int) ≤ 33) kr (of_decide_eq_true hg1) rfl ?_
   refine fA ?_
   refine mA J5 [(10,[]),(11,[]),(12,[])] 0 [⟨[9],3,20,21⟩,⟨[4],3,15,16⟩] fun cx => ?_
   exact mE J5 [3,0] [0]
 refine tS ?_
 refine Tr.draws mixed 10 kr ⟨58,1,[sB 34 (decide (x0.i < (x0.b.length : Int))),sI 3 (IntKind.wrap .i64 (BitVec.ofInt (IntKind.bits .i64) (IntKind.wrap .i64 (BitVec.ofInt (IntKind.bits .i64) (Int.fdiv (IntKind.wrap .i64 ((IntKind.wrap .i64 (x0.h * 0x5851f42d4c957f2d)) + 0x14057b7ef767814f)) (2 ^ min ((33 : Int)).toNat (IntKind.bits .i64))) ^^^ BitVec.ofInt (IntKind.bits .i64) (Int.fdiv (IntKind.wrap .i64 ((IntKind.wrap .i64 (x0.h * 0x5851f42d4c957f2d)) + 0x14057b7ef767814f)) (2 ^ min ((47 : Int)).toNat (IntKind.bits .i64)))).toNat) &&& BitVec.ofInt (IntKind.bits .i64) 255).toNat),sA 0 0 3 0],[(0,[cF 1 x0.b zh,cI x0.i,cI (IntKind.wrap .i64 ((IntKind.wrap .i64 (x0.h * 0x5851f42d4c957f2d)) + 0x14057b7ef767814f))])]⟩ (fun cx => ?_) ?_
 ·refine aA [(0,[]),(1,[]),(2,[]),(3,[]),(4,[]),(5,[]),(6,[]),(7,[])] 2 [⟨[],33,31,32⟩,⟨[],3,27,28⟩] fun cx => ?_
  refine aL tOk 8 33 3 5 32 33 none ⟨(.box 0),[(0,0)],0,false,1,(CV.frzEs (x0.b.map zh))⟩ (x0.b).length _ kr kr kr kr kr kr kr (zGF _ _) rfl (fun cx => ?_)
  refine aA [(9,[])] 0 [⟨[],33,31,32⟩,⟨[],3,27,28⟩] fun cx => ?_
  exact eE [34,3,0] [0]
 refine sT ⟨58,1,[sB 34 (decide (x0.i < (x0.b.length : Int))),sI 3 (IntKind.wrap .i64 (BitVec.ofInt (IntKind.bits .i64) (IntKind.wrap .i64 (BitVec.ofInt (IntKind.bits .i64) (Int.fdiv (IntKind.wrap .i64 ((IntKind.wrap .i64 (x0.h * 0x5851f42d4c957f2d)) + 0x14057b7ef767814f)) (2 ^ min ((33 : Int)).toNat (IntKind.bits .i64))) ^^^ BitVec.ofInt (IntKind.bits .i64) (Int.fdiv (IntKind.wrap .i64 ((IntKind.wrap .i64 (x0.h * 0x5851f42d4c957f2d)) + 0x14057b7ef767814f)) (2 ^ min ((47 : Int)).toNat (IntKind.bits .i64)))).toNat) &&& BitVec.ofInt (IntKind.bits .i64) 255).toNat),sA 0 0 3 0],[(0,[cF 1 x0.b zh,cI x0.i,cI (IntKind.wrap .i64 ((IntKind.wrap .i64 (x0.h * 0x5851f42d4c957f2d)) + 0x14057b7ef767814f))])]⟩ ?_
 cases h1 : (decide (x0.i < (x0.b.length : Int)))
 ·have H := zI h1 H
  refine nB_ ?_
  refine tK ?_
  refine gA 2 5 1 ?_
  refine te ?_
  obtain rfl := si H
  exact Fin.ofY _ [(false,[cI (IntKind.wrap .i64 (BitVec.ofInt (IntKind.bits .i64) (IntKind.wrap .i64 (BitVec.ofInt (IntKind.bits .i64) (Int.fdiv (IntKind.wrap .i64 ((IntKind.wrap .i64 (x0.h * 0x5851f42d4c957f2d)) + 0x14057b7ef767814f)) (2 ^ min ((33 : Int)).toNat (IntKind.bits .i64))) ^^^ BitVec.ofInt (IntKind.bits .i64) (Int.fdiv (IntKind.wrap .i64 ((IntKind.wrap .i64 (x0.h * 0x5851f42d4c957f2d)) + 0x14057b7ef767814f)) (2 ^ min ((47 : Int)).toNat (IntKind.bits .i64)))).toNat) &&& BitVec.ofInt (IntKind.bits .i64) 255).toNat)])] [] _ [] _ [(0,[cF 1 x0.b zh,cI x0.i,cI (IntKind.wrap .i64 ((IntKind.wrap .i64 (x0.h * 0x5851f42d4c957f2d)) + 0x14057b7ef767814f))])] kr rfl rfl rfl kr kr kr kr rfl rfl rfl
 have H := zJ h1 H
 refine tB_ ?_
 obtain ⟨v3,ev3,H⟩ := bs H
 refine Tr.draws mixed 15 kr ⟨58,1,[sI 3 (IntKind.wrap .i64 (BitVec.ofInt (IntKind.bits .i64) (IntKind.wrap .i64 ((IntKind.wrap .i64 (BitVec.ofInt (IntKind.bits .i64) (IntKind.wrap .i64 (BitVec.ofInt (IntKind.bits .i64) (Int.fdiv (IntKind.wrap .i64 ((IntKind.wrap .i64 (x0.h * 0x5851f42d4c957f2d)) + 0x14057b7ef767814f)) (2 ^ min ((33 : Int)).toNat (IntKind.bits .i64))) ^^^ BitVec.ofInt (IntKind.bits .i64) (Int.fdiv (IntKind.wrap .i64 ((IntKind.wrap .i64 (x0.h * 0x5851f42d4c957f2d)) + 0x14057b7ef767814f)) (2 ^ min ((47 : Int)).toNat (IntKind.bits .i64)))).toNat) &&& BitVec.ofInt (IntKind.bits .i64) 255).toNat) + (IntKind.wrap .i64 v3))) &&& BitVec.ofInt (IntKind.bits .i64) 255).toNat),sA 0 0 3 0],[(0,[cF 1 x0.b zh,cI x0.i,cI (IntKind.wrap .i64 ((IntKind.wrap .i64 (x0.h * 0x5851f42d4c957f2d)) + 0x14057b7ef767814f))])]⟩ (fun cx => ?_) ?_
 ·refine mA zDK [(0,[]),(1,[]),(2,[]),(3,[]),(4,[]),(5,[]),(6,[]),(7,[]),(8,[])] 6 [⟨[],3,42,43⟩,⟨[],33,38,39⟩] fun cx => ?_
  refine iN zDK 9 zh ev3 fun cx => ?_
  refine mA zDK [(10,[]),(11,[]),(12,[]),(13,[]),(14,[])] 0 [⟨[],3,42,43⟩,⟨[],33,38,39⟩] fun cx => ?_
  exact mE zDK [3,0] [0]
 refine eA 9 9 1 ?_
 refine gA 2 5 1 ?_
 refine te ?_
 obtain rfl := si H
 exact Fin.ofY _ [(false,[cI (IntKind.wrap .i64 (BitVec.ofInt (IntKind.bits .i64) (IntKind.wrap .i64 ((IntKind.wrap .i64 (BitVec.ofInt (IntKind.bits .i64) (IntKind.wrap .i64 (BitVec.ofInt (IntKind.bits .i64) (Int.fdiv (IntKind.wrap .i64 ((IntKind.wrap .i64 (x0.h * 0x5851f42d4c957f2d)) + 0x14057b7ef767814f)) (2 ^ min ((33 : Int)).toNat (IntKind.bits .i64))) ^^^ BitVec.ofInt (IntKind.bits .i64) (Int.fdiv (IntKind.wrap .i64 ((IntKind.wrap .i64 (x0.h * 0x5851f42d4c957f2d)) + 0x14057b7ef767814f)) (2 ^ min ((47 : Int)).toNat (IntKind.bits .i64)))).toNat) &&& BitVec.ofInt (IntKind.bits .i64) 255).toNat) + (IntKind.wrap .i64 v3))) &&& BitVec.ofInt (IntKind.bits .i64) 255).toNat)])] [] _ [] _ [(0,[cF 1 x0.b zh,cI (IntKind.wrap .i64 (x0.i + 1)),cI (IntKind.wrap .i64 ((IntKind.wrap .i64 (x0.h * 0x5851f42d4c957f2d)) + 0x14057b7ef767814f))])] kr rfl rfl rfl kr kr kr kr rfl rfl rfl
def zL (n : Nat) (x0 : Src) (x1 : Int) : Option (Int × Src) :=
  (bif (decide (x1 ≤ 0)) then (some (0,x0)) else (bif (decide (x1 ≤ 256)) then ((Zs n x0).bind fun r5 => (bif (decide ((x1 : Int) ≠ 0)) then (some ((Int.tmod r5.1 x1),r5.2)) else none)) else ((Zs n x0).bind fun r1 => ((Zs n r1.2).bind fun r2 => ((Zs n r2.2).bind fun r3 => (bif (decide ((x1 : Int) ≠ 0)) then (some ((Int.tmod (IntKind.wrap .i64 ((IntKind.wrap .i64 ((IntKind.wrap .i64 (r1.1 * 65536)) + (IntKind.wrap .i64 (r2.1 * 256)))) + r3.1)) x1),r3.2)) else none))))))
noncomputable abbrev G49 (k : Nat) := Rg Try.f49 k
theorem zd (n : Nat) (x0 : Src) (x1 : Int) (r : Int × Src) (H : zL n x0 x1 = some r) : zH Try.prog 49 [.ptr (CV.frzRow (Src.row x0)),.val false [.lit (.int .i64 x1)]] [.val false [.lit (.int .i64 r.1)]] [(0,(CV.frzRow (Src.row r.2)))] := by
 refine zH.of_body tOk Try.func49 rfl (c := (.seq (G49 0) (.seq (.seq (G49 1) (.cond (.tmp 9) (.seq (G49 2) .ret) .skip)) (.seq (.seq (G49 3) (.cond (.tmp 11) (.seq (G49 4) .ret) .skip)) (.seq (G49 5) (.seq (G49 6) (.seq (G49 7) (.seq (G49 8) .ret)))))))) kr (Nat.le_of_ble_eq_true kr) 1 (rs := [.tmp 4]) rfl [] .nil [(false,[.lit (.int .i64 r.1)])] [] [(0,(CV.frzRow (Src.row r.2)))] fun cx => ?_
 show Tr _ _ _ ⟨31,1,[sA 0 0 3 0,sI 1 x1],[(0,(CV.frzRow (Src.row x0)))]⟩ _
 unfold zL at H
 refine gA 1 3 1 ?_
 refine tS ?_
 refine gA 2 515 1 ?_
 obtain ⟨h1,H⟩ | ⟨h1,H⟩ := bC H
 ·refine nA h1 ?_
  refine tK ?_
  refine tS ?_
  refine gA 2 2051 1 ?_
  obtain ⟨h2,H⟩ | ⟨h2,H⟩ := bC H
  ·refine nA h2 ?_
   refine tK ?_
   refine rA 1 ?_
   obtain ⟨r1,er1,H⟩ := bs H
   refine LAt.callL tOk [.lend] (f := 102) (av := #[.tmp 16]) (ats := #[92]) (d := (some 17)) (ty := 3) (g := none) kr kr kr [] (J2 n x0 r1 er1) kr (.inl rfl) ?_
   refine uA 1 35 1 ?_
   refine rA 1 ?_
   obtain ⟨r2,er2,H⟩ := bs H
   refine LAt.callL tOk [.lend] (f := 102) (av := #[.tmp 18]) (ats := #[92]) (d := (some 19)) (ty := 3) (g := none) kr kr kr [] (J2 n r1.2 r2 er2) kr (.inl rfl) ?_
   refine uA 1 99 1 ?_
   refine rA 1 ?_
   obtain ⟨r3,er3,H⟩ := bs H
   refine LAt.callL tOk [.lend] (f := 102) (av := #[.tmp 20]) (ats := #[92]) (d := (some 21)) (ty := 3) (g := none) kr kr kr [] (J2 n r2.2 r3 er3) kr (.inl rfl) ?_
   refine uA 1 227 1 ?_
   refine rA 8 ?_
   obtain ⟨hg4,H⟩ := gs H
   refine LAt.binC tOk (op := .rem) (t := 3) (ty := 3) (ty' := 3) (x := (.tmp 28)) (y := (.tmp 29)) (d := 30) (g := none) (.int .i64 (IntKind.wrap .i64 ((IntKind.wrap .i64 ((IntKind.wrap .i64 (r1.1 * 65536)) + (IntKind.wrap .i64 (r2.1 * 256)))) + r3.1))) (.int .i64 x1) (.int .i64 (Int.tmod (IntKind.wrap .i64 ((IntKind.wrap .i64 ((IntKind.wrap .i64 (r1.1 * 65536)) + (IntKind.wrap .i64 (r2.1 * 256)))) + r3.1)) x1)) _ kr kr kr kr kr (φ := (IntKind.i64 = IntKind.i64 ∧ (x1 : Int) ≠ 0)) kr (⟨rfl,of_decide_eq_true hg4⟩) rfl ?_
   refine uA 1 17 1 ?_
   refine te ?_
   obtain rfl := si H
   exact Fin.ofY _ [(false,[cI (Int.tmod (IntKind.wrap .i64 ((IntKind.wrap .i64 ((IntKind.wrap .i64 (r1.1 * 65536)) + (IntKind.wrap .i64 (r2.1 * 256)))) + r3.1)) x1)])] [] _ [] _ [(0,(CV.frzRow (Src.row r3.2)))] kr rfl rfl rfl kr kr kr kr rfl rfl rfl
  refine tA h2 ?_
  refine rA 1 ?_
  obtain ⟨r5,er5,H⟩ := bs H
  refine LAt.callL tOk [.lend] (f := 102) (av := #[.tmp 12]) (ats := #[92]) (d := (some 13)) (ty := 3) (g := none) kr kr kr [] (J2 n x0 r5 er5) kr (.inl rfl) ?_
  refine lA 1 ?_
  obtain ⟨hg6,H⟩ := gs H
  refine LAt.binC tOk (op := .rem) (t := 3) (ty := 3) (ty' := 3) (x := (.tmp 13)) (y := (.tmp 14)) (d := 15) (g := none) (.int .i64 r5.1) (.int .i64 x1) (.int .i64 (Int.tmod r5.1 x1)) _ kr kr kr kr kr (φ := (IntKind.i64 = IntKind.i64 ∧ (x1 : Int) ≠ 0)) kr (⟨rfl,of_decide_eq_true hg6⟩) rfl ?_
  refine uA 1 17 1 ?_
  refine te ?_
  obtain rfl := si H
  exact Fin.ofY _ [(false,[cI (Int.tmod r5.1 x1)])] [] _ [] _ [(0,(CV.frzRow (Src.row r5.2)))] kr rfl rfl rfl kr kr kr kr rfl rfl rfl
 refine tA h1 ?_
 refine gA 1 17 1 ?_
 refine te ?_
 obtain rfl := si H
 exact Fin.ofY _ [(false,[cI 0])] [] _ [] _ [(0,(CV.frzRow (Src.row x0)))] kr rfl rfl rfl kr kr kr kr rfl rfl rfl
def zT (n : Nat) (x0 : Int) (x1 : Int) (x2 : Int) : Option (Bool) :=
  (bif (decide (x0 ≥ x1)) then (some (decide (x0 ≤ x2))) else (some false))
theorem zS (n : Nat) (x0 : Int) (x1 : Int) (x2 : Int) (r : Bool) (H : zT n x0 x1 x2 = some r) : zH Try.prog 41 [.val false [.lit (.int .i64 x0)],.val false [.lit (.int .i64 x1)],.val false [.lit (.int .i64 x2)]] [.val false [.lit (.bool r)]] [] := by
 refine cW Try.func41 (fun g d => sl [g 0,g 1] .ret) [.tmp 6] fun cx => ?_
 unfold zT at H
 refine gA 1 7 0 ?_
 refine rA 4 ?_
 refine sL 1029 0 ⟨15,0,[sB 10 (decide (x0 ≥ x1)),sI 0 x0,sI 2 x2],[]⟩ ?_
 cases h1 : (decide (x0 ≥ x1))
 ·have H := zI h1 H
  refine uA 5 64 0 ?_
  exact te (fF H)
 have H := zJ h1 H
 refine uA 5 64 0 ?_
 exact te (fJ [(false,[cB (decide (x0 ≤ x2))])] H)
def Qj (n : Nat) (x0 : Int) (y5 : (List Int)) : Option (zD) :=
  (some (⟨[(⟨1,(IntKind.wrap .i64 ((IntKind.wrap .i64 (1 * 2 ^ min (((IntKind.wrap .u64 x0) : Int)).toNat (IntKind.bits .i64))) - 1)),(IntKind.wrap .i64 ((IntKind.wrap .i64 (1 * 2 ^ min (((IntKind.wrap .u64 x0) : Int)).toNat (IntKind.bits .i64))) - 1))⟩ : zA)],y5⟩ : zD))
def q4 (n : Nat) : Nat → Int → Int → (List Int) → Option (((List Int)) ⊕ (zD))
  | 0,_,_,_ => none
  | mo6 + 1,x0,y3,y4 => (bif (decide (y3 < x0)) then (bif (decide (y4.length + [1].length ≤ 268435456)) then (q4 n mo6 x0 (IntKind.wrap .i64 (y3 + 1)) (y4 ++ [1])) else none) else (some (Sum.inl y4)))
def Z6 (n : Nat) (x0 : Int) : Option (zD) :=
  ((zT n x0 1 6).bind fun r1 => (bif (!r1) then (some (⟨([] : List zA),([] : List Int)⟩ : zD)) else (bif (decide ((0 : Int) ≤ (IntKind.wrap .u64 x0))) then ((q4 n n x0 0 ([] : List Int)).bind fun o => match o with | .inl y5 => (Qj n x0 y5) | .inr r => some r) else none)))
theorem zCN (n : Nat) (x0 : Int) (r : zD) (H : Z6 n x0 = some r) : zH Try.prog 148 [.val false [.lit (.int .i64 x0)]] [.val true (zD.row r)] [] := by
 refine cW Try.func148 (fun g d => sl [g 0,sl [g 1] (cn 8 (sl [g 2] .ret) .skip),g 3,g 4,sl [g 5] (.block 0 (.loop (sl [sl [g 6] (cn 21 .skip (.exit 0)),.block 1 (g 8)] (g 7)))),g 9] .ret) [.cell 2 40] fun cx => ?_
 unfold Z6 at H
 refine gA 1 5 4 ?_
 refine tS ?_
 refine rA 1 ?_
 obtain ⟨r1,er1,H⟩ := bs H
 refine vA [.rd,.rd,.rd] (zS n x0 1 6 r1 er1) ?_
 refine uA 1 261 4 ?_
 obtain ⟨h1,H⟩ | ⟨h1,H⟩ := bC H
 ·refine nA h1 ?_
  refine tK ?_
  refine rA 2 ?_
  obtain ⟨hg2,H⟩ := gs H
  refine LAt.binC tOk (op := .shl) (t := 3) (ty := 103) (ty' := 3) (x := (.const (.int .i64 1))) (y := (.tmp 11)) (d := 12) (g := none) (.int .i64 1) (.int .u64 (IntKind.wrap .u64 x0)) (.int .i64 (IntKind.wrap .i64 (1 * 2 ^ min (((IntKind.wrap .u64 x0) : Int)).toNat (IntKind.bits .i64)))) _ kr kr kr kr kr (φ := (0 : Int) ≤ (IntKind.wrap .u64 x0)) kr (of_decide_eq_true hg2) rfl ?_
  refine uA 2 13 4 ?_
  refine gA 7 21 20 ?_
  refine tS ?_
  refine gA 1 53 20 ?_
  obtain ⟨o6,eo6,Ho6⟩ := bs H
  clear H
  refine Tr.mid (ι := (List Int)) (fun v => ⟨30,0,[sA 4 4 2 0,sA 2 2 2 0],[(4,[cL 3 [(⟨1,(IntKind.wrap .i64 ((IntKind.wrap .i64 (1 * 2 ^ min (((IntKind.wrap .u64 x0) : Int)).toNat (IntKind.bits .i64))) - 1)),(IntKind.wrap .i64 ((IntKind.wrap .i64 (1 * 2 ^ min (((IntKind.wrap .u64 x0) : Int)).toNat (IntKind.bits .i64))) - 1))⟩ : zA)] zA.row,cL 1 v intRow]),(2,[cL 3 ([] : List zA) zA.row,cL 1 ([] : List Int) intRow])]⟩) (fun v => Qj n x0 v = some r) ?_ ?_
  ·refine tB ?_
   refine Tr.loop (ι := Nat × (Int × (List Int))) (fun v => ⟨30,0,[sI 5 v.2.1,sA 4 4 2 0,sA 2 2 2 0,sI 0 x0],[(4,[cL 3 [(⟨1,(IntKind.wrap .i64 ((IntKind.wrap .i64 (1 * 2 ^ min (((IntKind.wrap .u64 x0) : Int)).toNat (IntKind.bits .i64))) - 1)),(IntKind.wrap .i64 ((IntKind.wrap .i64 (1 * 2 ^ min (((IntKind.wrap .u64 x0) : Int)).toNat (IntKind.bits .i64))) - 1))⟩ : zA)] zA.row,cL 1 v.2.2 intRow]),(2,[cL 3 ([] : List zA) zA.row,cL 1 ([] : List Int) intRow])]⟩) (fun v => q4 n v.1 x0 v.2.1 v.2.2 = some o6) (fun v => v.1) (n,(0,([] : List Int))) eo6 (St.sub_of [5,4,2,0] [4,2] kr) ?_
   rintro ⟨mo6,y3,y4⟩ H
   have H : q4 n mo6 x0 y3 y4 = some o6 := H
   obtain _ | mo6 := mo6
   ·exact nN H
   rw [q4] at H
   refine tS ?_
   refine gA 3 2097205 20 ?_
   obtain ⟨h2,H⟩ | ⟨h2,H⟩ := bC H
   ·refine nA h2 ?_
    refine Tr.exit ?_
    refine aJ ?_
    obtain rfl := si H
    have H := Ho6
    dsimp only at H
    exact jA y4 H [4,2] [4,2]
   refine tA h2 ?_
   refine tK ?_
   refine tS ?_
   refine tB ?_
   refine Tr.at ?_
   refine lA 3 ?_
   obtain ⟨hg7,H⟩ := gs H
   refine LAt.appMU tOk (t := 38) (ty := 38) (e := 3) (x := (.tmp 25)) (y := (.tmp 26)) (d := 27) (g := none) (tI 3) intRow y4 [1] kr kr kr kr kr kr kr kr kr kr hg7 ?_
   refine uA 2 53 20 ?_
   refine eA 3 53 20 ?_
   exact jB mo6 ((IntKind.wrap .i64 (y3 + 1)),(y4 ++ [1])) H [5,4,2,0] [4,2]
  rintro y5 H
  have H : (Qj n x0 y5) = some r := H
  unfold Qj at H
  refine gA 2 4 4 ?_
  exact te (fJ [(true,[cL 3 [(⟨1,(IntKind.wrap .i64 ((IntKind.wrap .i64 (1 * 2 ^ min (((IntKind.wrap .u64 x0) : Int)).toNat (IntKind.bits .i64))) - 1)),(IntKind.wrap .i64 ((IntKind.wrap .i64 (1 * 2 ^ min (((IntKind.wrap .u64 x0) : Int)).toNat (IntKind.bits .i64))) - 1))⟩ : zA)] zA.row,cL 1 y5 intRow])] H)
 refine tA h1 ?_
 refine gA 2 4 4 ?_
 exact te (fJ [(true,[cL 3 ([] : List zA) zA.row,cL 1 ([] : List Int) intRow])] H)
def Ql (n : Nat) (r3 : zD) (x0 : Int) (y6 : (List Pt)) : Option (zE) :=
  (some (⟨x0,(⟨#[]⟩ : ByteArray),y6,([] : List zB),r3,0,0,0,0,0⟩ : zE))
def Z8 (n : Nat) : Nat → Int → Int → (List Pt) → Option (((List Pt)) ⊕ (zE))
  | 0,_,_,_ => none
  | mo7 + 1,x1,y4,y5 => (bif (decide (y4 < x1)) then (bif (decide (y5.length + [(⟨false,1,false,(⟨0,0,0,0,0⟩ : Vec)⟩ : Pt)].length ≤ 268435456)) then (Z8 n mo7 x1 (IntKind.wrap .i64 (y4 + 1)) (y5 ++ [(⟨false,1,false,(⟨0,0,0,0,0⟩ : Vec)⟩ : Pt)])) else none) else (some (Sum.inl y5)))
def Zv (n : Nat) (x0 : Int) (x1 : Int) : Option (zE) :=
  ((zT n x0 1 99).bind fun r1 => (bif (!r1) then (some (⟨0,(⟨#[]⟩ : ByteArray),([] : List Pt),([] : List zB),(⟨([] : List zA),([] : List Int)⟩ : zD),0,0,0,0,0⟩ : zE)) else ((zT n x1 1 6).bind fun r2 => (bif (!r2) then (some (⟨0,(⟨#[]⟩ : ByteArray),([] : List Pt),([] : List zB),(⟨([] : List zA),([] : List Int)⟩ : zD),0,0,0,0,0⟩ : zE)) else ((Z6 n x1).bind fun r3 => ((Z8 n n x1 0 ([] : List Pt)).bind fun o => match o with | .inl y6 => (Ql n r3 x0 y6) | .inr r => some r))))))
theorem zEM (n : Nat) (x0 : Int) (x1 : Int) (r : zE) (H : Zv n x0 x1 = some r) : zH Try.prog 94 [.val false [.lit (.int .i64 x0)],.val false [.lit (.int .i64 x1)]] [.val true (zE.row r)] [] := by
 refine cW Try.func94 (fun g d => sl [g 0,sl [g 1] (cn 14 (sl [g 2] .ret) .skip),g 3,sl [g 4] (.block 0 (.loop (sl [sl [g 5] (cn 22 .skip (.exit 0)),.block 1 (g 7)] (g 6)))),g 8] .ret) [.cell 4 42] fun cx => ?_
 unfold Zv at H
 refine gA 1 19 16 ?_
 refine tS ?_
 refine rA 1 ?_
 obtain ⟨r1,er1,H⟩ := bs H
 refine vA [.rd,.rd,.rd] (zS n x0 1 99 r1 er1) ?_
 refine lA 2 ?_
 refine sL 1043 16 ⟨32,0,[sB 10 (!r1),sA 4 4 11 0,sI 0 x0,sI 1 x1],[(4,[cI 0,cS (⟨#[]⟩ : ByteArray),cL 8 ([] : List Pt) Pt.row,cL 5 ([] : List zB) zB.row,cL 3 ([] : List zA) zA.row,cL 1 ([] : List Int) intRow,cI 0,cI 0,cI 0,cI 0,cI 0])]⟩ ?_
 cases h1 : (!r1)
 ·have H := zI h1 H
  refine lA 1 ?_
  obtain ⟨r2,er2,H⟩ := bs H
  refine vA [.rd,.rd,.rd] (zS n x1 1 6 r2 er2) ?_
  refine uA 2 16403 16 ?_
  obtain ⟨h2,H⟩ | ⟨h2,H⟩ := bC H
  ·refine nA h2 ?_
   refine tK ?_
   refine rA 2 ?_
   obtain ⟨r3,er3,H⟩ := bs H
   refine vA [.rd] (zCN n x1 r3 er3) ?_
   refine uA 3 50 48 ?_
   refine tS ?_
   refine gA 1 114 48 ?_
   obtain ⟨o7,eo7,Ho7⟩ := bs H
   clear H
   refine Tr.mid (ι := (List Pt)) (fun v => ⟨32,0,[sA 5 5 11 0,sA 4 4 11 0],[(5,[cI x0,cS (⟨#[]⟩ : ByteArray),cL 8 v Pt.row,cL 5 ([] : List zB) zB.row,cL 3 r3.Rows zA.row,cL 1 r3.Pv intRow,cI 0,cI 0,cI 0,cI 0,cI 0]),(4,[cI 0,cS (⟨#[]⟩ : ByteArray),cL 8 ([] : List Pt) Pt.row,cL 5 ([] : List zB) zB.row,cL 3 ([] : List zA) zA.row,cL 1 ([] : List Int) intRow,cI 0,cI 0,cI 0,cI 0,cI 0])]⟩) (fun v => Ql n r3 x0 v = some r) ?_ ?_
   ·refine tB ?_
    refine Tr.loop (ι := Nat × (Int × (List Pt))) (fun v => ⟨32,0,[sI 6 v.2.1,sA 5 5 11 0,sA 4 4 11 0,sI 1 x1],[(5,[cI x0,cS (⟨#[]⟩ : ByteArray),cL 8 v.2.2 Pt.row,cL 5 ([] : List zB) zB.row,cL 3 r3.Rows zA.row,cL 1 r3.Pv intRow,cI 0,cI 0,cI 0,cI 0,cI 0]),(4,[cI 0,cS (⟨#[]⟩ : ByteArray),cL 8 ([] : List Pt) Pt.row,cL 5 ([] : List zB) zB.row,cL 3 ([] : List zA) zA.row,cL 1 ([] : List Int) intRow,cI 0,cI 0,cI 0,cI 0,cI 0])]⟩) (fun v => Z8 n v.1 x1 v.2.1 v.2.2 = some o7) (fun v => v.1) (n,(0,([] : List Pt))) eo7 (St.sub_of [6,5,4,1] [5,4] kr) ?_
    rintro ⟨mo7,y4,y5⟩ H
    have H : Z8 n mo7 x1 y4 y5 = some o7 := H
    obtain _ | mo7 := mo7
    ·exact nN H
    rw [Z8] at H
    refine tS ?_
    refine gA 3 4194418 48 ?_
    obtain ⟨h3,H⟩ | ⟨h3,H⟩ := bC H
    ·refine nA h3 ?_
     refine Tr.exit ?_
     refine aJ ?_
     obtain rfl := si H
     have H := Ho7
     dsimp only at H
     exact jA y5 H [5,4] [5,4]
    refine tA h3 ?_
    refine tK ?_
    refine tS ?_
    refine tB ?_
    refine Tr.at ?_
    refine lA 4 ?_
    obtain ⟨hg8,H⟩ := gs H
    refine LAt.appMU tOk (t := 35) (ty := 35) (e := 55) (x := (.tmp 26)) (y := (.tmp 28)) (d := 29) (g := none) (tI 55) Pt.row y5 [(⟨false,1,false,(⟨0,0,0,0,0⟩ : Vec)⟩ : Pt)] kr kr kr kr kr kr kr kr kr kr hg8 ?_
    refine uA 2 114 48 ?_
    refine eA 3 114 48 ?_
    exact jB mo7 ((IntKind.wrap .i64 (y4 + 1)),(y5 ++ [(⟨false,1,false,(⟨0,0,0,0,0⟩ : Vec)⟩ : Pt)])) H [6,5,4,1] [5,4]
   rintro y6 H
   have H : (Ql n r3 x0 y6) = some r := H
   unfold Ql at H
   refine gA 2 16 16 ?_
   exact te (fJ [(true,[cI x0,cS (⟨#[]⟩ : ByteArray),cL 8 y6 Pt.row,cL 5 ([] : List zB) zB.row,cL 3 r3.Rows zA.row,cL 1 r3.Pv intRow,cI 0,cI 0,cI 0,cI 0,cI 0])] H)
  refine tA h2 ?_
  refine gA 2 16 16 ?_
  exact te (fJ [(true,[cI 0,cS (⟨#[]⟩ : ByteArray),cL 8 ([] : List Pt) Pt.row,cL 5 ([] : List zB) zB.row,cL 3 ([] : List zA) zA.row,cL 1 ([] : List Int) intRow,cI 0,cI 0,cI 0,cI 0,cI 0])] H)
 have H := zJ h1 H
 refine uA 4 16403 16 ?_
 refine tB_ ?_
 refine gA 2 16 16 ?_
 exact te (fJ [(true,[cI 0,cS (⟨#[]⟩ : ByteArray),cL 8 ([] : List Pt) Pt.row,cL 5 ([] : List zB) zB.row,cL 3 ([] : List zA) zA.row,cL 1 ([] : List Int) intRow,cI 0,cI 0,cI 0,cI 0,cI 0])] H)
def JF (n : Nat) (x0 : Src) (x1 : (List ByteArray)) : Option (ByteArray × Src) :=
  ((zL n x0 (x1.length : Int)).bind fun r1 => ((idx x1 r1.1).bind fun v2 => (some (v2,r1.2))))
noncomputable abbrev G95 (k : Nat) := Rg Try.f95 k
theorem zGq (n : Nat) (x0 : Src) (x1 : (List ByteArray)) (r : ByteArray × Src) (H : JF n x0 x1 = some r) : zH Try.prog 95 [.ptr (CV.frzRow (Src.row x0)),.val false [.sl false 1 (CV.frzEs (x1.map zDy))]] [.val false [.lit (.string r.1)]] [(0,(CV.frzRow (Src.row r.2)))] := by
 refine zH.of_body tOk Try.func95 rfl (c := (.seq (G95 0) (.seq (G95 1) .ret))) kr (Nat.le_of_ble_eq_true kr) 1 (rs := [.tmp 4]) rfl [] .nil [(false,[.lit (.string r.1)])] [] [(0,(CV.frzRow (Src.row r.2)))] fun cx => ?_
 show Tr _ _ _ ⟨12,1,[sA 0 0 3 0,sC 1 (cF 1 x1 zDy)],[(0,(CV.frzRow (Src.row x0)))]⟩ _
 unfold JF at H
 refine gA 1 3 1 ?_
 refine rA 3 ?_
 refine kF x1 zDy ?_
 obtain ⟨r1,er1,H⟩ := bs H
 refine LAt.callL tOk [.lend,.rd] (f := 49) (av := #[.tmp 6,.tmp 8]) (ats := #[92,3]) (d := (some 9)) (ty := 3) (g := none) kr kr kr [] (zd n x0 (x1.length : Int) r1 er1) kr (.inl rfl) ?_
 obtain ⟨v2,ev2,H⟩ := bs H
 refine iA zDy ev2 ?_
 refine uA 2 17 1 ?_
 refine te ?_
 obtain rfl := si H
 exact Fin.ofY _ [(false,[cS v2])] [] _ [] _ [(0,(CV.frzRow (Src.row r1.2)))] kr rfl rfl rfl kr kr kr kr rfl rfl rfl
def q9 (n : Nat) (x0 : Src) (x1 : Int) : Option (Bool × Src) :=
  ((zL n x0 x1).bind fun r1 => (some ((r1.1 == 0),r1.2)))
noncomputable abbrev zID (k : Nat) := Rg Try.f100 k
theorem J3 (n : Nat) (x0 : Src) (x1 : Int) (r : Bool × Src) (H : q9 n x0 x1 = some r) : zH Try.prog 100 [.ptr (CV.frzRow (Src.row x0)),.val false [.lit (.int .i64 x1)]] [.val false [.lit (.bool r.1)]] [(0,(CV.frzRow (Src.row r.2)))] := by
 refine zH.of_body tOk Try.func100 rfl (c := (.seq (zID 0) (.seq (zID 1) .ret))) kr (Nat.le_of_ble_eq_true kr) 1 (rs := [.tmp 4]) rfl [] .nil [(false,[.lit (.bool r.1)])] [] [(0,(CV.frzRow (Src.row r.2)))] fun cx => ?_
 show Tr _ _ _ ⟨9,1,[sA 0 0 3 0,sI 1 x1],[(0,(CV.frzRow (Src.row x0)))]⟩ _
 unfold q9 at H
 refine gA 1 3 1 ?_
 refine rA 2 ?_
 obtain ⟨r1,er1,H⟩ := bs H
 refine LAt.callL tOk [.lend,.rd] (f := 49) (av := #[.tmp 5,.tmp 6]) (ats := #[92,3]) (d := (some 7)) (ty := 3) (g := none) kr kr kr [] (zd n x0 x1 r1 er1) kr (.inl rfl) ?_
 refine uA 2 17 1 ?_
 refine te ?_
 obtain rfl := si H
 exact Fin.ofY _ [(false,[cB (r1.1 == 0)])] [] _ [] _ [(0,(CV.frzRow (Src.row r1.2)))] kr rfl rfl rfl kr kr kr kr rfl rfl rfl
def qq (n : Nat) (x0 : Src) (x1 : (List Int)) : Option (Int × Src) :=
  ((zL n x0 (x1.length : Int)).bind fun r1 => ((idx x1 r1.1).bind fun v2 => (some (v2,r1.2))))
noncomputable abbrev G51 (k : Nat) := Rg Try.f51 k
theorem Q4 (n : Nat) (x0 : Src) (x1 : (List Int)) (r : Int × Src) (H : qq n x0 x1 = some r) : zH Try.prog 51 [.ptr (CV.frzRow (Src.row x0)),.val false [.sl false 1 (CV.frzEs (x1.map intRow))]] [.val false [.lit (.int .i64 r.1)]] [(0,(CV.frzRow (Src.row r.2)))] := by
 refine zH.of_body tOk Try.func51 rfl (c := (.seq (G51 0) (.seq (G51 1) .ret))) kr (Nat.le_of_ble_eq_true kr) 1 (rs := [.tmp 4]) rfl [] .nil [(false,[.lit (.int .i64 r.1)])] [] [(0,(CV.frzRow (Src.row r.2)))] fun cx => ?_
 show Tr _ _ _ ⟨12,1,[sA 0 0 3 0,sC 1 (cF 1 x1 intRow)],[(0,(CV.frzRow (Src.row x0)))]⟩ _
 unfold qq at H
 refine gA 1 3 1 ?_
 refine rA 3 ?_
 refine kF x1 intRow ?_
 obtain ⟨r1,er1,H⟩ := bs H
 refine LAt.callL tOk [.lend,.rd] (f := 49) (av := #[.tmp 6,.tmp 8]) (ats := #[92,3]) (d := (some 9)) (ty := 3) (g := none) kr kr kr [] (zd n x0 (x1.length : Int) r1 er1) kr (.inl rfl) ?_
 obtain ⟨v2,ev2,H⟩ := bs H
 refine iA intRow ev2 ?_
 refine uA 2 17 1 ?_
 refine te ?_
 obtain rfl := si H
 exact Fin.ofY _ [(false,[cI v2])] [] _ [] _ [(0,(CV.frzRow (Src.row r1.2)))] kr rfl rfl rfl kr kr kr kr rfl rfl rfl
def Yp (n : Nat) (x0 : Src) : Option (Vec × Src) :=
  ((zL n x0 5).bind fun r1 => ((qq n r1.2 [0,1,2,5,10,100]).bind fun r2 => ((qq n r2.2 [0,1,2,9,10]).bind fun r3 => ((zL n r3.2 5).bind fun r4 => ((zL n r4.2 4).bind fun r5 => (some ((⟨(IntKind.wrap .i64 (1 + r1.1)),r2.1,r3.1,(IntKind.wrap .i64 (1 + r4.1)),r5.1⟩ : Vec),r5.2)))))))
noncomputable abbrev zIE (k : Nat) := Rg Try.f106 k
theorem zF3 (n : Nat) (x0 : Src) (r : Vec × Src) (H : Yp n x0 = some r) : zH Try.prog 106 [.ptr (CV.frzRow (Src.row x0))] [.val true (Vec.row r.1)] [(0,(CV.frzRow (Src.row r.2)))] := by
 refine zH.of_body tOk Try.func106 rfl (c := (.seq (zIE 0) (.seq (zIE 1) .ret))) kr (Nat.le_of_ble_eq_true kr) 1 (rs := [.cell 2 46]) rfl [] .nil [(true,(Vec.row r.1))] [] [(0,(CV.frzRow (Src.row r.2)))] fun cx => ?_
 show Tr _ _ _ ⟨18,1,[sA 0 0 3 0],[(0,(CV.frzRow (Src.row x0)))]⟩ _
 unfold Yp at H
 refine gA 1 5 5 ?_
 refine rA 1 ?_
 obtain ⟨r1,er1,H⟩ := bs H
 refine LAt.callL tOk [.lend,.rd] (f := 49) (av := #[.tmp 3,.const (.int .i64 5)]) (ats := #[92,3]) (d := (some 4)) (ty := 3) (g := none) kr kr kr [] (zd n x0 5 r1 er1) kr (.inl rfl) ?_
 refine lA 3 ?_
 obtain ⟨r2,er2,H⟩ := bs H
 refine LAt.callL tOk [.lend,.rd] (f := 51) (av := #[.tmp 6,.tmp 7]) (ats := #[92,38]) (d := (some 8)) (ty := 3) (g := none) kr kr kr [] (Q4 n r1.2 [0,1,2,5,10,100] r2 er2) kr (.inl rfl) ?_
 refine lA 2 ?_
 obtain ⟨r3,er3,H⟩ := bs H
 refine LAt.callL tOk [.lend,.rd] (f := 51) (av := #[.tmp 9,.tmp 10]) (ats := #[92,38]) (d := (some 11)) (ty := 3) (g := none) kr kr kr [] (Q4 n r2.2 [0,1,2,9,10] r3 er3) kr (.inl rfl) ?_
 refine lA 1 ?_
 obtain ⟨r4,er4,H⟩ := bs H
 refine LAt.callL tOk [.lend,.rd] (f := 49) (av := #[.tmp 12,.const (.int .i64 5)]) (ats := #[92,3]) (d := (some 13)) (ty := 3) (g := none) kr kr kr [] (zd n r3.2 5 r4 er4) kr (.inl rfl) ?_
 refine lA 2 ?_
 obtain ⟨r5,er5,H⟩ := bs H
 refine LAt.callL tOk [.lend,.rd] (f := 49) (av := #[.tmp 15,.const (.int .i64 4)]) (ats := #[92,3]) (d := (some 16)) (ty := 3) (g := none) kr kr kr [] (zd n r4.2 4 r5 er5) kr (.inl rfl) ?_
 refine uA 2 5 5 ?_
 refine te ?_
 obtain rfl := si H
 exact Fin.ofY _ [(true,[cI (IntKind.wrap .i64 (1 + r1.1)),cI r2.1,cI r3.1,cI (IntKind.wrap .i64 (1 + r4.1)),cI r5.1])] [] _ [] _ [(0,(CV.frzRow (Src.row r5.2)))] kr rfl rfl rfl kr kr kr kr rfl rfl rfl
def YU (n : Nat) (y6 : (List Pt)) (y7 : (List Int)) (y8 : Int) (y9 : Int) : Option ((List Pt) × Src) :=
  (some (y6,(⟨y7,y8,y9⟩ : Src)))
def ZT (n : Nat) (k : (Int × (List Pt) × (List Int) × Int × Int → Option (((List Pt) × (List Int) × Int × Int) ⊕ ((List Pt) × Src)))) (r12 : Int × Src) (y1 : Int) (y2 : (List Pt)) (y13 : Bool) (y14 : Bool) (y15 : Int) (y16 : Int) (y17 : Int) (y18 : Int) (y19 : Int) (y20 : (List Int)) (y21 : Int) (y22 : Int) : Option (((List Pt) × (List Int) × Int × Int) ⊕ ((List Pt) × Src)) :=
  (bif (decide (y2.length + [(⟨y13,r12.1,y14,(⟨y15,y16,y17,y18,y19⟩ : Vec)⟩ : Pt)].length ≤ 268435456)) then (k ((IntKind.wrap .i64 (y1 + 1)),(y2 ++ [(⟨y13,r12.1,y14,(⟨y15,y16,y17,y18,y19⟩ : Vec)⟩ : Pt)]),y20,y21,y22)) else none)
def qC (n : Nat) : Nat → Int → Int → (List Pt) → (List Int) → Int → Int → Option (((List Pt) × (List Int) × Int × Int) ⊕ ((List Pt) × Src))
  | 0,_,_,_,_,_,_ => none
  | mo10 + 1,x1,y1,y2,y3,y4,y5 => (bif (decide (y1 < x1)) then ((q9 n (⟨y3,y4,y5⟩ : Src) 4).bind fun r11 => ((qq n r11.2 [1,1,2,5,10]).bind fun r12 => (bif (!r11.1) then ((q9 n r12.2 4).bind fun r24 => (bif (!r24.1) then ((Yp n r24.2).bind fun r25 => (ZT n (fun v => qC n mo10 x1 v.1 v.2.1 v.2.2.1 v.2.2.2.1 v.2.2.2.2) r12 y1 y2 true true r25.1.Root r25.1.Co r25.1.Hops r25.1.Bridge r25.1.Port r25.2.b r25.2.i r25.2.h)) else (ZT n (fun v => qC n mo10 x1 v.1 v.2.1 v.2.2.1 v.2.2.2.1 v.2.2.2.2) r12 y1 y2 true false 0 0 0 0 0 r24.2.b r24.2.i r24.2.h))) else (ZT n (fun v => qC n mo10 x1 v.1 v.2.1 v.2.2.1 v.2.2.2.1 v.2.2.2.2) r12 y1 y2 false false 0 0 0 0 0 r12.2.b r12.2.i r12.2.h)))) else (some (Sum.inl (y2,y3,y4,y5))))
def YC (n : Nat) (x0 : Src) (x1 : Int) : Option ((List Pt) × Src) :=
  ((qC n n x1 0 ([] : List Pt) x0.b x0.i x0.h).bind fun o => match o with | .inl (y6,y7,y8,y9) => (YU n y6 y7 y8 y9) | .inr r => some r)
noncomputable abbrev G96 (k : Nat) := Rg Try.f96 k
theorem zFh (n : Nat) (x0 : Src) (x1 : Int) (r : (List Pt) × Src) (H : YC n x0 x1 = some r) : zH Try.prog 96 [.ptr (CV.frzRow (Src.row x0)),.val false [.lit (.int .i64 x1)]] [.val false [.sl true 8 (r.1.map Pt.row)]] [(0,(CV.frzRow (Src.row r.2)))] := by
 refine zH.of_body tOk Try.func96 rfl (c := (.seq (G96 0) (.seq (G96 1) (.seq (.seq (G96 2) (.block 0 (.loop (.seq (.seq (G96 3) (.cond (.tmp 11) .skip (.exit 0))) (.seq (.block 1 (.seq (G96 5) (.seq (.seq (G96 6) (.cond (.tmp 27) (.seq (G96 7) (G96 8)) .skip)) (G96 9)))) (G96 4)))))) (.seq (G96 10) .ret))))) kr (Nat.le_of_ble_eq_true kr) 1 (rs := [.tmp 4]) rfl [] .nil [(false,[.sl true 8 (r.1.map Pt.row)])] [] [(0,(CV.frzRow (Src.row r.2)))] fun cx => ?_
 show Tr _ _ _ ⟨37,1,[sA 0 0 3 0,sI 1 x1],[(0,(CV.frzRow (Src.row x0)))]⟩ _
 unfold YC at H
 refine gA 1 3 1 ?_
 refine rA 1 ?_
 refine LAt.moveU (T := lk tab) (ty := 35) (x := (.tmp 8)) (d := 5) (g := none) false [cL 8 ([] : List Pt) Pt.row] kr kr kr kr kr ?_
 refine dA 35 1 ?_
 refine tS ?_
 refine gA 1 99 1 ?_
 obtain ⟨o10,eo10,Ho10⟩ := bs H
 clear H
 refine Tr.mid (ι := (List Pt) × (List Int) × Int × Int) (fun v => ⟨37,1,[sC 5 (cL 8 v.1 Pt.row),sA 0 0 3 0],[(0,[cF 1 v.2.1 zh,cI v.2.2.1,cI v.2.2.2])]⟩) (fun v => YU n v.1 v.2.1 v.2.2.1 v.2.2.2 = some r) ?_ ?_
 ·refine tB ?_
  refine Tr.loop (ι := Nat × (Int × (List Pt) × (List Int) × Int × Int)) (fun v => ⟨37,1,[sI 6 v.2.1,sC 5 (cL 8 v.2.2.1 Pt.row),sA 0 0 3 0,sI 1 x1],[(0,[cF 1 v.2.2.2.1 zh,cI v.2.2.2.2.1,cI v.2.2.2.2.2])]⟩) (fun v => qC n v.1 x1 v.2.1 v.2.2.1 v.2.2.2.1 v.2.2.2.2.1 v.2.2.2.2.2 = some o10) (fun v => v.1) (n,(0,([] : List Pt),x0.b,x0.i,x0.h)) eo10 (St.sub_of [6,5,0,1] [0] kr) ?_
  rintro ⟨mo10,y1,y2,y3,y4,y5⟩ H
  have H : qC n mo10 x1 y1 y2 y3 y4 y5 = some o10 := H
  obtain _ | mo10 := mo10
  ·exact nN H
  rw [qC] at H
  refine tS ?_
  refine gA 3 2147 1 ?_
  obtain ⟨h1,H⟩ | ⟨h1,H⟩ := bC H
  ·refine nA h1 ?_
   refine Tr.exit ?_
   refine aJ ?_
   obtain rfl := si H
   have H := Ho10
   dsimp only at H
   exact jA (y2,y3,y4,y5) H [5,0] [0]
  refine tA h1 ?_
  refine tK ?_
  refine tS ?_
  refine tB ?_
  refine rA 1 ?_
  obtain ⟨r11,er11,H⟩ := bs H
  refine LAt.callL tOk [.lend,.rd] (f := 100) (av := #[.tmp 14,.const (.int .i64 4)]) (ats := #[92,3]) (d := (some 15)) (ty := 4) (g := none) kr kr kr [] (J3 n (⟨y3,y4,y5⟩ : Src) 4 r11 er11) kr (.inl rfl) ?_
  refine lA 3 ?_
  obtain ⟨r12,er12,H⟩ := bs H
  refine LAt.callL tOk [.lend,.rd] (f := 51) (av := #[.tmp 17,.tmp 18]) (ats := #[92,38]) (d := (some 19)) (ty := 3) (g := none) kr kr kr [] (Q4 n r11.2 [1,1,2,5,10] r12 er12) kr (.inl rfl) ?_
  refine uA 3 227 129 ?_
  refine tS ?_
  refine Tr.mid (ι := Bool × Bool × Int × Int × Int × Int × Int × (List Int) × Int × Int) (fun v => ⟨37,1,[sA 7 7 8 0,sI 6 y1,sC 5 (cL 8 y2 Pt.row),sA 0 0 3 0,sI 1 x1],[(7,[cB v.1,cI r12.1,cB v.2.1,cI v.2.2.1,cI v.2.2.2.1,cI v.2.2.2.2.1,cI v.2.2.2.2.2.1,cI v.2.2.2.2.2.2.1]),(0,[cF 1 v.2.2.2.2.2.2.2.1 zh,cI v.2.2.2.2.2.2.2.2.1,cI v.2.2.2.2.2.2.2.2.2])]⟩) (fun v => ZT n (fun v => qC n mo10 x1 v.1 v.2.1 v.2.2.1 v.2.2.2.1 v.2.2.2.2) r12 y1 y2 v.1 v.2.1 v.2.2.1 v.2.2.2.1 v.2.2.2.2.1 v.2.2.2.2.2.1 v.2.2.2.2.2.2.1 v.2.2.2.2.2.2.2.1 v.2.2.2.2.2.2.2.2.1 v.2.2.2.2.2.2.2.2.2 = some o10) ?_ ?_
  ·refine tS ?_
   refine Tr.at ?_
   refine lA 3 ?_
   refine sL 8388835 129 ⟨37,1,[sB 23 (!r11.1),sA 7 7 8 0,sI 6 y1,sC 5 (cL 8 y2 Pt.row),sA 0 0 3 0,sI 1 x1],[(7,[cB (!r11.1),cI r12.1,cB false,cI 0,cI 0,cI 0,cI 0,cI 0]),(0,(CV.frzRow (Src.row r12.2)))]⟩ ?_
   cases h2 : (!r11.1)
   ·have H := zI h2 H
    refine uA 4 134217955 129 ?_
    refine nB_ ?_
    refine tK ?_
    exact jA (false,false,0,0,0,0,0,r12.2.b,r12.2.i,r12.2.h) H [7,6,5,0,1] [7,0]
   have H := zJ h2 H
   refine lA 1 ?_
   obtain ⟨r24,er24,H⟩ := bs H
   refine LAt.callL tOk [.lend,.rd] (f := 100) (av := #[.tmp 24,.const (.int .i64 4)]) (ats := #[92,3]) (d := (some 25)) (ty := 4) (g := (some (2,true))) kr kr kr [] (J3 n r12.2 4 r24 er24) kr (.inl rfl) ?_
   refine uA 2 134217955 129 ?_
   obtain ⟨h3,H⟩ | ⟨h3,H⟩ := bC H
   ·refine nA h3 ?_
    refine tK ?_
    exact jA (true,false,0,0,0,0,0,r24.2.b,r24.2.i,r24.2.h) H [7,6,5,0,1] [7,0]
   refine tA h3 ?_
   refine gA 2 227 129 ?_
   refine Tr.at ?_
   refine lA 1 ?_
   obtain ⟨r25,er25,H⟩ := bs H
   refine LAt.callL tOk [.lend] (f := 106) (av := #[.tmp 29]) (ats := #[92]) (d := (some 30)) (ty := 46) (g := none) kr kr kr [] (zF3 n r24.2 r25 er25) kr (.inl rfl) ?_
   refine uA 2 227 129 ?_
   exact jA (true,true,r25.1.Root,r25.1.Co,r25.1.Hops,r25.1.Bridge,r25.1.Port,r25.2.b,r25.2.i,r25.2.h) H [7,6,5,0,1] [7,0]
  rintro ⟨y13,y14,y15,y16,y17,y18,y19,y20,y21,y22⟩ H
  have H : (ZT n (fun v => qC n mo10 x1 v.1 v.2.1 v.2.2.1 v.2.2.2.1 v.2.2.2.2) r12 y1 y2 y13 y14 y15 y16 y17 y18 y19 y20 y21 y22) = some o10 := H
  unfold ZT at H
  refine Tr.at ?_
  refine lA 3 ?_
  obtain ⟨hg23,H⟩ := gs H
  refine LAt.appMU tOk (t := 35) (ty := 35) (e := 55) (x := (.tmp 32)) (y := (.tmp 34)) (d := 35) (g := none) (tI 55) Pt.row y2 [(⟨y13,r12.1,y14,(⟨y15,y16,y17,y18,y19⟩ : Vec)⟩ : Pt)] kr kr kr kr kr kr kr kr kr kr hg23 ?_
  refine LAt.moveU (T := lk tab) (ty := 35) (x := (.tmp 35)) (d := 5) (g := none) false [cL 8 (y2 ++ [(⟨y13,r12.1,y14,(⟨y15,y16,y17,y18,y19⟩ : Vec)⟩ : Pt)]) Pt.row] kr kr kr kr kr ?_
  refine dA 99 1 ?_
  refine eA 3 99 1 ?_
  exact jB mo10 ((IntKind.wrap .i64 (y1 + 1)),(y2 ++ [(⟨y13,r12.1,y14,(⟨y15,y16,y17,y18,y19⟩ : Vec)⟩ : Pt)]),y20,y21,y22) H [6,5,0,1] [0]
 rintro ⟨y6,y7,y8,y9⟩ H
 have H : (YU n y6 y7 y8 y9) = some r := H
 unfold YU at H
 refine gA 2 49 1 ?_
 refine te ?_
 obtain rfl := si H
 exact Fin.ofY _ [(false,[cL 8 y6 Pt.row])] [] _ [] _ [(0,[cF 1 y7 zh,cI y8,cI y9])] kr rfl rfl rfl kr kr kr kr rfl rfl rfl
def JQ (n : Nat) : Option (Int) :=
  (some (-1))
def qp (n : Nat) : Nat → zD → Int → Int → Option ((Unit) ⊕ (Int))
  | 0,_,_,_ => none
  | mo2 + 1,x0,x1,y1 => (bif (decide (y1 < (x0.Rows.length : Int))) then ((idx x0.Rows y1).bind fun v3 => (bif (v3.Id == x1) then (some (Sum.inr y1)) else (qp n mo2 x0 x1 (IntKind.wrap .i64 (y1 + 1))))) else (some (Sum.inl ())))
def QE (n : Nat) (x0 : zD) (x1 : Int) : Option (Int) :=
  ((qp n n x0 x1 0).bind fun o => match o with | .inl _ => (JQ n) | .inr r => some r)
theorem zDq (n : Nat) (x0 : zD) (x1 : Int) (r : Int) (H : QE n x0 x1 = some r) : zH Try.prog 178 [.val true (CV.frzRow (zD.row x0)),.val false [.lit (.int .i64 x1)]] [.val false [.lit (.int .i64 r)]] [] := by
 refine cW Try.func178 (fun g d => sl [g 0,sl [g 1] (.block 0 (.loop (sl [sl [g 2] (cn 10 .skip (.exit 0)),.block 1 (sl [g 4] (cn 20 (sl [g 5] .ret) .skip))] (g 3)))),g 6] .ret) [.tmp 4] fun cx => ?_
 unfold QE at H
 refine gA 2 6 4 ?_
 refine tS ?_
 refine gA 1 38 4 ?_
 obtain ⟨o2,eo2,Ho2⟩ := bs H
 clear H
 refine Tr.mid (ι := Unit) (fun v => ⟨22,0,[],[]⟩) (fun v => JQ n = some r) ?_ ?_
 ·refine tB ?_
  refine Tr.loop (ι := Nat × (Int)) (fun v => ⟨22,0,[sI 5 v.2,sA 2 2 2 0,sI 1 x1],[(2,(CV.frzRow (zD.row x0)))]⟩) (fun v => qp n v.1 x0 x1 v.2 = some o2) (fun v => v.1) (n,0) eo2 (St.sub_of [5,2,1] [2] kr) ?_
  rintro ⟨mo2,y1⟩ H
  have H : qp n mo2 x0 x1 y1 = some o2 := H
  obtain _ | mo2 := mo2
  ·exact nN H
  rw [qp] at H
  refine tS ?_
  refine rA 3 ?_
  refine kF x0.Rows zA.row ?_
  refine uA 1 1062 4 ?_
  obtain ⟨h1,H⟩ | ⟨h1,H⟩ := bC H
  ·refine nA h1 ?_
   refine Tr.exit ?_
   refine aJ ?_
   obtain rfl := si H
   have H := Ho2
   dsimp only at H
   exact jA () H [] []
  refine tA h1 ?_
  refine tK ?_
  refine tS ?_
  refine tB ?_
  refine rA 3 ?_
  obtain ⟨v3,ev3,H⟩ := bs H
  refine iA zA.row ev3 ?_
  refine uA 4 1048614 4 ?_
  obtain ⟨h2,H⟩ | ⟨h2,H⟩ := bC H
  ·refine nA h2 ?_
   refine tK ?_
   refine eA 3 38 4 ?_
   exact jB mo2 (IntKind.wrap .i64 (y1 + 1)) H [5,2,1] [2]
  refine tA h2 ?_
  refine gA 2 16 0 ?_
  refine te ?_
  obtain rfl := si H
  have H := Ho2
  dsimp only at H
  exact fJ [(false,[cI y1])] H
 rintro _ H
 have H : (JQ n) = some r := H
 unfold JQ at H
 refine gA 1 16 0 ?_
 exact te (fJ [(false,[cI (-1)])] H)
def Yx (n : Nat) : Option (Bool) :=
  (some true)
def qR (n : Nat) : Nat → zD → Int → Option ((Unit) ⊕ (Bool))
  | 0,_,_ => none
  | mo5 + 1,x0,y4 => (bif (decide (y4 < (x0.Pv.length : Int))) then ((idx x0.Pv y4).bind fun v6 => ((QE n x0 v6).bind fun r7 => (bif (decide (r7 < 0)) then (some (Sum.inr false)) else (qR n mo5 x0 (IntKind.wrap .i64 (y4 + 1)))))) else (some (Sum.inl ())))
def Zk (n : Nat) (x0 : zD) : Option (Bool) :=
  ((qR n n x0 0).bind fun o => match o with | .inl _ => (Yx n) | .inr r => some r)
def qJ (n : Nat) : Nat → zD → Int → Int → Option ((Unit) ⊕ (Bool))
  | 0,_,_,_ => none
  | mo8 + 1,x0,x1,y3 => (bif (decide (y3 < (x0.Rows.length : Int))) then ((idx x0.Rows y3).bind fun v9 => ((zT n v9.Id 1 99).bind fun r10 => (bif (!r10) then (some (Sum.inr false)) else ((zT n v9.Members 0 (IntKind.wrap .i64 ((IntKind.wrap .i64 (1 * 2 ^ min (((IntKind.wrap .u64 x1) : Int)).toNat (IntKind.bits .i64))) - 1))).bind fun r11 => (bif (!r11) then (some (Sum.inr false)) else ((zT n v9.Bare 0 (IntKind.wrap .i64 ((IntKind.wrap .i64 (1 * 2 ^ min (((IntKind.wrap .u64 x1) : Int)).toNat (IntKind.bits .i64))) - 1))).bind fun r12 => (bif (!r12) then (some (Sum.inr false)) else (bif ((IntKind.wrap .i64 (BitVec.ofInt (IntKind.bits .i64) v9.Bare &&& BitVec.ofInt (IntKind.bits .i64) v9.Members).toNat) != v9.Bare) then (some (Sum.inr false)) else (bif (decide (y3 > 0)) then ((idx x0.Rows (IntKind.wrap .i64 (y3 - 1))).bind fun v13 => (bif (decide (v13.Id ≥ v9.Id)) then (some (Sum.inr false)) else (qJ n mo8 x0 x1 (IntKind.wrap .i64 (y3 + 1))))) else (qJ n mo8 x0 x1 (IntKind.wrap .i64 (y3 + 1)))))))))))) else (some (Sum.inl ())))
def zu (n : Nat) (x0 : zD) (x1 : Int) : Option (Bool) :=
  ((zT n x1 1 6).bind fun r1 => (bif (!r1) then (some false) else (bif ((x0.Pv.length : Int) != x1) then (some false) else (bif (decide ((x0.Rows.length : Int) > 6)) then (some false) else (bif (decide ((0 : Int) ≤ (IntKind.wrap .u64 x1))) then ((qJ n n x0 x1 0).bind fun o => match o with | .inl _ => (Zk n x0) | .inr r => some r) else none)))))
def zIM : Tab := ⟨44,[0,1,2,4,12,16,48,16,208,272,528,1280,2048,6144,2048,26624,34816,67584,163840,262144,786432,262144,2359296,5505024,262144,17039360,42205184,67371008,134479872,268435456,805306368,1342177280,2147483648,6442450944,2147483648,19327352832,45097156608,70866960384,139586437120,2147483648,551903297536,1376537018368,2201439174656,4398314946560],[0,1,2,4,8,16,48,16,208,272,528,1024,2048,6144,2048,26624,34816,67584,131072,262144,786432,262144,2359296,5505024,262144,17039360,42205184,67371008,134217728,268435456,805306368,1342177280,2147483648,6442450944,2147483648,19327352832,45097156608,70866960384,139586437120,2147483648,551903297536,1376537018368,2201439174656,4398314946560],[0,1,3,7,15,31,63,31,255,511,1023,2047,4095,8191,4095,32767,65535,131071,262143,524287,1048575,524287,2621439,8388607,524287,17301503,67108863,134217727,268435455,536870911,1073741823,2147483647,4294967295,8589934591,4294967295,21474836479,68719476735,137438953471,274877906943,4294967295,554050781183,2199023255551,4398046511103,8796093022207]⟩
theorem zQ : zq (rg Try.f175 8) zIM = true := kr
theorem zET (n : Nat) (y3 : Int) (v9 : zA) (x1 : Int) (x0 : zD) (h11 : (decide (y3 > 0)) = false) (cx : Cx) : AT Try.prog cx (rg Try.f175 8) [⟨[],3,65,66⟩,⟨[],3,62,63⟩,⟨[],3,60,61⟩,⟨[15],3,53,54⟩,⟨[8,15],3,46,47⟩,⟨[2,8,15],3,41,42⟩] 15 [28,27,26,25,24,23,22,21,20,19,18,17,16,15,14,13,12,11,10,9,8,7,6,5,4,3,2,1,0] ⟨100,0,[sB 69 false,sI 66 v9.Bare,sA 65 7 3 2,sI 63 v9.Members,sA 62 7 3 1,sI 61 v9.Bare,sA 60 7 3 2,sI 54 v9.Bare,sA 53 7 3 2,sI 47 v9.Members,sA 46 7 3 1,sI 42 v9.Id,sA 41 7 3 0,sA 7 7 3 0,sI 6 y3,sI 5 (IntKind.wrap .i64 ((IntKind.wrap .i64 (1 * 2 ^ min (((IntKind.wrap .u64 x1) : Int)).toNat (IntKind.bits .i64))) - 1)),sA 2 2 2 0],[(7,(zA.row v9)),(2,(CV.frzRow (zD.row x0)))]⟩ (fun s => s = ⟨100,0,[sB 84 false,sI 6 y3,sI 5 (IntKind.wrap .i64 ((IntKind.wrap .i64 (1 * 2 ^ min (((IntKind.wrap .u64 x1) : Int)).toNat (IntKind.bits .i64))) - 1)),sA 2 2 2 0],[(2,(CV.frzRow (zD.row x0)))]⟩) := by
 refine mA zQ [(29,[]),(30,[]),(31,[])] 12 [⟨[],3,65,66⟩,⟨[],3,62,63⟩,⟨[],3,60,61⟩,⟨[15],3,53,54⟩,⟨[8,15],3,46,47⟩,⟨[2,8,15],3,41,42⟩] fun cx => ?_
 refine sA_ 0x126f060c600000000e4 132 ⟨100,0,[sB 72 (decide (y3 > 0)),sB 69 false,sI 66 v9.Bare,sA 65 7 3 2,sI 63 v9.Members,sA 62 7 3 1,sI 61 v9.Bare,sA 60 7 3 2,sI 54 v9.Bare,sA 53 7 3 2,sI 47 v9.Members,sA 46 7 3 1,sI 42 v9.Id,sA 41 7 3 0,sA 7 7 3 0,sI 6 y3,sI 5 (IntKind.wrap .i64 ((IntKind.wrap .i64 (1 * 2 ^ min (((IntKind.wrap .u64 x1) : Int)).toNat (IntKind.bits .i64))) - 1)),sA 2 2 2 0],[(7,(zA.row v9)),(2,(CV.frzRow (zD.row x0)))]⟩ ?_
 rw [h11]
 refine mA zQ [(32,[]),(33,[]),(34,[]),(35,[]),(36,[]),(37,[]),(38,[]),(39,[]),(40,[]),(41,[]),(42,[]),(43,[])] 0 [⟨[],3,65,66⟩,⟨[],3,62,63⟩,⟨[],3,60,61⟩,⟨[15],3,53,54⟩,⟨[8,15],3,46,47⟩,⟨[2,8,15],3,41,42⟩] fun cx => ?_
 exact mE zQ [84,6,5,2] [2]
theorem zEU (n : Nat) (y3 : Int) (v9 : zA) (x1 : Int) (x0 : zD) (v13 : zA) (h11 : (decide (y3 > 0)) = true) (ev13 : (idx x0.Rows (IntKind.wrap .i64 (y3 - 1))) = some v13) (cx : Cx) : AT Try.prog cx (rg Try.f175 8) [⟨[],3,65,66⟩,⟨[],3,62,63⟩,⟨[],3,60,61⟩,⟨[15],3,53,54⟩,⟨[8,15],3,46,47⟩,⟨[2,8,15],3,41,42⟩] 15 [28,27,26,25,24,23,22,21,20,19,18,17,16,15,14,13,12,11,10,9,8,7,6,5,4,3,2,1,0] ⟨100,0,[sB 69 false,sI 66 v9.Bare,sA 65 7 3 2,sI 63 v9.Members,sA 62 7 3 1,sI 61 v9.Bare,sA 60 7 3 2,sI 54 v9.Bare,sA 53 7 3 2,sI 47 v9.Members,sA 46 7 3 1,sI 42 v9.Id,sA 41 7 3 0,sA 7 7 3 0,sI 6 y3,sI 5 (IntKind.wrap .i64 ((IntKind.wrap .i64 (1 * 2 ^ min (((IntKind.wrap .u64 x1) : Int)).toNat (IntKind.bits .i64))) - 1)),sA 2 2 2 0],[(7,(zA.row v9)),(2,(CV.frzRow (zD.row x0)))]⟩ (fun s => s = ⟨100,0,[sB 84 (decide (v13.Id ≥ v9.Id)),sI 6 y3,sI 5 (IntKind.wrap .i64 ((IntKind.wrap .i64 (1 * 2 ^ min (((IntKind.wrap .u64 x1) : Int)).toNat (IntKind.bits .i64))) - 1)),sA 2 2 2 0],[(2,(CV.frzRow (zD.row x0)))]⟩) := by
 refine mA zQ [(29,[]),(30,[]),(31,[])] 12 [⟨[],3,65,66⟩,⟨[],3,62,63⟩,⟨[],3,60,61⟩,⟨[15],3,53,54⟩,⟨[8,15],3,46,47⟩,⟨[2,8,15],3,41,42⟩] fun cx => ?_
 refine sA_ 0x126f060c600000000e4 132 ⟨100,0,[sB 72 (decide (y3 > 0)),sB 69 false,sI 66 v9.Bare,sA 65 7 3 2,sI 63 v9.Members,sA 62 7 3 1,sI 61 v9.Bare,sA 60 7 3 2,sI 54 v9.Bare,sA 53 7 3 2,sI 47 v9.Members,sA 46 7 3 1,sI 42 v9.Id,sA 41 7 3 0,sA 7 7 3 0,sI 6 y3,sI 5 (IntKind.wrap .i64 ((IntKind.wrap .i64 (1 * 2 ^ min (((IntKind.wrap .u64 x1) : Int)).toNat (IntKind.bits .i64))) - 1)),sA 2 2 2 0],[(7,(zA.row v9)),(2,(CV.frzRow (zD.row x0)))]⟩ ?_
 rw [h11]
 refine mA zQ [(32,[]),(33,[]),(34,[]),(35,[])] 8 [⟨[],37,73,74⟩,⟨[],3,65,66⟩,⟨[],3,62,63⟩,⟨[],3,60,61⟩,⟨[15],3,53,54⟩,⟨[8,15],3,46,47⟩,⟨[2,8,15],3,41,42⟩] fun cx => ?_
 refine iN zQ 36 zA.row ev13 fun cx => ?_
 refine mA zQ [(37,[]),(38,[]),(39,[]),(40,[]),(41,[]),(42,[]),(43,[])] 0 [⟨[],3,80,81⟩,⟨[],37,73,74⟩,⟨[],3,65,66⟩,⟨[],3,62,63⟩,⟨[],3,60,61⟩,⟨[15],3,53,54⟩,⟨[8,15],3,46,47⟩,⟨[2,8,15],3,41,42⟩] fun cx => ?_
 exact mE zQ [84,6,5,2] [2]
theorem zEV (n : Nat) (v9 : zA) (y3 : Int) (x1 : Int) (x0 : zD) (cx : Cx) : AT Try.prog cx (rg Try.f175 8) [⟨[],3,65,66⟩,⟨[],3,62,63⟩,⟨[],3,60,61⟩,⟨[15],3,53,54⟩,⟨[8,15],3,46,47⟩,⟨[2,8,15],3,41,42⟩] 15 [28,27,26,25,24,23,22,21,20,19,18,17,16,15,14,13,12,11,10,9,8,7,6,5,4,3,2,1,0] ⟨100,0,[sB 69 true,sI 66 v9.Bare,sA 65 7 3 2,sI 63 v9.Members,sA 62 7 3 1,sI 61 v9.Bare,sA 60 7 3 2,sI 54 v9.Bare,sA 53 7 3 2,sI 47 v9.Members,sA 46 7 3 1,sI 42 v9.Id,sA 41 7 3 0,sA 7 7 3 0,sI 6 y3,sI 5 (IntKind.wrap .i64 ((IntKind.wrap .i64 (1 * 2 ^ min (((IntKind.wrap .u64 x1) : Int)).toNat (IntKind.bits .i64))) - 1)),sA 2 2 2 0],[(7,(zA.row v9)),(2,(CV.frzRow (zD.row x0)))]⟩ (fun s => s = ⟨100,0,[sB 84 true,sI 6 y3,sI 5 (IntKind.wrap .i64 ((IntKind.wrap .i64 (1 * 2 ^ min (((IntKind.wrap .u64 x1) : Int)).toNat (IntKind.bits .i64))) - 1)),sA 2 2 2 0],[(2,(CV.frzRow (zD.row x0)))]⟩) := by
 refine mA zQ [(29,[]),(30,[]),(31,[]),(32,[]),(33,[]),(34,[]),(35,[]),(36,[]),(37,[]),(38,[]),(39,[]),(40,[]),(41,[]),(42,[]),(43,[])] 0 [⟨[],3,65,66⟩,⟨[],3,62,63⟩,⟨[],3,60,61⟩,⟨[15],3,53,54⟩,⟨[8,15],3,46,47⟩,⟨[2,8,15],3,41,42⟩] fun cx => ?_
 exact mE zQ [84,6,5,2] [2]
theorem JD (n : Nat) (x0 : zD) (x1 : Int) (r : Bool) (H : zu n x0 x1 = some r) : zH Try.prog 175 [.val true (CV.frzRow (zD.row x0)),.val false [.lit (.int .i64 x1)]] [.val false [.lit (.bool r)]] [] := by
 refine cW Try.func175 (fun g d => sl [g 0,sl [g 1] (cn 24 (sl [g 2] .ret) .skip),g 3,sl [g 4] (.block 0 (.loop (sl [sl [g 5] (cn 33 .skip (.exit 0)),.block 1 (sl [g 7,d 8] (cn 84 (sl [g 9] .ret) .skip))] (g 6)))),sl [g 10] (.block 2 (.loop (sl [sl [g 11] (cn 89 .skip (.exit 2)),.block 3 (sl [d 13] (cn 99 (sl [g 14] .ret) .skip))] (g 12)))),g 15] .ret) [.tmp 4] fun cx => ?_
 unfold zu at H
 refine gA 2 6 4 ?_
 refine tS ?_
 refine rA 1 ?_
 obtain ⟨r1,er1,H⟩ := bs H
 refine vA [.rd,.rd,.rd] (zS n x1 1 6 r1 er1) ?_
 refine lA 2 ?_
 refine sL 4102 4 ⟨100,0,[sB 12 (!r1),sA 2 2 2 0,sI 1 x1],[(2,(CV.frzRow (zD.row x0)))]⟩ ?_
 cases h1 : (!r1)
 ·have H := zI h1 H
  refine lA 2 ?_
  refine kF x0.Pv intRow ?_
  refine lA 4 ?_
  refine sL 524294 4 ⟨100,0,[sB 19 ((x0.Pv.length : Int) != x1),sA 2 2 2 0,sI 1 x1],[(2,(CV.frzRow (zD.row x0)))]⟩ ?_
  cases h2 : ((x0.Pv.length : Int) != x1)
  ·have H := zI h2 H
   refine lA 2 ?_
   refine kF x0.Rows zA.row ?_
   refine uA 2 16777222 4 ?_
   obtain ⟨h3,H⟩ | ⟨h3,H⟩ := bC H
   ·refine nA h3 ?_
    refine tK ?_
    refine rA 2 ?_
    obtain ⟨hg2,H⟩ := gs H
    refine LAt.binC tOk (op := .shl) (t := 3) (ty := 103) (ty' := 3) (x := (.const (.int .i64 1))) (y := (.tmp 26)) (d := 27) (g := none) (.int .i64 1) (.int .u64 (IntKind.wrap .u64 x1)) (.int .i64 (IntKind.wrap .i64 (1 * 2 ^ min (((IntKind.wrap .u64 x1) : Int)).toNat (IntKind.bits .i64)))) _ kr kr kr kr kr (φ := (0 : Int) ≤ (IntKind.wrap .u64 x1)) kr (of_decide_eq_true hg2) rfl ?_
    refine uA 2 36 4 ?_
    refine tS ?_
    refine gA 1 100 4 ?_
    obtain ⟨o8,eo8,Ho8⟩ := bs H
    clear H
    refine Tr.mid (ι := Unit) (fun v => ⟨100,0,[sA 2 2 2 0],[(2,(CV.frzRow (zD.row x0)))]⟩) (fun v => Zk n x0 = some r) ?_ ?_
    ·refine tB ?_
     refine Tr.loop (ι := Nat × (Int)) (fun v => ⟨100,0,[sI 6 v.2,sI 5 (IntKind.wrap .i64 ((IntKind.wrap .i64 (1 * 2 ^ min (((IntKind.wrap .u64 x1) : Int)).toNat (IntKind.bits .i64))) - 1)),sA 2 2 2 0],[(2,(CV.frzRow (zD.row x0)))]⟩) (fun v => qJ n v.1 x0 x1 v.2 = some o8) (fun v => v.1) (n,0) eo8 (St.sub_of [6,5,2] [2] kr) ?_
     rintro ⟨mo8,y3⟩ H
     have H : qJ n mo8 x0 x1 y3 = some o8 := H
     obtain _ | mo8 := mo8
     ·exact nN H
     rw [qJ] at H
     refine tS ?_
     refine rA 3 ?_
     refine kF x0.Rows zA.row ?_
     refine uA 1 8589934692 4 ?_
     obtain ⟨h6,H⟩ | ⟨h6,H⟩ := bC H
     ·refine nA h6 ?_
      refine Tr.exit ?_
      refine aJ ?_
      obtain rfl := si H
      have H := Ho8
      dsimp only at H
      exact jA () H [2] [2]
     refine tA h6 ?_
     refine tK ?_
     refine tS ?_
     refine tB ?_
     refine rA 3 ?_
     obtain ⟨v9,ev9,H⟩ := bs H
     refine iA zA.row ev9 ?_
     refine uA 3 228 132 ?_
     obtain ⟨r10,er10,H⟩ := bs H
     refine sT ⟨100,0,[sA 7 7 3 0,sI 6 y3,sI 5 (IntKind.wrap .i64 ((IntKind.wrap .i64 (1 * 2 ^ min (((IntKind.wrap .u64 x1) : Int)).toNat (IntKind.bits .i64))) - 1)),sA 2 2 2 0],[(7,(zA.row v9)),(2,(CV.frzRow (zD.row x0)))]⟩ ?_
     cases h7 : (!r10)
     ·have H := zI h7 H
      obtain ⟨r11,er11,H⟩ := bs H
      refine sT ⟨100,0,[sA 7 7 3 0,sI 6 y3,sI 5 (IntKind.wrap .i64 ((IntKind.wrap .i64 (1 * 2 ^ min (((IntKind.wrap .u64 x1) : Int)).toNat (IntKind.bits .i64))) - 1)),sA 2 2 2 0],[(7,(zA.row v9)),(2,(CV.frzRow (zD.row x0)))]⟩ ?_
      cases h8 : (!r11)
      ·have H := zI h8 H
       obtain ⟨r12,er12,H⟩ := bs H
       refine sT ⟨100,0,[sA 7 7 3 0,sI 6 y3,sI 5 (IntKind.wrap .i64 ((IntKind.wrap .i64 (1 * 2 ^ min (((IntKind.wrap .u64 x1) : Int)).toNat (IntKind.bits .i64))) - 1)),sA 2 2 2 0],[(7,(zA.row v9)),(2,(CV.frzRow (zD.row x0)))]⟩ ?_
       cases h9 : (!r12)
       ·have H := zI h9 H
        refine sT ⟨100,0,[sA 7 7 3 0,sI 6 y3,sI 5 (IntKind.wrap .i64 ((IntKind.wrap .i64 (1 * 2 ^ min (((IntKind.wrap .u64 x1) : Int)).toNat (IntKind.bits .i64))) - 1)),sA 2 2 2 0],[(7,(zA.row v9)),(2,(CV.frzRow (zD.row x0)))]⟩ ?_
        cases h10 : ((IntKind.wrap .i64 (BitVec.ofInt (IntKind.bits .i64) v9.Bare &&& BitVec.ofInt (IntKind.bits .i64) v9.Members).toNat) != v9.Bare)
        ·have H := zI h10 H
         refine sT ⟨100,0,[sA 7 7 3 0,sI 6 y3,sI 5 (IntKind.wrap .i64 ((IntKind.wrap .i64 (1 * 2 ^ min (((IntKind.wrap .u64 x1) : Int)).toNat (IntKind.bits .i64))) - 1)),sA 2 2 2 0],[(7,(zA.row v9)),(2,(CV.frzRow (zD.row x0)))]⟩ ?_
         cases h11 : (decide (y3 > 0))
         ·have H := zI h11 H
          refine Tr.draws mixed 44 kr ⟨100,0,[sB 84 false,sI 6 y3,sI 5 (IntKind.wrap .i64 ((IntKind.wrap .i64 (1 * 2 ^ min (((IntKind.wrap .u64 x1) : Int)).toNat (IntKind.bits .i64))) - 1)),sA 2 2 2 0],[(2,(CV.frzRow (zD.row x0)))]⟩ (fun cx => ?_) ?_
          ·refine mA zQ [(0,[]),(1,[2,8,15])] 42 [⟨[2,8,15],3,41,42⟩] fun cx => ?_
           refine mC zQ 2 ?_
           refine vA [.rd,.rd,.rd] (zS n v9.Id 1 99 r10 er10) ?_
           refine fA ?_
           refine mA zQ [(3,[]),(4,[])] 39 [⟨[2,8,15],3,41,42⟩] fun cx => ?_
           refine sA_ 41781441855716 132 ⟨100,0,[sB 45 (!r10),sI 42 v9.Id,sA 41 7 3 0,sA 7 7 3 0,sI 6 y3,sI 5 (IntKind.wrap .i64 ((IntKind.wrap .i64 (1 * 2 ^ min (((IntKind.wrap .u64 x1) : Int)).toNat (IntKind.bits .i64))) - 1)),sA 2 2 2 0],[(7,(zA.row v9)),(2,(CV.frzRow (zD.row x0)))]⟩ ?_
           rw [h7]
           refine mA zQ [(5,[]),(6,[8,15]),(7,[])] 36 [⟨[8,15],3,46,47⟩,⟨[2,8,15],3,41,42⟩] fun cx => ?_
           refine mC zQ 8 ?_
           refine vA [.rd,.rd,.rd] (zS n v9.Members 0 (IntKind.wrap .i64 ((IntKind.wrap .i64 (1 * 2 ^ min (((IntKind.wrap .u64 x1) : Int)).toNat (IntKind.bits .i64))) - 1)) r11 er11) ?_
           refine fA ?_
           refine mA zQ [(9,[]),(10,[]),(11,[])] 32 [⟨[8,15],3,46,47⟩,⟨[2,8,15],3,41,42⟩] fun cx => ?_
           refine sA_ 4721302929670372 132 ⟨100,0,[sB 52 (!r11),sI 47 v9.Members,sA 46 7 3 1,sI 42 v9.Id,sA 41 7 3 0,sA 7 7 3 0,sI 6 y3,sI 5 (IntKind.wrap .i64 ((IntKind.wrap .i64 (1 * 2 ^ min (((IntKind.wrap .u64 x1) : Int)).toNat (IntKind.bits .i64))) - 1)),sA 2 2 2 0],[(7,(zA.row v9)),(2,(CV.frzRow (zD.row x0)))]⟩ ?_
           rw [h8]
           refine mA zQ [(12,[]),(13,[15]),(14,[])] 29 [⟨[15],3,53,54⟩,⟨[8,15],3,46,47⟩,⟨[2,8,15],3,41,42⟩] fun cx => ?_
           refine mC zQ 15 ?_
           refine vA [.rd,.rd,.rd] (zS n v9.Bare 0 (IntKind.wrap .i64 ((IntKind.wrap .i64 (1 * 2 ^ min (((IntKind.wrap .u64 x1) : Int)).toNat (IntKind.bits .i64))) - 1)) r12 er12) ?_
           refine fA ?_
           refine mA zQ [(16,[]),(17,[]),(18,[])] 25 [⟨[15],3,53,54⟩,⟨[8,15],3,46,47⟩,⟨[2,8,15],3,41,42⟩] fun cx => ?_
           refine sA_ 0x860c600000000e4 132 ⟨100,0,[sB 59 (!r12),sI 54 v9.Bare,sA 53 7 3 2,sI 47 v9.Members,sA 46 7 3 1,sI 42 v9.Id,sA 41 7 3 0,sA 7 7 3 0,sI 6 y3,sI 5 (IntKind.wrap .i64 ((IntKind.wrap .i64 (1 * 2 ^ min (((IntKind.wrap .u64 x1) : Int)).toNat (IntKind.bits .i64))) - 1)),sA 2 2 2 0],[(7,(zA.row v9)),(2,(CV.frzRow (zD.row x0)))]⟩ ?_
           rw [h9]
           refine mA zQ [(19,[]),(20,[]),(21,[]),(22,[]),(23,[]),(24,[]),(25,[]),(26,[]),(27,[]),(28,[])] 15 [⟨[],3,65,66⟩,⟨[],3,62,63⟩,⟨[],3,60,61⟩,⟨[15],3,53,54⟩,⟨[8,15],3,46,47⟩,⟨[2,8,15],3,41,42⟩] fun cx => ?_
           refine sA_ 0x26f060c600000000e4 132 ⟨100,0,[sB 69 ((IntKind.wrap .i64 (BitVec.ofInt (IntKind.bits .i64) v9.Bare &&& BitVec.ofInt (IntKind.bits .i64) v9.Members).toNat) != v9.Bare),sI 66 v9.Bare,sA 65 7 3 2,sI 63 v9.Members,sA 62 7 3 1,sI 61 v9.Bare,sA 60 7 3 2,sI 54 v9.Bare,sA 53 7 3 2,sI 47 v9.Members,sA 46 7 3 1,sI 42 v9.Id,sA 41 7 3 0,sA 7 7 3 0,sI 6 y3,sI 5 (IntKind.wrap .i64 ((IntKind.wrap .i64 (1 * 2 ^ min (((IntKind.wrap .u64 x1) : Int)).toNat (IntKind.bits .i64))) - 1)),sA 2 2 2 0],[(7,(zA.row v9)),(2,(CV.frzRow (zD.row x0)))]⟩ ?_
           rw [h10]
           exact zET n y3 v9 x1 x0 h11 cx
          refine nB_ ?_
          refine tK ?_
          refine eA 3 100 4 ?_
          exact jB mo8 (IntKind.wrap .i64 (y3 + 1)) H [6,5,2] [2]
         have H := zJ h11 H
         obtain ⟨v13,ev13,H⟩ := bs H
         refine Tr.draws mixed 44 kr ⟨100,0,[sB 84 (decide (v13.Id ≥ v9.Id)),sI 6 y3,sI 5 (IntKind.wrap .i64 ((IntKind.wrap .i64 (1 * 2 ^ min (((IntKind.wrap .u64 x1) : Int)).toNat (IntKind.bits .i64))) - 1)),sA 2 2 2 0],[(2,(CV.frzRow (zD.row x0)))]⟩ (fun cx => ?_) ?_
         ·refine mA zQ [(0,[]),(1,[2,8,15])] 42 [⟨[2,8,15],3,41,42⟩] fun cx => ?_
          refine mC zQ 2 ?_
          refine vA [.rd,.rd,.rd] (zS n v9.Id 1 99 r10 er10) ?_
          refine fA ?_
          refine mA zQ [(3,[]),(4,[])] 39 [⟨[2,8,15],3,41,42⟩] fun cx => ?_
          refine sA_ 41781441855716 132 ⟨100,0,[sB 45 (!r10),sI 42 v9.Id,sA 41 7 3 0,sA 7 7 3 0,sI 6 y3,sI 5 (IntKind.wrap .i64 ((IntKind.wrap .i64 (1 * 2 ^ min (((IntKind.wrap .u64 x1) : Int)).toNat (IntKind.bits .i64))) - 1)),sA 2 2 2 0],[(7,(zA.row v9)),(2,(CV.frzRow (zD.row x0)))]⟩ ?_
          rw [h7]
          refine mA zQ [(5,[]),(6,[8,15]),(7,[])] 36 [⟨[8,15],3,46,47⟩,⟨[2,8,15],3,41,42⟩] fun cx => ?_
          refine mC zQ 8 ?_
          refine vA [.rd,.rd,.rd] (zS n v9.Members 0 (IntKind.wrap .i64 ((IntKind.wrap .i64 (1 * 2 ^ min (((IntKind.wrap .u64 x1) : Int)).toNat (IntKind.bits .i64))) - 1)) r11 er11) ?_
          refine fA ?_
          refine mA zQ [(9,[]),(10,[]),(11,[])] 32 [⟨[8,15],3,46,47⟩,⟨[2,8,15],3,41,42⟩] fun cx => ?_
          refine sA_ 4721302929670372 132 ⟨100,0,[sB 52 (!r11),sI 47 v9.Members,sA 46 7 3 1,sI 42 v9.Id,sA 41 7 3 0,sA 7 7 3 0,sI 6 y3,sI 5 (IntKind.wrap .i64 ((IntKind.wrap .i64 (1 * 2 ^ min (((IntKind.wrap .u64 x1) : Int)).toNat (IntKind.bits .i64))) - 1)),sA 2 2 2 0],[(7,(zA.row v9)),(2,(CV.frzRow (zD.row x0)))]⟩ ?_
          rw [h8]
          refine mA zQ [(12,[]),(13,[15]),(14,[])] 29 [⟨[15],3,53,54⟩,⟨[8,15],3,46,47⟩,⟨[2,8,15],3,41,42⟩] fun cx => ?_
          refine mC zQ 15 ?_
          refine vA [.rd,.rd,.rd] (zS n v9.Bare 0 (IntKind.wrap .i64 ((IntKind.wrap .i64 (1 * 2 ^ min (((IntKind.wrap .u64 x1) : Int)).toNat (IntKind.bits .i64))) - 1)) r12 er12) ?_
          refine fA ?_
          refine mA zQ [(16,[]),(17,[]),(18,[])] 25 [⟨[15],3,53,54⟩,⟨[8,15],3,46,47⟩,⟨[2,8,15],3,41,42⟩] fun cx => ?_
          refine sA_ 0x860c600000000e4 132 ⟨100,0,[sB 59 (!r12),sI 54 v9.Bare,sA 53 7 3 2,sI 47 v9.Members,sA 46 7 3 1,sI 42 v9.Id,sA 41 7 3 0,sA 7 7 3 0,sI 6 y3,sI 5 (IntKind.wrap .i64 ((IntKind.wrap .i64 (1 * 2 ^ min (((IntKind.wrap .u64 x1) : Int)).toNat (IntKind.bits .i64))) - 1)),sA 2 2 2 0],[(7,(zA.row v9)),(2,(CV.frzRow (zD.row x0)))]⟩ ?_
          rw [h9]
          refine mA zQ [(19,[]),(20,[]),(21,[]),(22,[]),(23,[]),(24,[]),(25,[]),(26,[]),(27,[]),(28,[])] 15 [⟨[],3,65,66⟩,⟨[],3,62,63⟩,⟨[],3,60,61⟩,⟨[15],3,53,54⟩,⟨[8,15],3,46,47⟩,⟨[2,8,15],3,41,42⟩] fun cx => ?_
          refine sA_ 0x26f060c600000000e4 132 ⟨100,0,[sB 69 ((IntKind.wrap .i64 (BitVec.ofInt (IntKind.bits .i64) v9.Bare &&& BitVec.ofInt (IntKind.bits .i64) v9.Members).toNat) != v9.Bare),sI 66 v9.Bare,sA 65 7 3 2,sI 63 v9.Members,sA 62 7 3 1,sI 61 v9.Bare,sA 60 7 3 2,sI 54 v9.Bare,sA 53 7 3 2,sI 47 v9.Members,sA 46 7 3 1,sI 42 v9.Id,sA 41 7 3 0,sA 7 7 3 0,sI 6 y3,sI 5 (IntKind.wrap .i64 ((IntKind.wrap .i64 (1 * 2 ^ min (((IntKind.wrap .u64 x1) : Int)).toNat (IntKind.bits .i64))) - 1)),sA 2 2 2 0],[(7,(zA.row v9)),(2,(CV.frzRow (zD.row x0)))]⟩ ?_
          rw [h10]
          exact zEU n y3 v9 x1 x0 v13 h11 ev13 cx
         refine sT ⟨100,0,[sB 84 (decide (v13.Id ≥ v9.Id)),sI 6 y3,sI 5 (IntKind.wrap .i64 ((IntKind.wrap .i64 (1 * 2 ^ min (((IntKind.wrap .u64 x1) : Int)).toNat (IntKind.bits .i64))) - 1)),sA 2 2 2 0],[(2,(CV.frzRow (zD.row x0)))]⟩ ?_
         cases h12 : (decide (v13.Id ≥ v9.Id))
         ·have H := zI h12 H
          refine nB_ ?_
          refine tK ?_
          refine eA 3 100 4 ?_
          exact jB mo8 (IntKind.wrap .i64 (y3 + 1)) H [6,5,2] [2]
         have H := zJ h12 H
         refine tB_ ?_
         refine gA 1 16 0 ?_
         refine te ?_
         obtain rfl := si H
         have H := Ho8
         dsimp only at H
         exact fF H
        have H := zJ h10 H
        refine Tr.draws mixed 44 kr ⟨100,0,[sB 84 true,sI 6 y3,sI 5 (IntKind.wrap .i64 ((IntKind.wrap .i64 (1 * 2 ^ min (((IntKind.wrap .u64 x1) : Int)).toNat (IntKind.bits .i64))) - 1)),sA 2 2 2 0],[(2,(CV.frzRow (zD.row x0)))]⟩ (fun cx => ?_) ?_
        ·refine mA zQ [(0,[]),(1,[2,8,15])] 42 [⟨[2,8,15],3,41,42⟩] fun cx => ?_
         refine mC zQ 2 ?_
         refine vA [.rd,.rd,.rd] (zS n v9.Id 1 99 r10 er10) ?_
         refine fA ?_
         refine mA zQ [(3,[]),(4,[])] 39 [⟨[2,8,15],3,41,42⟩] fun cx => ?_
         refine sA_ 41781441855716 132 ⟨100,0,[sB 45 (!r10),sI 42 v9.Id,sA 41 7 3 0,sA 7 7 3 0,sI 6 y3,sI 5 (IntKind.wrap .i64 ((IntKind.wrap .i64 (1 * 2 ^ min (((IntKind.wrap .u64 x1) : Int)).toNat (IntKind.bits .i64))) - 1)),sA 2 2 2 0],[(7,(zA.row v9)),(2,(CV.frzRow (zD.row x0)))]⟩ ?_
         rw [h7]
         refine mA zQ [(5,[]),(6,[8,15]),(7,[])] 36 [⟨[8,15],3,46,47⟩,⟨[2,8,15],3,41,42⟩] fun cx => ?_
         refine mC zQ 8 ?_
         refine vA [.rd,.rd,.rd] (zS n v9.Members 0 (IntKind.wrap .i64 ((IntKind.wrap .i64 (1 * 2 ^ min (((IntKind.wrap .u64 x1) : Int)).toNat (IntKind.bits .i64))) - 1)) r11 er11) ?_
         refine fA ?_
         refine mA zQ [(9,[]),(10,[]),(11,[])] 32 [⟨[8,15],3,46,47⟩,⟨[2,8,15],3,41,42⟩] fun cx => ?_
         refine sA_ 4721302929670372 132 ⟨100,0,[sB 52 (!r11),sI 47 v9.Members,sA 46 7 3 1,sI 42 v9.Id,sA 41 7 3 0,sA 7 7 3 0,sI 6 y3,sI 5 (IntKind.wrap .i64 ((IntKind.wrap .i64 (1 * 2 ^ min (((IntKind.wrap .u64 x1) : Int)).toNat (IntKind.bits .i64))) - 1)),sA 2 2 2 0],[(7,(zA.row v9)),(2,(CV.frzRow (zD.row x0)))]⟩ ?_
         rw [h8]
         refine mA zQ [(12,[]),(13,[15]),(14,[])] 29 [⟨[15],3,53,54⟩,⟨[8,15],3,46,47⟩,⟨[2,8,15],3,41,42⟩] fun cx => ?_
         refine mC zQ 15 ?_
         refine vA [.rd,.rd,.rd] (zS n v9.Bare 0 (IntKind.wrap .i64 ((IntKind.wrap .i64 (1 * 2 ^ min (((IntKind.wrap .u64 x1) : Int)).toNat (IntKind.bits .i64))) - 1)) r12 er12) ?_
         refine fA ?_
         refine mA zQ [(16,[]),(17,[]),(18,[])] 25 [⟨[15],3,53,54⟩,⟨[8,15],3,46,47⟩,⟨[2,8,15],3,41,42⟩] fun cx => ?_
         refine sA_ 0x860c600000000e4 132 ⟨100,0,[sB 59 (!r12),sI 54 v9.Bare,sA 53 7 3 2,sI 47 v9.Members,sA 46 7 3 1,sI 42 v9.Id,sA 41 7 3 0,sA 7 7 3 0,sI 6 y3,sI 5 (IntKind.wrap .i64 ((IntKind.wrap .i64 (1 * 2 ^ min (((IntKind.wrap .u64 x1) : Int)).toNat (IntKind.bits .i64))) - 1)),sA 2 2 2 0],[(7,(zA.row v9)),(2,(CV.frzRow (zD.row x0)))]⟩ ?_
         rw [h9]
         refine mA zQ [(19,[]),(20,[]),(21,[]),(22,[]),(23,[]),(24,[]),(25,[]),(26,[]),(27,[]),(28,[])] 15 [⟨[],3,65,66⟩,⟨[],3,62,63⟩,⟨[],3,60,61⟩,⟨[15],3,53,54⟩,⟨[8,15],3,46,47⟩,⟨[2,8,15],3,41,42⟩] fun cx => ?_
         refine sA_ 0x26f060c600000000e4 132 ⟨100,0,[sB 69 ((IntKind.wrap .i64 (BitVec.ofInt (IntKind.bits .i64) v9.Bare &&& BitVec.ofInt (IntKind.bits .i64) v9.Members).toNat) != v9.Bare),sI 66 v9.Bare,sA 65 7 3 2,sI 63 v9.Members,sA 62 7 3 1,sI 61 v9.Bare,sA 60 7 3 2,sI 54 v9.Bare,sA 53 7 3 2,sI 47 v9.Members,sA 46 7 3 1,sI 42 v9.Id,sA 41 7 3 0,sA 7 7 3 0,sI 6 y3,sI 5 (IntKind.wrap .i64 ((IntKind.wrap .i64 (1 * 2 ^ min (((IntKind.wrap .u64 x1) : Int)).toNat (IntKind.bits .i64))) - 1)),sA 2 2 2 0],[(7,(zA.row v9)),(2,(CV.frzRow (zD.row x0)))]⟩ ?_
         rw [h10]
         exact zEV n v9 y3 x1 x0 cx
        refine tB_ ?_
        refine gA 1 16 0 ?_
        refine te ?_
        obtain rfl := si H
        have H := Ho8
        dsimp only at H
        exact fF H
       have H := zJ h9 H
       refine Tr.draws mixed 44 kr ⟨100,0,[sB 84 true,sI 6 y3,sI 5 (IntKind.wrap .i64 ((IntKind.wrap .i64 (1 * 2 ^ min (((IntKind.wrap .u64 x1) : Int)).toNat (IntKind.bits .i64))) - 1)),sA 2 2 2 0],[(2,(CV.frzRow (zD.row x0)))]⟩ (fun cx => ?_) ?_
       ·refine mA zQ [(0,[]),(1,[2,8,15])] 42 [⟨[2,8,15],3,41,42⟩] fun cx => ?_
        refine mC zQ 2 ?_
        refine vA [.rd,.rd,.rd] (zS n v9.Id 1 99 r10 er10) ?_
        refine fA ?_
        refine mA zQ [(3,[]),(4,[])] 39 [⟨[2,8,15],3,41,42⟩] fun cx => ?_
        refine sA_ 41781441855716 132 ⟨100,0,[sB 45 (!r10),sI 42 v9.Id,sA 41 7 3 0,sA 7 7 3 0,sI 6 y3,sI 5 (IntKind.wrap .i64 ((IntKind.wrap .i64 (1 * 2 ^ min (((IntKind.wrap .u64 x1) : Int)).toNat (IntKind.bits .i64))) - 1)),sA 2 2 2 0],[(7,(zA.row v9)),(2,(CV.frzRow (zD.row x0)))]⟩ ?_
        rw [h7]
        refine mA zQ [(5,[]),(6,[8,15]),(7,[])] 36 [⟨[8,15],3,46,47⟩,⟨[2,8,15],3,41,42⟩] fun cx => ?_
        refine mC zQ 8 ?_
        refine vA [.rd,.rd,.rd] (zS n v9.Members 0 (IntKind.wrap .i64 ((IntKind.wrap .i64 (1 * 2 ^ min (((IntKind.wrap .u64 x1) : Int)).toNat (IntKind.bits .i64))) - 1)) r11 er11) ?_
        refine fA ?_
        refine mA zQ [(9,[]),(10,[]),(11,[])] 32 [⟨[8,15],3,46,47⟩,⟨[2,8,15],3,41,42⟩] fun cx => ?_
        refine sA_ 4721302929670372 132 ⟨100,0,[sB 52 (!r11),sI 47 v9.Members,sA 46 7 3 1,sI 42 v9.Id,sA 41 7 3 0,sA 7 7 3 0,sI 6 y3,sI 5 (IntKind.wrap .i64 ((IntKind.wrap .i64 (1 * 2 ^ min (((IntKind.wrap .u64 x1) : Int)).toNat (IntKind.bits .i64))) - 1)),sA 2 2 2 0],[(7,(zA.row v9)),(2,(CV.frzRow (zD.row x0)))]⟩ ?_
        rw [h8]
        refine mA zQ [(12,[]),(13,[15]),(14,[])] 29 [⟨[15],3,53,54⟩,⟨[8,15],3,46,47⟩,⟨[2,8,15],3,41,42⟩] fun cx => ?_
        refine mC zQ 15 ?_
        refine vA [.rd,.rd,.rd] (zS n v9.Bare 0 (IntKind.wrap .i64 ((IntKind.wrap .i64 (1 * 2 ^ min (((IntKind.wrap .u64 x1) : Int)).toNat (IntKind.bits .i64))) - 1)) r12 er12) ?_
        refine fA ?_
        refine mA zQ [(16,[]),(17,[]),(18,[])] 25 [⟨[15],3,53,54⟩,⟨[8,15],3,46,47⟩,⟨[2,8,15],3,41,42⟩] fun cx => ?_
        refine sA_ 0x860c600000000e4 132 ⟨100,0,[sB 59 (!r12),sI 54 v9.Bare,sA 53 7 3 2,sI 47 v9.Members,sA 46 7 3 1,sI 42 v9.Id,sA 41 7 3 0,sA 7 7 3 0,sI 6 y3,sI 5 (IntKind.wrap .i64 ((IntKind.wrap .i64 (1 * 2 ^ min (((IntKind.wrap .u64 x1) : Int)).toNat (IntKind.bits .i64))) - 1)),sA 2 2 2 0],[(7,(zA.row v9)),(2,(CV.frzRow (zD.row x0)))]⟩ ?_
        rw [h9]
        refine mA zQ [(19,[]),(20,[]),(21,[]),(22,[]),(23,[]),(24,[]),(25,[]),(26,[]),(27,[]),(28,[]),(29,[]),(30,[]),(31,[]),(32,[]),(33,[]),(34,[]),(35,[]),(36,[]),(37,[]),(38,[]),(39,[]),(40,[]),(41,[]),(42,[]),(43,[])] 0 [⟨[15],3,53,54⟩,⟨[8,15],3,46,47⟩,⟨[2,8,15],3,41,42⟩] fun cx => ?_
        exact mE zQ [84,6,5,2] [2]
       refine tB_ ?_
       refine gA 1 16 0 ?_
       refine te ?_
       obtain rfl := si H
       have H := Ho8
       dsimp only at H
       exact fF H
      have H := zJ h8 H
      refine Tr.draws mixed 44 kr ⟨100,0,[sB 84 true,sI 6 y3,sI 5 (IntKind.wrap .i64 ((IntKind.wrap .i64 (1 * 2 ^ min (((IntKind.wrap .u64 x1) : Int)).toNat (IntKind.bits .i64))) - 1)),sA 2 2 2 0],[(2,(CV.frzRow (zD.row x0)))]⟩ (fun cx => ?_) ?_
      ·refine mA zQ [(0,[]),(1,[2,8])] 42 [⟨[2,8],3,41,42⟩] fun cx => ?_
       refine mC zQ 2 ?_
       refine vA [.rd,.rd,.rd] (zS n v9.Id 1 99 r10 er10) ?_
       refine fA ?_
       refine mA zQ [(3,[]),(4,[])] 39 [⟨[2,8],3,41,42⟩] fun cx => ?_
       refine sA_ 41781441855716 132 ⟨100,0,[sB 45 (!r10),sI 42 v9.Id,sA 41 7 3 0,sA 7 7 3 0,sI 6 y3,sI 5 (IntKind.wrap .i64 ((IntKind.wrap .i64 (1 * 2 ^ min (((IntKind.wrap .u64 x1) : Int)).toNat (IntKind.bits .i64))) - 1)),sA 2 2 2 0],[(7,(zA.row v9)),(2,(CV.frzRow (zD.row x0)))]⟩ ?_
       rw [h7]
       refine mA zQ [(5,[]),(6,[8]),(7,[])] 36 [⟨[8],3,46,47⟩,⟨[2,8],3,41,42⟩] fun cx => ?_
       refine mC zQ 8 ?_
       refine vA [.rd,.rd,.rd] (zS n v9.Members 0 (IntKind.wrap .i64 ((IntKind.wrap .i64 (1 * 2 ^ min (((IntKind.wrap .u64 x1) : Int)).toNat (IntKind.bits .i64))) - 1)) r11 er11) ?_
       refine fA ?_
       refine mA zQ [(9,[]),(10,[]),(11,[])] 32 [⟨[8],3,46,47⟩,⟨[2,8],3,41,42⟩] fun cx => ?_
       refine sA_ 4721302929670372 132 ⟨100,0,[sB 52 (!r11),sI 47 v9.Members,sA 46 7 3 1,sI 42 v9.Id,sA 41 7 3 0,sA 7 7 3 0,sI 6 y3,sI 5 (IntKind.wrap .i64 ((IntKind.wrap .i64 (1 * 2 ^ min (((IntKind.wrap .u64 x1) : Int)).toNat (IntKind.bits .i64))) - 1)),sA 2 2 2 0],[(7,(zA.row v9)),(2,(CV.frzRow (zD.row x0)))]⟩ ?_
       rw [h8]
       refine mA zQ [(12,[]),(13,[]),(14,[]),(15,[]),(16,[]),(17,[]),(18,[]),(19,[]),(20,[]),(21,[]),(22,[]),(23,[]),(24,[]),(25,[]),(26,[]),(27,[]),(28,[]),(29,[]),(30,[]),(31,[]),(32,[]),(33,[]),(34,[]),(35,[]),(36,[]),(37,[]),(38,[]),(39,[]),(40,[]),(41,[]),(42,[]),(43,[])] 0 [⟨[8],3,46,47⟩,⟨[2,8],3,41,42⟩] fun cx => ?_
       exact mE zQ [84,6,5,2] [2]
      refine tB_ ?_
      refine gA 1 16 0 ?_
      refine te ?_
      obtain rfl := si H
      have H := Ho8
      dsimp only at H
      exact fF H
     have H := zJ h7 H
     refine Tr.draws mixed 44 kr ⟨100,0,[sB 84 true,sI 6 y3,sI 5 (IntKind.wrap .i64 ((IntKind.wrap .i64 (1 * 2 ^ min (((IntKind.wrap .u64 x1) : Int)).toNat (IntKind.bits .i64))) - 1)),sA 2 2 2 0],[(2,(CV.frzRow (zD.row x0)))]⟩ (fun cx => ?_) ?_
     ·refine mA zQ [(0,[]),(1,[2])] 42 [⟨[2],3,41,42⟩] fun cx => ?_
      refine mC zQ 2 ?_
      refine vA [.rd,.rd,.rd] (zS n v9.Id 1 99 r10 er10) ?_
      refine fA ?_
      refine mA zQ [(3,[]),(4,[])] 39 [⟨[2],3,41,42⟩] fun cx => ?_
      refine sA_ 41781441855716 132 ⟨100,0,[sB 45 (!r10),sI 42 v9.Id,sA 41 7 3 0,sA 7 7 3 0,sI 6 y3,sI 5 (IntKind.wrap .i64 ((IntKind.wrap .i64 (1 * 2 ^ min (((IntKind.wrap .u64 x1) : Int)).toNat (IntKind.bits .i64))) - 1)),sA 2 2 2 0],[(7,(zA.row v9)),(2,(CV.frzRow (zD.row x0)))]⟩ ?_
      rw [h7]
      refine mA zQ [(5,[]),(6,[]),(7,[]),(8,[]),(9,[]),(10,[]),(11,[]),(12,[]),(13,[]),(14,[]),(15,[]),(16,[]),(17,[]),(18,[]),(19,[]),(20,[]),(21,[]),(22,[]),(23,[]),(24,[]),(25,[]),(26,[]),(27,[]),(28,[]),(29,[]),(30,[]),(31,[]),(32,[]),(33,[]),(34,[]),(35,[]),(36,[]),(37,[]),(38,[]),(39,[]),(40,[]),(41,[]),(42,[]),(43,[])] 0 [⟨[2],3,41,42⟩] fun cx => ?_
      exact mE zQ [84,6,5,2] [2]
     refine tB_ ?_
     refine gA 1 16 0 ?_
     refine te ?_
     obtain rfl := si H
     have H := Ho8
     dsimp only at H
     exact fF H
    rintro _ H
    have H : (Zk n x0) = some r := H
    unfold Zk at H
    refine tS ?_
    refine gA 1 260 4 ?_
    obtain ⟨o5,eo5,Ho5⟩ := bs H
    clear H
    refine Tr.mid (ι := Unit) (fun v => ⟨100,0,[],[]⟩) (fun v => Yx n = some r) ?_ ?_
    ·refine tB ?_
     refine Tr.loop (ι := Nat × (Int)) (fun v => ⟨100,0,[sI 8 v.2,sA 2 2 2 0],[(2,(CV.frzRow (zD.row x0)))]⟩) (fun v => qR n v.1 x0 v.2 = some o5) (fun v => v.1) (n,0) eo5 (St.sub_of [8,2] [2] kr) ?_
     rintro ⟨mo5,y4⟩ H
     have H : qR n mo5 x0 y4 = some o5 := H
     obtain _ | mo5 := mo5
     ·exact nN H
     rw [qR] at H
     refine tS ?_
     refine rA 3 ?_
     refine kF x0.Pv intRow ?_
     refine uA 1 0x20000000000000000000104 4 ?_
     obtain ⟨h4,H⟩ | ⟨h4,H⟩ := bC H
     ·refine nA h4 ?_
      refine Tr.exit ?_
      refine aJ ?_
      obtain rfl := si H
      have H := Ho5
      dsimp only at H
      exact jA () H [] []
     refine tA h4 ?_
     refine tK ?_
     refine tS ?_
     refine tB ?_
     obtain ⟨v6,ev6,H⟩ := bs H
     obtain ⟨r7,er7,H⟩ := bs H
     refine Tr.draws mixed 8 kr ⟨100,0,[sB 99 (decide (r7 < 0)),sI 8 y4,sA 2 2 2 0],[(2,(CV.frzRow (zD.row x0)))]⟩ (fun cx => ?_) ?_
     ·refine aA [(0,[6]),(1,[]),(2,[6]),(3,[])] 4 [⟨[6],38,93,94⟩,⟨[6],40,2,92⟩] fun cx => ?_
      refine aI tOk 4 38 0 94 95 96 none ⟨(.box 2),[(0,0)],1,false,1,(CV.frzEs (x0.Pv.map intRow))⟩ y4 [cI v6] _ kr kr kr kr kr kr rfl (Qo ev6) rfl (fun cx => ?_)
      refine aA [(5,[])] 2 [⟨[6],38,93,94⟩,⟨[6],40,2,92⟩] fun cx => ?_
      refine bA 6 ?_
      refine vA [.rd,.rd] (zDq n x0 v6 r7 er7) ?_
      refine fA ?_
      refine aA [(7,[])] 0 [⟨[6],38,93,94⟩,⟨[6],40,2,92⟩] fun cx => ?_
      exact eE [99,8,2] [2]
     refine sT ⟨100,0,[sB 99 (decide (r7 < 0)),sI 8 y4,sA 2 2 2 0],[(2,(CV.frzRow (zD.row x0)))]⟩ ?_
     cases h5 : (decide (r7 < 0))
     ·have H := zI h5 H
      refine nB_ ?_
      refine tK ?_
      refine eA 3 260 4 ?_
      exact jB mo5 (IntKind.wrap .i64 (y4 + 1)) H [8,2] [2]
     have H := zJ h5 H
     refine tB_ ?_
     refine gA 1 16 0 ?_
     refine te ?_
     obtain rfl := si H
     have H := Ho5
     dsimp only at H
     exact fF H
    rintro _ H
    have H : (Yx n) = some r := H
    unfold Yx at H
    refine gA 1 16 0 ?_
    exact te (fT H)
   refine tA h3 ?_
   refine gA 1 16 0 ?_
   exact te (fF H)
  have H := zJ h2 H
  refine uA 5 16777222 4 ?_
  refine tB_ ?_
  refine gA 1 16 0 ?_
  exact te (fF H)
 have H := zJ h1 H
 refine uA 12 16777222 4 ?_
 refine tB_ ?_
 refine gA 1 16 0 ?_
 exact te (fF H)
def qf (n : Nat) (x0 : zD) : Option (zD) :=
  (bif (decide (([] : List zA).length + x0.Rows.length ≤ 268435456)) then (bif (decide (([] : List Int).length + x0.Pv.length ≤ 268435456)) then (some (⟨(([] : List zA) ++ x0.Rows),(([] : List Int) ++ x0.Pv)⟩ : zD)) else none) else none)
theorem QH (n : Nat) (x0 : zD) (r : zD) (H : qf n x0 = some r) : zH Try.prog 176 [.val true (CV.frzRow (zD.row x0))] [.val true (zD.row r)] [] := by
 refine cW Try.func176 (fun g d => sl [g 0,d 1] .ret) [.cell 2 40] fun cx => ?_
 unfold qf at H
 refine gA 2 6 6 ?_
 obtain ⟨hg1,H⟩ := gs H
 obtain ⟨hg2,H⟩ := gs H
 refine Tr.draws mixed 10 kr ⟨12,0,[sA 2 2 2 0],[(2,[cL 3 (([] : List zA) ++ x0.Rows) zA.row,cL 1 (([] : List Int) ++ x0.Pv) intRow])]⟩ (fun cx => ?_) ?_
 ·refine aA [(1,[]),(2,[3,7,8,9]),(5,[]),(6,[7,8,9])] 6 [⟨[7,8,9],38,8,9⟩,⟨[3,7,8,9],37,4,5⟩] fun cx => ?_
  refine AT.big2 tOk 0 4 kr (And.intro kr ?_) (And.intro kr ?_)
  ·refine lA 1 ?_
   refine fA ?_
   refine AT.big2 tOk 3 4 kr (And.intro kr ?_) (And.intro kr ?_)
   ·refine pD zA.row hg1 ?_
    refine fA ?_
    refine bA 4 ?_
    refine lA 1 ?_
    refine fA ?_
    refine bA 7 ?_
    refine pD intRow hg2 ?_
    refine fA ?_
    refine bA 8 ?_
    refine lA 1 ?_
    refine fA ?_
    refine bA 9 ?_
    refine lA 1 ?_
    refine fA ?_
    exact eE [2] [2]
   ·refine lA 1 ?_
    refine fA ?_
    refine bA 3 ?_
    refine pD zA.row hg1 ?_
    refine fA ?_
    refine bA 7 ?_
    refine pD intRow hg2 ?_
    refine fA ?_
    refine bA 8 ?_
    refine lA 1 ?_
    refine fA ?_
    refine bA 9 ?_
    refine lA 1 ?_
    refine fA ?_
    exact eE [2] [2]
  ·refine lA 1 ?_
   refine fA ?_
   refine bA 0 ?_
   refine lA 1 ?_
   refine fA ?_
   refine bA 3 ?_
   refine pD zA.row hg1 ?_
   refine fA ?_
   refine bA 7 ?_
   refine pD intRow hg2 ?_
   refine fA ?_
   refine bA 8 ?_
   refine lA 1 ?_
   refine fA ?_
   refine bA 9 ?_
   refine lA 1 ?_
   refine fA ?_
   exact eE [2] [2]
 exact te (fJ [(true,[cL 3 (([] : List zA) ++ x0.Rows) zA.row,cL 1 (([] : List Int) ++ x0.Pv) intRow])] H)
def Q6 (n : Nat) (x0 : zD) (x1 : zD) : Option (zD × Bool) :=
  ((zu n x0 (x1.Pv.length : Int)).bind fun r1 => (bif (!r1) then ((qf n x1).bind fun r2 => (some (r2,false))) else (some (x0,true))))
theorem zCP (n : Nat) (x0 : zD) (x1 : zD) (r : zD × Bool) (H : Q6 n x0 x1 = some r) : zH Try.prog 177 [.own true (zD.row x0),.val true (CV.frzRow (zD.row x1))] [.val true (zD.row r.1),.val false [.lit (.bool r.2)]] [] := by
 refine cW Try.func177 (fun g d => sl [g 0,sl [g 1] (cn 11 (sl [g 2] .ret) .skip),g 3] .ret) [.cell 4 40,.tmp 5] fun cx => ?_
 unfold Q6 at H
 refine gA 4 28 28 ?_
 refine tS ?_
 refine rA 3 ?_
 refine kF x1.Pv intRow ?_
 obtain ⟨r1,er1,H⟩ := bs H
 refine vB [.rd,.rd] [.box 2] (JD n x0 (x1.Pv.length : Int) r1 er1) (.inr (qa (zG zN qA) Zj)) ?_
 refine uA 1 2076 28 ?_
 obtain ⟨h1,H⟩ | ⟨h1,H⟩ := bC H
 ·refine nA h1 ?_
  refine tK ?_
  refine gA 3 48 16 ?_
  exact te (fJ [(true,(zD.row x0)),(false,[cB true])] H)
 refine tA h1 ?_
 refine rA 1 ?_
 obtain ⟨r2,er2,H⟩ := bs H
 refine vA [.rd] (QH n x1 r2 er2) ?_
 refine uA 2 48 16 ?_
 exact te (fJ [(true,(zD.row r2)),(false,[cB false])] H)
def YB (n : Nat) (x0 : zD) (x1 : Int) (x2 : Int) : Option (zD × Bool) :=
  ((zu n x0 (x0.Pv.length : Int)).bind fun r1 => (bif (!r1) then ((qf n x0).bind fun r7 => (some (r7,false))) else ((zT n x1 0 (IntKind.wrap .i64 ((x0.Pv.length : Int) - 1))).bind fun r2 => (bif (!r2) then ((qf n x0).bind fun r6 => (some (r6,false))) else ((qf n x0).bind fun r3 => ((idx r3.Pv x1).bind fun v4 => ((Q6 n (⟨r3.Rows,(r3.Pv.set (x1.toNat) x2)⟩ : zD) x0).bind fun r5 => (some (r5.1,r5.2)))))))))
theorem zFg (n : Nat) (x0 : zD) (x1 : Int) (x2 : Int) (r : zD × Bool) (H : YB n x0 x1 x2 = some r) : zH Try.prog 149 [.val true (CV.frzRow (zD.row x0)),.val false [.lit (.int .i64 x1)],.val false [.lit (.int .i64 x2)]] [.val true (zD.row r.1),.val false [.lit (.bool r.2)]] [] := by
 refine cW Try.func149 (fun g d => sl [g 0,sl [g 1] (cn 23 (sl [g 2] .ret) .skip),g 3,g 4,g 5] .ret) [.cell 6 40,.tmp 7] fun cx => ?_
 unfold YB at H
 refine gA 3 78 72 ?_
 refine tS ?_
 refine rA 3 ?_
 refine kF x0.Pv intRow ?_
 obtain ⟨r1,er1,H⟩ := bs H
 refine vA [.rd,.rd] (JD n x0 (x0.Pv.length : Int) r1 er1) ?_
 refine lA 2 ?_
 refine sL 32846 72 ⟨38,0,[sB 15 (!r1),sA 6 6 2 0,sA 3 3 2 0,sI 1 x1,sI 2 x2],[(6,[cL 3 ([] : List zA) zA.row,cL 1 ([] : List Int) intRow]),(3,(CV.frzRow (zD.row x0)))]⟩ ?_
 cases h1 : (!r1)
 ·have H := zI h1 H
  refine lA 3 ?_
  refine kF x0.Pv intRow ?_
  refine lA 1 ?_
  obtain ⟨r2,er2,H⟩ := bs H
  refine vA [.rd,.rd,.rd] (zS n x1 0 (IntKind.wrap .i64 ((x0.Pv.length : Int) - 1)) r2 er2) ?_
  refine uA 2 8388686 72 ?_
  obtain ⟨h2,H⟩ | ⟨h2,H⟩ := bC H
  ·refine nA h2 ?_
   refine tK ?_
   refine rA 1 ?_
   obtain ⟨r3,er3,H⟩ := bs H
   refine vA [.rd] (QH n x0 r3 er3) ?_
   refine uA 2 334 328 ?_
   refine rA 4 ?_
   obtain ⟨v4,ev4,H⟩ := bs H
   refine oA intRow ev4 ?_
   refine LAt.storeB tOk (t := 3) (ty := 0) (ad := (.tmp 32)) (x := (.tmp 31)) (g := none) (tI 3) false [cI x2] 8 1 (x1.toNat) 1 0 1 r3.Pv intRow v4 x2 kr kr kr kr kr kr kr kr (ZH ev4).2 kr kr kr kr ?_
   refine dA 328 328 ?_
   refine rA 2 ?_
   obtain ⟨r5,er5,H⟩ := bs H
   refine vA [.own,.rd] (zCP n (⟨r3.Rows,(r3.Pv.set (x1.toNat) x2)⟩ : zD) x0 r5 er5) ?_
   refine uA 4 192 64 ?_
   exact te (fJ [(true,(zD.row r5.1)),(false,[cB r5.2])] H)
  refine tA h2 ?_
  refine rA 1 ?_
  obtain ⟨r6,er6,H⟩ := bs H
  refine vA [.rd] (QH n x0 r6 er6) ?_
  refine uA 2 192 64 ?_
  exact te (fJ [(true,(zD.row r6)),(false,[cB false])] H)
 have H := zJ h1 H
 refine uA 8 8388686 72 ?_
 refine tB_ ?_
 refine rA 1 ?_
 obtain ⟨r7,er7,H⟩ := bs H
 refine vA [.rd] (QH n x0 r7 er7) ?_
 refine uA 2 192 64 ?_
 exact te (fJ [(true,(zD.row r7)),(false,[cB false])] H)
def QU (n : Nat) (x0 : zD) (x1 : Int) : Option (zD × Bool) :=
  ((QE n x0 x1).bind fun r1 => ((zu n x0 (x0.Pv.length : Int)).bind fun r2 => (bif (!r2) then ((qf n x0).bind fun r10 => (some (r10,false))) else (bif (decide (r1 < 0)) then ((qf n x0).bind fun r9 => (some (r9,false))) else ((qf n x0).bind fun r3 => (bif (decide ((0 : Int) ≤ 0) && (decide ((0 : Int) ≤ r1) && decide ((r1 : Int) ≤ (x0.Rows.length : Int)))) then (bif (decide (([] : List zA).length + ((x0.Rows.drop ((0 : Int)).toNat).take (((r1 : Int)).toNat - ((0 : Int)).toNat)).length ≤ 268435456)) then (bif (decide ((0 : Int) ≤ (IntKind.wrap .i64 (r1 + 1))) && (decide (((IntKind.wrap .i64 (r1 + 1)) : Int) ≤ (x0.Rows.length : Int)) && decide (((x0.Rows.length : Int) : Int) ≤ (x0.Rows.length : Int)))) then (bif (decide ((([] : List zA) ++ ((x0.Rows.drop ((0 : Int)).toNat).take (((r1 : Int)).toNat - ((0 : Int)).toNat))).length + ((x0.Rows.drop (((IntKind.wrap .i64 (r1 + 1)) : Int)).toNat).take ((((x0.Rows.length : Int) : Int)).toNat - (((IntKind.wrap .i64 (r1 + 1)) : Int)).toNat)).length ≤ 268435456)) then ((Q6 n (⟨((([] : List zA) ++ ((x0.Rows.drop ((0 : Int)).toNat).take (((r1 : Int)).toNat - ((0 : Int)).toNat))) ++ ((x0.Rows.drop (((IntKind.wrap .i64 (r1 + 1)) : Int)).toNat).take ((((x0.Rows.length : Int) : Int)).toNat - (((IntKind.wrap .i64 (r1 + 1)) : Int)).toNat))),r3.Pv⟩ : zD) x0).bind fun r8 => (some (r8.1,r8.2))) else none) else none) else none) else none))))))
def zIH : Tab := ⟨14,[0,0,2,0,12,17,0,64,0,256,640,1056,4095,8191],[0,0,2,0,12,17,0,64,0,256,640,1056,0,6144],[0,0,2,0,14,31,0,64,0,256,960,2047,4095,8191]⟩
theorem zZ : zq (rg Try.f150 5) zIH = true := kr
theorem zDl (n : Nat) (x0 : zD) (r1 : Int) (r3 : zD) (hg4 : (decide ((0 : Int) ≤ 0) && (decide ((0 : Int) ≤ r1) && decide ((r1 : Int) ≤ (x0.Rows.length : Int)))) = true) (hg5 : (decide (([] : List zA).length + ((x0.Rows.drop ((0 : Int)).toNat).take (((r1 : Int)).toNat - ((0 : Int)).toNat)).length ≤ 268435456)) = true) (hg6 : (decide ((0 : Int) ≤ (IntKind.wrap .i64 (r1 + 1))) && (decide (((IntKind.wrap .i64 (r1 + 1)) : Int) ≤ (x0.Rows.length : Int)) && decide (((x0.Rows.length : Int) : Int) ≤ (x0.Rows.length : Int)))) = true) (hg7 : (decide ((([] : List zA) ++ ((x0.Rows.drop ((0 : Int)).toNat).take (((r1 : Int)).toNat - ((0 : Int)).toNat))).length + ((x0.Rows.drop (((IntKind.wrap .i64 (r1 + 1)) : Int)).toNat).take ((((x0.Rows.length : Int) : Int)).toNat - (((IntKind.wrap .i64 (r1 + 1)) : Int)).toNat)).length ≤ 268435456)) = true) (cx : Cx) : AT Try.prog cx (rg Try.f150 5) [] 14 [] ⟨43,0,[sA 7 7 2 0,sI 6 r1,sA 4 4 2 0,sA 2 2 2 0],[(7,(zD.row r3)),(4,[cL 3 ([] : List zA) zA.row,cL 1 ([] : List Int) intRow]),(2,(CV.frzRow (zD.row x0)))]⟩ (fun s => s = ⟨43,0,[sA 7 7 2 0,sA 4 4 2 0,sA 2 2 2 0],[(7,[cL 3 ((([] : List zA) ++ ((x0.Rows.drop ((0 : Int)).toNat).take (((r1 : Int)).toNat - ((0 : Int)).toNat))) ++ ((x0.Rows.drop (((IntKind.wrap .i64 (r1 + 1)) : Int)).toNat).take ((((x0.Rows.length : Int) : Int)).toNat - (((IntKind.wrap .i64 (r1 + 1)) : Int)).toNat))) zA.row,cL 1 r3.Pv intRow]),(4,[cL 3 ([] : List zA) zA.row,cL 1 ([] : List Int) intRow]),(2,(CV.frzRow (zD.row x0)))]⟩) := by
 refine mA zZ [(1,[]),(2,[4,5,11,13]),(3,[]),(6,[]),(7,[10,11,13]),(8,[]),(9,[])] 7 [⟨[10,11,13],37,31,32⟩,⟨[4,5,11,13],37,26,27⟩] fun cx => ?_
 refine mB3 tOk zZ 0 4 10 kr (And.intro kr ?_) (And.intro kr ?_) (And.intro kr ?_)
 ·refine lA 1 ?_
  refine fA ?_
  refine mB2 tOk zZ 4 10 kr (And.intro kr ?_) (And.intro kr ?_)
  ·refine LAt.cutG tOk (t := 37) (ty := 37) (e := 114) (x := (.tmp 27)) (lo := none) (hi := (some (.tmp 28))) (d := 29) (g := none) (tI 114) zA.row x0.Rows ⟨(.box 2),[(0,0)],0,false,3,(CV.frzEs (x0.Rows.map zA.row))⟩ 0 r1 kr kr kr kr kr kr rfl kr rfl kr kr hg4 ?_
   refine fA ?_
   refine mB2 tOk zZ 5 10 kr (And.intro kr ?_) (And.intro kr ?_)
   ·refine pD zA.row hg5 ?_
    refine fA ?_
    refine mC zZ 10 ?_
    refine LAt.cutG tOk (t := 37) (ty := 37) (e := 114) (x := (.tmp 32)) (lo := (some (.tmp 34))) (hi := none) (d := 35) (g := none) (tI 114) zA.row x0.Rows ⟨(.box 2),[(0,0)],0,false,3,(CV.frzEs (x0.Rows.map zA.row))⟩ (IntKind.wrap .i64 (r1 + 1)) (x0.Rows.length : Int) kr kr kr kr kr kr rfl kr rfl kr kr hg6 ?_
    refine fA ?_
    refine mC zZ 11 ?_
    refine pD zA.row hg7 ?_
    refine fA ?_
    refine mA zZ [(12,[])] 1 [⟨[10,11,13],37,31,32⟩,⟨[4,5,11,13],37,26,27⟩] fun cx => ?_
    refine mC zZ 13 ?_
    refine lA 1 ?_
    refine fA ?_
    exact mE zZ [7,4,2] [7,4,2]
   ·refine LAt.cutG tOk (t := 37) (ty := 37) (e := 114) (x := (.tmp 32)) (lo := (some (.tmp 34))) (hi := none) (d := 35) (g := none) (tI 114) zA.row x0.Rows ⟨(.box 2),[(0,0)],0,false,3,(CV.frzEs (x0.Rows.map zA.row))⟩ (IntKind.wrap .i64 (r1 + 1)) (x0.Rows.length : Int) kr kr kr kr kr kr rfl kr rfl kr kr hg6 ?_
    refine fA ?_
    refine mC zZ 5 ?_
    refine pD zA.row hg5 ?_
    refine fA ?_
    refine mC zZ 11 ?_
    refine pD zA.row hg7 ?_
    refine fA ?_
    refine mA zZ [(12,[])] 1 [⟨[10,11,13],37,31,32⟩,⟨[4,5,11,13],37,26,27⟩] fun cx => ?_
    refine mC zZ 13 ?_
    refine lA 1 ?_
    refine fA ?_
    exact mE zZ [7,4,2] [7,4,2]
  ·refine LAt.cutG tOk (t := 37) (ty := 37) (e := 114) (x := (.tmp 32)) (lo := (some (.tmp 34))) (hi := none) (d := 35) (g := none) (tI 114) zA.row x0.Rows ⟨(.box 2),[(0,0)],0,false,3,(CV.frzEs (x0.Rows.map zA.row))⟩ (IntKind.wrap .i64 (r1 + 1)) (x0.Rows.length : Int) kr kr kr kr kr kr rfl kr rfl kr kr hg6 ?_
   refine fA ?_
   refine mC zZ 4 ?_
   refine LAt.cutG tOk (t := 37) (ty := 37) (e := 114) (x := (.tmp 27)) (lo := none) (hi := (some (.tmp 28))) (d := 29) (g := none) (tI 114) zA.row x0.Rows ⟨(.box 2),[(0,0)],0,false,3,(CV.frzEs (x0.Rows.map zA.row))⟩ 0 r1 kr kr kr kr kr kr rfl kr rfl kr kr hg4 ?_
   refine fA ?_
   refine mC zZ 5 ?_
   refine pD zA.row hg5 ?_
   refine fA ?_
   refine mC zZ 11 ?_
   refine pD zA.row hg7 ?_
   refine fA ?_
   refine mA zZ [(12,[])] 1 [⟨[10,11,13],37,31,32⟩,⟨[4,5,11,13],37,26,27⟩] fun cx => ?_
   refine mC zZ 13 ?_
   refine lA 1 ?_
   refine fA ?_
   exact mE zZ [7,4,2] [7,4,2]
 ·refine LAt.cutG tOk (t := 37) (ty := 37) (e := 114) (x := (.tmp 27)) (lo := none) (hi := (some (.tmp 28))) (d := 29) (g := none) (tI 114) zA.row x0.Rows ⟨(.box 2),[(0,0)],0,false,3,(CV.frzEs (x0.Rows.map zA.row))⟩ 0 r1 kr kr kr kr kr kr rfl kr rfl kr kr hg4 ?_
  refine fA ?_
  refine mB2 tOk zZ 0 10 kr (And.intro kr ?_) (And.intro kr ?_)
  ·refine lA 1 ?_
   refine fA ?_
   refine mB2 tOk zZ 5 10 kr (And.intro kr ?_) (And.intro kr ?_)
   ·refine pD zA.row hg5 ?_
    refine fA ?_
    refine mC zZ 10 ?_
    refine LAt.cutG tOk (t := 37) (ty := 37) (e := 114) (x := (.tmp 32)) (lo := (some (.tmp 34))) (hi := none) (d := 35) (g := none) (tI 114) zA.row x0.Rows ⟨(.box 2),[(0,0)],0,false,3,(CV.frzEs (x0.Rows.map zA.row))⟩ (IntKind.wrap .i64 (r1 + 1)) (x0.Rows.length : Int) kr kr kr kr kr kr rfl kr rfl kr kr hg6 ?_
    refine fA ?_
    refine mC zZ 11 ?_
    refine pD zA.row hg7 ?_
    refine fA ?_
    refine mA zZ [(12,[])] 1 [⟨[10,11,13],37,31,32⟩,⟨[4,5,11,13],37,26,27⟩] fun cx => ?_
    refine mC zZ 13 ?_
    refine lA 1 ?_
    refine fA ?_
    exact mE zZ [7,4,2] [7,4,2]
   ·refine LAt.cutG tOk (t := 37) (ty := 37) (e := 114) (x := (.tmp 32)) (lo := (some (.tmp 34))) (hi := none) (d := 35) (g := none) (tI 114) zA.row x0.Rows ⟨(.box 2),[(0,0)],0,false,3,(CV.frzEs (x0.Rows.map zA.row))⟩ (IntKind.wrap .i64 (r1 + 1)) (x0.Rows.length : Int) kr kr kr kr kr kr rfl kr rfl kr kr hg6 ?_
    refine fA ?_
    refine mC zZ 5 ?_
    refine pD zA.row hg5 ?_
    refine fA ?_
    refine mC zZ 11 ?_
    refine pD zA.row hg7 ?_
    refine fA ?_
    refine mA zZ [(12,[])] 1 [⟨[10,11,13],37,31,32⟩,⟨[4,5,11,13],37,26,27⟩] fun cx => ?_
    refine mC zZ 13 ?_
    refine lA 1 ?_
    refine fA ?_
    exact mE zZ [7,4,2] [7,4,2]
  ·refine LAt.cutG tOk (t := 37) (ty := 37) (e := 114) (x := (.tmp 32)) (lo := (some (.tmp 34))) (hi := none) (d := 35) (g := none) (tI 114) zA.row x0.Rows ⟨(.box 2),[(0,0)],0,false,3,(CV.frzEs (x0.Rows.map zA.row))⟩ (IntKind.wrap .i64 (r1 + 1)) (x0.Rows.length : Int) kr kr kr kr kr kr rfl kr rfl kr kr hg6 ?_
   refine fA ?_
   refine mC zZ 0 ?_
   refine lA 1 ?_
   refine fA ?_
   refine mC zZ 5 ?_
   refine pD zA.row hg5 ?_
   refine fA ?_
   refine mC zZ 11 ?_
   refine pD zA.row hg7 ?_
   refine fA ?_
   refine mA zZ [(12,[])] 1 [⟨[10,11,13],37,31,32⟩,⟨[4,5,11,13],37,26,27⟩] fun cx => ?_
   refine mC zZ 13 ?_
   refine lA 1 ?_
   refine fA ?_
   exact mE zZ [7,4,2] [7,4,2]
 ·refine LAt.cutG tOk (t := 37) (ty := 37) (e := 114) (x := (.tmp 32)) (lo := (some (.tmp 34))) (hi := none) (d := 35) (g := none) (tI 114) zA.row x0.Rows ⟨(.box 2),[(0,0)],0,false,3,(CV.frzEs (x0.Rows.map zA.row))⟩ (IntKind.wrap .i64 (r1 + 1)) (x0.Rows.length : Int) kr kr kr kr kr kr rfl kr rfl kr kr hg6 ?_
  refine fA ?_
  refine mB2 tOk zZ 0 4 kr (And.intro kr ?_) (And.intro kr ?_)
  ·refine lA 1 ?_
   refine fA ?_
   refine mC zZ 4 ?_
   refine LAt.cutG tOk (t := 37) (ty := 37) (e := 114) (x := (.tmp 27)) (lo := none) (hi := (some (.tmp 28))) (d := 29) (g := none) (tI 114) zA.row x0.Rows ⟨(.box 2),[(0,0)],0,false,3,(CV.frzEs (x0.Rows.map zA.row))⟩ 0 r1 kr kr kr kr kr kr rfl kr rfl kr kr hg4 ?_
   refine fA ?_
   refine mC zZ 5 ?_
   refine pD zA.row hg5 ?_
   refine fA ?_
   refine mC zZ 11 ?_
   refine pD zA.row hg7 ?_
   refine fA ?_
   refine mA zZ [(12,[])] 1 [⟨[10,11,13],37,31,32⟩,⟨[4,5,11,13],37,26,27⟩] fun cx => ?_
   refine mC zZ 13 ?_
   refine lA 1 ?_
   refine fA ?_
   exact mE zZ [7,4,2] [7,4,2]
  ·refine LAt.cutG tOk (t := 37) (ty := 37) (e := 114) (x := (.tmp 27)) (lo := none) (hi := (some (.tmp 28))) (d := 29) (g := none) (tI 114) zA.row x0.Rows ⟨(.box 2),[(0,0)],0,false,3,(CV.frzEs (x0.Rows.map zA.row))⟩ 0 r1 kr kr kr kr kr kr rfl kr rfl kr kr hg4 ?_
   refine fA ?_
   refine mC zZ 0 ?_
   refine lA 1 ?_
   refine fA ?_
   refine mC zZ 5 ?_
   refine pD zA.row hg5 ?_
   refine fA ?_
   refine mC zZ 11 ?_
   refine pD zA.row hg7 ?_
   refine fA ?_
   refine mA zZ [(12,[])] 1 [⟨[10,11,13],37,31,32⟩,⟨[4,5,11,13],37,26,27⟩] fun cx => ?_
   refine mC zZ 13 ?_
   refine lA 1 ?_
   refine fA ?_
   exact mE zZ [7,4,2] [7,4,2]
theorem zFe (n : Nat) (x0 : zD) (x1 : Int) (r : zD × Bool) (H : QU n x0 x1 = some r) : zH Try.prog 150 [.val true (CV.frzRow (zD.row x0)),.val false [.lit (.int .i64 x1)]] [.val true (zD.row r.1),.val false [.lit (.bool r.2)]] [] := by
 refine cW Try.func150 (fun g d => sl [g 0,g 1,sl [g 2] (cn 20 (sl [g 3] .ret) .skip),g 4,d 5,g 6] .ret) [.cell 4 40,.tmp 5] fun cx => ?_
 unfold QU at H
 refine gA 3 22 20 ?_
 refine rA 2 ?_
 obtain ⟨r1,er1,H⟩ := bs H
 refine vA [.rd,.rd] (zDq n x0 x1 r1 er1) ?_
 refine uA 1 84 20 ?_
 refine tS ?_
 refine rA 3 ?_
 refine kF x0.Pv intRow ?_
 obtain ⟨r2,er2,H⟩ := bs H
 refine vA [.rd,.rd] (JD n x0 (x0.Pv.length : Int) r2 er2) ?_
 refine lA 2 ?_
 refine sL 131156 20 ⟨43,0,[sB 17 (!r2),sI 6 r1,sA 4 4 2 0,sA 2 2 2 0],[(4,[cL 3 ([] : List zA) zA.row,cL 1 ([] : List Int) intRow]),(2,(CV.frzRow (zD.row x0)))]⟩ ?_
 cases h1 : (!r2)
 ·have H := zI h1 H
  refine uA 3 1048660 20 ?_
  obtain ⟨h2,H⟩ | ⟨h2,H⟩ := bC H
  ·refine nA h2 ?_
   refine tK ?_
   refine rA 1 ?_
   obtain ⟨r3,er3,H⟩ := bs H
   refine vA [.rd] (QH n x0 r3 er3) ?_
   refine uA 2 212 148 ?_
   obtain ⟨hg4,H⟩ := gs H
   obtain ⟨hg5,H⟩ := gs H
   obtain ⟨hg6,H⟩ := gs H
   obtain ⟨hg7,H⟩ := gs H
   refine sT ⟨43,0,[sA 7 7 2 0,sI 6 r1,sA 4 4 2 0,sA 2 2 2 0],[(7,(zD.row r3)),(4,[cL 3 ([] : List zA) zA.row,cL 1 ([] : List Int) intRow]),(2,(CV.frzRow (zD.row x0)))]⟩ ?_
   refine Tr.draws mixed 14 kr ⟨43,0,[sA 7 7 2 0,sA 4 4 2 0,sA 2 2 2 0],[(7,[cL 3 ((([] : List zA) ++ ((x0.Rows.drop ((0 : Int)).toNat).take (((r1 : Int)).toNat - ((0 : Int)).toNat))) ++ ((x0.Rows.drop (((IntKind.wrap .i64 (r1 + 1)) : Int)).toNat).take ((((x0.Rows.length : Int) : Int)).toNat - (((IntKind.wrap .i64 (r1 + 1)) : Int)).toNat))) zA.row,cL 1 r3.Pv intRow]),(4,[cL 3 ([] : List zA) zA.row,cL 1 ([] : List Int) intRow]),(2,(CV.frzRow (zD.row x0)))]⟩ (zDl n x0 r1 r3 hg4 hg5 hg6 hg7) ?_
   refine rA 2 ?_
   obtain ⟨r8,er8,H⟩ := bs H
   refine vA [.own,.rd] (zCP n (⟨((([] : List zA) ++ ((x0.Rows.drop ((0 : Int)).toNat).take (((r1 : Int)).toNat - ((0 : Int)).toNat))) ++ ((x0.Rows.drop (((IntKind.wrap .i64 (r1 + 1)) : Int)).toNat).take ((((x0.Rows.length : Int) : Int)).toNat - (((IntKind.wrap .i64 (r1 + 1)) : Int)).toNat))),r3.Pv⟩ : zD) x0 r8 er8) ?_
   refine uA 4 48 16 ?_
   exact te (fJ [(true,(zD.row r8.1)),(false,[cB r8.2])] H)
  refine tA h2 ?_
  refine rA 1 ?_
  obtain ⟨r9,er9,H⟩ := bs H
  refine vA [.rd] (QH n x0 r9 er9) ?_
  refine uA 2 48 16 ?_
  exact te (fJ [(true,(zD.row r9)),(false,[cB false])] H)
 have H := zJ h1 H
 refine uA 3 1048660 20 ?_
 refine tB_ ?_
 refine rA 1 ?_
 obtain ⟨r10,er10,H⟩ := bs H
 refine vA [.rd] (QH n x0 r10 er10) ?_
 refine uA 2 48 16 ?_
 exact te (fJ [(true,(zD.row r10)),(false,[cB false])] H)
def Yr (n : Nat) (x0 : Src) (x1 : Int) : Option (zA × Src) :=
  (bif (decide ((0 : Int) ≤ (IntKind.wrap .u64 x1))) then ((zL n x0 (IntKind.wrap .i64 ((IntKind.wrap .i64 ((IntKind.wrap .i64 (1 * 2 ^ min (((IntKind.wrap .u64 x1) : Int)).toNat (IntKind.bits .i64))) - 1)) + 1))).bind fun r2 => ((qq n r2.2 [1,2,3,2]).bind fun r3 => ((zL n r3.2 (IntKind.wrap .i64 ((IntKind.wrap .i64 ((IntKind.wrap .i64 (1 * 2 ^ min (((IntKind.wrap .u64 x1) : Int)).toNat (IntKind.bits .i64))) - 1)) + 1))).bind fun r4 => (some ((⟨r3.1,r2.1,(IntKind.wrap .i64 (BitVec.ofInt (IntKind.bits .i64) r2.1 &&& BitVec.ofInt (IntKind.bits .i64) r4.1).toNat)⟩ : zA),r4.2))))) else none)
noncomputable abbrev zGQ (k : Nat) := Rg Try.f152 k
theorem zF5 (n : Nat) (x0 : Src) (x1 : Int) (r : zA × Src) (H : Yr n x0 x1 = some r) : zH Try.prog 152 [.ptr (CV.frzRow (Src.row x0)),.val false [.lit (.int .i64 x1)]] [.val true (zA.row r.1)] [(0,(CV.frzRow (Src.row r.2)))] := by
 refine zH.of_body tOk Try.func152 rfl (c := (.seq (zGQ 0) (.seq (zGQ 1) (.seq (zGQ 2) (.seq (zGQ 3) .ret))))) kr (Nat.le_of_ble_eq_true kr) 1 (rs := [.cell 4 114]) rfl [] .nil [(true,(zA.row r.1))] [] [(0,(CV.frzRow (Src.row r.2)))] fun cx => ?_
 show Tr _ _ _ ⟨26,1,[sA 0 0 3 0,sI 1 x1],[(0,(CV.frzRow (Src.row x0)))]⟩ _
 unfold Yr at H
 refine gA 1 19 17 ?_
 refine rA 2 ?_
 obtain ⟨hg1,H⟩ := gs H
 refine LAt.binC tOk (op := .shl) (t := 3) (ty := 103) (ty' := 3) (x := (.const (.int .i64 1))) (y := (.tmp 8)) (d := 9) (g := none) (.int .i64 1) (.int .u64 (IntKind.wrap .u64 x1)) (.int .i64 (IntKind.wrap .i64 (1 * 2 ^ min (((IntKind.wrap .u64 x1) : Int)).toNat (IntKind.bits .i64)))) _ kr kr kr kr kr (φ := (0 : Int) ≤ (IntKind.wrap .u64 x1)) kr (of_decide_eq_true hg1) rfl ?_
 refine uA 2 49 17 ?_
 refine rA 3 ?_
 obtain ⟨r2,er2,H⟩ := bs H
 refine LAt.callL tOk [.lend,.rd] (f := 49) (av := #[.tmp 11,.tmp 13]) (ats := #[92,3]) (d := (some 14)) (ty := 3) (g := none) kr kr kr [] (zd n x0 (IntKind.wrap .i64 ((IntKind.wrap .i64 ((IntKind.wrap .i64 (1 * 2 ^ min (((IntKind.wrap .u64 x1) : Int)).toNat (IntKind.bits .i64))) - 1)) + 1)) r2 er2) kr (.inl rfl) ?_
 refine uA 1 113 17 ?_
 refine rA 2 ?_
 obtain ⟨r3,er3,H⟩ := bs H
 refine LAt.callL tOk [.lend,.rd] (f := 51) (av := #[.tmp 15,.tmp 16]) (ats := #[92,38]) (d := (some 17)) (ty := 3) (g := none) kr kr kr [] (Q4 n r2.2 [1,2,3,2] r3 er3) kr (.inl rfl) ?_
 refine lA 5 ?_
 obtain ⟨r4,er4,H⟩ := bs H
 refine LAt.callL tOk [.lend,.rd] (f := 49) (av := #[.tmp 20,.tmp 22]) (ats := #[92,3]) (d := (some 23)) (ty := 3) (g := none) kr kr kr [] (zd n r3.2 (IntKind.wrap .i64 ((IntKind.wrap .i64 ((IntKind.wrap .i64 (1 * 2 ^ min (((IntKind.wrap .u64 x1) : Int)).toNat (IntKind.bits .i64))) - 1)) + 1)) r4 er4) kr (.inl rfl) ?_
 refine uA 3 17 17 ?_
 refine te ?_
 obtain rfl := si H
 exact Fin.ofY _ [(true,[cI r3.1,cI r2.1,cI (IntKind.wrap .i64 (BitVec.ofInt (IntKind.bits .i64) r2.1 &&& BitVec.ofInt (IntKind.bits .i64) r4.1).toNat)])] [] _ [] _ [(0,(CV.frzRow (Src.row r4.2)))] kr rfl rfl rfl kr kr kr kr rfl rfl rfl
def YF (n : Nat) (x0 : zD) (x1 : zA) (y5 : Bool) (y6 : (List zA)) : Option (zD) :=
  (bif (!y5) then (bif (decide (y6.length + [x1].length ≤ 268435456)) then (some (⟨(y6 ++ [x1]),(([] : List Int) ++ x0.Pv)⟩ : zD)) else none) else (some (⟨y6,(([] : List Int) ++ x0.Pv)⟩ : zD)))
def Zd (n : Nat) (k : (Int × Bool × (List zA) → Option ((Bool × (List zA)) ⊕ (zD)))) (x0 : zD) (x1 : zA) (y2 : Int) (y9 : Bool) (y10 : Bool) (y11 : Bool) (y12 : Bool) (y13 : (List zA)) : Option ((Bool × (List zA)) ⊕ (zD)) :=
  ((idx x0.Rows y2).bind fun v14 => (bif (v14.Id != x1.Id) then ((idx x0.Rows y2).bind fun v15 => (bif (decide (y13.length + [v15].length ≤ 268435456)) then (k ((IntKind.wrap .i64 (y2 + 1)),y12,(y13 ++ [v15]))) else none)) else (k ((IntKind.wrap .i64 (y2 + 1)),y12,y13))))
def qK (n : Nat) : Nat → zD → zA → Int → Bool → (List zA) → Option ((Bool × (List zA)) ⊕ (zD))
  | 0,_,_,_,_,_ => none
  | mo8 + 1,x0,x1,y2,y3,y4 => (bif (decide (y2 < (x0.Rows.length : Int))) then (bif (!y3) then ((idx x0.Rows y2).bind fun v17 => (bif (decide (v17.Id ≥ x1.Id)) then (bif (decide (y4.length + [x1].length ≤ 268435456)) then (Zd n (fun v => qK n mo8 x0 x1 v.1 v.2.1 v.2.2) x0 x1 y2 true true true true (y4 ++ [x1])) else none) else (Zd n (fun v => qK n mo8 x0 x1 v.1 v.2.1 v.2.2) x0 x1 y2 false true true y3 y4))) else (Zd n (fun v => qK n mo8 x0 x1 v.1 v.2.1 v.2.2) x0 x1 y2 false false false y3 y4)) else (some (Sum.inl (y3,y4))))
def JG (n : Nat) (x0 : zD) (x1 : zA) : Option (zD) :=
  (bif (decide (([] : List Int).length + x0.Pv.length ≤ 268435456)) then ((qK n n x0 x1 0 false ([] : List zA)).bind fun o => match o with | .inl (y5,y6) => (YF n x0 x1 y5 y6) | .inr r => some r) else none)
def zIL : Tab := ⟨13,[0,1,2,4,12,4,52,68,132,4,516,1284,2052],[0,1,2,4,12,4,52,68,132,4,516,1284,2052],[0,1,3,7,15,7,63,127,255,7,519,2047,4095]⟩
theorem J6 : zq (rg Try.f159 6) zIL = true := kr
theorem zGs (n : Nat) (x0 : zD) (x1 : zA) (r : zD) (H : JG n x0 x1 = some r) : zH Try.prog 159 [.val true (CV.frzRow (zD.row x0)),.val true (CV.frzRow (zA.row x1))] [.val true (zD.row r)] [] := by
 refine cW Try.func159 (fun g d => sl [g 0,g 1,g 2,sl [g 3] (.block 0 (.loop (sl [sl [g 4] (cn 17 .skip (.exit 0)),.block 1 (sl [sl [d 6] (cn 32 (sl [g 7] (g 8)) .skip),d 9] (cn 47 (d 10) .skip))] (g 5)))),sl [g 11] (cn 59 (g 12) .skip),g 13] .ret) [.cell 4 40] fun cx => ?_
 unfold JG at H
 refine gA 3 28 28 ?_
 refine rA 3 ?_
 obtain ⟨hg1,H⟩ := gs H
 refine pD intRow hg1 ?_
 refine uA 3 60 60 ?_
 refine gA 1 124 60 ?_
 refine tS ?_
 refine gA 1 252 60 ?_
 obtain ⟨o8,eo8,Ho8⟩ := bs H
 clear H
 refine Tr.mid (ι := Bool × (List zA)) (fun v => ⟨67,0,[sB 6 v.1,sA 5 5 2 0,sA 4 4 2 0,sA 3 3 3 0],[(5,[cL 3 v.2 zA.row,cL 1 (([] : List Int) ++ x0.Pv) intRow]),(4,[cL 3 ([] : List zA) zA.row,cL 1 ([] : List Int) intRow]),(3,(zA.row x1))]⟩) (fun v => YF n x0 x1 v.1 v.2 = some r) ?_ ?_
 ·refine tB ?_
  refine Tr.loop (ι := Nat × (Int × Bool × (List zA))) (fun v => ⟨67,0,[sI 7 v.2.1,sB 6 v.2.2.1,sA 5 5 2 0,sA 4 4 2 0,sA 3 3 3 0,sA 2 2 2 0],[(5,[cL 3 v.2.2.2 zA.row,cL 1 (([] : List Int) ++ x0.Pv) intRow]),(4,[cL 3 ([] : List zA) zA.row,cL 1 ([] : List Int) intRow]),(3,(zA.row x1)),(2,(CV.frzRow (zD.row x0)))]⟩) (fun v => qK n v.1 x0 x1 v.2.1 v.2.2.1 v.2.2.2 = some o8) (fun v => v.1) (n,(0,false,([] : List zA))) eo8 (St.sub_of [7,6,5,4,3,2] [5,4,3,2] kr) ?_
  rintro ⟨mo8,y2,y3,y4⟩ H
  have H : qK n mo8 x0 x1 y2 y3 y4 = some o8 := H
  obtain _ | mo8 := mo8
  ·exact nN H
  rw [qK] at H
  refine tS ?_
  refine rA 3 ?_
  refine kF x0.Rows zA.row ?_
  refine uA 1 254204 60 ?_
  obtain ⟨h2,H⟩ | ⟨h2,H⟩ := bC H
  ·refine nA h2 ?_
   refine Tr.exit ?_
   refine aJ ?_
   obtain rfl := si H
   have H := Ho8
   dsimp only at H
   exact jA (y3,y4) H [6,5,4,3] [5,4,3]
  refine tA h2 ?_
  refine tK ?_
  refine tS ?_
  refine tB ?_
  refine tS ?_
  refine Tr.mid (ι := Bool × Bool × Bool × Bool × (List zA)) (fun v => ⟨67,0,[sB 32 v.1,sB 22 v.2.1,sB 21 v.2.2.1,sB 20 y3,sB 17 true,sI 16 (x0.Rows.length : Int),sC 15 (cF 3 x0.Rows zA.row),sA 14 2 2 0,sI 13 y2,sI 7 y2,sB 6 v.2.2.2.1,sA 5 5 2 0,sA 4 4 2 0,sA 3 3 3 0,sA 2 2 2 0],[(5,[cL 3 v.2.2.2.2 zA.row,cL 1 (([] : List Int) ++ x0.Pv) intRow]),(4,[cL 3 ([] : List zA) zA.row,cL 1 ([] : List Int) intRow]),(3,(zA.row x1)),(2,(CV.frzRow (zD.row x0)))]⟩) (fun v => Zd n (fun v => qK n mo8 x0 x1 v.1 v.2.1 v.2.2) x0 x1 y2 v.1 v.2.1 v.2.2.1 v.2.2.2.1 v.2.2.2.2 = some o8) ?_ ?_
  ·refine tS ?_
   refine sT ⟨67,0,[sB 17 (decide (y2 < (x0.Rows.length : Int))),sI 16 (x0.Rows.length : Int),sC 15 (cF 3 x0.Rows zA.row),sA 14 2 2 0,sI 13 y2,sI 7 y2,sB 6 y3,sA 5 5 2 0,sA 4 4 2 0,sA 3 3 3 0,sA 2 2 2 0],[(5,[cL 3 y4 zA.row,cL 1 (([] : List Int) ++ x0.Pv) intRow]),(4,[cL 3 ([] : List zA) zA.row,cL 1 ([] : List Int) intRow]),(3,(zA.row x1)),(2,(CV.frzRow (zD.row x0)))]⟩ ?_
   cases h4 : (!y3)
   ·have H := zI h4 H
    refine Tr.draw mixed 13 kr ⟨67,0,[sB 32 false,(31,.tup []),(30,.tup []),(29,.tup []),(28,.tup []),(27,.tup []),(26,.tup []),(25,.tup []),(24,.tup []),(23,.tup []),sB 22 false,sB 21 false,sB 20 y3,sB 17 (decide (y2 < (x0.Rows.length : Int))),sI 16 (x0.Rows.length : Int),sC 15 (cF 3 x0.Rows zA.row),sA 14 2 2 0,sI 13 y2,sI 7 y2,sB 6 y3,sA 5 5 2 0,sA 4 4 2 0,sA 3 3 3 0,sA 2 2 2 0],[(5,[cL 3 y4 zA.row,cL 1 (([] : List Int) ++ x0.Pv) intRow]),(4,[cL 3 ([] : List zA) zA.row,cL 1 ([] : List Int) intRow]),(3,(zA.row x1)),(2,(CV.frzRow (zD.row x0)))]⟩ (fun cx => ?_) ?_
    ·refine mA J6 [(0,[]),(1,[]),(2,[])] 10 [] fun cx => ?_
     refine sA_ 7594236 60 ⟨67,0,[sB 22 (!y3),sB 21 (!y3),sB 20 y3,sB 17 (decide (y2 < (x0.Rows.length : Int))),sI 16 (x0.Rows.length : Int),sC 15 (cF 3 x0.Rows zA.row),sA 14 2 2 0,sI 13 y2,sI 7 y2,sB 6 y3,sA 5 5 2 0,sA 4 4 2 0,sA 3 3 3 0,sA 2 2 2 0],[(5,[cL 3 y4 zA.row,cL 1 (([] : List Int) ++ x0.Pv) intRow]),(4,[cL 3 ([] : List zA) zA.row,cL 1 ([] : List Int) intRow]),(3,(zA.row x1)),(2,(CV.frzRow (zD.row x0)))]⟩ ?_
     rw [h4]
     refine mA J6 [(3,[]),(4,[]),(5,[]),(6,[]),(7,[]),(8,[]),(9,[]),(10,[]),(11,[]),(12,[])] 0 [] fun cx => ?_
     exact mE J6 [32,31,30,29,28,27,26,25,24,23,22,21,20,17,16,15,14,13,7,6,5,4,3,2] [5,4,3,2]
    refine nB_ ?_
    refine tK ?_
    refine sB' 8589140220 60 ⟨67,0,[sB 32 false,(31,.tup []),(30,.tup []),(29,.tup []),(28,.tup []),(27,.tup []),(26,.tup []),(25,.tup []),(24,.tup []),(23,.tup []),sB 22 false,sB 21 false,sB 20 y3,sB 17 (decide (y2 < (x0.Rows.length : Int))),sI 16 (x0.Rows.length : Int),sC 15 (cF 3 x0.Rows zA.row),sA 14 2 2 0,sI 13 y2,sI 7 y2,sB 6 y3,sA 5 5 2 0,sA 4 4 2 0,sA 3 3 3 0,sA 2 2 2 0],[(5,[cL 3 y4 zA.row,cL 1 (([] : List Int) ++ x0.Pv) intRow]),(4,[cL 3 ([] : List zA) zA.row,cL 1 ([] : List Int) intRow]),(3,(zA.row x1)),(2,(CV.frzRow (zD.row x0)))]⟩ ?_
    rw [h2]
    exact jA (false,false,false,y3,y4) H [32,22,21,20,17,16,15,14,13,7,6,5,4,3,2] [5,4,3,2]
   have H := zJ h4 H
   obtain ⟨v17,ev17,H⟩ := bs H
   refine Tr.draw mixed 13 kr ⟨67,0,[sB 32 (decide (v17.Id ≥ x1.Id)),sB 31 (decide (v17.Id ≥ x1.Id)),sI 30 x1.Id,sA 29 3 3 0,sI 28 v17.Id,(27,.fad ((zA.row v17))),(26,.fad ((zA.row v17))),sI 25 y2,sR 24 2 2 0 1 false,sA 23 2 2 0,sB 22 true,sB 21 true,sB 20 y3,sB 17 (decide (y2 < (x0.Rows.length : Int))),sI 16 (x0.Rows.length : Int),sC 15 (cF 3 x0.Rows zA.row),sA 14 2 2 0,sI 13 y2,sI 7 y2,sB 6 y3,sA 5 5 2 0,sA 4 4 2 0,sA 3 3 3 0,sA 2 2 2 0],[(5,[cL 3 y4 zA.row,cL 1 (([] : List Int) ++ x0.Pv) intRow]),(4,[cL 3 ([] : List zA) zA.row,cL 1 ([] : List Int) intRow]),(3,(zA.row x1)),(2,(CV.frzRow (zD.row x0)))]⟩ (fun cx => ?_) ?_
   ·refine mA J6 [(0,[]),(1,[]),(2,[])] 10 [] fun cx => ?_
    refine sA_ 7594236 60 ⟨67,0,[sB 22 (!y3),sB 21 (!y3),sB 20 y3,sB 17 (decide (y2 < (x0.Rows.length : Int))),sI 16 (x0.Rows.length : Int),sC 15 (cF 3 x0.Rows zA.row),sA 14 2 2 0,sI 13 y2,sI 7 y2,sB 6 y3,sA 5 5 2 0,sA 4 4 2 0,sA 3 3 3 0,sA 2 2 2 0],[(5,[cL 3 y4 zA.row,cL 1 (([] : List Int) ++ x0.Pv) intRow]),(4,[cL 3 ([] : List zA) zA.row,cL 1 ([] : List Int) intRow]),(3,(zA.row x1)),(2,(CV.frzRow (zD.row x0)))]⟩ ?_
    rw [h4]
    refine mA J6 [(3,[]),(4,[]),(5,[])] 7 [⟨[],37,23,24⟩] fun cx => ?_
    refine iN J6 6 zA.row ev17 fun cx => ?_
    refine mA J6 [(7,[]),(8,[]),(9,[]),(10,[]),(11,[]),(12,[])] 0 [⟨[],3,29,30⟩,⟨[],37,23,24⟩] fun cx => ?_
    exact mE J6 [32,31,30,29,28,27,26,25,24,23,22,21,20,17,16,15,14,13,7,6,5,4,3,2] [5,4,3,2]
   refine sT ⟨67,0,[sB 32 (decide (v17.Id ≥ x1.Id)),sB 31 (decide (v17.Id ≥ x1.Id)),sI 30 x1.Id,sA 29 3 3 0,sI 28 v17.Id,(27,.fad ((zA.row v17))),(26,.fad ((zA.row v17))),sI 25 y2,sR 24 2 2 0 1 false,sA 23 2 2 0,sB 22 true,sB 21 true,sB 20 y3,sB 17 (decide (y2 < (x0.Rows.length : Int))),sI 16 (x0.Rows.length : Int),sC 15 (cF 3 x0.Rows zA.row),sA 14 2 2 0,sI 13 y2,sI 7 y2,sB 6 y3,sA 5 5 2 0,sA 4 4 2 0,sA 3 3 3 0,sA 2 2 2 0],[(5,[cL 3 y4 zA.row,cL 1 (([] : List Int) ++ x0.Pv) intRow]),(4,[cL 3 ([] : List zA) zA.row,cL 1 ([] : List Int) intRow]),(3,(zA.row x1)),(2,(CV.frzRow (zD.row x0)))]⟩ ?_
   cases h5 : (decide (v17.Id ≥ x1.Id))
   ·have H := zI h5 H
    refine nB_ ?_
    refine tK ?_
    refine sB' 8589140220 60 ⟨67,0,[sB 32 false,sB 31 false,sI 30 x1.Id,sA 29 3 3 0,sI 28 v17.Id,(27,.fad ((zA.row v17))),(26,.fad ((zA.row v17))),sI 25 y2,sR 24 2 2 0 1 false,sA 23 2 2 0,sB 22 true,sB 21 true,sB 20 y3,sB 17 (decide (y2 < (x0.Rows.length : Int))),sI 16 (x0.Rows.length : Int),sC 15 (cF 3 x0.Rows zA.row),sA 14 2 2 0,sI 13 y2,sI 7 y2,sB 6 y3,sA 5 5 2 0,sA 4 4 2 0,sA 3 3 3 0,sA 2 2 2 0],[(5,[cL 3 y4 zA.row,cL 1 (([] : List Int) ++ x0.Pv) intRow]),(4,[cL 3 ([] : List zA) zA.row,cL 1 ([] : List Int) intRow]),(3,(zA.row x1)),(2,(CV.frzRow (zD.row x0)))]⟩ ?_
    rw [h2]
    exact jA (false,true,true,y3,y4) H [32,22,21,20,17,16,15,14,13,7,6,5,4,3,2] [5,4,3,2]
   have H := zJ h5 H
   refine tB_ ?_
   refine rA 4 ?_
   obtain ⟨hg18,H⟩ := gs H
   refine LAt.appMU tOk (t := 37) (ty := 37) (e := 114) (x := (.tmp 34)) (y := (.tmp 36)) (d := 37) (g := none) (tI 114) zA.row y4 [x1] kr kr kr kr kr kr kr kr kr kr hg18 ?_
   refine uA 2 326416720124 60 ?_
   refine eA 1 326416720124 60 ?_
   refine sB' 326416720124 60 ⟨67,0,[sB 6 true,sA 38 5 2 0,sV 35 (zA.row x1),sA 33 5 2 0,sB 32 true,sB 31 true,sI 30 x1.Id,sA 29 3 3 0,sI 28 v17.Id,(27,.fad ((zA.row v17))),(26,.fad ((zA.row v17))),sI 25 y2,sR 24 2 2 0 1 false,sA 23 2 2 0,sB 22 true,sB 21 true,sB 20 y3,sB 17 (decide (y2 < (x0.Rows.length : Int))),sI 16 (x0.Rows.length : Int),sC 15 (cF 3 x0.Rows zA.row),sA 14 2 2 0,sI 13 y2,sI 7 y2,sA 5 5 2 0,sA 4 4 2 0,sA 3 3 3 0,sA 2 2 2 0],[(5,[cL 3 (y4 ++ [x1]) zA.row,cL 1 (([] : List Int) ++ x0.Pv) intRow]),(4,[cL 3 ([] : List zA) zA.row,cL 1 ([] : List Int) intRow]),(3,(zA.row x1)),(2,(CV.frzRow (zD.row x0)))]⟩ ?_
   rw [h2]
   exact jA (true,true,true,true,(y4 ++ [x1])) H [32,22,21,20,17,16,15,14,13,7,6,5,4,3,2] [5,4,3,2]
  rintro ⟨y9,y10,y11,y12,y13⟩ H
  have H : (Zd n (fun v => qK n mo8 x0 x1 v.1 v.2.1 v.2.2) x0 x1 y2 y9 y10 y11 y12 y13) = some o8 := H
  unfold Zd at H
  obtain ⟨v14,ev14,H⟩ := bs H
  refine Tr.draws mixed 9 kr ⟨67,0,[sB 47 (v14.Id != x1.Id),sI 46 x1.Id,sA 45 3 3 0,sI 44 v14.Id,(43,.fad ((zA.row v14))),(42,.fad ((zA.row v14))),sI 41 y2,sR 40 2 2 0 1 false,sA 39 2 2 0,sB 32 y9,sB 22 y10,sB 21 y11,sB 20 y3,sB 17 true,sI 16 (x0.Rows.length : Int),sC 15 (cF 3 x0.Rows zA.row),sA 14 2 2 0,sI 13 y2,sI 7 y2,sB 6 y12,sA 5 5 2 0,sA 4 4 2 0,sA 3 3 3 0,sA 2 2 2 0],[(5,[cL 3 y13 zA.row,cL 1 (([] : List Int) ++ x0.Pv) intRow]),(4,[cL 3 ([] : List zA) zA.row,cL 1 ([] : List Int) intRow]),(3,(zA.row x1)),(2,(CV.frzRow (zD.row x0)))]⟩ (fun cx => ?_) ?_
  ·refine aA [(0,[]),(1,[]),(2,[])] 6 [⟨[],37,39,40⟩] fun cx => ?_
   refine aI tOk 3 37 0 40 41 42 none ⟨(.box 2),[(0,0)],0,false,3,(CV.frzEs (x0.Rows.map zA.row))⟩ y2 (zA.row v14) _ kr kr kr kr kr kr rfl (Qo ev14) rfl (fun cx => ?_)
   refine aA [(4,[]),(5,[]),(6,[]),(7,[]),(8,[])] 0 [⟨[],3,45,46⟩,⟨[],37,39,40⟩] fun cx => ?_
   exact eE [47,46,45,44,43,42,41,40,39,32,22,21,20,17,16,15,14,13,7,6,5,4,3,2] [5,4,3,2]
  refine sT ⟨67,0,[sB 47 (v14.Id != x1.Id),sI 46 x1.Id,sA 45 3 3 0,sI 44 v14.Id,(43,.fad ((zA.row v14))),(42,.fad ((zA.row v14))),sI 41 y2,sR 40 2 2 0 1 false,sA 39 2 2 0,sB 32 y9,sB 22 y10,sB 21 y11,sB 20 y3,sB 17 true,sI 16 (x0.Rows.length : Int),sC 15 (cF 3 x0.Rows zA.row),sA 14 2 2 0,sI 13 y2,sI 7 y2,sB 6 y12,sA 5 5 2 0,sA 4 4 2 0,sA 3 3 3 0,sA 2 2 2 0],[(5,[cL 3 y13 zA.row,cL 1 (([] : List Int) ++ x0.Pv) intRow]),(4,[cL 3 ([] : List zA) zA.row,cL 1 ([] : List Int) intRow]),(3,(zA.row x1)),(2,(CV.frzRow (zD.row x0)))]⟩ ?_
  cases h3 : (v14.Id != x1.Id)
  ·have H := zI h3 H
   refine nB_ ?_
   refine tK ?_
   refine eA 3 0xff81007fe0fc 60 ?_
   exact jB mo8 ((IntKind.wrap .i64 (y2 + 1)),y12,y13) H [7,6,5,4,3,2] [5,4,3,2]
  have H := zJ h3 H
  refine tB_ ?_
  obtain ⟨v15,ev15,H⟩ := bs H
  obtain ⟨hg16,H⟩ := gs H
  refine Tr.draw mixed 11 kr ⟨67,0,[sA 57 5 2 0,sV 54 (zA.row v15),(53,.fad ((zA.row v15))),sI 52 y2,sR 51 2 2 0 1 false,sA 50 2 2 0,sA 48 5 2 0,sB 47 true,sI 46 x1.Id,sA 45 3 3 0,sI 44 v14.Id,(43,.fad ((zA.row v14))),(42,.fad ((zA.row v14))),sI 41 y2,sR 40 2 2 0 1 false,sA 39 2 2 0,sB 32 y9,sB 22 y10,sB 21 y11,sB 20 y3,sB 17 true,sI 16 (x0.Rows.length : Int),sC 15 (cF 3 x0.Rows zA.row),sA 14 2 2 0,sI 13 y2,sI 7 y2,sB 6 y12,sA 5 5 2 0,sA 4 4 2 0,sA 3 3 3 0,sA 2 2 2 0],[(5,[cL 3 (y13 ++ [v15]) zA.row,cL 1 (([] : List Int) ++ x0.Pv) intRow]),(4,[cL 3 ([] : List zA) zA.row,cL 1 ([] : List Int) intRow]),(3,(zA.row x1)),(2,(CV.frzRow (zD.row x0)))]⟩ (fun cx => ?_) ?_
  ·refine aA [(0,[]),(1,[8,10]),(2,[]),(3,[7,8,10]),(4,[])] 6 [⟨[7,8,10],37,50,51⟩,⟨[8,10],37,48,49⟩] fun cx => ?_
   refine aI tOk 5 37 0 51 52 53 none ⟨(.box 2),[(0,0)],0,false,3,(CV.frzEs (x0.Rows.map zA.row))⟩ y2 (zA.row v15) _ kr kr kr kr kr kr rfl (Qo ev15) rfl (fun cx => ?_)
   refine aA [(6,[])] 4 [⟨[7,8,10],37,50,51⟩,⟨[8,10],37,48,49⟩] fun cx => ?_
   refine bA 7 ?_
   refine lA 1 ?_
   refine fA ?_
   refine bA 8 ?_
   refine LAt.appMU tOk (t := 37) (ty := 37) (e := 114) (x := (.tmp 49)) (y := (.tmp 55)) (d := 56) (g := none) (tI 114) zA.row y13 [v15] kr kr kr kr kr kr kr kr kr kr hg16 ?_
   refine fA ?_
   refine aA [(9,[])] 1 [⟨[7,8,10],37,50,51⟩,⟨[8,10],37,48,49⟩] fun cx => ?_
   refine bA 10 ?_
   refine lA 1 ?_
   refine fA ?_
   exact eE [57,54,53,52,51,50,48,47,46,45,44,43,42,41,40,39,32,22,21,20,17,16,15,14,13,7,6,5,4,3,2] [5,4,3,2]
  refine eA 3 0x27dff81007fe0fc 60 ?_
  exact jB mo8 ((IntKind.wrap .i64 (y2 + 1)),y12,(y13 ++ [v15])) H [7,6,5,4,3,2] [5,4,3,2]
 rintro ⟨y5,y6⟩ H
 have H : (YF n x0 x1 y5 y6) = some r := H
 unfold YF at H
 refine tS ?_
 refine gA 2 0x800000000000038 56 ?_
 obtain ⟨h1,H⟩ | ⟨h1,H⟩ := bC H
 ·refine nA h1 ?_
  refine tK ?_
  refine gA 2 16 16 ?_
  exact te (fJ [(true,[cL 3 y6 zA.row,cL 1 (([] : List Int) ++ x0.Pv) intRow])] H)
 refine tA h1 ?_
 refine Tr.at ?_
 refine lA 4 ?_
 obtain ⟨hg7,H⟩ := gs H
 refine LAt.appMU tOk (t := 37) (ty := 37) (e := 114) (x := (.tmp 61)) (y := (.tmp 63)) (d := 64) (g := none) (tI 114) zA.row y6 [x1] kr kr kr kr kr kr kr kr kr kr hg7 ?_
 refine uA 2 48 48 ?_
 refine gA 2 16 16 ?_
 exact te (fJ [(true,[cL 3 (y6 ++ [x1]) zA.row,cL 1 (([] : List Int) ++ x0.Pv) intRow])] H)
def Ym (n : Nat) (x0 : zD) (x1 : zA) : Option (zD × Bool) :=
  ((zu n x0 (x0.Pv.length : Int)).bind fun r1 => (bif (!r1) then ((qf n x0).bind fun r4 => (some (r4,false))) else ((JG n x0 x1).bind fun r2 => ((Q6 n r2 x0).bind fun r3 => (some (r3.1,r3.2))))))
theorem zFy (n : Nat) (x0 : zD) (x1 : zA) (r : zD × Bool) (H : Ym n x0 x1 = some r) : zH Try.prog 151 [.val true (CV.frzRow (zD.row x0)),.val true (CV.frzRow (zA.row x1))] [.val true (zD.row r.1),.val false [.lit (.bool r.2)]] [] := by
 refine cW Try.func151 (fun g d => sl [g 0,sl [g 1] (cn 11 (sl [g 2] .ret) .skip),d 3] .ret) [.cell 4 40,.tmp 5] fun cx => ?_
 unfold Ym at H
 refine gA 4 28 28 ?_
 refine tS ?_
 refine rA 3 ?_
 refine kF x0.Pv intRow ?_
 obtain ⟨r1,er1,H⟩ := bs H
 refine vA [.rd,.rd] (JD n x0 (x0.Pv.length : Int) r1 er1) ?_
 refine uA 1 2076 28 ?_
 obtain ⟨h1,H⟩ | ⟨h1,H⟩ := bC H
 ·refine nA h1 ?_
  refine tK ?_
  obtain ⟨r2,er2,H⟩ := bs H
  obtain ⟨r3,er3,H⟩ := bs H
  refine Tr.draws mixed 9 kr ⟨21,0,[sB 5 r3.2,sA 4 4 2 0],[(4,(zD.row r3.1))]⟩ (fun cx => ?_) ?_
  ·refine aA [(0,[2,4,7]),(1,[2,4,7]),(3,[4,7])] 6 [⟨[4,7],40,2,17⟩,⟨[2,4,7],114,3,15⟩,⟨[2,4,7],40,2,14⟩] fun cx => ?_
   refine bA 2 ?_
   refine vA [.rd,.rd] (zGs n x0 x1 r2 er2) ?_
   refine fA ?_
   refine bA 4 ?_
   refine vA [.own,.rd] (zCP n r2 x0 r3 er3) ?_
   refine fA ?_
   refine aA [(5,[]),(6,[])] 2 [⟨[4,7],40,2,17⟩,⟨[2,4,7],114,3,15⟩,⟨[2,4,7],40,2,14⟩] fun cx => ?_
   refine bA 7 ?_
   refine lA 1 ?_
   refine fA ?_
   refine aA [(8,[])] 0 [⟨[4,7],40,2,17⟩,⟨[2,4,7],114,3,15⟩,⟨[2,4,7],40,2,14⟩] fun cx => ?_
   exact eE [5,4] [4]
  exact te (fJ [(true,(zD.row r3.1)),(false,[cB r3.2])] H)
 refine tA h1 ?_
 refine rA 1 ?_
 obtain ⟨r4,er4,H⟩ := bs H
 refine vA [.rd] (QH n x0 r4 er4) ?_
 refine uA 2 48 16 ?_
 exact te (fJ [(true,(zD.row r4)),(false,[cB false])] H)
def Y0 (n : Nat) (y9 : (List Int)) (y10 : Int) (y11 : Int) (y12 : (List zA)) (y13 : (List Int)) : Option (zD × Src) :=
  (some ((⟨y12,y13⟩ : zD),(⟨y9,y10,y11⟩ : Src)))
def qs (n : Nat) : Nat → Int → Int → (List Int) → Int → Int → (List zA) → (List Int) → Option (((List Int) × Int × Int × (List zA) × (List Int)) ⊕ (zD × Src))
  | 0,_,_,_,_,_,_,_ => none
  | mo14 + 1,x1,y3,y4,y5,y6,y7,y8 => (bif (decide (y3 > 0)) then ((zL n (⟨y4,y5,y6⟩ : Src) 4).bind fun r15 => (bif (r15.1 == 0) then ((zL n r15.2 x1).bind fun r20 => ((zL n r20.2 3).bind fun r21 => ((YB n (⟨y7,y8⟩ : zD) r20.1 (IntKind.wrap .i64 (1 + r21.1))).bind fun r22 => (qs n mo14 x1 (IntKind.wrap .i64 (y3 - 1)) r21.2.b r21.2.i r21.2.h r22.1.Rows r22.1.Pv)))) else (bif (r15.1 == 1) then ((zL n r15.2 2).bind fun r18 => ((QU n (⟨y7,y8⟩ : zD) (IntKind.wrap .i64 (2 + r18.1))).bind fun r19 => (qs n mo14 x1 (IntKind.wrap .i64 (y3 - 1)) r18.2.b r18.2.i r18.2.h r19.1.Rows r19.1.Pv))) else ((Yr n r15.2 x1).bind fun r16 => ((Ym n (⟨y7,y8⟩ : zD) r16.1).bind fun r17 => (qs n mo14 x1 (IntKind.wrap .i64 (y3 - 1)) r16.2.b r16.2.i r16.2.h r17.1.Rows r17.1.Pv)))))) else (some (Sum.inl (y4,y5,y6,y7,y8))))
def Yq (n : Nat) (x0 : Src) (x1 : Int) : Option (zD × Src) :=
  ((Z6 n x1).bind fun r1 => ((zL n x0 6).bind fun r2 => ((qs n n x1 r2.1 r2.2.b r2.2.i r2.2.h r1.Rows r1.Pv).bind fun o => match o with | .inl (y9,y10,y11,y12,y13) => (Y0 n y9 y10 y11 y12 y13) | .inr r => some r)))
def zIp : Tab := ⟨12,[0,0,0,6,0,24,32,105,128,256,256,1023],[0,0,0,6,0,16,32,73,128,256,256,512],[0,0,0,6,0,30,62,127,255,511,511,1023]⟩
noncomputable abbrev G97 (k : Nat) := Rg Try.f97 k
noncomputable abbrev D97 (k : Nat) := Rd Try.f97 k
theorem Jy : zq (rg Try.f97 8) zIp = true := kr
theorem zF4 (n : Nat) (x0 : Src) (x1 : Int) (r : zD × Src) (H : Yq n x0 x1 = some r) : zH Try.prog 97 [.ptr (CV.frzRow (Src.row x0)),.val false [.lit (.int .i64 x1)]] [.val true (zD.row r.1)] [(0,(CV.frzRow (Src.row r.2)))] := by
 refine zH.of_body tOk Try.func97 rfl (c := (.seq (G97 0) (.seq (G97 1) (.seq (.seq (G97 2) (.block 0 (.loop (.seq (.seq (G97 3) (.cond (.tmp 12) .skip (.exit 0))) (.seq (.block 1 (.seq (G97 5) (.block 2 (.seq (G97 7) (.cond (.tmp 25) (D97 8) (.seq (G97 9) (.cond (.tmp 38) (D97 10) (D97 6)))))))) (G97 4)))))) (.seq (G97 11) .ret))))) kr (Nat.le_of_ble_eq_true kr) 1 (rs := [.cell 4 40]) rfl [] .nil [(true,(zD.row r.1))] [] [(0,(CV.frzRow (Src.row r.2)))] fun cx => ?_
 show Tr _ _ _ ⟨49,1,[sA 0 0 3 0,sI 1 x1],[(0,(CV.frzRow (Src.row x0)))]⟩ _
 unfold Yq at H
 refine gA 1 19 17 ?_
 refine rA 1 ?_
 obtain ⟨r1,er1,H⟩ := bs H
 refine vA [.rd] (zCN n x1 r1 er1) ?_
 refine uA 2 51 49 ?_
 refine tS ?_
 refine rA 1 ?_
 obtain ⟨r2,er2,H⟩ := bs H
 refine LAt.callL tOk [.lend,.rd] (f := 49) (av := #[.tmp 9,.const (.int .i64 6)]) (ats := #[92,3]) (d := (some 10)) (ty := 3) (g := none) kr kr kr [] (zd n x0 6 r2 er2) kr (.inl rfl) ?_
 refine uA 1 115 49 ?_
 obtain ⟨o14,eo14,Ho14⟩ := bs H
 clear H
 refine Tr.mid (ι := (List Int) × Int × Int × (List zA) × (List Int)) (fun v => ⟨49,1,[sA 5 5 2 0,sA 4 4 2 0,sA 0 0 3 0],[(0,[cF 1 v.1 zh,cI v.2.1,cI v.2.2.1]),(5,[cL 3 v.2.2.2.1 zA.row,cL 1 v.2.2.2.2 intRow]),(4,[cL 3 ([] : List zA) zA.row,cL 1 ([] : List Int) intRow])]⟩) (fun v => Y0 n v.1 v.2.1 v.2.2.1 v.2.2.2.1 v.2.2.2.2 = some r) ?_ ?_
 ·refine tB ?_
  refine Tr.loop (ι := Nat × (Int × (List Int) × Int × Int × (List zA) × (List Int))) (fun v => ⟨49,1,[sI 6 v.2.1,sA 5 5 2 0,sA 4 4 2 0,sA 0 0 3 0,sI 1 x1],[(0,[cF 1 v.2.2.1 zh,cI v.2.2.2.1,cI v.2.2.2.2.1]),(5,[cL 3 v.2.2.2.2.2.1 zA.row,cL 1 v.2.2.2.2.2.2 intRow]),(4,[cL 3 ([] : List zA) zA.row,cL 1 ([] : List Int) intRow])]⟩) (fun v => qs n v.1 x1 v.2.1 v.2.2.1 v.2.2.2.1 v.2.2.2.2.1 v.2.2.2.2.2.1 v.2.2.2.2.2.2 = some o14) (fun v => v.1) (n,(r2.1,r2.2.b,r2.2.i,r2.2.h,r1.Rows,r1.Pv)) eo14 (St.sub_of [6,5,4,0,1] [0,5,4] kr) ?_
  rintro ⟨mo14,y3,y4,y5,y6,y7,y8⟩ H
  have H : qs n mo14 x1 y3 y4 y5 y6 y7 y8 = some o14 := H
  obtain _ | mo14 := mo14
  ·exact nN H
  rw [qs] at H
  refine tS ?_
  refine gA 2 4211 49 ?_
  obtain ⟨h1,H⟩ | ⟨h1,H⟩ := bC H
  ·refine nA h1 ?_
   refine Tr.exit ?_
   refine aJ ?_
   obtain rfl := si H
   have H := Ho14
   dsimp only at H
   exact jA (y4,y5,y6,y7,y8) H [5,4,0] [0,5,4]
  refine tA h1 ?_
  refine tK ?_
  refine tS ?_
  refine tB ?_
  refine rA 1 ?_
  obtain ⟨r15,er15,H⟩ := bs H
  refine LAt.callL tOk [.lend,.rd] (f := 49) (av := #[.tmp 15,.const (.int .i64 4)]) (ats := #[92,3]) (d := (some 16)) (ty := 3) (g := none) kr kr kr [] (zd n (⟨y4,y5,y6⟩ : Src) 4 r15 er15) kr (.inl rfl) ?_
  refine dA 65651 49 ?_
  refine tB ?_
  refine gA 2 33620083 49 ?_
  obtain ⟨h2,H⟩ | ⟨h2,H⟩ := bC H
  ·refine nA h2 ?_
   refine gA 2 274877907059 49 ?_
   obtain ⟨h3,H⟩ | ⟨h3,H⟩ := bC H
   ·refine nA h3 ?_
    obtain ⟨r16,er16,H⟩ := bs H
    obtain ⟨r17,er17,H⟩ := bs H
    refine Tr.draw mixed 9 kr ⟨49,1,[sI 6 y3,sA 5 5 2 0,sA 4 4 2 0,sA 0 0 3 0,sI 1 x1],[(5,(zD.row r17.1)),(0,(CV.frzRow (Src.row r16.2))),(4,[cL 3 ([] : List zA) zA.row,cL 1 ([] : List Int) intRow])]⟩ (fun cx => ?_) ?_
    ·refine aA [(0,[4,8]),(1,[]),(2,[])] 6 [⟨[4,8],40,5,18⟩] fun cx => ?_
     refine bA 3 ?_
     refine LAt.callL tOk [.lend,.rd] (f := 152) (av := #[.tmp 19,.tmp 20]) (ats := #[92,3]) (d := (some 21)) (ty := 114) (g := none) kr kr kr [] (zF5 n r15.2 x1 r16 er16) kr (.inl rfl) ?_
     refine fA ?_
     refine bA 4 ?_
     refine vB [.rd,.rd] [.box 5] (zFy n (⟨y7,y8⟩ : zD) r16.1 r17 er17) (.inr (qa (zD.row_mine _) (qa (zG zN qA) Zj))) ?_
     refine fA ?_
     refine AT.movT tOk 5 (ty := 190) (t := 22) (d := 17) (g := none) [(true,(zD.row r17.1)),(false,[cB r17.2])] _ kr kr kr (.inl rfl) kr kr kr kr rfl (fun cx => ?_)
     refine aA [(6,[]),(7,[])] 1 [⟨[4,8],40,5,18⟩] fun cx => ?_
     refine bA 8 ?_
     refine lA 1 ?_
     refine fA ?_
     exact eE [6,5,4,0,1] [5,0,4]
    refine eA 3 115 49 ?_
    exact jB mo14 ((IntKind.wrap .i64 (y3 - 1)),r16.2.b,r16.2.i,r16.2.h,r17.1.Rows,r17.1.Pv) H [6,5,4,0,1] [0,5,4]
   refine tA h3 ?_
   obtain ⟨r18,er18,H⟩ := bs H
   obtain ⟨r19,er19,H⟩ := bs H
   refine Tr.draw mixed 9 kr ⟨49,1,[sI 6 y3,sA 5 5 2 0,sA 4 4 2 0,sA 0 0 3 0,sI 1 x1],[(5,(zD.row r19.1)),(0,(CV.frzRow (Src.row r18.2))),(4,[cL 3 ([] : List zA) zA.row,cL 1 ([] : List Int) intRow])]⟩ (fun cx => ?_) ?_
   ·refine aA [(0,[4,8]),(1,[])] 7 [⟨[4,8],40,5,41⟩] fun cx => ?_
    refine bA 2 ?_
    refine LAt.callL tOk [.lend,.rd] (f := 49) (av := #[.tmp 42,.const (.int .i64 2)]) (ats := #[92,3]) (d := (some 43)) (ty := 3) (g := none) kr kr kr [] (zd n r15.2 2 r18 er18) kr (.inl rfl) ?_
    refine fA ?_
    refine aA [(3,[])] 5 [⟨[4,8],40,5,41⟩] fun cx => ?_
    refine bA 4 ?_
    refine vB [.rd,.rd] [.box 5] (zFe n (⟨y7,y8⟩ : zD) (IntKind.wrap .i64 (2 + r18.1)) r19 er19) (.inr (qa (zD.row_mine _) (qa (zG zN qA) Zj))) ?_
    refine fA ?_
    refine AT.movT tOk 5 (ty := 190) (t := 45) (d := 40) (g := none) [(true,(zD.row r19.1)),(false,[cB r19.2])] _ kr kr kr (.inl rfl) kr kr kr kr rfl (fun cx => ?_)
    refine aA [(6,[]),(7,[])] 1 [⟨[4,8],40,5,41⟩] fun cx => ?_
    refine bA 8 ?_
    refine lA 1 ?_
    refine fA ?_
    exact eE [6,5,4,0,1] [5,0,4]
   refine eA 3 115 49 ?_
   exact jB mo14 ((IntKind.wrap .i64 (y3 - 1)),r18.2.b,r18.2.i,r18.2.h,r19.1.Rows,r19.1.Pv) H [6,5,4,0,1] [0,5,4]
  refine tA h2 ?_
  obtain ⟨r20,er20,H⟩ := bs H
  obtain ⟨r21,er21,H⟩ := bs H
  obtain ⟨r22,er22,H⟩ := bs H
  refine Tr.draw mixed 12 kr ⟨49,1,[sI 6 y3,sA 5 5 2 0,sA 4 4 2 0,sA 0 0 3 0,sI 1 x1],[(5,(zD.row r22.1)),(0,(CV.frzRow (Src.row r21.2))),(4,[cL 3 ([] : List zA) zA.row,cL 1 ([] : List Int) intRow])]⟩ (fun cx => ?_) ?_
  ·refine mA Jy [(0,[7,11]),(1,[]),(2,[]),(4,[])] 8 [⟨[7,11],40,5,28⟩] fun cx => ?_
   refine mC Jy 3 ?_
   refine LAt.callL tOk [.lend,.rd] (f := 49) (av := #[.tmp 29,.tmp 30]) (ats := #[92,3]) (d := (some 31)) (ty := 3) (g := none) kr kr kr [] (zd n r15.2 x1 r20 er20) kr (.inl rfl) ?_
   refine fA ?_
   refine mC Jy 5 ?_
   refine LAt.callL tOk [.lend,.rd] (f := 49) (av := #[.tmp 32,.const (.int .i64 3)]) (ats := #[92,3]) (d := (some 33)) (ty := 3) (g := none) kr kr kr [] (zd n r20.2 3 r21 er21) kr (.inl rfl) ?_
   refine fA ?_
   refine mA Jy [(6,[])] 5 [⟨[7,11],40,5,28⟩] fun cx => ?_
   refine mC Jy 7 ?_
   refine vB [.rd,.rd,.rd] [.box 5] (zFg n (⟨y7,y8⟩ : zD) r20.1 (IntKind.wrap .i64 (1 + r21.1)) r22 er22) (.inr (qa (zD.row_mine _) (qa (zG zN qA) Zj))) ?_
   refine fA ?_
   refine AT.movT tOk 8 (ty := 190) (t := 35) (d := 27) (g := none) [(true,(zD.row r22.1)),(false,[cB r22.2])] _ kr (oM Jy kr) (dM Jy kr) (.inl rfl) kr kr kr kr rfl (fun cx => ?_)
   refine mA Jy [(9,[]),(10,[])] 1 [⟨[7,11],40,5,28⟩] fun cx => ?_
   refine mC Jy 11 ?_
   refine lA 1 ?_
   refine fA ?_
   exact mE Jy [6,5,4,0,1] [5,0,4]
  refine eA 3 115 49 ?_
  exact jB mo14 ((IntKind.wrap .i64 (y3 - 1)),r21.2.b,r21.2.i,r21.2.h,r22.1.Rows,r22.1.Pv) H [6,5,4,0,1] [0,5,4]
 rintro ⟨y9,y10,y11,y12,y13⟩ H
 have H : (Y0 n y9 y10 y11 y12 y13) = some r := H
 unfold Y0 at H
 refine gA 2 17 17 ?_
 refine te ?_
 obtain rfl := si H
 exact Fin.ofY _ [(true,[cL 3 y12 zA.row,cL 1 y13 intRow])] [] _ [] _ [(0,[cF 1 y9 zh,cI y10,cI y11])] kr rfl rfl rfl kr kr kr kr rfl rfl rfl
def YI (n : Nat) (x0 : Src) : Option (Int × Src) :=
  ((qq n x0 [11,12,13,14]).bind fun r1 => (some (r1.1,r1.2)))
noncomputable abbrev G99 (k : Nat) := Rg Try.f99 k
theorem zDt (n : Nat) (x0 : Src) (r : Int × Src) (H : YI n x0 = some r) : zH Try.prog 99 [.ptr (CV.frzRow (Src.row x0))] [.val false [.lit (.int .i64 r.1)]] [(0,(CV.frzRow (Src.row r.2)))] := by
 refine zH.of_body tOk Try.func99 rfl (c := (.seq (G99 0) (.seq (G99 1) .ret))) kr (Nat.le_of_ble_eq_true kr) 1 (rs := [.tmp 2]) rfl [] .nil [(false,[.lit (.int .i64 r.1)])] [] [(0,(CV.frzRow (Src.row r.2)))] fun cx => ?_
 show Tr _ _ _ ⟨6,1,[sA 0 0 3 0],[(0,(CV.frzRow (Src.row x0)))]⟩ _
 unfold YI at H
 refine gA 1 1 1 ?_
 refine rA 2 ?_
 obtain ⟨r1,er1,H⟩ := bs H
 refine LAt.callL tOk [.lend,.rd] (f := 51) (av := #[.tmp 3,.tmp 4]) (ats := #[92,38]) (d := (some 5)) (ty := 3) (g := none) kr kr kr [] (Q4 n x0 [11,12,13,14] r1 er1) kr (.inl rfl) ?_
 refine uA 1 5 1 ?_
 refine te ?_
 obtain rfl := si H
 exact Fin.ofY _ [(false,[cI r1.1])] [] _ [] _ [(0,(CV.frzRow (Src.row r1.2)))] kr rfl rfl rfl kr kr kr kr rfl rfl rfl
def Jj (n : Nat) : Option (Int) :=
  (some (-1))
def qo (n : Nat) : Nat → (List zB) → Int → Int → Int → Option ((Unit) ⊕ (Int))
  | 0,_,_,_,_ => none
  | mo2 + 1,x0,x1,x2,y1 => (bif (decide (y1 < (x0.length : Int))) then ((idx x0 y1).bind fun v3 => (bif (v3.Tag == x1) then ((idx x0 y1).bind fun v4 => (bif (v4.Mac == x2) then (some (Sum.inr y1)) else (qo n mo2 x0 x1 x2 (IntKind.wrap .i64 (y1 + 1))))) else (qo n mo2 x0 x1 x2 (IntKind.wrap .i64 (y1 + 1))))) else (some (Sum.inl ())))
def Q5 (n : Nat) (x0 : (List zB)) (x1 : Int) (x2 : Int) : Option (Int) :=
  ((qo n n x0 x1 x2 0).bind fun o => match o with | .inl _ => (Jj n) | .inr r => some r)
theorem zEq (n : Nat) (x0 : (List zB)) (x1 : Int) (x2 : Int) (r : Int) (H : Q5 n x0 x1 x2 = some r) : zH Try.prog 153 [.val false [.sl false 5 (CV.frzEs (x0.map zB.row))],.val false [.lit (.int .i64 x1)],.val false [.lit (.int .i64 x2)]] [.val false [.lit (.int .i64 r)]] [] := by
 refine cW Try.func153 (fun g d => sl [g 0,sl [g 1] (.block 0 (.loop (sl [sl [g 2] (cn 11 .skip (.exit 0)),.block 1 (sl [g 4] (cn 29 (sl [g 5] .ret) .skip))] (g 3)))),g 6] .ret) [.tmp 6] fun cx => ?_
 unfold Q5 at H
 refine gA 1 7 0 ?_
 refine tS ?_
 refine gA 1 135 0 ?_
 obtain ⟨o2,eo2,Ho2⟩ := bs H
 clear H
 refine Tr.mid (ι := Unit) (fun v => ⟨31,0,[],[]⟩) (fun v => Jj n = some r) ?_ ?_
 ·refine tB ?_
  refine Tr.loop (ι := Nat × (Int)) (fun v => ⟨31,0,[sI 7 v.2,sC 0 (cF 5 x0 zB.row),sI 1 x1,sI 2 x2],[]⟩) (fun v => qo n v.1 x0 x1 x2 v.2 = some o2) (fun v => v.1) (n,0) eo2 (St.sub_of [7,0,1,2] [] kr) ?_
  rintro ⟨mo2,y1⟩ H
  have H : qo n mo2 x0 x1 x2 y1 = some o2 := H
  obtain _ | mo2 := mo2
  ·exact nN H
  rw [qo] at H
  refine tS ?_
  refine rA 2 ?_
  refine kF x0 zB.row ?_
  refine uA 1 2183 0 ?_
  obtain ⟨h1,H⟩ | ⟨h1,H⟩ := bC H
  ·refine nA h1 ?_
   refine Tr.exit ?_
   refine aJ ?_
   obtain rfl := si H
   have H := Ho2
   dsimp only at H
   exact jA () H [] []
  refine tA h1 ?_
  refine tK ?_
  refine tS ?_
  refine tB ?_
  refine rA 2 ?_
  obtain ⟨v3,ev3,H⟩ := bs H
  refine iA zB.row ev3 ?_
  refine lA 5 ?_
  refine sL 2097287 0 ⟨31,0,[sB 21 (v3.Tag == x1),sI 7 y1,sC 0 (cF 5 x0 zB.row),sI 1 x1,sI 2 x2],[]⟩ ?_
  cases h2 : (v3.Tag == x1)
  ·have H := zI h2 H
   refine uA 8 536871047 0 ?_
   refine nB_ ?_
   refine tK ?_
   refine eA 3 135 0 ?_
   exact jB mo2 (IntKind.wrap .i64 (y1 + 1)) H [7,0,1,2] []
  have H := zJ h2 H
  refine lA 2 ?_
  obtain ⟨v4,ev4,H⟩ := bs H
  refine iA zB.row ev4 ?_
  refine uA 5 536871047 0 ?_
  obtain ⟨h3,H⟩ | ⟨h3,H⟩ := bC H
  ·refine nA h3 ?_
   refine tK ?_
   refine eA 3 135 0 ?_
   exact jB mo2 (IntKind.wrap .i64 (y1 + 1)) H [7,0,1,2] []
  refine tA h3 ?_
  refine gA 2 64 0 ?_
  refine te ?_
  obtain rfl := si H
  have H := Ho2
  dsimp only at H
  exact fJ [(false,[cI y1])] H
 rintro _ H
 have H : (Jj n) = some r := H
 unfold Jj at H
 refine gA 1 64 0 ?_
 exact te (fJ [(false,[cI (-1)])] H)
def qP (n : Nat) (x0 : zB) : Option (Bool) :=
  ((zT n x0.Tag 1 99).bind fun r1 => (bif r1 then ((zT n x0.Mac 1 9999).bind fun r2 => (bif r2 then ((zT n x0.Port 0 7).bind fun r3 => (bif r3 then ((zT n x0.Age 0 4).bind fun r4 => (bif r4 then (bif (!x0.Sc) then (some true) else (some (x0.Age == 0))) else (some false))) else (some false))) else (some false))) else (some false)))
theorem Jk (n : Nat) (x0 : zB) (r : Bool) (H : qP n x0 = some r) : zH Try.prog 155 [.val true (CV.frzRow (zB.row x0))] [.val false [.lit (.bool r)]] [] := by
 refine cW Try.func155 (fun g d => sl [g 0,g 1] .ret) [.tmp 2] fun cx => ?_
 unfold qP at H
 refine gA 2 2 2 ?_
 refine rA 2 ?_
 obtain ⟨r1,er1,H⟩ := bs H
 refine vA [.rd,.rd,.rd] (zS n x0.Tag 1 99 r1 er1) ?_
 refine lA 1 ?_
 refine sL 66 2 ⟨31,0,[sB 6 r1,sA 1 1 5 0],[(1,(zB.row x0))]⟩ ?_
 cases h1 : r1
 ·have H := zI h1 H
  refine uA 25 4 0 ?_
  exact te (fF H)
 have H := zJ h1 H
 refine lA 2 ?_
 obtain ⟨r2,er2,H⟩ := bs H
 refine vA [.rd,.rd,.rd] (zS n x0.Mac 1 9999 r2 er2) ?_
 refine lA 2 ?_
 refine sL 2050 2 ⟨31,0,[sB 11 r2,sA 1 1 5 0],[(1,(zB.row x0))]⟩ ?_
 cases h2 : r2
 ·have H := zI h2 H
  refine uA 20 4 0 ?_
  exact te (fF H)
 have H := zJ h2 H
 refine lA 2 ?_
 obtain ⟨r3,er3,H⟩ := bs H
 refine vA [.rd,.rd,.rd] (zS n x0.Port 0 7 r3 er3) ?_
 refine lA 2 ?_
 refine sL 65538 2 ⟨31,0,[sB 16 r3,sA 1 1 5 0],[(1,(zB.row x0))]⟩ ?_
 cases h3 : r3
 ·have H := zI h3 H
  refine uA 15 4 0 ?_
  exact te (fF H)
 have H := zJ h3 H
 refine lA 2 ?_
 obtain ⟨r4,er4,H⟩ := bs H
 refine vA [.rd,.rd,.rd] (zS n x0.Age 0 4 r4 er4) ?_
 refine lA 2 ?_
 refine sL 2097154 2 ⟨31,0,[sB 21 r4,sA 1 1 5 0],[(1,(zB.row x0))]⟩ ?_
 cases h4 : r4
 ·have H := zI h4 H
  refine uA 10 4 0 ?_
  exact te (fF H)
 have H := zJ h4 H
 refine lA 4 ?_
 refine sL 35651586 2 ⟨31,0,[sB 25 (!x0.Sc),sB 21 true,sA 1 1 5 0],[(1,(zB.row x0))]⟩ ?_
 cases h5 : (!x0.Sc)
 ·have H := zI h5 H
  refine uA 6 4 0 ?_
  exact te (fJ [(false,[cB (x0.Age == 0)])] H)
 have H := zJ h5 H
 refine uA 6 4 0 ?_
 exact te (fT H)
def qe (n : Nat) (x0 : zB) (x1 : Int) (x2 : Int) : Option (Bool) :=
  (bif (x0.Tag != x1) then (some (decide (x0.Tag < x1))) else (some (decide (x0.Mac < x2))))
theorem zCO (n : Nat) (x0 : zB) (x1 : Int) (x2 : Int) (r : Bool) (H : qe n x0 x1 x2 = some r) : zH Try.prog 179 [.val true (CV.frzRow (zB.row x0)),.val false [.lit (.int .i64 x1)],.val false [.lit (.int .i64 x2)]] [.val false [.lit (.bool r)]] [] := by
 refine cW Try.func179 (fun g d => sl [g 0,sl [g 1] (cn 10 (sl [g 2] .ret) .skip),g 3] .ret) [.tmp 6] fun cx => ?_
 unfold qe at H
 refine gA 2 14 8 ?_
 refine tS ?_
 refine gA 4 1038 8 ?_
 obtain ⟨h1,H⟩ | ⟨h1,H⟩ := bC H
 ·refine nA h1 ?_
  refine tK ?_
  refine gA 5 64 0 ?_
  exact te (fJ [(false,[cB (decide (x0.Mac < x2))])] H)
 refine tA h1 ?_
 refine gA 5 64 0 ?_
 exact te (fJ [(false,[cB (decide (x0.Tag < x1))])] H)
def YA (n : Nat) (x0 : (List zB)) : Option (Bool) :=
  (some (decide ((x0.length : Int) ≤ 12)))
def zt (n : Nat) : Nat → (List zB) → Int → Option ((Unit) ⊕ (Bool))
  | 0,_,_ => none
  | mo2 + 1,x0,y1 => (bif (decide (y1 < (x0.length : Int))) then ((idx x0 y1).bind fun v3 => ((qP n v3).bind fun r4 => (bif (!r4) then (some (Sum.inr false)) else (bif (decide (y1 > 0)) then ((idx x0 (IntKind.wrap .i64 (y1 - 1))).bind fun v5 => ((idx x0 y1).bind fun v6 => ((idx x0 y1).bind fun v7 => ((qe n v5 v6.Tag v7.Mac).bind fun r8 => (bif (!r8) then (some (Sum.inr false)) else (zt n mo2 x0 (IntKind.wrap .i64 (y1 + 1)))))))) else (zt n mo2 x0 (IntKind.wrap .i64 (y1 + 1))))))) else (some (Sum.inl ())))
def qg (n : Nat) (x0 : (List zB)) : Option (Bool) :=
  ((zt n n x0 0).bind fun o => match o with | .inl _ => (YA n x0) | .inr r => some r)
def zII : Tab := ⟨29,[0,0,3,4,8,16,48,64,192,320,512,512,2560,5632,8704,512,512,98816,131584,262656,512,512,3146240,4194816,8389120,17318400,33554944,67109440,134217792],[0,0,3,4,8,16,32,64,192,320,512,512,2560,5632,8704,512,512,98816,131584,262656,512,512,3146240,4194816,8389120,17318400,33554944,67109440,134217792],[0,0,3,7,15,31,63,127,255,511,1023,1023,3071,8191,16383,1023,1023,99327,230399,492543,1023,1023,3146751,7341055,15729663,33554431,67108863,134217727,268435455]⟩
theorem qF : zq (rg Try.f154 4) zII = true := kr
theorem zBo (n : Nat) (x0 : (List zB)) (r : Bool) (H : qg n x0 = some r) : zH Try.prog 154 [.val false [.sl false 5 (CV.frzEs (x0.map zB.row))]] [.val false [.lit (.bool r)]] [] := by
 refine cW Try.func154 (fun g d => sl [g 0,sl [g 1] (.block 0 (.loop (sl [sl [g 2] (cn 7 .skip (.exit 0)),.block 1 (sl [d 4] (cn 38 (sl [g 5] .ret) .skip))] (g 3)))),g 6] .ret) [.tmp 2] fun cx => ?_
 unfold qg at H
 refine gA 1 1 0 ?_
 refine tS ?_
 refine gA 1 9 0 ?_
 obtain ⟨o2,eo2,Ho2⟩ := bs H
 clear H
 refine Tr.mid (ι := Unit) (fun v => ⟨42,0,[sC 0 (cF 5 x0 zB.row)],[]⟩) (fun v => YA n x0 = some r) ?_ ?_
 ·refine tB ?_
  refine Tr.loop (ι := Nat × (Int)) (fun v => ⟨42,0,[sI 3 v.2,sC 0 (cF 5 x0 zB.row)],[]⟩) (fun v => zt n v.1 x0 v.2 = some o2) (fun v => v.1) (n,0) eo2 (St.sub_of [3,0] [] kr) ?_
  rintro ⟨mo2,y1⟩ H
  have H : zt n mo2 x0 y1 = some o2 := H
  obtain _ | mo2 := mo2
  ·exact nN H
  rw [zt] at H
  refine tS ?_
  refine rA 2 ?_
  refine kF x0 zB.row ?_
  refine uA 1 137 0 ?_
  obtain ⟨h1,H⟩ | ⟨h1,H⟩ := bC H
  ·refine nA h1 ?_
   refine Tr.exit ?_
   refine aJ ?_
   obtain rfl := si H
   have H := Ho2
   dsimp only at H
   exact jA () H [0] []
  refine tA h1 ?_
  refine tK ?_
  refine tS ?_
  refine tB ?_
  obtain ⟨v3,ev3,H⟩ := bs H
  obtain ⟨r4,er4,H⟩ := bs H
  refine sT ⟨42,0,[sB 7 (decide (y1 < (x0.length : Int))),sI 3 y1,sC 0 (cF 5 x0 zB.row)],[]⟩ ?_
  cases h2 : (!r4)
  ·have H := zI h2 H
   refine sT ⟨42,0,[sB 7 (decide (y1 < (x0.length : Int))),sI 3 y1,sC 0 (cF 5 x0 zB.row)],[]⟩ ?_
   cases h3 : (decide (y1 > 0))
   ·have H := zI h3 H
    refine Tr.draws mixed 29 kr ⟨42,0,[sB 38 false,sI 3 y1,sC 0 (cF 5 x0 zB.row)],[]⟩ (fun cx => ?_) ?_
    ·refine mA qF [(0,[]),(1,[])] 27 [] fun cx => ?_
     refine iN qF 2 zB.row ev3 fun cx => ?_
     refine mA qF [(3,[])] 25 [] fun cx => ?_
     refine mC qF 4 ?_
     refine vA [.rd] (Jk n v3 r4 er4) ?_
     refine fA ?_
     refine mA qF [(5,[]),(6,[])] 22 [] fun cx => ?_
     refine sA_ 65545 0 ⟨42,0,[sB 16 (!r4),sI 3 y1,sC 0 (cF 5 x0 zB.row)],[]⟩ ?_
     rw [h2]
     refine mA qF [(7,[]),(8,[]),(9,[])] 19 [] fun cx => ?_
     refine sA_ 589833 0 ⟨42,0,[sB 19 (decide (y1 > 0)),sB 16 false,sI 3 y1,sC 0 (cF 5 x0 zB.row)],[]⟩ ?_
     rw [h3]
     refine mA qF [(10,[]),(11,[]),(12,[]),(13,[]),(14,[]),(15,[]),(16,[]),(17,[]),(18,[]),(19,[]),(20,[]),(21,[]),(22,[]),(23,[]),(24,[]),(25,[]),(26,[]),(27,[]),(28,[])] 0 [] fun cx => ?_
     exact mE qF [38,3,0] []
    refine nB_ ?_
    refine tK ?_
    refine eA 3 9 0 ?_
    exact jB mo2 (IntKind.wrap .i64 (y1 + 1)) H [3,0] []
   have H := zJ h3 H
   obtain ⟨v5,ev5,H⟩ := bs H
   obtain ⟨v6,ev6,H⟩ := bs H
   obtain ⟨v7,ev7,H⟩ := bs H
   obtain ⟨r8,er8,H⟩ := bs H
   refine Tr.draws mixed 29 kr ⟨42,0,[sB 38 (!r8),sI 3 y1,sC 0 (cF 5 x0 zB.row)],[]⟩ (fun cx => ?_) ?_
   ·refine mA qF [(0,[]),(1,[])] 27 [] fun cx => ?_
    refine iN qF 2 zB.row ev3 fun cx => ?_
    refine mA qF [(3,[])] 25 [] fun cx => ?_
    refine mC qF 4 ?_
    refine vA [.rd] (Jk n v3 r4 er4) ?_
    refine fA ?_
    refine mA qF [(5,[]),(6,[])] 22 [] fun cx => ?_
    refine sA_ 65545 0 ⟨42,0,[sB 16 (!r4),sI 3 y1,sC 0 (cF 5 x0 zB.row)],[]⟩ ?_
    rw [h2]
    refine mA qF [(7,[]),(8,[]),(9,[])] 19 [] fun cx => ?_
    refine sA_ 589833 0 ⟨42,0,[sB 19 (decide (y1 > 0)),sB 16 false,sI 3 y1,sC 0 (cF 5 x0 zB.row)],[]⟩ ?_
    rw [h3]
    refine mA qF [(10,[]),(11,[]),(12,[])] 16 [] fun cx => ?_
    refine iN qF 13 zB.row ev5 fun cx => ?_
    refine mA qF [(14,[]),(15,[]),(16,[])] 12 [] fun cx => ?_
    refine iN qF 17 zB.row ev6 fun cx => ?_
    refine mA qF [(18,[]),(19,[]),(20,[]),(21,[])] 7 [] fun cx => ?_
    refine iN qF 22 zB.row ev7 fun cx => ?_
    refine mA qF [(23,[]),(24,[])] 4 [] fun cx => ?_
    refine mC qF 25 ?_
    refine vA [.rd,.rd,.rd] (zCO n v5 v6.Tag v7.Mac r8 er8) ?_
    refine fA ?_
    refine mA qF [(26,[]),(27,[]),(28,[])] 0 [] fun cx => ?_
    exact mE qF [38,3,0] []
   refine sT ⟨42,0,[sB 38 (!r8),sI 3 y1,sC 0 (cF 5 x0 zB.row)],[]⟩ ?_
   cases h4 : (!r8)
   ·have H := zI h4 H
    refine nB_ ?_
    refine tK ?_
    refine eA 3 9 0 ?_
    exact jB mo2 (IntKind.wrap .i64 (y1 + 1)) H [3,0] []
   have H := zJ h4 H
   refine tB_ ?_
   refine gA 1 4 0 ?_
   refine te ?_
   obtain rfl := si H
   have H := Ho2
   dsimp only at H
   exact fF H
  have H := zJ h2 H
  refine Tr.draws mixed 29 kr ⟨42,0,[sB 38 true,sI 3 y1,sC 0 (cF 5 x0 zB.row)],[]⟩ (fun cx => ?_) ?_
  ·refine mA qF [(0,[]),(1,[])] 27 [] fun cx => ?_
   refine iN qF 2 zB.row ev3 fun cx => ?_
   refine mA qF [(3,[])] 25 [] fun cx => ?_
   refine mC qF 4 ?_
   refine vA [.rd] (Jk n v3 r4 er4) ?_
   refine fA ?_
   refine mA qF [(5,[]),(6,[])] 22 [] fun cx => ?_
   refine sA_ 65545 0 ⟨42,0,[sB 16 (!r4),sI 3 y1,sC 0 (cF 5 x0 zB.row)],[]⟩ ?_
   rw [h2]
   refine mA qF [(7,[]),(8,[]),(9,[]),(10,[]),(11,[]),(12,[]),(13,[]),(14,[]),(15,[]),(16,[]),(17,[]),(18,[]),(19,[]),(20,[]),(21,[]),(22,[]),(23,[]),(24,[]),(25,[]),(26,[]),(27,[]),(28,[])] 0 [] fun cx => ?_
   exact mE qF [38,3,0] []
  refine tB_ ?_
  refine gA 1 4 0 ?_
  refine te ?_
  obtain rfl := si H
  have H := Ho2
  dsimp only at H
  exact fF H
 rintro _ H
 have H : (YA n x0) = some r := H
 unfold YA at H
 refine rA 1 ?_
 refine kF x0 zB.row ?_
 refine uA 2 4 0 ?_
 exact te (fJ [(false,[cB (decide ((x0.length : Int) ≤ 12))])] H)
def qN (n : Nat) (x0 : (List zB)) : Option ((List zB)) :=
  (bif (decide (([] : List zB).length + x0.length ≤ 268435456)) then (some (([] : List zB) ++ x0)) else none)
theorem QG (n : Nat) (x0 : (List zB)) (r : (List zB)) (H : qN n x0 = some r) : zH Try.prog 156 [.val false [.sl false 5 (CV.frzEs (x0.map zB.row))]] [.val false [.sl true 5 (r.map zB.row)]] [] := by
 refine cW Try.func156 (fun g d => sl [g 0,g 1] .ret) [.tmp 2] fun cx => ?_
 unfold qN at H
 refine gA 1 1 0 ?_
 refine rA 2 ?_
 obtain ⟨hg1,H⟩ := gs H
 refine pD zB.row hg1 ?_
 refine LAt.moveU (T := lk tab) (ty := 36) (x := (.tmp 5)) (d := 2) (g := none) false [cL 5 (([] : List zB) ++ x0) zB.row] kr kr kr kr kr ?_
 refine dA 4 0 ?_
 exact te (fJ [(false,[cL 5 (([] : List zB) ++ x0) zB.row])] H)
def YE (n : Nat) (x1 : zB) (y4 : Bool) (y5 : (List zB)) : Option ((List zB)) :=
  (bif (!y4) then (bif (decide (y5.length + [x1].length ≤ 268435456)) then (some (y5 ++ [x1])) else none) else (some y5))
def ZC (n : Nat) (k : (Int × Bool × (List zB) → Option ((Bool × (List zB)) ⊕ ((List zB))))) (x0 : (List zB)) (x1 : zB) (y1 : Int) (y8 : Bool) (y9 : (List zB)) : Option ((Bool × (List zB)) ⊕ ((List zB))) :=
  ((idx x0 y1).bind fun v10 => (bif (v10.Tag != x1.Tag) then ((idx x0 y1).bind fun v14 => (bif (decide (y9.length + [v14].length ≤ 268435456)) then (k ((IntKind.wrap .i64 (y1 + 1)),y8,(y9 ++ [v14]))) else none)) else ((idx x0 y1).bind fun v11 => (bif (v11.Mac != x1.Mac) then ((idx x0 y1).bind fun v12 => (bif (decide (y9.length + [v12].length ≤ 268435456)) then (k ((IntKind.wrap .i64 (y1 + 1)),y8,(y9 ++ [v12]))) else none)) else (k ((IntKind.wrap .i64 (y1 + 1)),y8,y9))))))
def qD (n : Nat) : Nat → (List zB) → zB → Int → Bool → (List zB) → Option ((Bool × (List zB)) ⊕ ((List zB)))
  | 0,_,_,_,_,_ => none
  | mo7 + 1,x0,x1,y1,y2,y3 => (bif (decide (y1 < (x0.length : Int))) then (bif (!y2) then ((idx x0 y1).bind fun v16 => ((qe n v16 x1.Tag x1.Mac).bind fun r17 => (bif (!r17) then (bif (decide (y3.length + [x1].length ≤ 268435456)) then (ZC n (fun v => qD n mo7 x0 x1 v.1 v.2.1 v.2.2) x0 x1 y1 true (y3 ++ [x1])) else none) else (ZC n (fun v => qD n mo7 x0 x1 v.1 v.2.1 v.2.2) x0 x1 y1 y2 y3)))) else (ZC n (fun v => qD n mo7 x0 x1 v.1 v.2.1 v.2.2) x0 x1 y1 y2 y3)) else (some (Sum.inl (y2,y3))))
def ZQ (n : Nat) (x0 : (List zB)) (x1 : zB) : Option ((List zB)) :=
  ((qD n n x0 x1 0 false ([] : List zB)).bind fun o => match o with | .inl (y4,y5) => (YE n x1 y4 y5) | .inr r => some r)
def zIJ : Tab := ⟨14,[0,1,2,4,4,28,36,4,132,4,516,1348,2052,4100],[0,1,2,4,4,28,36,4,132,4,516,1348,2052,4100],[0,1,3,7,7,31,63,7,135,7,519,2047,4095,8191]⟩
theorem Y4 : zq (rg Try.f157 6) zIJ = true := kr
def zIK : Tab := ⟨18,[0,0,3,4,8,0,32,80,128,256,256,1792,2304,4352,256,16640,41216,65792],[0,0,3,4,8,0,32,80,128,256,256,1792,2304,4352,256,16640,41216,65792],[0,0,3,7,15,0,32,127,255,511,511,2047,4095,8191,511,16895,65535,131071]⟩
theorem Q7 : zq (rg Try.f157 9) zIK = true := kr
theorem Yz (n : Nat) (x0 : (List zB)) (x1 : zB) (r : (List zB)) (H : ZQ n x0 x1 = some r) : zH Try.prog 157 [.val false [.sl false 5 (CV.frzEs (x0.map zB.row))],.val true (CV.frzRow (zB.row x1))] [.val false [.sl true 5 (r.map zB.row)]] [] := by
 refine cW Try.func157 (fun g d => sl [g 0,g 1,g 2,sl [g 3] (.block 0 (.loop (sl [sl [g 4] (cn 12 .skip (.exit 0)),.block 1 (sl [sl [d 6] (cn 28 (sl [g 7] (g 8)) .skip),d 9] (cn 50 (g 10) .skip))] (g 5)))),sl [g 11] (cn 59 (g 12) .skip),g 13] .ret) [.tmp 4] fun cx => ?_
 unfold ZQ at H
 refine gA 2 9 8 ?_
 refine rA 1 ?_
 refine LAt.moveU (T := lk tab) (ty := 36) (x := (.tmp 8)) (d := 5) (g := none) false [cL 5 ([] : List zB) zB.row] kr kr kr kr kr ?_
 refine dA 41 8 ?_
 refine gA 1 105 8 ?_
 refine tS ?_
 refine gA 1 233 8 ?_
 obtain ⟨o7,eo7,Ho7⟩ := bs H
 clear H
 refine Tr.mid (ι := Bool × (List zB)) (fun v => ⟨65,0,[sB 6 v.1,sC 5 (cL 5 v.2 zB.row),sA 3 3 5 0],[(3,(zB.row x1))]⟩) (fun v => YE n x1 v.1 v.2 = some r) ?_ ?_
 ·refine tB ?_
  refine Tr.loop (ι := Nat × (Int × Bool × (List zB))) (fun v => ⟨65,0,[sI 7 v.2.1,sB 6 v.2.2.1,sC 5 (cL 5 v.2.2.2 zB.row),sA 3 3 5 0,sC 0 (cF 5 x0 zB.row)],[(3,(zB.row x1))]⟩) (fun v => qD n v.1 x0 x1 v.2.1 v.2.2.1 v.2.2.2 = some o7) (fun v => v.1) (n,(0,false,([] : List zB))) eo7 (St.sub_of [7,6,5,3,0] [3] kr) ?_
  rintro ⟨mo7,y1,y2,y3⟩ H
  have H : qD n mo7 x0 x1 y1 y2 y3 = some o7 := H
  obtain _ | mo7 := mo7
  ·exact nN H
  rw [qD] at H
  refine tS ?_
  refine rA 2 ?_
  refine kF x0 zB.row ?_
  refine uA 1 4329 8 ?_
  obtain ⟨h2,H⟩ | ⟨h2,H⟩ := bC H
  ·refine nA h2 ?_
   refine Tr.exit ?_
   refine aJ ?_
   obtain rfl := si H
   have H := Ho7
   dsimp only at H
   exact jA (y2,y3) H [6,5,3] [3]
  refine tA h2 ?_
  refine tK ?_
  refine tS ?_
  refine tB ?_
  refine tS ?_
  refine Tr.mid (ι := Bool × (List zB)) (fun v => ⟨65,0,[sI 7 y1,sB 6 v.1,sC 5 (cL 5 v.2 zB.row),sA 3 3 5 0,sC 0 (cF 5 x0 zB.row)],[(3,(zB.row x1))]⟩) (fun v => ZC n (fun v => qD n mo7 x0 x1 v.1 v.2.1 v.2.2) x0 x1 y1 v.1 v.2 = some o7) ?_ ?_
  ·refine tS ?_
   refine sT ⟨65,0,[sB 12 (decide (y1 < (x0.length : Int))),sI 7 y1,sB 6 y2,sC 5 (cL 5 y3 zB.row),sA 3 3 5 0,sC 0 (cF 5 x0 zB.row)],[(3,(zB.row x1))]⟩ ?_
   cases h5 : (!y2)
   ·have H := zI h5 H
    refine Tr.draw mixed 14 kr ⟨65,0,[sB 28 false,sI 7 y1,sB 6 y2,sC 5 (cL 5 y3 zB.row),sA 3 3 5 0,sC 0 (cF 5 x0 zB.row)],[(3,(zB.row x1))]⟩ (fun cx => ?_) ?_
    ·refine mA Y4 [(0,[]),(1,[]),(2,[])] 11 [] fun cx => ?_
     refine sA_ 131305 8 ⟨65,0,[sB 17 (!y2),sI 7 y1,sB 6 y2,sC 5 (cL 5 y3 zB.row),sA 3 3 5 0,sC 0 (cF 5 x0 zB.row)],[(3,(zB.row x1))]⟩ ?_
     rw [h5]
     refine mA Y4 [(3,[]),(4,[]),(5,[]),(6,[]),(7,[]),(8,[]),(9,[]),(10,[]),(11,[]),(12,[]),(13,[])] 0 [] fun cx => ?_
     exact mE Y4 [28,7,6,5,3,0] [3]
    refine nB_ ?_
    refine tK ?_
    exact jA (y2,y3) H [7,6,5,3,0] [3]
   have H := zJ h5 H
   obtain ⟨v16,ev16,H⟩ := bs H
   obtain ⟨r17,er17,H⟩ := bs H
   refine Tr.draw mixed 14 kr ⟨65,0,[sB 28 (!r17),sI 7 y1,sB 6 y2,sC 5 (cL 5 y3 zB.row),sA 3 3 5 0,sC 0 (cF 5 x0 zB.row)],[(3,(zB.row x1))]⟩ (fun cx => ?_) ?_
   ·refine mA Y4 [(0,[]),(1,[]),(2,[])] 11 [] fun cx => ?_
    refine sA_ 131305 8 ⟨65,0,[sB 17 (!y2),sI 7 y1,sB 6 y2,sC 5 (cL 5 y3 zB.row),sA 3 3 5 0,sC 0 (cF 5 x0 zB.row)],[(3,(zB.row x1))]⟩ ?_
    rw [h5]
    refine mA Y4 [(3,[]),(4,[])] 9 [] fun cx => ?_
    refine iN Y4 5 zB.row ev16 fun cx => ?_
    refine mA Y4 [(6,[]),(7,[]),(8,[11]),(9,[]),(10,[11])] 3 [⟨[11],3,24,25⟩,⟨[11],3,22,23⟩] fun cx => ?_
    refine mC Y4 11 ?_
    refine vA [.rd,.rd,.rd] (zCO n v16 x1.Tag x1.Mac r17 er17) ?_
    refine fA ?_
    refine mA Y4 [(12,[]),(13,[])] 0 [⟨[11],3,24,25⟩,⟨[11],3,22,23⟩] fun cx => ?_
    exact mE Y4 [28,7,6,5,3,0] [3]
   refine sT ⟨65,0,[sB 28 (!r17),sI 7 y1,sB 6 y2,sC 5 (cL 5 y3 zB.row),sA 3 3 5 0,sC 0 (cF 5 x0 zB.row)],[(3,(zB.row x1))]⟩ ?_
   cases h6 : (!r17)
   ·have H := zI h6 H
    refine nB_ ?_
    refine tK ?_
    exact jA (y2,y3) H [7,6,5,3,0] [3]
   have H := zJ h6 H
   refine tB_ ?_
   refine rA 3 ?_
   obtain ⟨hg18,H⟩ := gs H
   refine LAt.appMU tOk (t := 36) (ty := 36) (e := 60) (x := (.tmp 29)) (y := (.tmp 31)) (d := 32) (g := none) (tI 60) zB.row y3 [x1] kr kr kr kr kr kr kr kr kr kr hg18 ?_
   refine LAt.moveU (T := lk tab) (ty := 36) (x := (.tmp 32)) (d := 5) (g := none) false [cL 5 (y3 ++ [x1]) zB.row] kr kr kr kr kr ?_
   refine dA 169 8 ?_
   refine eA 1 233 8 ?_
   exact jA (true,(y3 ++ [x1])) H [7,6,5,3,0] [3]
  rintro ⟨y8,y9⟩ H
  have H : (ZC n (fun v => qD n mo7 x0 x1 v.1 v.2.1 v.2.2) x0 x1 y1 y8 y9) = some o7 := H
  unfold ZC at H
  refine tS ?_
  obtain ⟨v10,ev10,H⟩ := bs H
  refine sT ⟨65,0,[sI 7 y1,sB 6 y8,sC 5 (cL 5 y9 zB.row),sA 3 3 5 0,sC 0 (cF 5 x0 zB.row)],[(3,(zB.row x1))]⟩ ?_
  cases h3 : (v10.Tag != x1.Tag)
  ·have H := zI h3 H
   obtain ⟨v11,ev11,H⟩ := bs H
   refine Tr.draw mixed 18 kr ⟨65,0,[sB 50 (v11.Mac != x1.Mac),sI 7 y1,sB 6 y8,sC 5 (cL 5 y9 zB.row),sA 3 3 5 0,sC 0 (cF 5 x0 zB.row)],[(3,(zB.row x1))]⟩ (fun cx => ?_) ?_
   ·refine mA Q7 [(0,[]),(1,[])] 16 [] fun cx => ?_
    refine iN Q7 2 zB.row ev10 fun cx => ?_
    refine mA Q7 [(3,[]),(4,[]),(5,[]),(6,[]),(7,[]),(8,[])] 9 [⟨[],3,38,39⟩] fun cx => ?_
    refine sA_ 3023656976617 8 ⟨65,0,[sB 41 (v10.Tag != x1.Tag),sI 39 x1.Tag,sA 38 3 5 0,sI 7 y1,sB 6 y8,sC 5 (cL 5 y9 zB.row),sA 3 3 5 0,sC 0 (cF 5 x0 zB.row)],[(3,(zB.row x1))]⟩ ?_
    rw [h3]
    refine mA Q7 [(9,[]),(10,[])] 7 [⟨[],3,38,39⟩] fun cx => ?_
    refine iN Q7 11 zB.row ev11 fun cx => ?_
    refine mA Q7 [(12,[]),(13,[]),(14,[]),(15,[]),(16,[]),(17,[])] 0 [⟨[],3,47,48⟩,⟨[],3,38,39⟩] fun cx => ?_
    exact mE Q7 [50,7,6,5,3,0] [3]
   refine sT ⟨65,0,[sB 50 (v11.Mac != x1.Mac),sI 7 y1,sB 6 y8,sC 5 (cL 5 y9 zB.row),sA 3 3 5 0,sC 0 (cF 5 x0 zB.row)],[(3,(zB.row x1))]⟩ ?_
   cases h4 : (v11.Mac != x1.Mac)
   ·have H := zI h4 H
    refine nB_ ?_
    refine tK ?_
    refine eA 3 233 8 ?_
    exact jB mo7 ((IntKind.wrap .i64 (y1 + 1)),y8,y9) H [7,6,5,3,0] [3]
   have H := zJ h4 H
   refine tB_ ?_
   refine Tr.at ?_
   refine lA 3 ?_
   obtain ⟨v12,ev12,H⟩ := bs H
   refine iA zB.row ev12 ?_
   refine lA 2 ?_
   obtain ⟨hg13,H⟩ := gs H
   refine LAt.appMU tOk (t := 36) (ty := 36) (e := 60) (x := (.tmp 51)) (y := (.tmp 56)) (d := 57) (g := none) (tI 60) zB.row y9 [v12] kr kr kr kr kr kr kr kr kr kr hg13 ?_
   refine LAt.moveU (T := lk tab) (ty := 36) (x := (.tmp 57)) (d := 5) (g := none) false [cL 5 (y9 ++ [v12]) zB.row] kr kr kr kr kr ?_
   refine dA 233 8 ?_
   refine eA 3 233 8 ?_
   exact jB mo7 ((IntKind.wrap .i64 (y1 + 1)),y8,(y9 ++ [v12])) H [7,6,5,3,0] [3]
  have H := zJ h3 H
  refine Tr.draw mixed 18 kr ⟨65,0,[sB 50 true,sI 7 y1,sB 6 y8,sC 5 (cL 5 y9 zB.row),sA 3 3 5 0,sC 0 (cF 5 x0 zB.row)],[(3,(zB.row x1))]⟩ (fun cx => ?_) ?_
  ·refine mA Q7 [(0,[]),(1,[])] 16 [] fun cx => ?_
   refine iN Q7 2 zB.row ev10 fun cx => ?_
   refine mA Q7 [(3,[]),(4,[]),(5,[]),(6,[]),(7,[]),(8,[])] 9 [⟨[],3,38,39⟩] fun cx => ?_
   refine sA_ 3023656976617 8 ⟨65,0,[sB 41 (v10.Tag != x1.Tag),sI 39 x1.Tag,sA 38 3 5 0,sI 7 y1,sB 6 y8,sC 5 (cL 5 y9 zB.row),sA 3 3 5 0,sC 0 (cF 5 x0 zB.row)],[(3,(zB.row x1))]⟩ ?_
   rw [h3]
   refine mA Q7 [(9,[]),(10,[]),(11,[]),(12,[]),(13,[]),(14,[]),(15,[]),(16,[]),(17,[])] 0 [⟨[],3,38,39⟩] fun cx => ?_
   exact mE Q7 [50,7,6,5,3,0] [3]
  refine tB_ ?_
  refine Tr.at ?_
  refine lA 3 ?_
  obtain ⟨v14,ev14,H⟩ := bs H
  refine iA zB.row ev14 ?_
  refine lA 2 ?_
  obtain ⟨hg15,H⟩ := gs H
  refine LAt.appMU tOk (t := 36) (ty := 36) (e := 60) (x := (.tmp 51)) (y := (.tmp 56)) (d := 57) (g := none) (tI 60) zB.row y9 [v14] kr kr kr kr kr kr kr kr kr kr hg15 ?_
  refine LAt.moveU (T := lk tab) (ty := 36) (x := (.tmp 57)) (d := 5) (g := none) false [cL 5 (y9 ++ [v14]) zB.row] kr kr kr kr kr ?_
  refine dA 233 8 ?_
  refine eA 3 233 8 ?_
  exact jB mo7 ((IntKind.wrap .i64 (y1 + 1)),y8,(y9 ++ [v14])) H [7,6,5,3,0] [3]
 rintro ⟨y4,y5⟩ H
 have H : (YE n x1 y4 y5) = some r := H
 unfold YE at H
 refine tS ?_
 refine gA 2 0x800000000000028 8 ?_
 obtain ⟨h1,H⟩ | ⟨h1,H⟩ := bC H
 ·refine nA h1 ?_
  refine tK ?_
  refine gA 2 48 0 ?_
  exact te (fJ [(false,[cL 5 y5 zB.row])] H)
 refine tA h1 ?_
 refine Tr.at ?_
 refine lA 3 ?_
 obtain ⟨hg6,H⟩ := gs H
 refine LAt.appMU tOk (t := 36) (ty := 36) (e := 60) (x := (.tmp 60)) (y := (.tmp 62)) (d := 63) (g := none) (tI 60) zB.row y5 [x1] kr kr kr kr kr kr kr kr kr kr hg6 ?_
 refine LAt.moveU (T := lk tab) (ty := 36) (x := (.tmp 63)) (d := 5) (g := none) false [cL 5 (y5 ++ [x1]) zB.row] kr kr kr kr kr ?_
 refine dA 32 0 ?_
 refine gA 2 48 0 ?_
 exact te (fJ [(false,[cL 5 (y5 ++ [x1]) zB.row])] H)
def JC (n : Nat) (x0 : (List zB)) (x1 : Int) (x2 : Int) (x3 : Int) : Option ((List zB)) :=
  ((Q5 n x0 x1 x2).bind fun r1 => ((qg n x0).bind fun r2 => (bif (!r2) then ((qN n x0).bind fun r13 => (some r13)) else ((qP n (⟨x1,x2,x3,0,false⟩ : zB)).bind fun r3 => (bif (!r3) then ((qN n x0).bind fun r12 => (some r12)) else (bif (decide (r1 ≥ 0)) then ((idx x0 r1).bind fun v7 => (bif v7.Sc then ((qN n x0).bind fun r11 => (some r11)) else (bif (decide (r1 < 0)) then (bif (decide ((x0.length : Int) ≥ 12)) then ((qN n x0).bind fun r10 => (some r10)) else ((ZQ n x0 (⟨x1,x2,x3,0,false⟩ : zB)).bind fun r9 => (some r9))) else ((ZQ n x0 (⟨x1,x2,x3,0,false⟩ : zB)).bind fun r8 => (some r8))))) else (bif (decide (r1 < 0)) then (bif (decide ((x0.length : Int) ≥ 12)) then ((qN n x0).bind fun r6 => (some r6)) else ((ZQ n x0 (⟨x1,x2,x3,0,false⟩ : zB)).bind fun r5 => (some r5))) else ((ZQ n x0 (⟨x1,x2,x3,0,false⟩ : zB)).bind fun r4 => (some r4)))))))))
theorem zGo (n : Nat) (x0 : (List zB)) (x1 : Int) (x2 : Int) (x3 : Int) (r : (List zB)) (H : JC n x0 x1 x2 x3 = some r) : zH Try.prog 98 [.val false [.sl false 5 (CV.frzEs (x0.map zB.row))],.val false [.lit (.int .i64 x1)],.val false [.lit (.int .i64 x2)],.val false [.lit (.int .i64 x3)]] [.val false [.sl true 5 (r.map zB.row)]] [] := by
 refine cW Try.func98 (fun g d => sl [g 0,g 1,g 2,sl [g 3] (cn 46 (sl [g 4] .ret) .skip),g 5] .ret) [.tmp 8] fun cx => ?_
 unfold JC at H
 refine gA 1 15 0 ?_
 refine gA 6 519 512 ?_
 refine rA 3 ?_
 obtain ⟨r1,er1,H⟩ := bs H
 refine vA [.rd,.rd,.rd] (zEq n x0 x1 x2 r1 er1) ?_
 refine uA 1 1537 512 ?_
 refine tS ?_
 refine rA 1 ?_
 obtain ⟨r2,er2,H⟩ := bs H
 refine vA [.rd] (zBo n x0 r2 er2) ?_
 refine lA 2 ?_
 refine sL 4195841 512 ⟨52,0,[sB 22 (!r2),sI 10 r1,sA 9 9 5 0,sC 0 (cF 5 x0 zB.row)],[(9,[cI x1,cI x2,cI x3,cI 0,cB false])]⟩ ?_
 cases h1 : (!r2)
 ·have H := zI h1 H
  refine lA 1 ?_
  obtain ⟨r3,er3,H⟩ := bs H
  refine vA [.rd] (Jk n (⟨x1,x2,x3,0,false⟩ : zB) r3 er3) ?_
  refine lA 3 ?_
  refine sL 134219265 512 ⟨52,0,[sB 27 (!r3),sI 10 r1,sA 9 9 5 0,sC 0 (cF 5 x0 zB.row)],[(9,[cI x1,cI x2,cI x3,cI 0,cB false])]⟩ ?_
  cases h2 : (!r3)
  ·have H := zI h2 H
   refine lA 3 ?_
   refine sL 1207961089 512 ⟨52,0,[sB 30 (decide (r1 ≥ 0)),sB 27 false,sI 10 r1,sA 9 9 5 0,sC 0 (cF 5 x0 zB.row)],[(9,[cI x1,cI x2,cI x3,cI 0,cB false])]⟩ ?_
   cases h3 : (decide (r1 ≥ 0))
   ·have H := zI h3 H
    refine lA 11 ?_
    refine sL 2473901163009 512 ⟨52,0,[sB 41 (decide (r1 < 0)),sB 38 false,sA 9 9 5 0,sC 0 (cF 5 x0 zB.row)],[(9,[cI x1,cI x2,cI x3,cI 0,cB false])]⟩ ?_
    cases h4 : (decide (r1 < 0))
    ·have H := zI h4 H
     refine uA 5 70368744178177 512 ?_
     refine nB_ ?_
     refine tK ?_
     refine rA 2 ?_
     obtain ⟨r4,er4,H⟩ := bs H
     refine vA [.rd,.rd] (Yz n x0 (⟨x1,x2,x3,0,false⟩ : zB) r4 er4) ?_
     refine LAt.moveU (T := lk tab) (ty := 36) (x := (.tmp 51)) (d := 8) (g := none) false [cL 5 r4 zB.row] kr kr kr kr kr ?_
     refine dA 256 0 ?_
     exact te (fJ [(false,[cL 5 r4 zB.row])] H)
    have H := zJ h4 H
    refine lA 1 ?_
    refine kF x0 zB.row ?_
    refine uA 3 70368744178177 512 ?_
    obtain ⟨h5,H⟩ | ⟨h5,H⟩ := bC H
    ·refine nA h5 ?_
     refine tK ?_
     refine rA 2 ?_
     obtain ⟨r5,er5,H⟩ := bs H
     refine vA [.rd,.rd] (Yz n x0 (⟨x1,x2,x3,0,false⟩ : zB) r5 er5) ?_
     refine LAt.moveU (T := lk tab) (ty := 36) (x := (.tmp 51)) (d := 8) (g := none) false [cL 5 r5 zB.row] kr kr kr kr kr ?_
     refine dA 256 0 ?_
     exact te (fJ [(false,[cL 5 r5 zB.row])] H)
    refine tA h5 ?_
    refine rA 1 ?_
    obtain ⟨r6,er6,H⟩ := bs H
    refine vA [.rd] (QG n x0 r6 er6) ?_
    refine LAt.moveU (T := lk tab) (ty := 36) (x := (.tmp 48)) (d := 8) (g := none) false [cL 5 r6 zB.row] kr kr kr kr kr ?_
    refine dA 256 0 ?_
    exact te (fJ [(false,[cL 5 r6 zB.row])] H)
   have H := zJ h3 H
   refine lA 2 ?_
   obtain ⟨v7,ev7,H⟩ := bs H
   refine iA zB.row ev7 ?_
   refine lA 5 ?_
   refine sL 274877908481 512 ⟨52,0,[sB 38 v7.Sc,sI 10 r1,sA 9 9 5 0,sC 0 (cF 5 x0 zB.row)],[(9,[cI x1,cI x2,cI x3,cI 0,cB false])]⟩ ?_
   cases h6 : v7.Sc
   ·have H := zI h6 H
    refine lA 3 ?_
    refine sL 2473901163009 512 ⟨52,0,[sB 41 (decide (r1 < 0)),sB 38 false,sA 9 9 5 0,sC 0 (cF 5 x0 zB.row)],[(9,[cI x1,cI x2,cI x3,cI 0,cB false])]⟩ ?_
    cases h7 : (decide (r1 < 0))
    ·have H := zI h7 H
     refine uA 5 70368744178177 512 ?_
     refine nB_ ?_
     refine tK ?_
     refine rA 2 ?_
     obtain ⟨r8,er8,H⟩ := bs H
     refine vA [.rd,.rd] (Yz n x0 (⟨x1,x2,x3,0,false⟩ : zB) r8 er8) ?_
     refine LAt.moveU (T := lk tab) (ty := 36) (x := (.tmp 51)) (d := 8) (g := none) false [cL 5 r8 zB.row] kr kr kr kr kr ?_
     refine dA 256 0 ?_
     exact te (fJ [(false,[cL 5 r8 zB.row])] H)
    have H := zJ h7 H
    refine lA 1 ?_
    refine kF x0 zB.row ?_
    refine uA 3 70368744178177 512 ?_
    obtain ⟨h8,H⟩ | ⟨h8,H⟩ := bC H
    ·refine nA h8 ?_
     refine tK ?_
     refine rA 2 ?_
     obtain ⟨r9,er9,H⟩ := bs H
     refine vA [.rd,.rd] (Yz n x0 (⟨x1,x2,x3,0,false⟩ : zB) r9 er9) ?_
     refine LAt.moveU (T := lk tab) (ty := 36) (x := (.tmp 51)) (d := 8) (g := none) false [cL 5 r9 zB.row] kr kr kr kr kr ?_
     refine dA 256 0 ?_
     exact te (fJ [(false,[cL 5 r9 zB.row])] H)
    refine tA h8 ?_
    refine rA 1 ?_
    obtain ⟨r10,er10,H⟩ := bs H
    refine vA [.rd] (QG n x0 r10 er10) ?_
    refine LAt.moveU (T := lk tab) (ty := 36) (x := (.tmp 48)) (d := 8) (g := none) false [cL 5 r10 zB.row] kr kr kr kr kr ?_
    refine dA 256 0 ?_
    exact te (fJ [(false,[cL 5 r10 zB.row])] H)
   have H := zJ h6 H
   refine uA 8 70368744178177 512 ?_
   refine tB_ ?_
   refine rA 1 ?_
   obtain ⟨r11,er11,H⟩ := bs H
   refine vA [.rd] (QG n x0 r11 er11) ?_
   refine LAt.moveU (T := lk tab) (ty := 36) (x := (.tmp 48)) (d := 8) (g := none) false [cL 5 r11 zB.row] kr kr kr kr kr ?_
   refine dA 256 0 ?_
   exact te (fJ [(false,[cL 5 r11 zB.row])] H)
  have H := zJ h2 H
  refine uA 19 70368744178177 512 ?_
  refine tB_ ?_
  refine rA 1 ?_
  obtain ⟨r12,er12,H⟩ := bs H
  refine vA [.rd] (QG n x0 r12 er12) ?_
  refine LAt.moveU (T := lk tab) (ty := 36) (x := (.tmp 48)) (d := 8) (g := none) false [cL 5 r12 zB.row] kr kr kr kr kr ?_
  refine dA 256 0 ?_
  exact te (fJ [(false,[cL 5 r12 zB.row])] H)
 have H := zJ h1 H
 refine uA 24 70368744178177 512 ?_
 refine tB_ ?_
 refine rA 1 ?_
 obtain ⟨r13,er13,H⟩ := bs H
 refine vA [.rd] (QG n x0 r13 er13) ?_
 refine LAt.moveU (T := lk tab) (ty := 36) (x := (.tmp 48)) (d := 8) (g := none) false [cL 5 r13 zB.row] kr kr kr kr kr ?_
 refine dA 256 0 ?_
 exact te (fJ [(false,[cL 5 r13 zB.row])] H)
def Qi (n : Nat) (x0 : (List zB)) (x1 : Int) (x2 : Int) (x3 : Int) : Option ((List zB) × Bool) :=
  ((qg n x0).bind fun r1 => (bif (!r1) then ((qN n x0).bind fun r8 => (some (r8,false))) else ((qP n (⟨x1,x2,x3,0,true⟩ : zB)).bind fun r2 => (bif (!r2) then ((qN n x0).bind fun r7 => (some (r7,false))) else ((Q5 n x0 x1 x2).bind fun r3 => (bif (decide (r3 < 0)) then (bif (decide ((x0.length : Int) ≥ 12)) then ((qN n x0).bind fun r6 => (some (r6,false))) else ((ZQ n x0 (⟨x1,x2,x3,0,true⟩ : zB)).bind fun r5 => (some (r5,true)))) else ((ZQ n x0 (⟨x1,x2,x3,0,true⟩ : zB)).bind fun r4 => (some (r4,true)))))))))
theorem zEQ (n : Nat) (x0 : (List zB)) (x1 : Int) (x2 : Int) (x3 : Int) (r : (List zB) × Bool) (H : Qi n x0 x1 x2 x3 = some r) : zH Try.prog 101 [.val false [.sl false 5 (CV.frzEs (x0.map zB.row))],.val false [.lit (.int .i64 x1)],.val false [.lit (.int .i64 x2)],.val false [.lit (.int .i64 x3)]] [.val false [.sl true 5 (r.1.map zB.row)],.val false [.lit (.bool r.2)]] [] := by
 refine cW Try.func101 (fun g d => sl [g 0,g 1,sl [g 2] (cn 34 (sl [g 3] .ret) .skip),g 4] .ret) [.tmp 8,.tmp 9] fun cx => ?_
 unfold Qi at H
 refine gA 2 15 0 ?_
 refine gA 6 1031 1024 ?_
 refine tS ?_
 refine rA 1 ?_
 obtain ⟨r1,er1,H⟩ := bs H
 refine vA [.rd] (zBo n x0 r1 er1) ?_
 refine lA 2 ?_
 refine sL 263175 1024 ⟨40,0,[sB 18 (!r1),sA 10 10 5 0,sC 0 (cF 5 x0 zB.row),sI 1 x1,sI 2 x2],[(10,[cI x1,cI x2,cI x3,cI 0,cB true])]⟩ ?_
 cases h1 : (!r1)
 ·have H := zI h1 H
  refine lA 1 ?_
  obtain ⟨r2,er2,H⟩ := bs H
  refine vA [.rd] (Jk n (⟨x1,x2,x3,0,true⟩ : zB) r2 er2) ?_
  refine lA 3 ?_
  refine sL 8389639 1024 ⟨40,0,[sB 23 (!r2),sA 10 10 5 0,sC 0 (cF 5 x0 zB.row),sI 1 x1,sI 2 x2],[(10,[cI x1,cI x2,cI x3,cI 0,cB true])]⟩ ?_
  cases h2 : (!r2)
  ·have H := zI h2 H
   refine lA 3 ?_
   obtain ⟨r3,er3,H⟩ := bs H
   refine vA [.rd,.rd,.rd] (zEq n x0 x1 x2 r3 er3) ?_
   refine lA 2 ?_
   refine sL 545260545 1024 ⟨40,0,[sB 29 (decide (r3 < 0)),sB 23 false,sA 10 10 5 0,sC 0 (cF 5 x0 zB.row)],[(10,[cI x1,cI x2,cI x3,cI 0,cB true])]⟩ ?_
   cases h3 : (decide (r3 < 0))
   ·have H := zI h3 H
    refine uA 5 17179870209 1024 ?_
    refine nB_ ?_
    refine tK ?_
    refine rA 2 ?_
    obtain ⟨r4,er4,H⟩ := bs H
    refine vA [.rd,.rd] (Yz n x0 (⟨x1,x2,x3,0,true⟩ : zB) r4 er4) ?_
    refine LAt.moveU (T := lk tab) (ty := 36) (x := (.tmp 39)) (d := 8) (g := none) false [cL 5 r4 zB.row] kr kr kr kr kr ?_
    refine uA 1 768 0 ?_
    exact te (fJ [(false,[cL 5 r4 zB.row]),(false,[cB true])] H)
   have H := zJ h3 H
   refine lA 1 ?_
   refine kF x0 zB.row ?_
   refine uA 3 17179870209 1024 ?_
   obtain ⟨h4,H⟩ | ⟨h4,H⟩ := bC H
   ·refine nA h4 ?_
    refine tK ?_
    refine rA 2 ?_
    obtain ⟨r5,er5,H⟩ := bs H
    refine vA [.rd,.rd] (Yz n x0 (⟨x1,x2,x3,0,true⟩ : zB) r5 er5) ?_
    refine LAt.moveU (T := lk tab) (ty := 36) (x := (.tmp 39)) (d := 8) (g := none) false [cL 5 r5 zB.row] kr kr kr kr kr ?_
    refine uA 1 768 0 ?_
    exact te (fJ [(false,[cL 5 r5 zB.row]),(false,[cB true])] H)
   refine tA h4 ?_
   refine rA 1 ?_
   obtain ⟨r6,er6,H⟩ := bs H
   refine vA [.rd] (QG n x0 r6 er6) ?_
   refine LAt.moveU (T := lk tab) (ty := 36) (x := (.tmp 36)) (d := 8) (g := none) false [cL 5 r6 zB.row] kr kr kr kr kr ?_
   refine uA 1 768 0 ?_
   exact te (fJ [(false,[cL 5 r6 zB.row]),(false,[cB false])] H)
  have H := zJ h2 H
  refine uA 11 17179870209 1024 ?_
  refine tB_ ?_
  refine rA 1 ?_
  obtain ⟨r7,er7,H⟩ := bs H
  refine vA [.rd] (QG n x0 r7 er7) ?_
  refine LAt.moveU (T := lk tab) (ty := 36) (x := (.tmp 36)) (d := 8) (g := none) false [cL 5 r7 zB.row] kr kr kr kr kr ?_
  refine uA 1 768 0 ?_
  exact te (fJ [(false,[cL 5 r7 zB.row]),(false,[cB false])] H)
 have H := zJ h1 H
 refine uA 16 17179870209 1024 ?_
 refine tB_ ?_
 refine rA 1 ?_
 obtain ⟨r8,er8,H⟩ := bs H
 refine vA [.rd] (QG n x0 r8 er8) ?_
 refine LAt.moveU (T := lk tab) (ty := 36) (x := (.tmp 36)) (d := 8) (g := none) false [cL 5 r8 zB.row] kr kr kr kr kr ?_
 refine uA 1 768 0 ?_
 exact te (fJ [(false,[cL 5 r8 zB.row]),(false,[cB false])] H)
def ZU (n : Nat) (r3 : zE) (r4 : ByteArray × Src) (r5 : (List Pt) × Src) (r6 : zD × Src) (y17 : (List Int)) (y18 : Int) (y19 : Int) (y20 : (List zB)) : Option (zE × Src) :=
  ((zL n (⟨y17,y18,y19⟩ : Src) 5).bind fun r21 => ((qq n r21.2 [0,1,5,1000000]).bind fun r22 => (some ((⟨r3.Id,r4.1,r5.1,y20,r6.1,r21.1,r3.Pa,r3.Wo,r3.Dr,r22.1⟩ : zE),r22.2))))
def Zz (n : Nat) (r1 : Int × Src) (r3 : zE) (r4 : ByteArray × Src) (r5 : (List Pt) × Src) (r6 : zD × Src) (y13 : (List Int)) (y14 : Int) (y15 : Int) (y16 : (List zB)) : Option (zE × Src) :=
  ((q9 n (⟨y13,y14,y15⟩ : Src) 3).bind fun r23 => (bif r23.1 then ((YI n r23.2).bind fun r24 => ((zL n r24.2 (IntKind.wrap .i64 (1 + r1.1))).bind fun r25 => ((Qi n y16 1 r24.1 r25.1).bind fun r26 => (ZU n r3 r4 r5 r6 r25.2.b r25.2.i r25.2.h r26.1)))) else (ZU n r3 r4 r5 r6 r23.2.b r23.2.i r23.2.h y16)))
def q6 (n : Nat) : Nat → Int × Src → Int → (List Int) → Int → Int → (List zB) → Option (((List Int) × Int × Int × (List zB)) ⊕ (zE × Src))
  | 0,_,_,_,_,_,_ => none
  | mo27 + 1,r1,y8,y9,y10,y11,y12 => (bif (decide (y8 > 0)) then ((zL n (⟨y9,y10,y11⟩ : Src) 3).bind fun r28 => ((YI n r28.2).bind fun r29 => ((zL n r29.2 (IntKind.wrap .i64 (1 + r1.1))).bind fun r30 => ((JC n y12 (IntKind.wrap .i64 (1 + r28.1)) r29.1 r30.1).bind fun r31 => (q6 n mo27 r1 (IntKind.wrap .i64 (y8 - 1)) r30.2.b r30.2.i r30.2.h r31))))) else (some (Sum.inl (y9,y10,y11,y12))))
def YD (n : Nat) (x0 : Src) : Option (zE × Src) :=
  ((zL n x0 4).bind fun r1 => ((zL n r1.2 5).bind fun r2 => ((Zv n (IntKind.wrap .i64 (1 + r2.1)) (IntKind.wrap .i64 (1 + r1.1))).bind fun r3 => ((JF n r2.2 [(⟨#[]⟩ : ByteArray),(⟨#[121,97,114,100]⟩ : ByteArray),(⟨#[98,49]⟩ : ByteArray)]).bind fun r4 => ((YC n r4.2 (IntKind.wrap .i64 (1 + r1.1))).bind fun r5 => ((Yq n r5.2 (IntKind.wrap .i64 (1 + r1.1))).bind fun r6 => ((zL n r6.2 6).bind fun r7 => ((q6 n n r1 r7.1 r7.2.b r7.2.i r7.2.h r3.F).bind fun o => match o with | .inl (y13,y14,y15,y16) => (Zz n r1 r3 r4 r5 r6 y13 y14 y15 y16) | .inr r => some r))))))))
def zIk : Tab := ⟨13,[0,1,0,4,8,0,40,0,0,448,594,2047,4095],[0,1,0,4,8,0,32,0,0,384,594,0,3072],[0,1,0,4,12,0,44,0,0,492,1023,2047,4095]⟩
noncomputable abbrev G48 (k : Nat) := Rg Try.f48 k
noncomputable abbrev D48 (k : Nat) := Rd Try.f48 k
theorem zAY : zq (rg Try.f48 9) zIk = true := kr
def zIR : Tab := ⟨13,[0,1,0,4,0,0,56,74,128,256,256,1023,3071],[0,1,0,4,0,0,48,74,128,256,256,0,2560],[0,1,0,4,0,0,60,127,255,511,511,1023,3071]⟩
theorem JX : zq (rg Try.f48 11) zIR = true := kr
theorem zFi (n : Nat) (x0 : Src) (r : zE × Src) (H : YD n x0 = some r) : zH Try.prog 48 [.ptr (CV.frzRow (Src.row x0))] [.val true (zE.row r.1)] [(0,(CV.frzRow (Src.row r.2)))] := by
 refine zH.of_body tOk Try.func48 rfl (c := (.seq (G48 0) (.seq (G48 1) (.seq (G48 2) (.seq (G48 3) (.seq (G48 4) (.seq (G48 5) (.seq (.seq (G48 6) (.block 0 (.loop (.seq (.seq (G48 7) (.cond (.tmp 29) .skip (.exit 0))) (.seq (.block 1 (D48 9)) (G48 8)))))) (.seq (.seq (G48 10) (.cond (.tmp 45) (D48 11) .skip)) (.seq (G48 12) (.seq (G48 13) (.seq (G48 14) .ret)))))))))))) kr (Nat.le_of_ble_eq_true kr) 1 (rs := [.cell 2 42]) rfl [] .nil [(true,(zE.row r.1))] [] [(0,(CV.frzRow (Src.row r.2)))] fun cx => ?_
 show Tr _ _ _ ⟨66,1,[sA 0 0 3 0],[(0,(CV.frzRow (Src.row x0)))]⟩ _
 unfold YD at H
 refine gA 1 5 5 ?_
 refine rA 1 ?_
 obtain ⟨r1,er1,H⟩ := bs H
 refine LAt.callL tOk [.lend,.rd] (f := 49) (av := #[.tmp 6,.const (.int .i64 4)]) (ats := #[92,3]) (d := (some 7)) (ty := 3) (g := none) kr kr kr [] (zd n x0 4 r1 er1) kr (.inl rfl) ?_
 refine uA 2 13 5 ?_
 refine rA 1 ?_
 obtain ⟨r2,er2,H⟩ := bs H
 refine LAt.callL tOk [.lend,.rd] (f := 49) (av := #[.tmp 9,.const (.int .i64 5)]) (ats := #[92,3]) (d := (some 10)) (ty := 3) (g := none) kr kr kr [] (zd n r1.2 5 r2 er2) kr (.inl rfl) ?_
 refine lA 2 ?_
 obtain ⟨r3,er3,H⟩ := bs H
 refine vA [.rd,.rd] (zEM n (IntKind.wrap .i64 (1 + r2.1)) (IntKind.wrap .i64 (1 + r1.1)) r3 er3) ?_
 refine uA 2 29 21 ?_
 refine rA 2 ?_
 obtain ⟨r4,er4,H⟩ := bs H
 refine LAt.callL tOk [.lend,.rd] (f := 95) (av := #[.tmp 14,.tmp 15]) (ats := #[92,142]) (d := (some 16)) (ty := 9) (g := none) kr kr kr [] (zGq n r2.2 [(⟨#[]⟩ : ByteArray),(⟨#[121,97,114,100]⟩ : ByteArray),(⟨#[98,49]⟩ : ByteArray)] r4 er4) kr (.inl rfl) ?_
 refine uA 2 29 21 ?_
 refine rA 2 ?_
 obtain ⟨r5,er5,H⟩ := bs H
 refine LAt.callL tOk [.lend,.rd] (f := 96) (av := #[.tmp 18,.tmp 19]) (ats := #[92,3]) (d := (some 20)) (ty := 35) (g := none) kr kr kr [] (zFh n r4.2 (IntKind.wrap .i64 (1 + r1.1)) r5 er5) kr (.inl rfl) ?_
 refine uA 2 29 21 ?_
 refine rA 2 ?_
 obtain ⟨r6,er6,H⟩ := bs H
 refine LAt.callL tOk [.lend,.rd] (f := 97) (av := #[.tmp 22,.tmp 23]) (ats := #[92,3]) (d := (some 24)) (ty := 40) (g := none) kr kr kr [] (zF4 n r5.2 (IntKind.wrap .i64 (1 + r1.1)) r6 er6) kr (.inl rfl) ?_
 refine uA 2 29 21 ?_
 refine tS ?_
 refine rA 1 ?_
 obtain ⟨r7,er7,H⟩ := bs H
 refine LAt.callL tOk [.lend,.rd] (f := 49) (av := #[.tmp 26,.const (.int .i64 6)]) (ats := #[92,3]) (d := (some 27)) (ty := 3) (g := none) kr kr kr [] (zd n r6.2 6 r7 er7) kr (.inl rfl) ?_
 refine uA 1 61 21 ?_
 obtain ⟨o27,eo27,Ho27⟩ := bs H
 clear H
 refine Tr.mid (ι := (List Int) × Int × Int × (List zB)) (fun v => ⟨66,1,[sA 4 4 11 0,sI 3 (IntKind.wrap .i64 (1 + r1.1)),sA 2 2 11 0,sA 0 0 3 0],[(0,[cF 1 v.1 zh,cI v.2.1,cI v.2.2.1]),(4,[cI r3.Id,cS r4.1,cL 8 r5.1 Pt.row,cL 5 v.2.2.2 zB.row,cL 3 r6.1.Rows zA.row,cL 1 r6.1.Pv intRow,cI r3.Tk,cI r3.Pa,cI r3.Wo,cI r3.Dr,cI r3.Ve]),(2,[cI 0,cS (⟨#[]⟩ : ByteArray),cL 8 ([] : List Pt) Pt.row,cL 5 ([] : List zB) zB.row,cL 3 ([] : List zA) zA.row,cL 1 ([] : List Int) intRow,cI 0,cI 0,cI 0,cI 0,cI 0])]⟩) (fun v => Zz n r1 r3 r4 r5 r6 v.1 v.2.1 v.2.2.1 v.2.2.2 = some r) ?_ ?_
 ·refine tB ?_
  refine Tr.loop (ι := Nat × (Int × (List Int) × Int × Int × (List zB))) (fun v => ⟨66,1,[sI 5 v.2.1,sA 4 4 11 0,sI 3 (IntKind.wrap .i64 (1 + r1.1)),sA 2 2 11 0,sA 0 0 3 0],[(0,[cF 1 v.2.2.1 zh,cI v.2.2.2.1,cI v.2.2.2.2.1]),(4,[cI r3.Id,cS r4.1,cL 8 r5.1 Pt.row,cL 5 v.2.2.2.2.2 zB.row,cL 3 r6.1.Rows zA.row,cL 1 r6.1.Pv intRow,cI r3.Tk,cI r3.Pa,cI r3.Wo,cI r3.Dr,cI r3.Ve]),(2,[cI 0,cS (⟨#[]⟩ : ByteArray),cL 8 ([] : List Pt) Pt.row,cL 5 ([] : List zB) zB.row,cL 3 ([] : List zA) zA.row,cL 1 ([] : List Int) intRow,cI 0,cI 0,cI 0,cI 0,cI 0])]⟩) (fun v => q6 n v.1 r1 v.2.1 v.2.2.1 v.2.2.2.1 v.2.2.2.2.1 v.2.2.2.2.2 = some o27) (fun v => v.1) (n,(r7.1,r7.2.b,r7.2.i,r7.2.h,r3.F)) eo27 (St.sub_of [5,4,3,2,0] [0,4,2] kr) ?_
  rintro ⟨mo27,y8,y9,y10,y11,y12⟩ H
  have H : q6 n mo27 r1 y8 y9 y10 y11 y12 = some o27 := H
  obtain _ | mo27 := mo27
  ·exact nN H
  rw [q6] at H
  refine tS ?_
  refine gA 2 536870973 21 ?_
  obtain ⟨h2,H⟩ | ⟨h2,H⟩ := bC H
  ·refine nA h2 ?_
   refine Tr.exit ?_
   refine aJ ?_
   obtain rfl := si H
   have H := Ho27
   dsimp only at H
   exact jA (y9,y10,y11,y12) H [4,3,2,0] [0,4,2]
  refine tA h2 ?_
  refine tK ?_
  refine tS ?_
  refine tB ?_
  obtain ⟨r28,er28,H⟩ := bs H
  obtain ⟨r29,er29,H⟩ := bs H
  obtain ⟨r30,er30,H⟩ := bs H
  obtain ⟨r31,er31,H⟩ := bs H
  refine Tr.draw mixed 13 kr ⟨66,1,[sI 5 y8,sA 4 4 11 0,sI 3 (IntKind.wrap .i64 (1 + r1.1)),sA 2 2 11 0,sA 0 0 3 0],[(4,[cI r3.Id,cS r4.1,cL 8 r5.1 Pt.row,cL 5 r31 zB.row,cL 3 r6.1.Rows zA.row,cL 1 r6.1.Pv intRow,cI r3.Tk,cI r3.Pa,cI r3.Wo,cI r3.Dr,cI r3.Ve]),(0,(CV.frzRow (Src.row r30.2))),(2,[cI 0,cS (⟨#[]⟩ : ByteArray),cL 8 ([] : List Pt) Pt.row,cL 5 ([] : List zB) zB.row,cL 3 ([] : List zA) zA.row,cL 1 ([] : List Int) intRow,cI 0,cI 0,cI 0,cI 0,cI 0])]⟩ (fun cx => ?_) ?_
  ·refine mA zAY [(0,[]),(1,[10,12]),(2,[]),(5,[]),(7,[]),(8,[])] 7 [⟨[10,12],36,32,33⟩] fun cx => ?_
   refine mC zAY 3 ?_
   refine LAt.callL tOk [.lend,.rd] (f := 49) (av := #[.tmp 34,.const (.int .i64 3)]) (ats := #[92,3]) (d := (some 35)) (ty := 3) (g := none) kr kr kr [] (zd n (⟨y9,y10,y11⟩ : Src) 3 r28 er28) kr (.inl rfl) ?_
   refine fA ?_
   refine mA zAY [(4,[])] 5 [⟨[10,12],36,32,33⟩] fun cx => ?_
   refine mC zAY 6 ?_
   refine LAt.callL tOk [.lend] (f := 99) (av := #[.tmp 37]) (ats := #[92]) (d := (some 38)) (ty := 3) (g := none) kr kr kr [] (zDt n r28.2 r29 er29) kr (.inl rfl) ?_
   refine fA ?_
   refine mC zAY 9 ?_
   refine LAt.callL tOk [.lend,.rd] (f := 49) (av := #[.tmp 39,.tmp 40]) (ats := #[92,3]) (d := (some 41)) (ty := 3) (g := none) kr kr kr [] (zd n r29.2 (IntKind.wrap .i64 (1 + r1.1)) r30 er30) kr (.inl rfl) ?_
   refine fA ?_
   refine mC zAY 10 ?_
   refine vB [.rd,.rd,.rd,.rd] [.box 4] (zGo n y12 (IntKind.wrap .i64 (1 + r28.1)) r29.1 r30.1 r31 er31) (.inr (qa (zG (QT (Zi zB.row_mine _)) qA) Zj)) ?_
   refine fA ?_
   refine mA zAY [(11,[])] 1 [⟨[10,12],36,32,33⟩] fun cx => ?_
   refine mC zAY 12 ?_
   refine lA 1 ?_
   refine fA ?_
   exact mE zAY [5,4,3,2,0] [4,0,2]
  refine eA 3 61 21 ?_
  exact jB mo27 ((IntKind.wrap .i64 (y8 - 1)),r30.2.b,r30.2.i,r30.2.h,r31) H [5,4,3,2,0] [0,4,2]
 rintro ⟨y13,y14,y15,y16⟩ H
 have H : (Zz n r1 r3 r4 r5 r6 y13 y14 y15 y16) = some r := H
 unfold Zz at H
 refine tS ?_
 refine Tr.mid (ι := (List Int) × Int × Int × (List zB)) (fun v => ⟨66,1,[sA 4 4 11 0,sA 2 2 11 0,sA 0 0 3 0],[(0,[cF 1 v.1 zh,cI v.2.1,cI v.2.2.1]),(4,[cI r3.Id,cS r4.1,cL 8 r5.1 Pt.row,cL 5 v.2.2.2 zB.row,cL 3 r6.1.Rows zA.row,cL 1 r6.1.Pv intRow,cI r3.Tk,cI r3.Pa,cI r3.Wo,cI r3.Dr,cI r3.Ve]),(2,[cI 0,cS (⟨#[]⟩ : ByteArray),cL 8 ([] : List Pt) Pt.row,cL 5 ([] : List zB) zB.row,cL 3 ([] : List zA) zA.row,cL 1 ([] : List Int) intRow,cI 0,cI 0,cI 0,cI 0,cI 0])]⟩) (fun v => ZU n r3 r4 r5 r6 v.1 v.2.1 v.2.2.1 v.2.2.2 = some r) ?_ ?_
 ·refine rA 1 ?_
  obtain ⟨r23,er23,H⟩ := bs H
  refine LAt.callL tOk [.lend,.rd] (f := 100) (av := #[.tmp 44,.const (.int .i64 3)]) (ats := #[92,3]) (d := (some 45)) (ty := 4) (g := none) kr kr kr [] (J3 n (⟨y13,y14,y15⟩ : Src) 3 r23 er23) kr (.inl rfl) ?_
  refine dA 35184372088861 21 ?_
  cases h1 : r23.1
  ·have H := zI h1 H
   refine nB_ ?_
   refine tK ?_
   exact jA (r23.2.b,r23.2.i,r23.2.h,y16) H [4,2,0] [0,4,2]
  have H := zJ h1 H
  refine tB_ ?_
  obtain ⟨r24,er24,H⟩ := bs H
  obtain ⟨r25,er25,H⟩ := bs H
  obtain ⟨r26,er26,H⟩ := bs H
  refine Tr.draw mixed 13 kr ⟨66,1,[sA 4 4 11 0,sA 2 2 11 0,sA 0 0 3 0],[(4,[cI r3.Id,cS r4.1,cL 8 r5.1 Pt.row,cL 5 r26.1 zB.row,cL 3 r6.1.Rows zA.row,cL 1 r6.1.Pv intRow,cI r3.Tk,cI r3.Pa,cI r3.Wo,cI r3.Dr,cI r3.Ve]),(0,(CV.frzRow (Src.row r25.2))),(2,[cI 0,cS (⟨#[]⟩ : ByteArray),cL 8 ([] : List Pt) Pt.row,cL 5 ([] : List zB) zB.row,cL 3 ([] : List zA) zA.row,cL 1 ([] : List Int) intRow,cI 0,cI 0,cI 0,cI 0,cI 0])]⟩ (fun cx => ?_) ?_
  ·refine mA JX [(0,[]),(1,[7,12]),(2,[]),(4,[]),(5,[])] 8 [⟨[7,12],36,47,48⟩] fun cx => ?_
   refine mC JX 3 ?_
   refine LAt.callL tOk [.lend] (f := 99) (av := #[.tmp 49]) (ats := #[92]) (d := (some 50)) (ty := 3) (g := none) kr kr kr [] (zDt n r23.2 r24 er24) kr (.inl rfl) ?_
   refine fA ?_
   refine mC JX 6 ?_
   refine LAt.callL tOk [.lend,.rd] (f := 49) (av := #[.tmp 51,.tmp 52]) (ats := #[92,3]) (d := (some 53)) (ty := 3) (g := none) kr kr kr [] (zd n r24.2 (IntKind.wrap .i64 (1 + r1.1)) r25 er25) kr (.inl rfl) ?_
   refine fA ?_
   refine mC JX 7 ?_
   refine vB [.rd,.rd,.rd,.rd] [.box 4] (zEQ n y16 1 r24.1 r25.1 r26 er26) (.inr (qa (zG (QT (Zi zB.row_mine _)) qA) (qa (zG zN qA) Zj))) ?_
   refine fA ?_
   refine AT.movT tOk 8 (ty := 148) (t := 54) (d := 46) (g := none) [(false,[cL 5 r26.1 zB.row]),(false,[cB r26.2])] _ kr (oM JX kr) (dM JX kr) (.inl rfl) kr kr kr kr rfl (fun cx => ?_)
   refine mA JX [(9,[]),(10,[]),(11,[])] 1 [⟨[7,12],36,47,48⟩] fun cx => ?_
   refine mC JX 12 ?_
   refine lA 1 ?_
   refine fA ?_
   exact mE JX [4,2,0] [4,0,2]
  exact jA (r25.2.b,r25.2.i,r25.2.h,r26.1) H [4,2,0] [0,4,2]
 rintro ⟨y17,y18,y19,y20⟩ H
 have H : (ZU n r3 r4 r5 r6 y17 y18 y19 y20) = some r := H
 unfold ZU at H
 refine rA 1 ?_
 obtain ⟨r21,er21,H⟩ := bs H
 refine LAt.callL tOk [.lend,.rd] (f := 49) (av := #[.tmp 58,.const (.int .i64 5)]) (ats := #[92,3]) (d := (some 59)) (ty := 3) (g := none) kr kr kr [] (zd n (⟨y17,y18,y19⟩ : Src) 5 r21 er21) kr (.inl rfl) ?_
 refine uA 2 21 21 ?_
 refine rA 2 ?_
 obtain ⟨r22,er22,H⟩ := bs H
 refine LAt.callL tOk [.lend,.rd] (f := 51) (av := #[.tmp 61,.tmp 62]) (ats := #[92,38]) (d := (some 63)) (ty := 3) (g := none) kr kr kr [] (Q4 n r21.2 [0,1,5,1000000] r22 er22) kr (.inl rfl) ?_
 refine uA 2 21 21 ?_
 refine gA 2 5 5 ?_
 refine te ?_
 obtain rfl := si H
 exact Fin.ofY _ [(true,[cI r3.Id,cS r4.1,cL 8 r5.1 Pt.row,cL 5 y20 zB.row,cL 3 r6.1.Rows zA.row,cL 1 r6.1.Pv intRow,cI r21.1,cI r3.Pa,cI r3.Wo,cI r3.Dr,cI r22.1])] [] _ [] _ [(0,(CV.frzRow (Src.row r22.2)))] kr rfl rfl rfl kr kr kr kr rfl rfl rfl
def qX (n : Nat) (x0 : Vec) : Option (Bool) :=
  ((zT n x0.Root 1 99).bind fun r1 => (bif r1 then ((zT n x0.Co 0 100000).bind fun r2 => (bif r2 then ((zT n x0.Hops 0 10).bind fun r3 => (bif r3 then ((zT n x0.Bridge 1 99).bind fun r4 => (bif r4 then ((zT n x0.Port 0 7).bind fun r5 => (some r5)) else (some false))) else (some false))) else (some false))) else (some false)))
theorem zBp (n : Nat) (x0 : Vec) (r : Bool) (H : qX n x0 = some r) : zH Try.prog 187 [.val true (CV.frzRow (Vec.row x0))] [.val false [.lit (.bool r)]] [] := by
 refine cW Try.func187 (fun g d => sl [g 0,g 1] .ret) [.tmp 2] fun cx => ?_
 unfold qX at H
 refine gA 2 2 2 ?_
 refine rA 2 ?_
 obtain ⟨r1,er1,H⟩ := bs H
 refine vA [.rd,.rd,.rd] (zS n x0.Root 1 99 r1 er1) ?_
 refine lA 1 ?_
 refine sL 66 2 ⟨26,0,[sB 6 r1,sA 1 1 5 0],[(1,(Vec.row x0))]⟩ ?_
 cases h1 : r1
 ·have H := zI h1 H
  refine uA 20 4 0 ?_
  exact te (fF H)
 have H := zJ h1 H
 refine lA 2 ?_
 obtain ⟨r2,er2,H⟩ := bs H
 refine vA [.rd,.rd,.rd] (zS n x0.Co 0 100000 r2 er2) ?_
 refine lA 2 ?_
 refine sL 2050 2 ⟨26,0,[sB 11 r2,sA 1 1 5 0],[(1,(Vec.row x0))]⟩ ?_
 cases h2 : r2
 ·have H := zI h2 H
  refine uA 15 4 0 ?_
  exact te (fF H)
 have H := zJ h2 H
 refine lA 2 ?_
 obtain ⟨r3,er3,H⟩ := bs H
 refine vA [.rd,.rd,.rd] (zS n x0.Hops 0 10 r3 er3) ?_
 refine lA 2 ?_
 refine sL 65538 2 ⟨26,0,[sB 16 r3,sA 1 1 5 0],[(1,(Vec.row x0))]⟩ ?_
 cases h3 : r3
 ·have H := zI h3 H
  refine uA 10 4 0 ?_
  exact te (fF H)
 have H := zJ h3 H
 refine lA 2 ?_
 obtain ⟨r4,er4,H⟩ := bs H
 refine vA [.rd,.rd,.rd] (zS n x0.Bridge 1 99 r4 er4) ?_
 refine lA 2 ?_
 refine sL 2097154 2 ⟨26,0,[sB 21 r4,sA 1 1 5 0],[(1,(Vec.row x0))]⟩ ?_
 cases h4 : r4
 ·have H := zI h4 H
  refine uA 5 4 0 ?_
  exact te (fF H)
 have H := zJ h4 H
 refine lA 2 ?_
 obtain ⟨r5,er5,H⟩ := bs H
 refine vA [.rd,.rd,.rd] (zS n x0.Port 0 7 r5 er5) ?_
 refine uA 2 4 0 ?_
 exact te (fJ [(false,[cB r5])] H)
def z5 (n : Nat) (x0 : Pt) : Option (Bool) :=
  ((zT n x0.Co 1 1000).bind fun r1 => (bif (!r1) then (some false) else (bif (!x0.Up) then (bif x0.Has then (some false) else (some ((x0.Hd.Root == 0) && ((x0.Hd.Co == 0) && ((x0.Hd.Hops == 0) && ((x0.Hd.Bridge == 0) && ((x0.Hd.Port == 0) && true))))))) else (bif (!x0.Has) then (some ((x0.Hd.Root == 0) && ((x0.Hd.Co == 0) && ((x0.Hd.Hops == 0) && ((x0.Hd.Bridge == 0) && ((x0.Hd.Port == 0) && true)))))) else ((qX n x0.Hd).bind fun r2 => (some r2))))))
theorem zHL (n : Nat) (x0 : Pt) (r : Bool) (H : z5 n x0 = some r) : zH Try.prog 181 [.val true (CV.frzRow (Pt.row x0))] [.val false [.lit (.bool r)]] [] := by
 refine cW Try.func181 (fun g d => sl [g 0,sl [g 1] (cn 15 (sl [g 2] .ret) .skip),sl [g 3] (cn 18 (sl [g 4] .ret) .skip),g 5] .ret) [.tmp 2] fun cx => ?_
 unfold z5 at H
 refine gA 2 2 2 ?_
 refine tS ?_
 refine rA 2 ?_
 obtain ⟨r1,er1,H⟩ := bs H
 refine vA [.rd,.rd,.rd] (zS n x0.Co 1 1000 r1 er1) ?_
 refine lA 2 ?_
 refine sL 130 2 ⟨26,0,[sB 7 (!r1),sA 1 1 8 0],[(1,(Pt.row x0))]⟩ ?_
 cases h1 : (!r1)
 ·have H := zI h1 H
  refine lA 4 ?_
  refine sL 2178 2 ⟨26,0,[sB 11 (!x0.Up),sB 7 false,sA 1 1 8 0],[(1,(Pt.row x0))]⟩ ?_
  cases h2 : (!x0.Up)
  ·have H := zI h2 H
   refine uA 4 32770 2 ?_
   refine nB_ ?_
   refine tK ?_
   refine tS ?_
   refine gA 3 262146 2 ?_
   obtain ⟨h3,H⟩ | ⟨h3,H⟩ := bC H
   ·refine nA h3 ?_
    refine tK ?_
    refine rA 2 ?_
    obtain ⟨r2,er2,H⟩ := bs H
    refine vA [.rd] (zBp n x0.Hd r2 er2) ?_
    refine uA 1 4 0 ?_
    exact te (fJ [(false,[cB r2])] H)
   refine tA h3 ?_
   refine rA 3 ?_
   refine LAt.eqSG false (t := 46) (ty := 46) (ty' := 4) (x := (.tmp 20)) (y := (.tmp 21)) (d := 22) (g := none) ((x0.Hd.Root == 0) && ((x0.Hd.Co == 0) && ((x0.Hd.Hops == 0) && ((x0.Hd.Bridge == 0) && ((x0.Hd.Port == 0) && true))))) _ kr kr kr kr rfl ?_
   refine uA 1 4 0 ?_
   exact te (fJ [(false,[cB ((x0.Hd.Root == 0) && ((x0.Hd.Co == 0) && ((x0.Hd.Hops == 0) && ((x0.Hd.Bridge == 0) && ((x0.Hd.Port == 0) && true)))))])] H)
  have H := zJ h2 H
  refine uA 4 32770 2 ?_
  refine sT ⟨26,0,[sB 15 x0.Has,sA 1 1 8 0],[(1,(Pt.row x0))]⟩ ?_
  cases h4 : x0.Has
  ·have H := zI h4 H
   refine nB_ ?_
   refine tK ?_
   refine tS ?_
   refine gA 3 262146 2 ?_
   refine sT ⟨26,0,[sB 18 (!x0.Has),sA 1 1 8 0],[(1,(Pt.row x0))]⟩ ?_
   rw [h4]
   refine tB_ ?_
   refine rA 3 ?_
   refine LAt.eqSG false (t := 46) (ty := 46) (ty' := 4) (x := (.tmp 20)) (y := (.tmp 21)) (d := 22) (g := none) ((x0.Hd.Root == 0) && ((x0.Hd.Co == 0) && ((x0.Hd.Hops == 0) && ((x0.Hd.Bridge == 0) && ((x0.Hd.Port == 0) && true))))) _ kr kr kr kr rfl ?_
   refine uA 1 4 0 ?_
   exact te (fJ [(false,[cB ((x0.Hd.Root == 0) && ((x0.Hd.Co == 0) && ((x0.Hd.Hops == 0) && ((x0.Hd.Bridge == 0) && ((x0.Hd.Port == 0) && true)))))])] H)
  have H := zJ h4 H
  refine tB_ ?_
  refine gA 1 4 0 ?_
  exact te (fF H)
 have H := zJ h1 H
 refine uA 8 32770 2 ?_
 refine tB_ ?_
 refine gA 1 4 0 ?_
 exact te (fF H)
def Zy (n : Nat) (x0 : zE) : Option (Bool) :=
  ((zT n x0.Tk 0 1000000).bind fun r1 => (bif r1 then ((zT n x0.Pa 0 1000000).bind fun r2 => (bif r2 then ((zT n x0.Wo 0 1000000).bind fun r3 => (bif r3 then ((zT n x0.Dr 0 1000000).bind fun r4 => (bif r4 then ((zT n x0.Ve 0 1000000).bind fun r5 => (some r5)) else (some false))) else (some false))) else (some false))) else (some false)))
theorem zEW (n : Nat) (x0 : zE) (r : Bool) (H : Zy n x0 = some r) : zH Try.prog 182 [.val true (CV.frzRow (zE.row x0))] [.val false [.lit (.bool r)]] [] := by
 refine cW Try.func182 (fun g d => sl [g 0,g 1] .ret) [.tmp 2] fun cx => ?_
 unfold Zy at H
 refine gA 2 2 2 ?_
 refine rA 2 ?_
 obtain ⟨r1,er1,H⟩ := bs H
 refine vA [.rd,.rd,.rd] (zS n x0.Tk 0 1000000 r1 er1) ?_
 refine lA 1 ?_
 refine sL 66 2 ⟨26,0,[sB 6 r1,sA 1 1 11 0],[(1,(CV.frzRow (zE.row x0)))]⟩ ?_
 cases h1 : r1
 ·have H := zI h1 H
  refine uA 20 4 0 ?_
  exact te (fF H)
 have H := zJ h1 H
 refine lA 2 ?_
 obtain ⟨r2,er2,H⟩ := bs H
 refine vA [.rd,.rd,.rd] (zS n x0.Pa 0 1000000 r2 er2) ?_
 refine lA 2 ?_
 refine sL 2050 2 ⟨26,0,[sB 11 r2,sA 1 1 11 0],[(1,(CV.frzRow (zE.row x0)))]⟩ ?_
 cases h2 : r2
 ·have H := zI h2 H
  refine uA 15 4 0 ?_
  exact te (fF H)
 have H := zJ h2 H
 refine lA 2 ?_
 obtain ⟨r3,er3,H⟩ := bs H
 refine vA [.rd,.rd,.rd] (zS n x0.Wo 0 1000000 r3 er3) ?_
 refine lA 2 ?_
 refine sL 65538 2 ⟨26,0,[sB 16 r3,sA 1 1 11 0],[(1,(CV.frzRow (zE.row x0)))]⟩ ?_
 cases h3 : r3
 ·have H := zI h3 H
  refine uA 10 4 0 ?_
  exact te (fF H)
 have H := zJ h3 H
 refine lA 2 ?_
 obtain ⟨r4,er4,H⟩ := bs H
 refine vA [.rd,.rd,.rd] (zS n x0.Dr 0 1000000 r4 er4) ?_
 refine lA 2 ?_
 refine sL 2097154 2 ⟨26,0,[sB 21 r4,sA 1 1 11 0],[(1,(CV.frzRow (zE.row x0)))]⟩ ?_
 cases h4 : r4
 ·have H := zI h4 H
  refine uA 5 4 0 ?_
  exact te (fF H)
 have H := zJ h4 H
 refine lA 2 ?_
 obtain ⟨r5,er5,H⟩ := bs H
 refine vA [.rd,.rd,.rd] (zS n x0.Ve 0 1000000 r5 er5) ?_
 refine uA 2 4 0 ?_
 exact te (fJ [(false,[cB r5])] H)
def ZF (n : Nat) (x0 : zE) : Option (Bool) :=
  ((zT n x0.Id 1 99).bind fun r2 => (bif r2 then (bif (decide ((x0.Name.size : Int) ≤ 10)) then ((zT n (x0.Ps.length : Int) 1 6).bind fun r3 => (bif r3 then ((qg n x0.F).bind fun r4 => (bif r4 then ((zu n x0.V (x0.Ps.length : Int)).bind fun r5 => (bif r5 then ((Zy n x0).bind fun r6 => (some r6)) else (some false))) else (some false))) else (some false))) else (some false)) else (some false)))
def zc (n : Nat) : Nat → zE → Int → Option ((Unit) ⊕ (Bool))
  | 0,_,_ => none
  | mo7 + 1,x0,y1 => (bif (decide (y1 < (x0.Ps.length : Int))) then ((idx x0.Ps y1).bind fun v8 => ((z5 n v8).bind fun r9 => (bif (!r9) then (some (Sum.inr false)) else (zc n mo7 x0 (IntKind.wrap .i64 (y1 + 1)))))) else (some (Sum.inl ())))
def qQ (n : Nat) (x0 : zE) : Option (Bool) :=
  ((zc n n x0 0).bind fun o => match o with | .inl _ => (ZF n x0) | .inr r => some r)
theorem zEy (n : Nat) (x0 : zE) (r : Bool) (H : qQ n x0 = some r) : zH Try.prog 161 [.val true (CV.frzRow (zE.row x0))] [.val false [.lit (.bool r)]] [] := by
 refine cW Try.func161 (fun g d => sl [g 0,sl [g 1] (.block 0 (.loop (sl [sl [g 2] (cn 8 .skip (.exit 0)),.block 1 (sl [g 4] (cn 17 (sl [g 5] .ret) .skip))] (g 3)))),g 6] .ret) [.tmp 2] fun cx => ?_
 unfold qQ at H
 refine gA 2 2 2 ?_
 refine tS ?_
 refine gA 1 10 2 ?_
 obtain ⟨o7,eo7,Ho7⟩ := bs H
 clear H
 refine Tr.mid (ι := Unit) (fun v => ⟨50,0,[sA 1 1 11 0],[(1,(CV.frzRow (zE.row x0)))]⟩) (fun v => ZF n x0 = some r) ?_ ?_
 ·refine tB ?_
  refine Tr.loop (ι := Nat × (Int)) (fun v => ⟨50,0,[sI 3 v.2,sA 1 1 11 0],[(1,(CV.frzRow (zE.row x0)))]⟩) (fun v => zc n v.1 x0 v.2 = some o7) (fun v => v.1) (n,0) eo7 (St.sub_of [3,1] [1] kr) ?_
  rintro ⟨mo7,y1⟩ H
  have H : zc n mo7 x0 y1 = some o7 := H
  obtain _ | mo7 := mo7
  ·exact nN H
  rw [zc] at H
  refine tS ?_
  refine rA 3 ?_
  refine kF x0.Ps Pt.row ?_
  refine uA 1 266 2 ?_
  obtain ⟨h6,H⟩ | ⟨h6,H⟩ := bC H
  ·refine nA h6 ?_
   refine Tr.exit ?_
   refine aJ ?_
   obtain rfl := si H
   have H := Ho7
   dsimp only at H
   exact jA () H [1] [1]
  refine tA h6 ?_
  refine tK ?_
  refine tS ?_
  refine tB ?_
  refine rA 3 ?_
  obtain ⟨v8,ev8,H⟩ := bs H
  refine iA Pt.row ev8 ?_
  refine lA 1 ?_
  obtain ⟨r9,er9,H⟩ := bs H
  refine vA [.rd] (zHL n v8 r9 er9) ?_
  refine uA 1 131082 2 ?_
  obtain ⟨h7,H⟩ | ⟨h7,H⟩ := bC H
  ·refine nA h7 ?_
   refine tK ?_
   refine eA 3 10 2 ?_
   exact jB mo7 (IntKind.wrap .i64 (y1 + 1)) H [3,1] [1]
  refine tA h7 ?_
  refine gA 1 4 0 ?_
  refine te ?_
  obtain rfl := si H
  have H := Ho7
  dsimp only at H
  exact fF H
 rintro _ H
 have H : (ZF n x0) = some r := H
 unfold ZF at H
 refine rA 2 ?_
 obtain ⟨r2,er2,H⟩ := bs H
 refine vA [.rd,.rd,.rd] (zS n x0.Id 1 99 r2 er2) ?_
 refine lA 1 ?_
 refine sL 2097154 2 ⟨50,0,[sB 21 r2,sA 1 1 11 0],[(1,(CV.frzRow (zE.row x0)))]⟩ ?_
 cases h1 : r2
 ·have H := zI h1 H
  refine uA 29 4 0 ?_
  exact te (fF H)
 have H := zJ h1 H
 refine lA 6 ?_
 refine sL 134217730 2 ⟨50,0,[sB 27 (decide ((x0.Name.size : Int) ≤ 10)),sA 1 1 11 0],[(1,(CV.frzRow (zE.row x0)))]⟩ ?_
 cases h2 : (decide ((x0.Name.size : Int) ≤ 10))
 ·have H := zI h2 H
  refine uA 23 4 0 ?_
  exact te (fF H)
 have H := zJ h2 H
 refine lA 2 ?_
 refine kF x0.Ps Pt.row ?_
 obtain ⟨r3,er3,H⟩ := bs H
 refine vA [.rd,.rd,.rd] (zS n (x0.Ps.length : Int) 1 6 r3 er3) ?_
 refine lA 2 ?_
 refine sL 8589934594 2 ⟨50,0,[sB 33 r3,sA 1 1 11 0],[(1,(CV.frzRow (zE.row x0)))]⟩ ?_
 cases h3 : r3
 ·have H := zI h3 H
  refine uA 17 4 0 ?_
  exact te (fF H)
 have H := zJ h3 H
 refine lA 2 ?_
 obtain ⟨r4,er4,H⟩ := bs H
 refine vA [.rd] (zBo n x0.F r4 er4) ?_
 refine lA 2 ?_
 refine sL 274877906946 2 ⟨50,0,[sB 38 r4,sA 1 1 11 0],[(1,(CV.frzRow (zE.row x0)))]⟩ ?_
 cases h4 : r4
 ·have H := zI h4 H
  refine uA 12 4 0 ?_
  exact te (fF H)
 have H := zJ h4 H
 refine lA 4 ?_
 refine kF x0.Ps Pt.row ?_
 obtain ⟨r5,er5,H⟩ := bs H
 refine vA [.rd,.rd] (JD n x0.V (x0.Ps.length : Int) r5 er5) ?_
 refine lA 2 ?_
 refine sL 70368744177666 2 ⟨50,0,[sB 46 r5,sA 1 1 11 0],[(1,(CV.frzRow (zE.row x0)))]⟩ ?_
 cases h5 : r5
 ·have H := zI h5 H
  refine uA 4 4 0 ?_
  exact te (fF H)
 have H := zJ h5 H
 refine lA 1 ?_
 obtain ⟨r6,er6,H⟩ := bs H
 refine vA [.rd] (zEW n x0 r6 er6) ?_
 refine uA 2 4 0 ?_
 exact te (fJ [(false,[cB r6])] H)
def zx (n : Nat) (x0 : (List Int)) : Option ((List Int)) :=
  (bif (decide ([1,3,1].length + x0.length ≤ 268435456)) then (some ([1,3,1] ++ x0)) else none)
theorem ZV (n : Nat) (x0 : (List Int)) (r : (List Int)) (H : zx n x0 = some r) : zH Try.prog 119 [.val false [.sl false 1 (CV.frzEs (x0.map intRow))]] [.val false [.sl true 1 (r.map intRow)]] [] := by
 refine cW Try.func119 (fun g d => sl [g 0,g 1] .ret) [.tmp 2] fun cx => ?_
 unfold zx at H
 refine gA 1 1 0 ?_
 refine rA 2 ?_
 obtain ⟨hg1,H⟩ := gs H
 refine pD (X := [1,3,1]) intRow hg1 ?_
 refine LAt.moveU (T := lk tab) (ty := 38) (x := (.tmp 5)) (d := 2) (g := none) false [cL 1 ([1,3,1] ++ x0) intRow] kr kr kr kr kr ?_
 refine dA 4 0 ?_
 exact te (fJ [(false,[cL 1 ([1,3,1] ++ x0) intRow])] H)
def J4 (n : Nat) (x0 : Int) : Option (Val) :=
  (some (⟨2,x0,(⟨#[]⟩ : ByteArray),([] : List Int)⟩ : Val))
theorem zGr (n : Nat) (x0 : Int) (r : Val) (H : J4 n x0 = some r) : zH Try.prog 183 [.val false [.lit (.int .i64 x0)]] [.val true (Val.row r)] [] := by
 refine cW Try.func183 (fun g d => sl [g 0,g 1] .ret) [.cell 2 66] fun cx => ?_
 unfold J4 at H
 refine gA 1 5 4 ?_
 refine gA 3 4 4 ?_
 exact te (fJ [(true,[cI 2,cI x0,cS (⟨#[]⟩ : ByteArray),cL 1 ([] : List Int) intRow])] H)
def qn (n : Nat) (x0 : (List zC)) (x1 : (List Int)) (x2 : Int) : Option ((List zC)) :=
  ((zx n x1).bind fun r1 => ((J4 n x2).bind fun r2 => (bif (decide (x0.length + [(⟨r1,r2⟩ : zC)].length ≤ 268435456)) then (some (x0 ++ [(⟨r1,r2⟩ : zC)])) else none)))
theorem QF (n : Nat) (x0 : (List zC)) (x1 : (List Int)) (x2 : Int) (r : (List zC)) (H : qn n x0 x1 x2 = some r) : zH Try.prog 162 [.own false [.sl true 5 (x0.map zC.row)],.val false [.sl false 1 (CV.frzEs (x1.map intRow))],.val false [.lit (.int .i64 x2)]] [.val false [.sl true 5 (r.map zC.row)]] [] := by
 refine cW Try.func162 (fun g d => sl [g 0,g 1] .ret) [.tmp 6] fun cx => ?_
 unfold qn at H
 refine gA 1 7 0 ?_
 refine rA 2 ?_
 obtain ⟨r1,er1,H⟩ := bs H
 refine vA [.rd] (ZV n x1 r1 er1) ?_
 refine lA 1 ?_
 obtain ⟨r2,er2,H⟩ := bs H
 refine vA [.rd] (zGr n x2 r2 er2) ?_
 refine lA 2 ?_
 obtain ⟨hg3,H⟩ := gs H
 refine LAt.appMU tOk (t := 27) (ty := 27) (e := 68) (x := (.tmp 7)) (y := (.tmp 13)) (d := 14) (g := none) (tI 68) zC.row x0 [(⟨r1,r2⟩ : zC)] kr kr kr kr kr kr kr kr kr kr hg3 ?_
 refine LAt.moveU (T := lk tab) (ty := 27) (x := (.tmp 14)) (d := 6) (g := none) false [cL 5 (x0 ++ [(⟨r1,r2⟩ : zC)]) zC.row] kr kr kr kr kr ?_
 refine dA 64 0 ?_
 exact te (fJ [(false,[cL 5 (x0 ++ [(⟨r1,r2⟩ : zC)]) zC.row])] H)
def Za (n : Nat) (x0 : Vec) (x1 : Int) : Option (Vec × Bool) :=
  ((qX n x0).bind fun r1 => (bif (!r1) then (some (x0,false)) else ((zT n x1 1 1000).bind fun r2 => (bif (!r2) then (some (x0,false)) else ((qX n (⟨x0.Root,(IntKind.wrap .i64 (x0.Co + x1)),(IntKind.wrap .i64 (x0.Hops + 1)),x0.Bridge,x0.Port⟩ : Vec)).bind fun r3 => (bif (!r3) then (some (x0,false)) else (some ((⟨x0.Root,(IntKind.wrap .i64 (x0.Co + x1)),(IntKind.wrap .i64 (x0.Hops + 1)),x0.Bridge,x0.Port⟩ : Vec),true))))))))
theorem zCM (n : Nat) (x0 : Vec) (x1 : Int) (r : Vec × Bool) (H : Za n x0 x1 = some r) : zH Try.prog 204 [.val true (CV.frzRow (Vec.row x0)),.val false [.lit (.int .i64 x1)]] [.val true (Vec.row r.1),.val false [.lit (.bool r.2)]] [] := by
 refine cW Try.func204 (fun g d => sl [g 0,sl [g 1] (cn 14 (sl [g 2] .ret) .skip),g 3,g 4,g 5,sl [g 6] (cn 28 (sl [g 7] .ret) .skip),g 8] .ret) [.cell 4 46,.tmp 5] fun cx => ?_
 unfold Za at H
 refine gA 3 22 20 ?_
 refine tS ?_
 refine rA 1 ?_
 obtain ⟨r1,er1,H⟩ := bs H
 refine vA [.rd] (zBp n x0 r1 er1) ?_
 refine lA 2 ?_
 refine sL 1046 20 ⟨31,0,[sB 10 (!r1),sA 4 4 5 0,sA 2 2 5 0,sI 1 x1],[(4,[cI 0,cI 0,cI 0,cI 0,cI 0]),(2,(Vec.row x0))]⟩ ?_
 cases h1 : (!r1)
 ·have H := zI h1 H
  refine lA 1 ?_
  obtain ⟨r2,er2,H⟩ := bs H
  refine vA [.rd,.rd,.rd] (zS n x1 1 1000 r2 er2) ?_
  refine uA 2 16406 20 ?_
  obtain ⟨h2,H⟩ | ⟨h2,H⟩ := bC H
  ·refine nA h2 ?_
   refine tK ?_
   refine gA 3 86 84 ?_
   refine gA 6 84 84 ?_
   refine gA 5 84 84 ?_
   refine tS ?_
   refine rA 1 ?_
   obtain ⟨r3,er3,H⟩ := bs H
   refine vA [.rd] (zBp n (⟨x0.Root,(IntKind.wrap .i64 (x0.Co + x1)),(IntKind.wrap .i64 (x0.Hops + 1)),x0.Bridge,x0.Port⟩ : Vec) r3 er3) ?_
   refine uA 1 268435540 84 ?_
   obtain ⟨h3,H⟩ | ⟨h3,H⟩ := bC H
   ·refine nA h3 ?_
    refine tK ?_
    refine gA 3 48 16 ?_
    exact te (fJ [(true,[cI x0.Root,cI (IntKind.wrap .i64 (x0.Co + x1)),cI (IntKind.wrap .i64 (x0.Hops + 1)),cI x0.Bridge,cI x0.Port]),(false,[cB true])] H)
   refine tA h3 ?_
   refine gA 3 48 16 ?_
   exact te (fJ [(true,(Vec.row x0)),(false,[cB false])] H)
  refine tA h2 ?_
  refine gA 3 48 16 ?_
  exact te (fJ [(true,(Vec.row x0)),(false,[cB false])] H)
 have H := zJ h1 H
 refine uA 4 16406 20 ?_
 refine tB_ ?_
 refine gA 3 48 16 ?_
 exact te (fJ [(true,(Vec.row x0)),(false,[cB false])] H)
def Z4 (n : Nat) (x0 : Vec) (x1 : Vec) : Option (Bool) :=
  (bif (x0.Root != x1.Root) then (some (decide (x0.Root < x1.Root))) else (bif (x0.Co != x1.Co) then (some (decide (x0.Co < x1.Co))) else (bif (x0.Bridge != x1.Bridge) then (some (decide (x0.Bridge < x1.Bridge))) else (some (decide (x0.Port < x1.Port))))))
theorem zCK (n : Nat) (x0 : Vec) (x1 : Vec) (r : Bool) (H : Z4 n x0 x1 = some r) : zH Try.prog 197 [.val true (CV.frzRow (Vec.row x0)),.val true (CV.frzRow (Vec.row x1))] [.val false [.lit (.bool r)]] [] := by
 refine cW Try.func197 (fun g d => sl [g 0,.block 0 (sl [g 1] (cn 5 (sl [g 2] .ret) (sl [g 3] (cn 16 (sl [g 4] .ret) (sl [g 5] (cn 27 (sl [g 6] .ret) .skip)))))),g 7] .ret) [.tmp 4] fun cx => ?_
 unfold Z4 at H
 refine gA 3 12 12 ?_
 refine tS ?_
 refine tB ?_
 refine gA 6 44 12 ?_
 obtain ⟨h1,H⟩ | ⟨h1,H⟩ := bC H
 ·refine nA h1 ?_
  refine gA 6 65548 12 ?_
  obtain ⟨h2,H⟩ | ⟨h2,H⟩ := bC H
  ·refine nA h2 ?_
   refine gA 6 134217740 12 ?_
   obtain ⟨h3,H⟩ | ⟨h3,H⟩ := bC H
   ·refine nA h3 ?_
    refine tK ?_
    refine gA 6 16 0 ?_
    exact te (fJ [(false,[cB (decide (x0.Port < x1.Port))])] H)
   refine tA h3 ?_
   refine gA 6 16 0 ?_
   exact te (fJ [(false,[cB (decide (x0.Bridge < x1.Bridge))])] H)
  refine tA h2 ?_
  refine gA 6 16 0 ?_
  exact te (fJ [(false,[cB (decide (x0.Co < x1.Co))])] H)
 refine tA h1 ?_
 refine gA 6 16 0 ?_
 exact te (fJ [(false,[cB (decide (x0.Root < x1.Root))])] H)
end Go.Proofs.Ytajadnlejdpceaa.Tw
