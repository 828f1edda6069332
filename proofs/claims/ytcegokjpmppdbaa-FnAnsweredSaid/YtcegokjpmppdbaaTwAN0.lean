import Derived.Test.YtcegokjpmppdbaaProg
import Derived.Test.YtcegokjpmppdbaaTlRule
import Derived.Test.YtcegokjpmppdbaaTlU12
import Derived.WalkKit
set_option linter.unusedVariables false
set_option linter.unusedSimpArgs false
set_option maxRecDepth 100000
set_option maxHeartbeats 1000000
namespace Go.Proofs.Ytcegokjpmppdbaa.Tw
open Go Go.TL Go.Proofs
def tab : List (Nat × TI) := [(2,⟨.int .i64,1,8,[.lit (.int .i64 0)]⟩),
  (3,⟨.int .i64,1,8,[.lit (.int .i64 0)]⟩),
  (4,⟨.bool,1,1,[.lit (.bool false)]⟩),
  (5,⟨.int .u8,1,1,[.lit (.int .u8 0)]⟩),
  (6,⟨.int .u8,1,1,[.lit (.int .u8 0)]⟩),
  (7,⟨.st [(0,1,2),(1,1,3),(2,1,4),(3,1,6)],4,24,[.lit (.int .i64 0),.lit (.int .i64 0),.lit (.bool false),.lit (.int .u8 0)]⟩),
  (8,⟨.st [(0,1,2),(1,1,3),(2,1,4),(3,1,6)],4,24,[.lit (.int .i64 0),.lit (.int .i64 0),.lit (.bool false),.lit (.int .u8 0)]⟩),
  (9,⟨.str,1,16,[.lit (.string ⟨#[]⟩)]⟩),
  (22,⟨.sl 5,1,24,[.sl true 1 []]⟩),
  (24,⟨.sl 44,1,24,[.sl true 8 []]⟩),
  (25,⟨.sl 49,1,24,[.sl true 5 []]⟩),
  (26,⟨.sl 124,1,24,[.sl true 3 []]⟩),
  (27,⟨.sl 3,1,24,[.sl true 1 []]⟩),
  (29,⟨.st [(0,1,26),(1,1,27)],2,48,[.sl true 3 [],.sl true 1 []]⟩),
  (31,⟨.st [(0,1,3),(1,1,9),(2,1,24),(3,1,25),(4,2,29),(6,1,3),(7,1,3),(8,1,3),(9,1,3),(10,1,3)],11,160,[.lit (.int .i64 0),.lit (.string ⟨#[]⟩),.sl true 8 [],.sl true 5 [],.sl true 3 [],.sl true 1 [],.lit (.int .i64 0),.lit (.int .i64 0),.lit (.int .i64 0),.lit (.int .i64 0),.lit (.int .i64 0)]⟩),
  (35,⟨.st [(0,1,3),(1,1,3),(2,1,3),(3,1,3),(4,1,3)],5,40,[.lit (.int .i64 0),.lit (.int .i64 0),.lit (.int .i64 0),.lit (.int .i64 0),.lit (.int .i64 0)]⟩),
  (44,⟨.st [(0,1,4),(1,1,3),(2,1,4),(3,5,35)],8,64,[.lit (.bool false),.lit (.int .i64 0),.lit (.bool false),.lit (.int .i64 0),.lit (.int .i64 0),.lit (.int .i64 0),.lit (.int .i64 0),.lit (.int .i64 0)]⟩),
  (49,⟨.st [(0,1,3),(1,1,3),(2,1,3),(3,1,3),(4,1,4)],5,40,[.lit (.int .i64 0),.lit (.int .i64 0),.lit (.int .i64 0),.lit (.int .i64 0),.lit (.bool false)]⟩),
  (53,⟨.st [(0,1,3),(1,1,3),(2,1,3),(3,1,22)],4,48,[.lit (.int .i64 0),.lit (.int .i64 0),.lit (.int .i64 0),.sl true 1 []]⟩),
  (56,⟨.sl 64,1,24,[.sl true 5 []]⟩),
  (64,⟨.st [(0,1,3),(1,4,53)],5,56,[.lit (.int .i64 0),.lit (.int .i64 0),.lit (.int .i64 0),.lit (.int .i64 0),.sl true 1 []]⟩),
  (112,⟨.int .u64,1,8,[.lit (.int .u64 0)]⟩),
  (124,⟨.st [(0,1,3),(1,1,3),(2,1,3)],3,24,[.lit (.int .i64 0),.lit (.int .i64 0),.lit (.int .i64 0)]⟩),
  (142,⟨.st [(0,1,22),(1,1,3),(2,1,3)],3,40,[.sl true 1 [],.lit (.int .i64 0),.lit (.int .i64 0)]⟩),
  (145,⟨.sl 9,1,24,[.sl true 1 []]⟩)]
def tI (t : Nat) : TI := (lk tab t).getD ⟨.bool,1,1,[]⟩
theorem mixed : Try.prog.follows .mixedOrders = true := by kernel_rfl
theorem tOk : TOk Try.prog (lk tab) := zJY (by kernel_rfl)
instance : TC Try.prog (lk tab) := ⟨tOk⟩
structure Src where
  b : (List Int)
  i : Int
  h : Int
def Src.row (v : Src) : List CV := [.sl true 1 (v.b.map zN),.lit (.int .i64 v.i),.lit (.int .i64 v.h)]
def Src.wf (v : Src) : Prop := Zv zCl v.b ∧ zp v.i ∧ zp v.h ∧ True
theorem Src.enc : Enc Src [.sl 1 [.int .u8],.int .i64,.int .i64] Src.row Src.wf := fun cs h => by
  obtain ⟨c0,r0,rfl,k0,h⟩ := zL h
  obtain ⟨c1,r1,rfl,k1,h⟩ := zL h
  obtain ⟨c2,r2,rfl,k2,h⟩ := zL h
  obtain rfl := Zx h
  obtain ⟨x0,rfl,w0⟩ := Enc.sl zDO k0
  obtain ⟨x1,rfl,w1⟩ := zf k1
  obtain ⟨x2,rfl,w2⟩ := zf k2
  exact ⟨⟨x0,x1,x2⟩,rfl,⟨w0,w1,w2,trivial⟩⟩
theorem Src.row_mine (v : Src) : CV.mineRow (Src.row v) := zH (Z8 (ZQ zBA _)) (zH zM (zH zM (zj)))
structure zB where
  Id : Int
  Members : Int
  Bare : Int
def zB.row (v : zB) : List CV := [.lit (.int .i64 v.Id),.lit (.int .i64 v.Members),.lit (.int .i64 v.Bare)]
def zB.wf (v : zB) : Prop := zp v.Id ∧ zp v.Members ∧ zp v.Bare ∧ True
theorem zB.enc : Enc zB [.int .i64,.int .i64,.int .i64] zB.row zB.wf := fun cs h => by
  obtain ⟨c0,r0,rfl,k0,h⟩ := zL h
  obtain ⟨c1,r1,rfl,k1,h⟩ := zL h
  obtain ⟨c2,r2,rfl,k2,h⟩ := zL h
  obtain rfl := Zx h
  obtain ⟨x0,rfl,w0⟩ := zf k0
  obtain ⟨x1,rfl,w1⟩ := zf k1
  obtain ⟨x2,rfl,w2⟩ := zf k2
  exact ⟨⟨x0,x1,x2⟩,rfl,⟨w0,w1,w2,trivial⟩⟩
theorem zB.row_mine (v : zB) : CV.mineRow (zB.row v) := zH zM (zH zM (zH zM (zj)))
structure zC where
  Rows : (List zB)
  Pv : (List Int)
def zC.row (v : zC) : List CV := [.sl true 3 (v.Rows.map zB.row),.sl true 1 (v.Pv.map intRow)]
def zC.wf (v : zC) : Prop := Zv zB.wf v.Rows ∧ Zv zp v.Pv ∧ True
theorem zC.enc : Enc zC [.sl 3 [.int .i64,.int .i64,.int .i64],.sl 1 [.int .i64]] zC.row zC.wf := fun cs h => by
  obtain ⟨c0,r0,rfl,k0,h⟩ := zL h
  obtain ⟨c1,r1,rfl,k1,h⟩ := zL h
  obtain rfl := Zx h
  obtain ⟨x0,rfl,w0⟩ := Enc.sl zB.enc k0
  obtain ⟨x1,rfl,w1⟩ := Enc.sl zHz k1
  exact ⟨⟨x0,x1⟩,rfl,⟨w0,w1,trivial⟩⟩
theorem zC.row_mine (v : zC) : CV.mineRow (zC.row v) := zH (Z8 (ZQ zB.row_mine _)) (zH (Z8 (ZQ zDj _)) (zj))
structure Vec where
  Root : Int
  Co : Int
  Hops : Int
  Bridge : Int
  Port : Int
def Vec.row (v : Vec) : List CV := [.lit (.int .i64 v.Root),.lit (.int .i64 v.Co),.lit (.int .i64 v.Hops),.lit (.int .i64 v.Bridge),.lit (.int .i64 v.Port)]
def Vec.wf (v : Vec) : Prop := zp v.Root ∧ zp v.Co ∧ zp v.Hops ∧ zp v.Bridge ∧ zp v.Port ∧ True
theorem Vec.enc : Enc Vec [.int .i64,.int .i64,.int .i64,.int .i64,.int .i64] Vec.row Vec.wf := fun cs h => by
  obtain ⟨c0,r0,rfl,k0,h⟩ := zL h
  obtain ⟨c1,r1,rfl,k1,h⟩ := zL h
  obtain ⟨c2,r2,rfl,k2,h⟩ := zL h
  obtain ⟨c3,r3,rfl,k3,h⟩ := zL h
  obtain ⟨c4,r4,rfl,k4,h⟩ := zL h
  obtain rfl := Zx h
  obtain ⟨x0,rfl,w0⟩ := zf k0
  obtain ⟨x1,rfl,w1⟩ := zf k1
  obtain ⟨x2,rfl,w2⟩ := zf k2
  obtain ⟨x3,rfl,w3⟩ := zf k3
  obtain ⟨x4,rfl,w4⟩ := zf k4
  exact ⟨⟨x0,x1,x2,x3,x4⟩,rfl,⟨w0,w1,w2,w3,w4,trivial⟩⟩
theorem Vec.row_mine (v : Vec) : CV.mineRow (Vec.row v) := zH zM (zH zM (zH zM (zH zM (zH zM (zj)))))
structure Pt where
  Up : Bool
  Co : Int
  Has : Bool
  Hd : Vec
def Pt.row (v : Pt) : List CV := [.lit (.bool v.Up),.lit (.int .i64 v.Co),.lit (.bool v.Has),.lit (.int .i64 v.Hd.Root),.lit (.int .i64 v.Hd.Co),.lit (.int .i64 v.Hd.Hops),.lit (.int .i64 v.Hd.Bridge),.lit (.int .i64 v.Hd.Port)]
def Pt.wf (v : Pt) : Prop := zp v.Co ∧ zp v.Hd.Root ∧ zp v.Hd.Co ∧ zp v.Hd.Hops ∧ zp v.Hd.Bridge ∧ zp v.Hd.Port ∧ True
theorem Pt.enc : Enc Pt [.bool,.int .i64,.bool,.int .i64,.int .i64,.int .i64,.int .i64,.int .i64] Pt.row Pt.wf := fun cs h => by
  obtain ⟨c0,r0,rfl,k0,h⟩ := zL h
  obtain ⟨c1,r1,rfl,k1,h⟩ := zL h
  obtain ⟨c2,r2,rfl,k2,h⟩ := zL h
  obtain ⟨c3,r3,rfl,k3,h⟩ := zL h
  obtain ⟨c4,r4,rfl,k4,h⟩ := zL h
  obtain ⟨c5,r5,rfl,k5,h⟩ := zL h
  obtain ⟨c6,r6,rfl,k6,h⟩ := zL h
  obtain ⟨c7,r7,rfl,k7,h⟩ := zL h
  obtain rfl := Zx h
  obtain ⟨x0,rfl⟩ := zBX k0
  obtain ⟨x1,rfl,w1⟩ := zf k1
  obtain ⟨x2,rfl⟩ := zBX k2
  obtain ⟨x3,rfl,w3⟩ := zf k3
  obtain ⟨x4,rfl,w4⟩ := zf k4
  obtain ⟨x5,rfl,w5⟩ := zf k5
  obtain ⟨x6,rfl,w6⟩ := zf k6
  obtain ⟨x7,rfl,w7⟩ := zf k7
  exact ⟨⟨x0,x1,x2,⟨x3,x4,x5,x6,x7⟩⟩,rfl,⟨w1,w3,w4,w5,w6,w7,trivial⟩⟩
theorem Pt.row_mine (v : Pt) : CV.mineRow (Pt.row v) := zH zM (zH zM (zH zM (zH zM (zH zM (zH zM (zH zM (zH zM (zj))))))))
structure zA where
  Tag : Int
  Mac : Int
  Port : Int
  Age : Int
  Sc : Bool
def zA.row (v : zA) : List CV := [.lit (.int .i64 v.Tag),.lit (.int .i64 v.Mac),.lit (.int .i64 v.Port),.lit (.int .i64 v.Age),.lit (.bool v.Sc)]
def zA.wf (v : zA) : Prop := zp v.Tag ∧ zp v.Mac ∧ zp v.Port ∧ zp v.Age ∧ True
theorem zA.enc : Enc zA [.int .i64,.int .i64,.int .i64,.int .i64,.bool] zA.row zA.wf := fun cs h => by
  obtain ⟨c0,r0,rfl,k0,h⟩ := zL h
  obtain ⟨c1,r1,rfl,k1,h⟩ := zL h
  obtain ⟨c2,r2,rfl,k2,h⟩ := zL h
  obtain ⟨c3,r3,rfl,k3,h⟩ := zL h
  obtain ⟨c4,r4,rfl,k4,h⟩ := zL h
  obtain rfl := Zx h
  obtain ⟨x0,rfl,w0⟩ := zf k0
  obtain ⟨x1,rfl,w1⟩ := zf k1
  obtain ⟨x2,rfl,w2⟩ := zf k2
  obtain ⟨x3,rfl,w3⟩ := zf k3
  obtain ⟨x4,rfl⟩ := zBX k4
  exact ⟨⟨x0,x1,x2,x3,x4⟩,rfl,⟨w0,w1,w2,w3,trivial⟩⟩
theorem zA.row_mine (v : zA) : CV.mineRow (zA.row v) := zH zM (zH zM (zH zM (zH zM (zH zM (zj)))))
structure zD where
  Id : Int
  Name : ByteArray
  Ps : (List Pt)
  F : (List zA)
  V : zC
  Tk : Int
  Pa : Int
  Wo : Int
  Dr : Int
  Ve : Int
def zD.row (v : zD) : List CV := [.lit (.int .i64 v.Id),.lit (.string v.Name),.sl true 8 (v.Ps.map Pt.row),.sl true 5 (v.F.map zA.row),.sl true 3 (v.V.Rows.map zB.row),.sl true 1 (v.V.Pv.map intRow),.lit (.int .i64 v.Tk),.lit (.int .i64 v.Pa),.lit (.int .i64 v.Wo),.lit (.int .i64 v.Dr),.lit (.int .i64 v.Ve)]
def zD.wf (v : zD) : Prop := zp v.Id ∧ v.Name.size ≤ maxLen ∧ Zv Pt.wf v.Ps ∧ Zv zA.wf v.F ∧ Zv zB.wf v.V.Rows ∧ Zv zp v.V.Pv ∧ zp v.Tk ∧ zp v.Pa ∧ zp v.Wo ∧ zp v.Dr ∧ zp v.Ve ∧ True
theorem zD.enc : Enc zD [.int .i64,.str,.sl 8 [.bool,.int .i64,.bool,.int .i64,.int .i64,.int .i64,.int .i64,.int .i64],.sl 5 [.int .i64,.int .i64,.int .i64,.int .i64,.bool],.sl 3 [.int .i64,.int .i64,.int .i64],.sl 1 [.int .i64],.int .i64,.int .i64,.int .i64,.int .i64,.int .i64] zD.row zD.wf := fun cs h => by
  obtain ⟨c0,r0,rfl,k0,h⟩ := zL h
  obtain ⟨c1,r1,rfl,k1,h⟩ := zL h
  obtain ⟨c2,r2,rfl,k2,h⟩ := zL h
  obtain ⟨c3,r3,rfl,k3,h⟩ := zL h
  obtain ⟨c4,r4,rfl,k4,h⟩ := zL h
  obtain ⟨c5,r5,rfl,k5,h⟩ := zL h
  obtain ⟨c6,r6,rfl,k6,h⟩ := zL h
  obtain ⟨c7,r7,rfl,k7,h⟩ := zL h
  obtain ⟨c8,r8,rfl,k8,h⟩ := zL h
  obtain ⟨c9,r9,rfl,k9,h⟩ := zL h
  obtain ⟨c10,r10,rfl,k10,h⟩ := zL h
  obtain rfl := Zx h
  obtain ⟨x0,rfl,w0⟩ := zf k0
  obtain ⟨x1,rfl,w1⟩ := zIL k1
  obtain ⟨x2,rfl,w2⟩ := Enc.sl Pt.enc k2
  obtain ⟨x3,rfl,w3⟩ := Enc.sl zA.enc k3
  obtain ⟨x4,rfl,w4⟩ := Enc.sl zB.enc k4
  obtain ⟨x5,rfl,w5⟩ := Enc.sl zHz k5
  obtain ⟨x6,rfl,w6⟩ := zf k6
  obtain ⟨x7,rfl,w7⟩ := zf k7
  obtain ⟨x8,rfl,w8⟩ := zf k8
  obtain ⟨x9,rfl,w9⟩ := zf k9
  obtain ⟨x10,rfl,w10⟩ := zf k10
  exact ⟨⟨x0,x1,x2,x3,⟨x4,x5⟩,x6,x7,x8,x9,x10⟩,rfl,⟨w0,w1,w2,w3,w4,w5,w6,w7,w8,w9,w10,trivial⟩⟩
theorem zD.row_mine (v : zD) : CV.mineRow (zD.row v) := zH zM (zH zM (zH (Z8 (ZQ Pt.row_mine _)) (zH (Z8 (ZQ zA.row_mine _)) (zH (Z8 (ZQ zB.row_mine _)) (zH (Z8 (ZQ zDj _)) (zH zM (zH zM (zH zM (zH zM (zH zM (zj)))))))))))
structure Frame where
  Dst : Int
  Src : Int
  Tag : Int
  Data : (List Int)
def Frame.row (v : Frame) : List CV := [.lit (.int .i64 v.Dst),.lit (.int .i64 v.Src),.lit (.int .i64 v.Tag),.sl true 1 (v.Data.map zN)]
def Frame.wf (v : Frame) : Prop := zp v.Dst ∧ zp v.Src ∧ zp v.Tag ∧ Zv zCl v.Data ∧ True
theorem Frame.enc : Enc Frame [.int .i64,.int .i64,.int .i64,.sl 1 [.int .u8]] Frame.row Frame.wf := fun cs h => by
  obtain ⟨c0,r0,rfl,k0,h⟩ := zL h
  obtain ⟨c1,r1,rfl,k1,h⟩ := zL h
  obtain ⟨c2,r2,rfl,k2,h⟩ := zL h
  obtain ⟨c3,r3,rfl,k3,h⟩ := zL h
  obtain rfl := Zx h
  obtain ⟨x0,rfl,w0⟩ := zf k0
  obtain ⟨x1,rfl,w1⟩ := zf k1
  obtain ⟨x2,rfl,w2⟩ := zf k2
  obtain ⟨x3,rfl,w3⟩ := Enc.sl zDO k3
  exact ⟨⟨x0,x1,x2,x3⟩,rfl,⟨w0,w1,w2,w3,trivial⟩⟩
theorem Frame.row_mine (v : Frame) : CV.mineRow (Frame.row v) := zH zM (zH zM (zH zM (zH (Z8 (ZQ zBA _)) (zj))))
structure Out where
  Port : Int
  F : Frame
def Out.row (v : Out) : List CV := [.lit (.int .i64 v.Port),.lit (.int .i64 v.F.Dst),.lit (.int .i64 v.F.Src),.lit (.int .i64 v.F.Tag),.sl true 1 (v.F.Data.map zN)]
def Out.wf (v : Out) : Prop := zp v.Port ∧ zp v.F.Dst ∧ zp v.F.Src ∧ zp v.F.Tag ∧ Zv zCl v.F.Data ∧ True
theorem Out.enc : Enc Out [.int .i64,.int .i64,.int .i64,.int .i64,.sl 1 [.int .u8]] Out.row Out.wf := fun cs h => by
  obtain ⟨c0,r0,rfl,k0,h⟩ := zL h
  obtain ⟨c1,r1,rfl,k1,h⟩ := zL h
  obtain ⟨c2,r2,rfl,k2,h⟩ := zL h
  obtain ⟨c3,r3,rfl,k3,h⟩ := zL h
  obtain ⟨c4,r4,rfl,k4,h⟩ := zL h
  obtain rfl := Zx h
  obtain ⟨x0,rfl,w0⟩ := zf k0
  obtain ⟨x1,rfl,w1⟩ := zf k1
  obtain ⟨x2,rfl,w2⟩ := zf k2
  obtain ⟨x3,rfl,w3⟩ := zf k3
  obtain ⟨x4,rfl,w4⟩ := Enc.sl zDO k4
  exact ⟨⟨x0,⟨x1,x2,x3,x4⟩⟩,rfl,⟨w0,w1,w2,w3,w4,trivial⟩⟩
theorem Out.row_mine (v : Out) : CV.mineRow (Out.row v) := zH zM (zH zM (zH zM (zH zM (zH (Z8 (ZQ zBA _)) (zj)))))
def zBe (n : Nat) (x0 : (List Int)) : Option (Bool) :=
  (some (decide ((x0.length : Int) > 1048576)))
theorem zIN (n : Nat) (x0 : (List Int)) (r : Bool) (H : zBe n x0 = some r) : zG Try.prog 9 [.val false [.sl false 1 (CV.frzEs (x0.map zN))]] [.val false [.lit (.bool r)]] [] := by
 refine cW Try.func9 (fun g d => sl [g 0,g 1] .ret) [.tmp 2] fun cx => ?_
 unfold zBe at H
 refine gA 1 1 0 ?_
 refine rA 1 ?_
 refine kF x0 zN ?_
 refine uA 2 4 0 ?_
 exact te (fJ [(false,[cB (decide ((x0.length : Int) > 1048576))])] H)
def Jc (n : Nat) (x0 : (List Int)) (y3 : Int) : Option (Src) :=
  (some (⟨x0,0,y3⟩ : Src))
def Zr (n : Nat) : Nat → (List Int) → Int → Int → Option ((Int) ⊕ (Src))
  | 0,_,_,_ => none
  | mo4 + 1,x0,y1,y2 => (bif (decide (y1 < (x0.length : Int))) then (bif (decide (y1 < 4000)) then ((idx x0 y1).bind fun v5 => (Zr n mo4 x0 (IntKind.wrap .i64 (y1 + 1)) (IntKind.wrap .i64 (BitVec.ofInt (IntKind.bits .i64) (IntKind.wrap .i64 ((IntKind.wrap .i64 ((IntKind.wrap .i64 (y2 * 137)) + (IntKind.wrap .i64 v5))) + 11)) &&& BitVec.ofInt (IntKind.bits .i64) 1073741823).toNat))) else (some (Sum.inl y2))) else (some (Sum.inl y2)))
def JN (n : Nat) (x0 : (List Int)) : Option (Src) :=
  ((Zr n n x0 0 (IntKind.wrap .i64 (762762 + (x0.length : Int)))).bind fun o => match o with | .inl y3 => (Jc n x0 y3) | .inr r => some r)
noncomputable abbrev G52 (k : Nat) := Rg Try.f52 k
theorem zHh (n : Nat) (x0 : (List Int)) (r : Src) (H : JN n x0 = some r) : zG Try.prog 52 [.val false [.sl false 1 (CV.frzEs (x0.map zN))]] [.ptr (CV.frzRow (Src.row r))] [] := by
 refine zG.of_body_ptr tOk Try.func52 rfl (c := (.seq (G52 0) (.seq (G52 1) (.seq (.seq (G52 2) (.block 0 (.loop (.seq (.seq (G52 3) (.cond (.tmp 15) .skip (.exit 0))) (.seq (.block 1 (G52 5)) (G52 4)))))) (.seq (G52 6) .ret))))) kr (Nat.le_of_ble_eq_true kr) 2 31 rfl (CV.frzRow (Src.row r)) fun cx => ?_
 show Tr _ _ _ ⟨32,0,[sC 0 (cF 1 x0 zN)],[]⟩ _
 unfold JN at H
 refine gA 1 1 0 ?_
 refine rA 1 ?_
 refine kF x0 zN ?_
 refine uA 2 9 0 ?_
 refine tS ?_
 refine gA 1 25 0 ?_
 obtain ⟨o4,eo4,Ho4⟩ := bs H
 clear H
 refine Tr.mid (ι := Int) (fun v => ⟨32,0,[sI 3 v,sC 0 (cF 1 x0 zN)],[]⟩) (fun v => Jc n x0 v = some r) ?_ ?_
 ·refine tB ?_
  refine Tr.loop (ι := Nat × (Int × Int)) (fun v => ⟨32,0,[sI 4 v.2.1,sI 3 v.2.2,sC 0 (cF 1 x0 zN)],[]⟩) (fun v => Zr n v.1 x0 v.2.1 v.2.2 = some o4) (fun v => v.1) (n,(0,(IntKind.wrap .i64 (762762 + (x0.length : Int))))) eo4 (St.sub_of [4,3,0] [] kr) ?_
  rintro ⟨mo4,y1,y2⟩ H
  have H : Zr n mo4 x0 y1 y2 = some o4 := H
  obtain _ | mo4 := mo4
  ·exact nN H
  rw [Zr] at H
  refine tS ?_
  refine rA 2 ?_
  refine kF x0 zN ?_
  refine lA 2 ?_
  refine sL 4121 0 ⟨32,0,[sB 12 (decide (y1 < (x0.length : Int))),sI 4 y1,sI 3 y2,sC 0 (cF 1 x0 zN)],[]⟩ ?_
  cases h1 : (decide (y1 < (x0.length : Int)))
  ·have H := zI h1 H
   refine uA 3 32793 0 ?_
   refine nB_ ?_
   refine Tr.exit ?_
   refine aJ ?_
   obtain rfl := si H
   have H := Ho4
   dsimp only at H
   exact jA y2 H [3,0] []
  have H := zJ h1 H
  refine uA 3 32793 0 ?_
  obtain ⟨h2,H⟩ | ⟨h2,H⟩ := bC H
  ·refine nA h2 ?_
   refine Tr.exit ?_
   refine aJ ?_
   obtain rfl := si H
   have H := Ho4
   dsimp only at H
   exact jA y2 H [3,0] []
  refine tA h2 ?_
  refine tK ?_
  refine tS ?_
  refine tB ?_
  refine Tr.at ?_
  refine lA 4 ?_
  obtain ⟨v5,ev5,H⟩ := bs H
  refine iA zN ev5 ?_
  refine uA 6 25 0 ?_
  refine eA 3 25 0 ?_
  exact jB mo4 ((IntKind.wrap .i64 (y1 + 1)),(IntKind.wrap .i64 (BitVec.ofInt (IntKind.bits .i64) (IntKind.wrap .i64 ((IntKind.wrap .i64 ((IntKind.wrap .i64 (y2 * 137)) + (IntKind.wrap .i64 v5))) + 11)) &&& BitVec.ofInt (IntKind.bits .i64) 1073741823).toNat)) H [4,3,0] []
 rintro y3 H
 have H : (Jc n x0 y3) = some r := H
 unfold Jc at H
 refine gA 5 4 2147483648 ?_
 refine te ?_
 obtain rfl := si H
 exact And.intro kr kr
def ZJ (n : Nat) (x0 : Src) : Option (Int × Src) :=
  (bif (decide ((0 : Int) ≤ 33)) then (bif (decide ((0 : Int) ≤ 47)) then (bif (decide (x0.i < (x0.b.length : Int))) then ((idx x0.b x0.i).bind fun v3 => (some ((IntKind.wrap .i64 (BitVec.ofInt (IntKind.bits .i64) (IntKind.wrap .i64 ((IntKind.wrap .i64 (BitVec.ofInt (IntKind.bits .i64) (IntKind.wrap .i64 (BitVec.ofInt (IntKind.bits .i64) (Int.fdiv (IntKind.wrap .i64 ((IntKind.wrap .i64 (x0.h * 6364136223846793005)) + 1442695040888963407)) (2 ^ min ((33 : Int)).toNat (IntKind.bits .i64))) ^^^ BitVec.ofInt (IntKind.bits .i64) (Int.fdiv (IntKind.wrap .i64 ((IntKind.wrap .i64 (x0.h * 6364136223846793005)) + 1442695040888963407)) (2 ^ min ((47 : Int)).toNat (IntKind.bits .i64)))).toNat) &&& BitVec.ofInt (IntKind.bits .i64) 255).toNat) + (IntKind.wrap .i64 v3))) &&& BitVec.ofInt (IntKind.bits .i64) 255).toNat),(⟨x0.b,(IntKind.wrap .i64 (x0.i + 1)),(IntKind.wrap .i64 ((IntKind.wrap .i64 (x0.h * 6364136223846793005)) + 1442695040888963407))⟩ : Src)))) else (some ((IntKind.wrap .i64 (BitVec.ofInt (IntKind.bits .i64) (IntKind.wrap .i64 (BitVec.ofInt (IntKind.bits .i64) (Int.fdiv (IntKind.wrap .i64 ((IntKind.wrap .i64 (x0.h * 6364136223846793005)) + 1442695040888963407)) (2 ^ min ((33 : Int)).toNat (IntKind.bits .i64))) ^^^ BitVec.ofInt (IntKind.bits .i64) (Int.fdiv (IntKind.wrap .i64 ((IntKind.wrap .i64 (x0.h * 6364136223846793005)) + 1442695040888963407)) (2 ^ min ((47 : Int)).toNat (IntKind.bits .i64)))).toNat) &&& BitVec.ofInt (IntKind.bits .i64) 255).toNat),(⟨x0.b,x0.i,(IntKind.wrap .i64 ((IntKind.wrap .i64 (x0.h * 6364136223846793005)) + 1442695040888963407))⟩ : Src)))) else none) else none)
def zI9 : Tab := ⟨13,[0,1,2,4,8,0,32,64,128,256,528,1024,4095],[0,1,2,4,8,0,32,64,128,256,528,1024,2048],[0,1,3,7,15,0,32,96,224,480,1023,2047,4095]⟩
noncomputable abbrev zHM (k : Nat) := Rg Try.f124 k
noncomputable abbrev zIG (k : Nat) := Rd Try.f124 k
theorem zAN : z6 (rg Try.f124 2) zI9 = true := kr
def zJA : Tab := ⟨15,[0,0,2,4,8,0,32,64,128,272,512,1024,2049,4096,16383],[0,0,2,4,8,0,32,64,128,272,512,1024,2049,4096,8193],[0,0,2,6,14,0,32,96,224,510,1022,2046,4095,8191,16383]⟩
theorem zEG : z6 (rg Try.f124 4) zJA = true := kr
theorem JM (n : Nat) (x0 : Src) (r : Int × Src) (H : ZJ n x0 = some r) : zG Try.prog 124 [.ptr (CV.frzRow (Src.row x0))] [.val false [.lit (.int .i64 r.1)]] [(0,(CV.frzRow (Src.row r.2)))] := by
 refine zG.of_body tOk Try.func124 rfl (c := (.seq (zHM 0) (.seq (zHM 1) (.seq (zIG 2) (.seq (.seq (zIG 3) (.cond (.tmp 34) (.seq (zIG 4) (zHM 5)) .skip)) (.seq (zHM 6) .ret)))))) kr (Nat.le_of_ble_eq_true kr) 1 (rs := [.tmp 2]) rfl [] .nil [(false,[.lit (.int .i64 r.1)])] [] [(0,(CV.frzRow (Src.row r.2)))] fun cx => ?_
 show Tr _ _ _ ⟨58,1,[sA 0 0 3 0],[(0,(CV.frzRow (Src.row x0)))]⟩ _
 unfold ZJ at H
 refine gA 1 1 1 ?_
 refine gA 10 1 1 ?_
 obtain ⟨hg1,H⟩ := gs H
 obtain ⟨hg2,H⟩ := gs H
 refine Tr.draws mixed 13 kr ⟨58,1,[sI 3 (IntKind.wrap .i64 (BitVec.ofInt (IntKind.bits .i64) (IntKind.wrap .i64 (BitVec.ofInt (IntKind.bits .i64) (Int.fdiv (IntKind.wrap .i64 ((IntKind.wrap .i64 (x0.h * 0x5851f42d4c957f2d)) + 0x14057b7ef767814f)) (2 ^ min ((33 : Int)).toNat (IntKind.bits .i64))) ^^^ BitVec.ofInt (IntKind.bits .i64) (Int.fdiv (IntKind.wrap .i64 ((IntKind.wrap .i64 (x0.h * 0x5851f42d4c957f2d)) + 0x14057b7ef767814f)) (2 ^ min ((47 : Int)).toNat (IntKind.bits .i64)))).toNat) &&& BitVec.ofInt (IntKind.bits .i64) 255).toNat),sA 0 0 3 0],[(0,[cF 1 x0.b zN,cI x0.i,cI (IntKind.wrap .i64 ((IntKind.wrap .i64 (x0.h * 0x5851f42d4c957f2d)) + 0x14057b7ef767814f))])]⟩ (fun cx => ?_) ?_
 ·refine mA zAN [(0,[]),(1,[]),(2,[]),(3,[4]),(5,[]),(6,[]),(7,[]),(8,[9])] 5 [⟨[9],3,20,21⟩,⟨[4],3,15,16⟩] fun cx => ?_
  refine mB2 tOk zAN 4 9 kr (And.intro kr ?_) (And.intro kr ?_)
  ·refine LAt.binC tOk (op := .shr) (t := 3) (ty := 112) (ty' := 3) (x := (.tmp 16)) (y := (.const (.int .u64 33))) (d := 17) (g := none) (.int .i64 (IntKind.wrap .i64 ((IntKind.wrap .i64 (x0.h * 0x5851f42d4c957f2d)) + 0x14057b7ef767814f))) (.int .u64 33) (.int .i64 (Int.fdiv (IntKind.wrap .i64 ((IntKind.wrap .i64 (x0.h * 0x5851f42d4c957f2d)) + 0x14057b7ef767814f)) (2 ^ min ((33 : Int)).toNat (IntKind.bits .i64)))) _ kr kr kr kr kr (φ := (0 : Int) ≤ 33) kr (of_decide_eq_true hg1) rfl ?_
   refine fA ?_
   refine mC zAN 9 ?_
   refine LAt.binC tOk (op := .shr) (t := 3) (ty := 112) (ty' := 3) (x := (.tmp 21)) (y := (.const (.int .u64 47))) (d := 22) (g := none) (.int .i64 (IntKind.wrap .i64 ((IntKind.wrap .i64 (x0.h * 0x5851f42d4c957f2d)) + 0x14057b7ef767814f))) (.int .u64 47) (.int .i64 (Int.fdiv (IntKind.wrap .i64 ((IntKind.wrap .i64 (x0.h * 0x5851f42d4c957f2d)) + 0x14057b7ef767814f)) (2 ^ min ((47 : Int)).toNat (IntKind.bits .i64)))) _ kr kr kr kr kr (φ := (0 : Int) ≤ 47) kr (of_decide_eq_true hg2) rfl ?_
   refine fA ?_
   refine mA zAN [(10,[]),(11,[]),(12,[])] 0 [⟨[9],3,20,21⟩,⟨[4],3,15,16⟩] fun cx => ?_
   exact mE zAN [3,0] [0]
  ·refine LAt.binC tOk (op := .shr) (t := 3) (ty := 112) (ty' := 3) (x := (.tmp 21)) (y := (.const (.int .u64 47))) (d := 22) (g := none) (.int .i64 (IntKind.wrap .i64 ((IntKind.wrap .i64 (x0.h * 0x5851f42d4c957f2d)) + 0x14057b7ef767814f))) (.int .u64 47) (.int .i64 (Int.fdiv (IntKind.wrap .i64 ((IntKind.wrap .i64 (x0.h * 0x5851f42d4c957f2d)) + 0x14057b7ef767814f)) (2 ^ min ((47 : Int)).toNat (IntKind.bits .i64)))) _ kr kr kr kr kr (φ := (0 : Int) ≤ 47) kr (of_decide_eq_true hg2) rfl ?_
   refine fA ?_
   refine mC zAN 4 ?_
   refine LAt.binC tOk (op := .shr) (t := 3) (ty := 112) (ty' := 3) (x := (.tmp 16)) (y := (.const (.int .u64 33))) (d := 17) (g := none) (.int .i64 (IntKind.wrap .i64 ((IntKind.wrap .i64 (x0.h * 0x5851f42d4c957f2d)) + 0x14057b7ef767814f))) (.int .u64 33) (.int .i64 (Int.fdiv (IntKind.wrap .i64 ((IntKind.wrap .i64 (x0.h * 0x5851f42d4c957f2d)) + 0x14057b7ef767814f)) (2 ^ min ((33 : Int)).toNat (IntKind.bits .i64)))) _ kr kr kr kr kr (φ := (0 : Int) ≤ 33) kr (of_decide_eq_true hg1) rfl ?_
   refine fA ?_
   refine mA zAN [(10,[]),(11,[]),(12,[])] 0 [⟨[9],3,20,21⟩,⟨[4],3,15,16⟩] fun cx => ?_
   exact mE zAN [3,0] [0]
 refine tS ?_
 refine Tr.draws mixed 10 kr ⟨58,1,[sB 34 (decide (x0.i < (x0.b.length : Int))),sI 3 (IntKind.wrap .i64 (BitVec.ofInt (IntKind.bits .i64) (IntKind.wrap .i64 (BitVec.ofInt (IntKind.bits .i64) (Int.fdiv (IntKind.wrap .i64 ((IntKind.wrap .i64 (x0.h * 0x5851f42d4c957f2d)) + 0x14057b7ef767814f)) (2 ^ min ((33 : Int)).toNat (IntKind.bits .i64))) ^^^ BitVec.ofInt (IntKind.bits .i64) (Int.fdiv (IntKind.wrap .i64 ((IntKind.wrap .i64 (x0.h * 0x5851f42d4c957f2d)) + 0x14057b7ef767814f)) (2 ^ min ((47 : Int)).toNat (IntKind.bits .i64)))).toNat) &&& BitVec.ofInt (IntKind.bits .i64) 255).toNat),sA 0 0 3 0],[(0,[cF 1 x0.b zN,cI x0.i,cI (IntKind.wrap .i64 ((IntKind.wrap .i64 (x0.h * 0x5851f42d4c957f2d)) + 0x14057b7ef767814f))])]⟩ (fun cx => ?_) ?_
 ·refine aA [(0,[]),(1,[]),(2,[]),(3,[]),(4,[]),(5,[]),(6,[]),(7,[])] 2 [⟨[],22,31,32⟩,⟨[],3,27,28⟩] fun cx => ?_
  refine aL tOk 8 22 3 5 32 33 none ⟨(.box 0),[(0,0)],0,false,1,(CV.frzEs (x0.b.map zN))⟩ (x0.b).length _ kr kr kr kr kr kr kr (zEx _ _) rfl (fun cx => ?_)
  refine aA [(9,[])] 0 [⟨[],22,31,32⟩,⟨[],3,27,28⟩] fun cx => ?_
  exact eE [34,3,0] [0]
 refine sT ⟨58,1,[sB 34 (decide (x0.i < (x0.b.length : Int))),sI 3 (IntKind.wrap .i64 (BitVec.ofInt (IntKind.bits .i64) (IntKind.wrap .i64 (BitVec.ofInt (IntKind.bits .i64) (Int.fdiv (IntKind.wrap .i64 ((IntKind.wrap .i64 (x0.h * 0x5851f42d4c957f2d)) + 0x14057b7ef767814f)) (2 ^ min ((33 : Int)).toNat (IntKind.bits .i64))) ^^^ BitVec.ofInt (IntKind.bits .i64) (Int.fdiv (IntKind.wrap .i64 ((IntKind.wrap .i64 (x0.h * 0x5851f42d4c957f2d)) + 0x14057b7ef767814f)) (2 ^ min ((47 : Int)).toNat (IntKind.bits .i64)))).toNat) &&& BitVec.ofInt (IntKind.bits .i64) 255).toNat),sA 0 0 3 0],[(0,[cF 1 x0.b zN,cI x0.i,cI (IntKind.wrap .i64 ((IntKind.wrap .i64 (x0.h * 0x5851f42d4c957f2d)) + 0x14057b7ef767814f))])]⟩ ?_
 cases h1 : (decide (x0.i < (x0.b.length : Int)))
 ·have H := zI h1 H
  refine nB_ ?_
  refine tK ?_
  refine gA 2 5 1 ?_
  refine te ?_
  obtain rfl := si H
  exact Fin.ofY _ [(false,[cI (IntKind.wrap .i64 (BitVec.ofInt (IntKind.bits .i64) (IntKind.wrap .i64 (BitVec.ofInt (IntKind.bits .i64) (Int.fdiv (IntKind.wrap .i64 ((IntKind.wrap .i64 (x0.h * 0x5851f42d4c957f2d)) + 0x14057b7ef767814f)) (2 ^ min ((33 : Int)).toNat (IntKind.bits .i64))) ^^^ BitVec.ofInt (IntKind.bits .i64) (Int.fdiv (IntKind.wrap .i64 ((IntKind.wrap .i64 (x0.h * 0x5851f42d4c957f2d)) + 0x14057b7ef767814f)) (2 ^ min ((47 : Int)).toNat (IntKind.bits .i64)))).toNat) &&& BitVec.ofInt (IntKind.bits .i64) 255).toNat)])] [] _ [] _ [(0,[cF 1 x0.b zN,cI x0.i,cI (IntKind.wrap .i64 ((IntKind.wrap .i64 (x0.h * 0x5851f42d4c957f2d)) + 0x14057b7ef767814f))])] kr rfl rfl rfl kr kr kr kr rfl rfl rfl
 have H := zJ h1 H
 refine tB_ ?_
 obtain ⟨v3,ev3,H⟩ := bs H
 refine Tr.draws mixed 15 kr ⟨58,1,[sI 3 (IntKind.wrap .i64 (BitVec.ofInt (IntKind.bits .i64) (IntKind.wrap .i64 ((IntKind.wrap .i64 (BitVec.ofInt (IntKind.bits .i64) (IntKind.wrap .i64 (BitVec.ofInt (IntKind.bits .i64) (Int.fdiv (IntKind.wrap .i64 ((IntKind.wrap .i64 (x0.h * 0x5851f42d4c957f2d)) + 0x14057b7ef767814f)) (2 ^ min ((33 : Int)).toNat (IntKind.bits .i64))) ^^^ BitVec.ofInt (IntKind.bits .i64) (Int.fdiv (IntKind.wrap .i64 ((IntKind.wrap .i64 (x0.h * 0x5851f42d4c957f2d)) + 0x14057b7ef767814f)) (2 ^ min ((47 : Int)).toNat (IntKind.bits .i64)))).toNat) &&& BitVec.ofInt (IntKind.bits .i64) 255).toNat) + (IntKind.wrap .i64 v3))) &&& BitVec.ofInt (IntKind.bits .i64) 255).toNat),sA 0 0 3 0],[(0,[cF 1 x0.b zN,cI x0.i,cI (IntKind.wrap .i64 ((IntKind.wrap .i64 (x0.h * 0x5851f42d4c957f2d)) + 0x14057b7ef767814f))])]⟩ (fun cx => ?_) ?_
 ·refine mA zEG [(0,[]),(1,[]),(2,[]),(3,[]),(4,[]),(5,[]),(6,[]),(7,[]),(8,[])] 6 [⟨[],3,42,43⟩,⟨[],22,38,39⟩] fun cx => ?_
  refine iN zEG 9 zN ev3 fun cx => ?_
  refine mA zEG [(10,[]),(11,[]),(12,[]),(13,[]),(14,[])] 0 [⟨[],3,42,43⟩,⟨[],22,38,39⟩] fun cx => ?_
  exact mE zEG [3,0] [0]
 refine eA 9 9 1 ?_
 refine gA 2 5 1 ?_
 refine te ?_
 obtain rfl := si H
 exact Fin.ofY _ [(false,[cI (IntKind.wrap .i64 (BitVec.ofInt (IntKind.bits .i64) (IntKind.wrap .i64 ((IntKind.wrap .i64 (BitVec.ofInt (IntKind.bits .i64) (IntKind.wrap .i64 (BitVec.ofInt (IntKind.bits .i64) (Int.fdiv (IntKind.wrap .i64 ((IntKind.wrap .i64 (x0.h * 0x5851f42d4c957f2d)) + 0x14057b7ef767814f)) (2 ^ min ((33 : Int)).toNat (IntKind.bits .i64))) ^^^ BitVec.ofInt (IntKind.bits .i64) (Int.fdiv (IntKind.wrap .i64 ((IntKind.wrap .i64 (x0.h * 0x5851f42d4c957f2d)) + 0x14057b7ef767814f)) (2 ^ min ((47 : Int)).toNat (IntKind.bits .i64)))).toNat) &&& BitVec.ofInt (IntKind.bits .i64) 255).toNat) + (IntKind.wrap .i64 v3))) &&& BitVec.ofInt (IntKind.bits .i64) 255).toNat)])] [] _ [] _ [(0,[cF 1 x0.b zN,cI (IntKind.wrap .i64 (x0.i + 1)),cI (IntKind.wrap .i64 ((IntKind.wrap .i64 (x0.h * 0x5851f42d4c957f2d)) + 0x14057b7ef767814f))])] kr rfl rfl rfl kr kr kr kr rfl rfl rfl
def zT (n : Nat) (x0 : Src) (x1 : Int) : Option (Int × Src) :=
  (bif (decide (x1 ≤ 0)) then (some (0,x0)) else (bif (decide (x1 ≤ 256)) then ((ZJ n x0).bind fun r5 => (bif (decide ((x1 : Int) ≠ 0)) then (some ((Int.tmod r5.1 x1),r5.2)) else none)) else ((ZJ n x0).bind fun r1 => ((ZJ n r1.2).bind fun r2 => ((ZJ n r2.2).bind fun r3 => (bif (decide ((x1 : Int) ≠ 0)) then (some ((Int.tmod (IntKind.wrap .i64 ((IntKind.wrap .i64 ((IntKind.wrap .i64 (r1.1 * 65536)) + (IntKind.wrap .i64 (r2.1 * 256)))) + r3.1)) x1),r3.2)) else none))))))
noncomputable abbrev G54 (k : Nat) := Rg Try.f54 k
theorem zm (n : Nat) (x0 : Src) (x1 : Int) (r : Int × Src) (H : zT n x0 x1 = some r) : zG Try.prog 54 [.ptr (CV.frzRow (Src.row x0)),.val false [.lit (.int .i64 x1)]] [.val false [.lit (.int .i64 r.1)]] [(0,(CV.frzRow (Src.row r.2)))] := by
 refine zG.of_body tOk Try.func54 rfl (c := (.seq (G54 0) (.seq (.seq (G54 1) (.cond (.tmp 9) (.seq (G54 2) .ret) .skip)) (.seq (.seq (G54 3) (.cond (.tmp 11) (.seq (G54 4) .ret) .skip)) (.seq (G54 5) (.seq (G54 6) (.seq (G54 7) (.seq (G54 8) .ret)))))))) kr (Nat.le_of_ble_eq_true kr) 1 (rs := [.tmp 4]) rfl [] .nil [(false,[.lit (.int .i64 r.1)])] [] [(0,(CV.frzRow (Src.row r.2)))] fun cx => ?_
 show Tr _ _ _ ⟨31,1,[sA 0 0 3 0,sI 1 x1],[(0,(CV.frzRow (Src.row x0)))]⟩ _
 unfold zT at H
 refine gA 1 3 1 ?_
 refine tS ?_
 refine gA 2 515 1 ?_
 obtain ⟨h1,H⟩ | ⟨h1,H⟩ := bC H
 ·refine nA h1 ?_
  refine tK ?_
  refine tS ?_
  refine gA 2 2051 1 ?_
  obtain ⟨h2,H⟩ | ⟨h2,H⟩ := bC H
  ·refine nA h2 ?_
   refine tK ?_
   refine rA 1 ?_
   obtain ⟨r1,er1,H⟩ := bs H
   refine LAt.callL tOk [.lend] (f := 124) (av := #[.tmp 16]) (ats := #[100]) (d := (some 17)) (ty := 3) (g := none) kr kr kr [] (JM n x0 r1 er1) kr (.inl rfl) ?_
   refine uA 1 35 1 ?_
   refine rA 1 ?_
   obtain ⟨r2,er2,H⟩ := bs H
   refine LAt.callL tOk [.lend] (f := 124) (av := #[.tmp 18]) (ats := #[100]) (d := (some 19)) (ty := 3) (g := none) kr kr kr [] (JM n r1.2 r2 er2) kr (.inl rfl) ?_
   refine uA 1 99 1 ?_
   refine rA 1 ?_
   obtain ⟨r3,er3,H⟩ := bs H
   refine LAt.callL tOk [.lend] (f := 124) (av := #[.tmp 20]) (ats := #[100]) (d := (some 21)) (ty := 3) (g := none) kr kr kr [] (JM n r2.2 r3 er3) kr (.inl rfl) ?_
   refine uA 1 227 1 ?_
   refine rA 8 ?_
   obtain ⟨hg4,H⟩ := gs H
   refine LAt.binC tOk (op := .rem) (t := 3) (ty := 3) (ty' := 3) (x := (.tmp 28)) (y := (.tmp 29)) (d := 30) (g := none) (.int .i64 (IntKind.wrap .i64 ((IntKind.wrap .i64 ((IntKind.wrap .i64 (r1.1 * 65536)) + (IntKind.wrap .i64 (r2.1 * 256)))) + r3.1))) (.int .i64 x1) (.int .i64 (Int.tmod (IntKind.wrap .i64 ((IntKind.wrap .i64 ((IntKind.wrap .i64 (r1.1 * 65536)) + (IntKind.wrap .i64 (r2.1 * 256)))) + r3.1)) x1)) _ kr kr kr kr kr (φ := (IntKind.i64 = IntKind.i64 ∧ (x1 : Int) ≠ 0)) kr (⟨rfl,of_decide_eq_true hg4⟩) rfl ?_
   refine uA 1 17 1 ?_
   refine te ?_
   obtain rfl := si H
   exact Fin.ofY _ [(false,[cI (Int.tmod (IntKind.wrap .i64 ((IntKind.wrap .i64 ((IntKind.wrap .i64 (r1.1 * 65536)) + (IntKind.wrap .i64 (r2.1 * 256)))) + r3.1)) x1)])] [] _ [] _ [(0,(CV.frzRow (Src.row r3.2)))] kr rfl rfl rfl kr kr kr kr rfl rfl rfl
  refine tA h2 ?_
  refine rA 1 ?_
  obtain ⟨r5,er5,H⟩ := bs H
  refine LAt.callL tOk [.lend] (f := 124) (av := #[.tmp 12]) (ats := #[100]) (d := (some 13)) (ty := 3) (g := none) kr kr kr [] (JM n x0 r5 er5) kr (.inl rfl) ?_
  refine lA 1 ?_
  obtain ⟨hg6,H⟩ := gs H
  refine LAt.binC tOk (op := .rem) (t := 3) (ty := 3) (ty' := 3) (x := (.tmp 13)) (y := (.tmp 14)) (d := 15) (g := none) (.int .i64 r5.1) (.int .i64 x1) (.int .i64 (Int.tmod r5.1 x1)) _ kr kr kr kr kr (φ := (IntKind.i64 = IntKind.i64 ∧ (x1 : Int) ≠ 0)) kr (⟨rfl,of_decide_eq_true hg6⟩) rfl ?_
  refine uA 1 17 1 ?_
  refine te ?_
  obtain rfl := si H
  exact Fin.ofY _ [(false,[cI (Int.tmod r5.1 x1)])] [] _ [] _ [(0,(CV.frzRow (Src.row r5.2)))] kr rfl rfl rfl kr kr kr kr rfl rfl rfl
 refine tA h1 ?_
 refine gA 1 17 1 ?_
 refine te ?_
 obtain rfl := si H
 exact Fin.ofY _ [(false,[cI 0])] [] _ [] _ [(0,(CV.frzRow (Src.row x0)))] kr rfl rfl rfl kr kr kr kr rfl rfl rfl
def zQ (n : Nat) (x0 : Int) (x1 : Int) (x2 : Int) : Option (Bool) :=
  (bif (decide (x0 ≥ x1)) then (some (decide (x0 ≤ x2))) else (some false))
theorem zP (n : Nat) (x0 : Int) (x1 : Int) (x2 : Int) (r : Bool) (H : zQ n x0 x1 x2 = some r) : zG Try.prog 88 [.val false [.lit (.int .i64 x0)],.val false [.lit (.int .i64 x1)],.val false [.lit (.int .i64 x2)]] [.val false [.lit (.bool r)]] [] := by
 refine cW Try.func88 (fun g d => sl [g 0,g 1] .ret) [.tmp 6] fun cx => ?_
 unfold zQ at H
 refine gA 1 7 0 ?_
 refine rA 4 ?_
 refine sL 1029 0 ⟨15,0,[sB 10 (decide (x0 ≥ x1)),sI 0 x0,sI 2 x2],[]⟩ ?_
 cases h1 : (decide (x0 ≥ x1))
 ·have H := zI h1 H
  refine uA 5 64 0 ?_
  exact te (fF H)
 have H := zJ h1 H
 refine uA 5 64 0 ?_
 exact te (fJ [(false,[cB (decide (x0 ≤ x2))])] H)
def Ql (n : Nat) (x0 : Int) (y5 : (List Int)) : Option (zC) :=
  (some (⟨[(⟨1,(IntKind.wrap .i64 ((IntKind.wrap .i64 (1 * 2 ^ min (((IntKind.wrap .u64 x0) : Int)).toNat (IntKind.bits .i64))) - 1)),(IntKind.wrap .i64 ((IntKind.wrap .i64 (1 * 2 ^ min (((IntKind.wrap .u64 x0) : Int)).toNat (IntKind.bits .i64))) - 1))⟩ : zB)],y5⟩ : zC))
def ZD (n : Nat) : Nat → Int → Int → (List Int) → Option (((List Int)) ⊕ (zC))
  | 0,_,_,_ => none
  | mo6 + 1,x0,y3,y4 => (bif (decide (y3 < x0)) then (bif (decide (y4.length + [1].length ≤ 268435456)) then (ZD n mo6 x0 (IntKind.wrap .i64 (y3 + 1)) (y4 ++ [1])) else none) else (some (Sum.inl y4)))
def QH (n : Nat) (x0 : Int) : Option (zC) :=
  ((zQ n x0 1 6).bind fun r1 => (bif (!r1) then (some (⟨([] : List zB),([] : List Int)⟩ : zC)) else (bif (decide ((0 : Int) ≤ (IntKind.wrap .u64 x0))) then ((ZD n n x0 0 ([] : List Int)).bind fun o => match o with | .inl y5 => (Ql n x0 y5) | .inr r => some r) else none)))
theorem zDD (n : Nat) (x0 : Int) (r : zC) (H : QH n x0 = some r) : zG Try.prog 43 [.val false [.lit (.int .i64 x0)]] [.val true (zC.row r)] [] := by
 refine cW Try.func43 (fun g d => sl [g 0,sl [g 1] (cn 8 (sl [g 2] .ret) .skip),g 3,g 4,sl [g 5] (.block 0 (.loop (sl [sl [g 6] (cn 21 .skip (.exit 0)),.block 1 (g 8)] (g 7)))),g 9] .ret) [.cell 2 29] fun cx => ?_
 unfold QH at H
 refine gA 1 5 4 ?_
 refine tS ?_
 refine rA 1 ?_
 obtain ⟨r1,er1,H⟩ := bs H
 refine vA [.rd,.rd,.rd] (zP n x0 1 6 r1 er1) ?_
 refine uA 1 261 4 ?_
 obtain ⟨h1,H⟩ | ⟨h1,H⟩ := bC H
 ·refine nA h1 ?_
  refine tK ?_
  refine rA 2 ?_
  obtain ⟨hg2,H⟩ := gs H
  refine LAt.binC tOk (op := .shl) (t := 3) (ty := 112) (ty' := 3) (x := (.const (.int .i64 1))) (y := (.tmp 11)) (d := 12) (g := none) (.int .i64 1) (.int .u64 (IntKind.wrap .u64 x0)) (.int .i64 (IntKind.wrap .i64 (1 * 2 ^ min (((IntKind.wrap .u64 x0) : Int)).toNat (IntKind.bits .i64)))) _ kr kr kr kr kr (φ := (0 : Int) ≤ (IntKind.wrap .u64 x0)) kr (of_decide_eq_true hg2) rfl ?_
  refine uA 2 13 4 ?_
  refine gA 7 21 20 ?_
  refine tS ?_
  refine gA 1 53 20 ?_
  obtain ⟨o6,eo6,Ho6⟩ := bs H
  clear H
  refine Tr.mid (ι := (List Int)) (fun v => ⟨30,0,[sA 4 4 2 0,sA 2 2 2 0],[(4,[cL 3 [(⟨1,(IntKind.wrap .i64 ((IntKind.wrap .i64 (1 * 2 ^ min (((IntKind.wrap .u64 x0) : Int)).toNat (IntKind.bits .i64))) - 1)),(IntKind.wrap .i64 ((IntKind.wrap .i64 (1 * 2 ^ min (((IntKind.wrap .u64 x0) : Int)).toNat (IntKind.bits .i64))) - 1))⟩ : zB)] zB.row,cL 1 v intRow]),(2,[cL 3 ([] : List zB) zB.row,cL 1 ([] : List Int) intRow])]⟩) (fun v => Ql n x0 v = some r) ?_ ?_
  ·refine tB ?_
   refine Tr.loop (ι := Nat × (Int × (List Int))) (fun v => ⟨30,0,[sI 5 v.2.1,sA 4 4 2 0,sA 2 2 2 0,sI 0 x0],[(4,[cL 3 [(⟨1,(IntKind.wrap .i64 ((IntKind.wrap .i64 (1 * 2 ^ min (((IntKind.wrap .u64 x0) : Int)).toNat (IntKind.bits .i64))) - 1)),(IntKind.wrap .i64 ((IntKind.wrap .i64 (1 * 2 ^ min (((IntKind.wrap .u64 x0) : Int)).toNat (IntKind.bits .i64))) - 1))⟩ : zB)] zB.row,cL 1 v.2.2 intRow]),(2,[cL 3 ([] : List zB) zB.row,cL 1 ([] : List Int) intRow])]⟩) (fun v => ZD n v.1 x0 v.2.1 v.2.2 = some o6) (fun v => v.1) (n,(0,([] : List Int))) eo6 (St.sub_of [5,4,2,0] [4,2] kr) ?_
   rintro ⟨mo6,y3,y4⟩ H
   have H : ZD n mo6 x0 y3 y4 = some o6 := H
   obtain _ | mo6 := mo6
   ·exact nN H
   rw [ZD] at H
   refine tS ?_
   refine gA 3 2097205 20 ?_
   obtain ⟨h2,H⟩ | ⟨h2,H⟩ := bC H
   ·refine nA h2 ?_
    refine Tr.exit ?_
    refine aJ ?_
    obtain rfl := si H
    have H := Ho6
    dsimp only at H
    exact jA y4 H [4,2] [4,2]
   refine tA h2 ?_
   refine tK ?_
   refine tS ?_
   refine tB ?_
   refine Tr.at ?_
   refine lA 3 ?_
   obtain ⟨hg7,H⟩ := gs H
   refine LAt.appMU tOk (t := 27) (ty := 27) (e := 3) (x := (.tmp 25)) (y := (.tmp 26)) (d := 27) (g := none) (tI 3) intRow y4 [1] kr kr kr kr kr kr kr kr kr kr hg7 ?_
   refine uA 2 53 20 ?_
   refine eA 3 53 20 ?_
   exact jB mo6 ((IntKind.wrap .i64 (y3 + 1)),(y4 ++ [1])) H [5,4,2,0] [4,2]
  rintro y5 H
  have H : (Ql n x0 y5) = some r := H
  unfold Ql at H
  refine gA 2 4 4 ?_
  exact te (fJ [(true,[cL 3 [(⟨1,(IntKind.wrap .i64 ((IntKind.wrap .i64 (1 * 2 ^ min (((IntKind.wrap .u64 x0) : Int)).toNat (IntKind.bits .i64))) - 1)),(IntKind.wrap .i64 ((IntKind.wrap .i64 (1 * 2 ^ min (((IntKind.wrap .u64 x0) : Int)).toNat (IntKind.bits .i64))) - 1))⟩ : zB)] zB.row,cL 1 y5 intRow])] H)
 refine tA h1 ?_
 refine gA 2 4 4 ?_
 exact te (fJ [(true,[cL 3 ([] : List zB) zB.row,cL 1 ([] : List Int) intRow])] H)
def Qr (n : Nat) (r3 : zC) (x0 : Int) (y6 : (List Pt)) : Option (zD) :=
  (some (⟨x0,(⟨#[]⟩ : ByteArray),y6,([] : List zA),r3,0,0,0,0,0⟩ : zD))
def QJ (n : Nat) : Nat → Int → Int → (List Pt) → Option (((List Pt)) ⊕ (zD))
  | 0,_,_,_ => none
  | mo7 + 1,x1,y4,y5 => (bif (decide (y4 < x1)) then (bif (decide (y5.length + [(⟨false,1,false,(⟨0,0,0,0,0⟩ : Vec)⟩ : Pt)].length ≤ 268435456)) then (QJ n mo7 x1 (IntKind.wrap .i64 (y4 + 1)) (y5 ++ [(⟨false,1,false,(⟨0,0,0,0,0⟩ : Vec)⟩ : Pt)])) else none) else (some (Sum.inl y5)))
def Z9 (n : Nat) (x0 : Int) (x1 : Int) : Option (zD) :=
  ((zQ n x0 1 99).bind fun r1 => (bif (!r1) then (some (⟨0,(⟨#[]⟩ : ByteArray),([] : List Pt),([] : List zA),(⟨([] : List zB),([] : List Int)⟩ : zC),0,0,0,0,0⟩ : zD)) else ((zQ n x1 1 6).bind fun r2 => (bif (!r2) then (some (⟨0,(⟨#[]⟩ : ByteArray),([] : List Pt),([] : List zA),(⟨([] : List zB),([] : List Int)⟩ : zC),0,0,0,0,0⟩ : zD)) else ((QH n x1).bind fun r3 => ((QJ n n x1 0 ([] : List Pt)).bind fun o => match o with | .inl y6 => (Qr n r3 x0 y6) | .inr r => some r))))))
theorem zE8 (n : Nat) (x0 : Int) (x1 : Int) (r : zD) (H : Z9 n x0 x1 = some r) : zG Try.prog 117 [.val false [.lit (.int .i64 x0)],.val false [.lit (.int .i64 x1)]] [.val true (zD.row r)] [] := by
 refine cW Try.func117 (fun g d => sl [g 0,sl [g 1] (cn 14 (sl [g 2] .ret) .skip),g 3,sl [g 4] (.block 0 (.loop (sl [sl [g 5] (cn 22 .skip (.exit 0)),.block 1 (g 7)] (g 6)))),g 8] .ret) [.cell 4 31] fun cx => ?_
 unfold Z9 at H
 refine gA 1 19 16 ?_
 refine tS ?_
 refine rA 1 ?_
 obtain ⟨r1,er1,H⟩ := bs H
 refine vA [.rd,.rd,.rd] (zP n x0 1 99 r1 er1) ?_
 refine lA 2 ?_
 refine sL 1043 16 ⟨32,0,[sB 10 (!r1),sA 4 4 11 0,sI 0 x0,sI 1 x1],[(4,[cI 0,cS (⟨#[]⟩ : ByteArray),cL 8 ([] : List Pt) Pt.row,cL 5 ([] : List zA) zA.row,cL 3 ([] : List zB) zB.row,cL 1 ([] : List Int) intRow,cI 0,cI 0,cI 0,cI 0,cI 0])]⟩ ?_
 cases h1 : (!r1)
 ·have H := zI h1 H
  refine lA 1 ?_
  obtain ⟨r2,er2,H⟩ := bs H
  refine vA [.rd,.rd,.rd] (zP n x1 1 6 r2 er2) ?_
  refine uA 2 16403 16 ?_
  obtain ⟨h2,H⟩ | ⟨h2,H⟩ := bC H
  ·refine nA h2 ?_
   refine tK ?_
   refine rA 2 ?_
   obtain ⟨r3,er3,H⟩ := bs H
   refine vA [.rd] (zDD n x1 r3 er3) ?_
   refine uA 3 50 48 ?_
   refine tS ?_
   refine gA 1 114 48 ?_
   obtain ⟨o7,eo7,Ho7⟩ := bs H
   clear H
   refine Tr.mid (ι := (List Pt)) (fun v => ⟨32,0,[sA 5 5 11 0,sA 4 4 11 0],[(5,[cI x0,cS (⟨#[]⟩ : ByteArray),cL 8 v Pt.row,cL 5 ([] : List zA) zA.row,cL 3 r3.Rows zB.row,cL 1 r3.Pv intRow,cI 0,cI 0,cI 0,cI 0,cI 0]),(4,[cI 0,cS (⟨#[]⟩ : ByteArray),cL 8 ([] : List Pt) Pt.row,cL 5 ([] : List zA) zA.row,cL 3 ([] : List zB) zB.row,cL 1 ([] : List Int) intRow,cI 0,cI 0,cI 0,cI 0,cI 0])]⟩) (fun v => Qr n r3 x0 v = some r) ?_ ?_
   ·refine tB ?_
    refine Tr.loop (ι := Nat × (Int × (List Pt))) (fun v => ⟨32,0,[sI 6 v.2.1,sA 5 5 11 0,sA 4 4 11 0,sI 1 x1],[(5,[cI x0,cS (⟨#[]⟩ : ByteArray),cL 8 v.2.2 Pt.row,cL 5 ([] : List zA) zA.row,cL 3 r3.Rows zB.row,cL 1 r3.Pv intRow,cI 0,cI 0,cI 0,cI 0,cI 0]),(4,[cI 0,cS (⟨#[]⟩ : ByteArray),cL 8 ([] : List Pt) Pt.row,cL 5 ([] : List zA) zA.row,cL 3 ([] : List zB) zB.row,cL 1 ([] : List Int) intRow,cI 0,cI 0,cI 0,cI 0,cI 0])]⟩) (fun v => QJ n v.1 x1 v.2.1 v.2.2 = some o7) (fun v => v.1) (n,(0,([] : List Pt))) eo7 (St.sub_of [6,5,4,1] [5,4] kr) ?_
    rintro ⟨mo7,y4,y5⟩ H
    have H : QJ n mo7 x1 y4 y5 = some o7 := H
    obtain _ | mo7 := mo7
    ·exact nN H
    rw [QJ] at H
    refine tS ?_
    refine gA 3 4194418 48 ?_
    obtain ⟨h3,H⟩ | ⟨h3,H⟩ := bC H
    ·refine nA h3 ?_
     refine Tr.exit ?_
     refine aJ ?_
     obtain rfl := si H
     have H := Ho7
     dsimp only at H
     exact jA y5 H [5,4] [5,4]
    refine tA h3 ?_
    refine tK ?_
    refine tS ?_
    refine tB ?_
    refine Tr.at ?_
    refine lA 4 ?_
    obtain ⟨hg8,H⟩ := gs H
    refine LAt.appMU tOk (t := 24) (ty := 24) (e := 44) (x := (.tmp 26)) (y := (.tmp 28)) (d := 29) (g := none) (tI 44) Pt.row y5 [(⟨false,1,false,(⟨0,0,0,0,0⟩ : Vec)⟩ : Pt)] kr kr kr kr kr kr kr kr kr kr hg8 ?_
    refine uA 2 114 48 ?_
    refine eA 3 114 48 ?_
    exact jB mo7 ((IntKind.wrap .i64 (y4 + 1)),(y5 ++ [(⟨false,1,false,(⟨0,0,0,0,0⟩ : Vec)⟩ : Pt)])) H [6,5,4,1] [5,4]
   rintro y6 H
   have H : (Qr n r3 x0 y6) = some r := H
   unfold Qr at H
   refine gA 2 16 16 ?_
   exact te (fJ [(true,[cI x0,cS (⟨#[]⟩ : ByteArray),cL 8 y6 Pt.row,cL 5 ([] : List zA) zA.row,cL 3 r3.Rows zB.row,cL 1 r3.Pv intRow,cI 0,cI 0,cI 0,cI 0,cI 0])] H)
  refine tA h2 ?_
  refine gA 2 16 16 ?_
  exact te (fJ [(true,[cI 0,cS (⟨#[]⟩ : ByteArray),cL 8 ([] : List Pt) Pt.row,cL 5 ([] : List zA) zA.row,cL 3 ([] : List zB) zB.row,cL 1 ([] : List Int) intRow,cI 0,cI 0,cI 0,cI 0,cI 0])] H)
 have H := zJ h1 H
 refine uA 4 16403 16 ?_
 refine tB_ ?_
 refine gA 2 16 16 ?_
 exact te (fJ [(true,[cI 0,cS (⟨#[]⟩ : ByteArray),cL 8 ([] : List Pt) Pt.row,cL 5 ([] : List zA) zA.row,cL 3 ([] : List zB) zB.row,cL 1 ([] : List Int) intRow,cI 0,cI 0,cI 0,cI 0,cI 0])] H)
def JO (n : Nat) (x0 : Src) (x1 : (List ByteArray)) : Option (ByteArray × Src) :=
  ((zT n x0 (x1.length : Int)).bind fun r1 => ((idx x1 r1.1).bind fun v2 => (some (v2,r1.2))))
noncomputable abbrev zI3 (k : Nat) := Rg Try.f118 k
theorem zHi (n : Nat) (x0 : Src) (x1 : (List ByteArray)) (r : ByteArray × Src) (H : JO n x0 x1 = some r) : zG Try.prog 118 [.ptr (CV.frzRow (Src.row x0)),.val false [.sl false 1 (CV.frzEs (x1.map zEr))]] [.val false [.lit (.string r.1)]] [(0,(CV.frzRow (Src.row r.2)))] := by
 refine zG.of_body tOk Try.func118 rfl (c := (.seq (zI3 0) (.seq (zI3 1) .ret))) kr (Nat.le_of_ble_eq_true kr) 1 (rs := [.tmp 4]) rfl [] .nil [(false,[.lit (.string r.1)])] [] [(0,(CV.frzRow (Src.row r.2)))] fun cx => ?_
 show Tr _ _ _ ⟨12,1,[sA 0 0 3 0,sC 1 (cF 1 x1 zEr)],[(0,(CV.frzRow (Src.row x0)))]⟩ _
 unfold JO at H
 refine gA 1 3 1 ?_
 refine rA 3 ?_
 refine kF x1 zEr ?_
 obtain ⟨r1,er1,H⟩ := bs H
 refine LAt.callL tOk [.lend,.rd] (f := 54) (av := #[.tmp 6,.tmp 8]) (ats := #[100,3]) (d := (some 9)) (ty := 3) (g := none) kr kr kr [] (zm n x0 (x1.length : Int) r1 er1) kr (.inl rfl) ?_
 obtain ⟨v2,ev2,H⟩ := bs H
 refine iA zEr ev2 ?_
 refine uA 2 17 1 ?_
 refine te ?_
 obtain rfl := si H
 exact Fin.ofY _ [(false,[cS v2])] [] _ [] _ [(0,(CV.frzRow (Src.row r1.2)))] kr rfl rfl rfl kr kr kr kr rfl rfl rfl
def Zj (n : Nat) (x0 : Src) (x1 : Int) : Option (Bool × Src) :=
  ((zT n x0 x1).bind fun r1 => (some ((r1.1 == 0),r1.2)))
noncomputable abbrev zI5 (k : Nat) := Rg Try.f122 k
theorem zBu (n : Nat) (x0 : Src) (x1 : Int) (r : Bool × Src) (H : Zj n x0 x1 = some r) : zG Try.prog 122 [.ptr (CV.frzRow (Src.row x0)),.val false [.lit (.int .i64 x1)]] [.val false [.lit (.bool r.1)]] [(0,(CV.frzRow (Src.row r.2)))] := by
 refine zG.of_body tOk Try.func122 rfl (c := (.seq (zI5 0) (.seq (zI5 1) .ret))) kr (Nat.le_of_ble_eq_true kr) 1 (rs := [.tmp 4]) rfl [] .nil [(false,[.lit (.bool r.1)])] [] [(0,(CV.frzRow (Src.row r.2)))] fun cx => ?_
 show Tr _ _ _ ⟨9,1,[sA 0 0 3 0,sI 1 x1],[(0,(CV.frzRow (Src.row x0)))]⟩ _
 unfold Zj at H
 refine gA 1 3 1 ?_
 refine rA 2 ?_
 obtain ⟨r1,er1,H⟩ := bs H
 refine LAt.callL tOk [.lend,.rd] (f := 54) (av := #[.tmp 5,.tmp 6]) (ats := #[100,3]) (d := (some 7)) (ty := 3) (g := none) kr kr kr [] (zm n x0 x1 r1 er1) kr (.inl rfl) ?_
 refine uA 2 17 1 ?_
 refine te ?_
 obtain rfl := si H
 exact Fin.ofY _ [(false,[cB (r1.1 == 0)])] [] _ [] _ [(0,(CV.frzRow (Src.row r1.2)))] kr rfl rfl rfl kr kr kr kr rfl rfl rfl
def ql (n : Nat) (x0 : Src) (x1 : (List Int)) : Option (Int × Src) :=
  ((zT n x0 (x1.length : Int)).bind fun r1 => ((idx x1 r1.1).bind fun v2 => (some (v2,r1.2))))
noncomputable abbrev G56 (k : Nat) := Rg Try.f56 k
theorem QN (n : Nat) (x0 : Src) (x1 : (List Int)) (r : Int × Src) (H : ql n x0 x1 = some r) : zG Try.prog 56 [.ptr (CV.frzRow (Src.row x0)),.val false [.sl false 1 (CV.frzEs (x1.map intRow))]] [.val false [.lit (.int .i64 r.1)]] [(0,(CV.frzRow (Src.row r.2)))] := by
 refine zG.of_body tOk Try.func56 rfl (c := (.seq (G56 0) (.seq (G56 1) .ret))) kr (Nat.le_of_ble_eq_true kr) 1 (rs := [.tmp 4]) rfl [] .nil [(false,[.lit (.int .i64 r.1)])] [] [(0,(CV.frzRow (Src.row r.2)))] fun cx => ?_
 show Tr _ _ _ ⟨12,1,[sA 0 0 3 0,sC 1 (cF 1 x1 intRow)],[(0,(CV.frzRow (Src.row x0)))]⟩ _
 unfold ql at H
 refine gA 1 3 1 ?_
 refine rA 3 ?_
 refine kF x1 intRow ?_
 obtain ⟨r1,er1,H⟩ := bs H
 refine LAt.callL tOk [.lend,.rd] (f := 54) (av := #[.tmp 6,.tmp 8]) (ats := #[100,3]) (d := (some 9)) (ty := 3) (g := none) kr kr kr [] (zm n x0 (x1.length : Int) r1 er1) kr (.inl rfl) ?_
 obtain ⟨v2,ev2,H⟩ := bs H
 refine iA intRow ev2 ?_
 refine uA 2 17 1 ?_
 refine te ?_
 obtain rfl := si H
 exact Fin.ofY _ [(false,[cI v2])] [] _ [] _ [(0,(CV.frzRow (Src.row r1.2)))] kr rfl rfl rfl kr kr kr kr rfl rfl rfl
def Yz (n : Nat) (x0 : Src) : Option (Vec × Src) :=
  ((zT n x0 5).bind fun r1 => ((ql n r1.2 [0,1,2,5,10,100]).bind fun r2 => ((ql n r2.2 [0,1,2,9,10]).bind fun r3 => ((zT n r3.2 5).bind fun r4 => ((zT n r4.2 4).bind fun r5 => (some ((⟨(IntKind.wrap .i64 (1 + r1.1)),r2.1,r3.1,(IntKind.wrap .i64 (1 + r4.1)),r5.1⟩ : Vec),r5.2)))))))
noncomputable abbrev zI6 (k : Nat) := Rg Try.f127 k
theorem zG0 (n : Nat) (x0 : Src) (r : Vec × Src) (H : Yz n x0 = some r) : zG Try.prog 127 [.ptr (CV.frzRow (Src.row x0))] [.val true (Vec.row r.1)] [(0,(CV.frzRow (Src.row r.2)))] := by
 refine zG.of_body tOk Try.func127 rfl (c := (.seq (zI6 0) (.seq (zI6 1) .ret))) kr (Nat.le_of_ble_eq_true kr) 1 (rs := [.cell 2 35]) rfl [] .nil [(true,(Vec.row r.1))] [] [(0,(CV.frzRow (Src.row r.2)))] fun cx => ?_
 show Tr _ _ _ ⟨18,1,[sA 0 0 3 0],[(0,(CV.frzRow (Src.row x0)))]⟩ _
 unfold Yz at H
 refine gA 1 5 5 ?_
 refine rA 1 ?_
 obtain ⟨r1,er1,H⟩ := bs H
 refine LAt.callL tOk [.lend,.rd] (f := 54) (av := #[.tmp 3,.const (.int .i64 5)]) (ats := #[100,3]) (d := (some 4)) (ty := 3) (g := none) kr kr kr [] (zm n x0 5 r1 er1) kr (.inl rfl) ?_
 refine lA 3 ?_
 obtain ⟨r2,er2,H⟩ := bs H
 refine LAt.callL tOk [.lend,.rd] (f := 56) (av := #[.tmp 6,.tmp 7]) (ats := #[100,27]) (d := (some 8)) (ty := 3) (g := none) kr kr kr [] (QN n r1.2 [0,1,2,5,10,100] r2 er2) kr (.inl rfl) ?_
 refine lA 2 ?_
 obtain ⟨r3,er3,H⟩ := bs H
 refine LAt.callL tOk [.lend,.rd] (f := 56) (av := #[.tmp 9,.tmp 10]) (ats := #[100,27]) (d := (some 11)) (ty := 3) (g := none) kr kr kr [] (QN n r2.2 [0,1,2,9,10] r3 er3) kr (.inl rfl) ?_
 refine lA 1 ?_
 obtain ⟨r4,er4,H⟩ := bs H
 refine LAt.callL tOk [.lend,.rd] (f := 54) (av := #[.tmp 12,.const (.int .i64 5)]) (ats := #[100,3]) (d := (some 13)) (ty := 3) (g := none) kr kr kr [] (zm n r3.2 5 r4 er4) kr (.inl rfl) ?_
 refine lA 2 ?_
 obtain ⟨r5,er5,H⟩ := bs H
 refine LAt.callL tOk [.lend,.rd] (f := 54) (av := #[.tmp 15,.const (.int .i64 4)]) (ats := #[100,3]) (d := (some 16)) (ty := 3) (g := none) kr kr kr [] (zm n r4.2 4 r5 er5) kr (.inl rfl) ?_
 refine uA 2 5 5 ?_
 refine te ?_
 obtain rfl := si H
 exact Fin.ofY _ [(true,[cI (IntKind.wrap .i64 (1 + r1.1)),cI r2.1,cI r3.1,cI (IntKind.wrap .i64 (1 + r4.1)),cI r5.1])] [] _ [] _ [(0,(CV.frzRow (Src.row r5.2)))] kr rfl rfl rfl kr kr kr kr rfl rfl rfl
def Yc (n : Nat) (y6 : (List Pt)) (y7 : (List Int)) (y8 : Int) (y9 : Int) : Option ((List Pt) × Src) :=
  (some (y6,(⟨y7,y8,y9⟩ : Src)))
def Zg (n : Nat) (k : (Int × (List Pt) × (List Int) × Int × Int → Option (((List Pt) × (List Int) × Int × Int) ⊕ ((List Pt) × Src)))) (r12 : Int × Src) (y1 : Int) (y2 : (List Pt)) (y13 : Bool) (y14 : Bool) (y15 : Int) (y16 : Int) (y17 : Int) (y18 : Int) (y19 : Int) (y20 : (List Int)) (y21 : Int) (y22 : Int) : Option (((List Pt) × (List Int) × Int × Int) ⊕ ((List Pt) × Src)) :=
  (bif (decide (y2.length + [(⟨y13,r12.1,y14,(⟨y15,y16,y17,y18,y19⟩ : Vec)⟩ : Pt)].length ≤ 268435456)) then (k ((IntKind.wrap .i64 (y1 + 1)),(y2 ++ [(⟨y13,r12.1,y14,(⟨y15,y16,y17,y18,y19⟩ : Vec)⟩ : Pt)]),y20,y21,y22)) else none)
def qM (n : Nat) : Nat → Int → Int → (List Pt) → (List Int) → Int → Int → Option (((List Pt) × (List Int) × Int × Int) ⊕ ((List Pt) × Src))
  | 0,_,_,_,_,_,_ => none
  | mo10 + 1,x1,y1,y2,y3,y4,y5 => (bif (decide (y1 < x1)) then ((Zj n (⟨y3,y4,y5⟩ : Src) 4).bind fun r11 => ((ql n r11.2 [1,1,2,5,10]).bind fun r12 => (bif (!r11.1) then ((Zj n r12.2 4).bind fun r24 => (bif (!r24.1) then ((Yz n r24.2).bind fun r25 => (Zg n (fun v => qM n mo10 x1 v.1 v.2.1 v.2.2.1 v.2.2.2.1 v.2.2.2.2) r12 y1 y2 true true r25.1.Root r25.1.Co r25.1.Hops r25.1.Bridge r25.1.Port r25.2.b r25.2.i r25.2.h)) else (Zg n (fun v => qM n mo10 x1 v.1 v.2.1 v.2.2.1 v.2.2.2.1 v.2.2.2.2) r12 y1 y2 true false 0 0 0 0 0 r24.2.b r24.2.i r24.2.h))) else (Zg n (fun v => qM n mo10 x1 v.1 v.2.1 v.2.2.1 v.2.2.2.1 v.2.2.2.2) r12 y1 y2 false false 0 0 0 0 0 r12.2.b r12.2.i r12.2.h)))) else (some (Sum.inl (y2,y3,y4,y5))))
def YI (n : Nat) (x0 : Src) (x1 : Int) : Option ((List Pt) × Src) :=
  ((qM n n x1 0 ([] : List Pt) x0.b x0.i x0.h).bind fun o => match o with | .inl (y6,y7,y8,y9) => (Yc n y6 y7 y8 y9) | .inr r => some r)
noncomputable abbrev zA7 (k : Nat) := Rg Try.f119 k
theorem zGX (n : Nat) (x0 : Src) (x1 : Int) (r : (List Pt) × Src) (H : YI n x0 x1 = some r) : zG Try.prog 119 [.ptr (CV.frzRow (Src.row x0)),.val false [.lit (.int .i64 x1)]] [.val false [.sl true 8 (r.1.map Pt.row)]] [(0,(CV.frzRow (Src.row r.2)))] := by
 refine zG.of_body tOk Try.func119 rfl (c := (.seq (zA7 0) (.seq (zA7 1) (.seq (.seq (zA7 2) (.block 0 (.loop (.seq (.seq (zA7 3) (.cond (.tmp 11) .skip (.exit 0))) (.seq (.block 1 (.seq (zA7 5) (.seq (.seq (zA7 6) (.cond (.tmp 27) (.seq (zA7 7) (zA7 8)) .skip)) (zA7 9)))) (zA7 4)))))) (.seq (zA7 10) .ret))))) kr (Nat.le_of_ble_eq_true kr) 1 (rs := [.tmp 4]) rfl [] .nil [(false,[.sl true 8 (r.1.map Pt.row)])] [] [(0,(CV.frzRow (Src.row r.2)))] fun cx => ?_
 show Tr _ _ _ ⟨37,1,[sA 0 0 3 0,sI 1 x1],[(0,(CV.frzRow (Src.row x0)))]⟩ _
 unfold YI at H
 refine gA 1 3 1 ?_
 refine rA 1 ?_
 refine LAt.moveU (T := lk tab) (ty := 24) (x := (.tmp 8)) (d := 5) (g := none) false [cL 8 ([] : List Pt) Pt.row] kr kr kr kr kr ?_
 refine dA 35 1 ?_
 refine tS ?_
 refine gA 1 99 1 ?_
 obtain ⟨o10,eo10,Ho10⟩ := bs H
 clear H
 refine Tr.mid (ι := (List Pt) × (List Int) × Int × Int) (fun v => ⟨37,1,[sC 5 (cL 8 v.1 Pt.row),sA 0 0 3 0],[(0,[cF 1 v.2.1 zN,cI v.2.2.1,cI v.2.2.2])]⟩) (fun v => Yc n v.1 v.2.1 v.2.2.1 v.2.2.2 = some r) ?_ ?_
 ·refine tB ?_
  refine Tr.loop (ι := Nat × (Int × (List Pt) × (List Int) × Int × Int)) (fun v => ⟨37,1,[sI 6 v.2.1,sC 5 (cL 8 v.2.2.1 Pt.row),sA 0 0 3 0,sI 1 x1],[(0,[cF 1 v.2.2.2.1 zN,cI v.2.2.2.2.1,cI v.2.2.2.2.2])]⟩) (fun v => qM n v.1 x1 v.2.1 v.2.2.1 v.2.2.2.1 v.2.2.2.2.1 v.2.2.2.2.2 = some o10) (fun v => v.1) (n,(0,([] : List Pt),x0.b,x0.i,x0.h)) eo10 (St.sub_of [6,5,0,1] [0] kr) ?_
  rintro ⟨mo10,y1,y2,y3,y4,y5⟩ H
  have H : qM n mo10 x1 y1 y2 y3 y4 y5 = some o10 := H
  obtain _ | mo10 := mo10
  ·exact nN H
  rw [qM] at H
  refine tS ?_
  refine gA 3 2147 1 ?_
  obtain ⟨h1,H⟩ | ⟨h1,H⟩ := bC H
  ·refine nA h1 ?_
   refine Tr.exit ?_
   refine aJ ?_
   obtain rfl := si H
   have H := Ho10
   dsimp only at H
   exact jA (y2,y3,y4,y5) H [5,0] [0]
  refine tA h1 ?_
  refine tK ?_
  refine tS ?_
  refine tB ?_
  refine rA 1 ?_
  obtain ⟨r11,er11,H⟩ := bs H
  refine LAt.callL tOk [.lend,.rd] (f := 122) (av := #[.tmp 14,.const (.int .i64 4)]) (ats := #[100,3]) (d := (some 15)) (ty := 4) (g := none) kr kr kr [] (zBu n (⟨y3,y4,y5⟩ : Src) 4 r11 er11) kr (.inl rfl) ?_
  refine lA 3 ?_
  obtain ⟨r12,er12,H⟩ := bs H
  refine LAt.callL tOk [.lend,.rd] (f := 56) (av := #[.tmp 17,.tmp 18]) (ats := #[100,27]) (d := (some 19)) (ty := 3) (g := none) kr kr kr [] (QN n r11.2 [1,1,2,5,10] r12 er12) kr (.inl rfl) ?_
  refine uA 3 227 129 ?_
  refine tS ?_
  refine Tr.mid (ι := Bool × Bool × Int × Int × Int × Int × Int × (List Int) × Int × Int) (fun v => ⟨37,1,[sA 7 7 8 0,sI 6 y1,sC 5 (cL 8 y2 Pt.row),sA 0 0 3 0,sI 1 x1],[(7,[cB v.1,cI r12.1,cB v.2.1,cI v.2.2.1,cI v.2.2.2.1,cI v.2.2.2.2.1,cI v.2.2.2.2.2.1,cI v.2.2.2.2.2.2.1]),(0,[cF 1 v.2.2.2.2.2.2.2.1 zN,cI v.2.2.2.2.2.2.2.2.1,cI v.2.2.2.2.2.2.2.2.2])]⟩) (fun v => Zg n (fun v => qM n mo10 x1 v.1 v.2.1 v.2.2.1 v.2.2.2.1 v.2.2.2.2) r12 y1 y2 v.1 v.2.1 v.2.2.1 v.2.2.2.1 v.2.2.2.2.1 v.2.2.2.2.2.1 v.2.2.2.2.2.2.1 v.2.2.2.2.2.2.2.1 v.2.2.2.2.2.2.2.2.1 v.2.2.2.2.2.2.2.2.2 = some o10) ?_ ?_
  ·refine tS ?_
   refine Tr.at ?_
   refine lA 3 ?_
   refine sL 8388835 129 ⟨37,1,[sB 23 (!r11.1),sA 7 7 8 0,sI 6 y1,sC 5 (cL 8 y2 Pt.row),sA 0 0 3 0,sI 1 x1],[(7,[cB (!r11.1),cI r12.1,cB false,cI 0,cI 0,cI 0,cI 0,cI 0]),(0,(CV.frzRow (Src.row r12.2)))]⟩ ?_
   cases h2 : (!r11.1)
   ·have H := zI h2 H
    refine uA 4 134217955 129 ?_
    refine nB_ ?_
    refine tK ?_
    exact jA (false,false,0,0,0,0,0,r12.2.b,r12.2.i,r12.2.h) H [7,6,5,0,1] [7,0]
   have H := zJ h2 H
   refine lA 1 ?_
   obtain ⟨r24,er24,H⟩ := bs H
   refine LAt.callL tOk [.lend,.rd] (f := 122) (av := #[.tmp 24,.const (.int .i64 4)]) (ats := #[100,3]) (d := (some 25)) (ty := 4) (g := (some (2,true))) kr kr kr [] (zBu n r12.2 4 r24 er24) kr (.inl rfl) ?_
   refine uA 2 134217955 129 ?_
   obtain ⟨h3,H⟩ | ⟨h3,H⟩ := bC H
   ·refine nA h3 ?_
    refine tK ?_
    exact jA (true,false,0,0,0,0,0,r24.2.b,r24.2.i,r24.2.h) H [7,6,5,0,1] [7,0]
   refine tA h3 ?_
   refine gA 2 227 129 ?_
   refine Tr.at ?_
   refine lA 1 ?_
   obtain ⟨r25,er25,H⟩ := bs H
   refine LAt.callL tOk [.lend] (f := 127) (av := #[.tmp 29]) (ats := #[100]) (d := (some 30)) (ty := 35) (g := none) kr kr kr [] (zG0 n r24.2 r25 er25) kr (.inl rfl) ?_
   refine uA 2 227 129 ?_
   exact jA (true,true,r25.1.Root,r25.1.Co,r25.1.Hops,r25.1.Bridge,r25.1.Port,r25.2.b,r25.2.i,r25.2.h) H [7,6,5,0,1] [7,0]
  rintro ⟨y13,y14,y15,y16,y17,y18,y19,y20,y21,y22⟩ H
  have H : (Zg n (fun v => qM n mo10 x1 v.1 v.2.1 v.2.2.1 v.2.2.2.1 v.2.2.2.2) r12 y1 y2 y13 y14 y15 y16 y17 y18 y19 y20 y21 y22) = some o10 := H
  unfold Zg at H
  refine Tr.at ?_
  refine lA 3 ?_
  obtain ⟨hg23,H⟩ := gs H
  refine LAt.appMU tOk (t := 24) (ty := 24) (e := 44) (x := (.tmp 32)) (y := (.tmp 34)) (d := 35) (g := none) (tI 44) Pt.row y2 [(⟨y13,r12.1,y14,(⟨y15,y16,y17,y18,y19⟩ : Vec)⟩ : Pt)] kr kr kr kr kr kr kr kr kr kr hg23 ?_
  refine LAt.moveU (T := lk tab) (ty := 24) (x := (.tmp 35)) (d := 5) (g := none) false [cL 8 (y2 ++ [(⟨y13,r12.1,y14,(⟨y15,y16,y17,y18,y19⟩ : Vec)⟩ : Pt)]) Pt.row] kr kr kr kr kr ?_
  refine dA 99 1 ?_
  refine eA 3 99 1 ?_
  exact jB mo10 ((IntKind.wrap .i64 (y1 + 1)),(y2 ++ [(⟨y13,r12.1,y14,(⟨y15,y16,y17,y18,y19⟩ : Vec)⟩ : Pt)]),y20,y21,y22) H [6,5,0,1] [0]
 rintro ⟨y6,y7,y8,y9⟩ H
 have H : (Yc n y6 y7 y8 y9) = some r := H
 unfold Yc at H
 refine gA 2 49 1 ?_
 refine te ?_
 obtain rfl := si H
 exact Fin.ofY _ [(false,[cL 8 y6 Pt.row])] [] _ [] _ [(0,[cF 1 y7 zN,cI y8,cI y9])] kr rfl rfl rfl kr kr kr kr rfl rfl rfl
def Ja (n : Nat) : Option (Int) :=
  (some (-1))
def qv (n : Nat) : Nat → zC → Int → Int → Option ((Unit) ⊕ (Int))
  | 0,_,_,_ => none
  | mo2 + 1,x0,x1,y1 => (bif (decide (y1 < (x0.Rows.length : Int))) then ((idx x0.Rows y1).bind fun v3 => (bif (v3.Id == x1) then (some (Sum.inr y1)) else (qv n mo2 x0 x1 (IntKind.wrap .i64 (y1 + 1))))) else (some (Sum.inl ())))
def ZI (n : Nat) (x0 : zC) (x1 : Int) : Option (Int) :=
  ((qv n n x0 x1 0).bind fun o => match o with | .inl _ => (Ja n) | .inr r => some r)
theorem J0 (n : Nat) (x0 : zC) (x1 : Int) (r : Int) (H : ZI n x0 x1 = some r) : zG Try.prog 106 [.val true (CV.frzRow (zC.row x0)),.val false [.lit (.int .i64 x1)]] [.val false [.lit (.int .i64 r)]] [] := by
 refine cW Try.func106 (fun g d => sl [g 0,sl [g 1] (.block 0 (.loop (sl [sl [g 2] (cn 10 .skip (.exit 0)),.block 1 (sl [g 4] (cn 20 (sl [g 5] .ret) .skip))] (g 3)))),g 6] .ret) [.tmp 4] fun cx => ?_
 unfold ZI at H
 refine gA 2 6 4 ?_
 refine tS ?_
 refine gA 1 38 4 ?_
 obtain ⟨o2,eo2,Ho2⟩ := bs H
 clear H
 refine Tr.mid (ι := Unit) (fun v => ⟨22,0,[],[]⟩) (fun v => Ja n = some r) ?_ ?_
 ·refine tB ?_
  refine Tr.loop (ι := Nat × (Int)) (fun v => ⟨22,0,[sI 5 v.2,sA 2 2 2 0,sI 1 x1],[(2,(CV.frzRow (zC.row x0)))]⟩) (fun v => qv n v.1 x0 x1 v.2 = some o2) (fun v => v.1) (n,0) eo2 (St.sub_of [5,2,1] [2] kr) ?_
  rintro ⟨mo2,y1⟩ H
  have H : qv n mo2 x0 x1 y1 = some o2 := H
  obtain _ | mo2 := mo2
  ·exact nN H
  rw [qv] at H
  refine tS ?_
  refine rA 3 ?_
  refine kF x0.Rows zB.row ?_
  refine uA 1 1062 4 ?_
  obtain ⟨h1,H⟩ | ⟨h1,H⟩ := bC H
  ·refine nA h1 ?_
   refine Tr.exit ?_
   refine aJ ?_
   obtain rfl := si H
   have H := Ho2
   dsimp only at H
   exact jA () H [] []
  refine tA h1 ?_
  refine tK ?_
  refine tS ?_
  refine tB ?_
  refine rA 3 ?_
  obtain ⟨v3,ev3,H⟩ := bs H
  refine iA zB.row ev3 ?_
  refine uA 4 1048614 4 ?_
  obtain ⟨h2,H⟩ | ⟨h2,H⟩ := bC H
  ·refine nA h2 ?_
   refine tK ?_
   refine eA 3 38 4 ?_
   exact jB mo2 (IntKind.wrap .i64 (y1 + 1)) H [5,2,1] [2]
  refine tA h2 ?_
  refine gA 2 16 0 ?_
  refine te ?_
  obtain rfl := si H
  have H := Ho2
  dsimp only at H
  exact fJ [(false,[cI y1])] H
 rintro _ H
 have H : (Ja n) = some r := H
 unfold Ja at H
 refine gA 1 16 0 ?_
 exact te (fJ [(false,[cI (-1)])] H)
def Y9 (n : Nat) : Option (Bool) :=
  (some true)
def z5 (n : Nat) : Nat → zC → Int → Option ((Unit) ⊕ (Bool))
  | 0,_,_ => none
  | mo5 + 1,x0,y4 => (bif (decide (y4 < (x0.Pv.length : Int))) then ((idx x0.Pv y4).bind fun v6 => ((ZI n x0 v6).bind fun r7 => (bif (decide (r7 < 0)) then (some (Sum.inr false)) else (z5 n mo5 x0 (IntKind.wrap .i64 (y4 + 1)))))) else (some (Sum.inl ())))
def ZY (n : Nat) (x0 : zC) : Option (Bool) :=
  ((z5 n n x0 0).bind fun o => match o with | .inl _ => (Y9 n) | .inr r => some r)
def ze (n : Nat) : Nat → zC → Int → Int → Option ((Unit) ⊕ (Bool))
  | 0,_,_,_ => none
  | mo8 + 1,x0,x1,y3 => (bif (decide (y3 < (x0.Rows.length : Int))) then ((idx x0.Rows y3).bind fun v9 => ((zQ n v9.Id 1 99).bind fun r10 => (bif (!r10) then (some (Sum.inr false)) else ((zQ n v9.Members 0 (IntKind.wrap .i64 ((IntKind.wrap .i64 (1 * 2 ^ min (((IntKind.wrap .u64 x1) : Int)).toNat (IntKind.bits .i64))) - 1))).bind fun r11 => (bif (!r11) then (some (Sum.inr false)) else ((zQ n v9.Bare 0 (IntKind.wrap .i64 ((IntKind.wrap .i64 (1 * 2 ^ min (((IntKind.wrap .u64 x1) : Int)).toNat (IntKind.bits .i64))) - 1))).bind fun r12 => (bif (!r12) then (some (Sum.inr false)) else (bif ((IntKind.wrap .i64 (BitVec.ofInt (IntKind.bits .i64) v9.Bare &&& BitVec.ofInt (IntKind.bits .i64) v9.Members).toNat) != v9.Bare) then (some (Sum.inr false)) else (bif (decide (y3 > 0)) then ((idx x0.Rows (IntKind.wrap .i64 (y3 - 1))).bind fun v13 => (bif (decide (v13.Id ≥ v9.Id)) then (some (Sum.inr false)) else (ze n mo8 x0 x1 (IntKind.wrap .i64 (y3 + 1))))) else (ze n mo8 x0 x1 (IntKind.wrap .i64 (y3 + 1)))))))))))) else (some (Sum.inl ())))
def zh (n : Nat) (x0 : zC) (x1 : Int) : Option (Bool) :=
  ((zQ n x1 1 6).bind fun r1 => (bif (!r1) then (some false) else (bif ((x0.Pv.length : Int) != x1) then (some false) else (bif (decide ((x0.Rows.length : Int) > 6)) then (some false) else (bif (decide ((0 : Int) ≤ (IntKind.wrap .u64 x1))) then ((ze n n x0 x1 0).bind fun o => match o with | .inl _ => (ZY n x0) | .inr r => some r) else none)))))
def zJb : Tab := ⟨44,[0,1,2,4,12,16,48,16,208,272,528,1280,2048,6144,2048,26624,34816,67584,163840,262144,786432,262144,2359296,5505024,262144,17039360,42205184,67371008,134479872,268435456,805306368,1342177280,2147483648,6442450944,2147483648,19327352832,45097156608,70866960384,139586437120,2147483648,551903297536,1376537018368,2201439174656,4398314946560],[0,1,2,4,8,16,48,16,208,272,528,1024,2048,6144,2048,26624,34816,67584,131072,262144,786432,262144,2359296,5505024,262144,17039360,42205184,67371008,134217728,268435456,805306368,1342177280,2147483648,6442450944,2147483648,19327352832,45097156608,70866960384,139586437120,2147483648,551903297536,1376537018368,2201439174656,4398314946560],[0,1,3,7,15,31,63,31,255,511,1023,2047,4095,8191,4095,32767,65535,131071,262143,524287,1048575,524287,2621439,8388607,524287,17301503,67108863,134217727,268435455,536870911,1073741823,2147483647,4294967295,8589934591,4294967295,21474836479,68719476735,137438953471,274877906943,4294967295,554050781183,2199023255551,4398046511103,8796093022207]⟩
theorem zY : z6 (rg Try.f41 8) zJb = true := kr
theorem zFE (n : Nat) (y3 : Int) (v9 : zB) (x1 : Int) (x0 : zC) (h11 : (decide (y3 > 0)) = false) (cx : Cx) : AT Try.prog cx (rg Try.f41 8) [⟨[],3,65,66⟩,⟨[],3,62,63⟩,⟨[],3,60,61⟩,⟨[15],3,53,54⟩,⟨[8,15],3,46,47⟩,⟨[2,8,15],3,41,42⟩] 15 [28,27,26,25,24,23,22,21,20,19,18,17,16,15,14,13,12,11,10,9,8,7,6,5,4,3,2,1,0] ⟨100,0,[sB 69 false,sI 66 v9.Bare,sA 65 7 3 2,sI 63 v9.Members,sA 62 7 3 1,sI 61 v9.Bare,sA 60 7 3 2,sI 54 v9.Bare,sA 53 7 3 2,sI 47 v9.Members,sA 46 7 3 1,sI 42 v9.Id,sA 41 7 3 0,sA 7 7 3 0,sI 6 y3,sI 5 (IntKind.wrap .i64 ((IntKind.wrap .i64 (1 * 2 ^ min (((IntKind.wrap .u64 x1) : Int)).toNat (IntKind.bits .i64))) - 1)),sA 2 2 2 0],[(7,(zB.row v9)),(2,(CV.frzRow (zC.row x0)))]⟩ (fun s => s = ⟨100,0,[sB 84 false,sI 6 y3,sI 5 (IntKind.wrap .i64 ((IntKind.wrap .i64 (1 * 2 ^ min (((IntKind.wrap .u64 x1) : Int)).toNat (IntKind.bits .i64))) - 1)),sA 2 2 2 0],[(2,(CV.frzRow (zC.row x0)))]⟩) := by
 refine mA zY [(29,[]),(30,[]),(31,[])] 12 [⟨[],3,65,66⟩,⟨[],3,62,63⟩,⟨[],3,60,61⟩,⟨[15],3,53,54⟩,⟨[8,15],3,46,47⟩,⟨[2,8,15],3,41,42⟩] fun cx => ?_
 refine sA_ 0x126f060c600000000e4 132 ⟨100,0,[sB 72 (decide (y3 > 0)),sB 69 false,sI 66 v9.Bare,sA 65 7 3 2,sI 63 v9.Members,sA 62 7 3 1,sI 61 v9.Bare,sA 60 7 3 2,sI 54 v9.Bare,sA 53 7 3 2,sI 47 v9.Members,sA 46 7 3 1,sI 42 v9.Id,sA 41 7 3 0,sA 7 7 3 0,sI 6 y3,sI 5 (IntKind.wrap .i64 ((IntKind.wrap .i64 (1 * 2 ^ min (((IntKind.wrap .u64 x1) : Int)).toNat (IntKind.bits .i64))) - 1)),sA 2 2 2 0],[(7,(zB.row v9)),(2,(CV.frzRow (zC.row x0)))]⟩ ?_
 rw [h11]
 refine mA zY [(32,[]),(33,[]),(34,[]),(35,[]),(36,[]),(37,[]),(38,[]),(39,[]),(40,[]),(41,[]),(42,[]),(43,[])] 0 [⟨[],3,65,66⟩,⟨[],3,62,63⟩,⟨[],3,60,61⟩,⟨[15],3,53,54⟩,⟨[8,15],3,46,47⟩,⟨[2,8,15],3,41,42⟩] fun cx => ?_
 exact mE zY [84,6,5,2] [2]
theorem zFF (n : Nat) (y3 : Int) (v9 : zB) (x1 : Int) (x0 : zC) (v13 : zB) (h11 : (decide (y3 > 0)) = true) (ev13 : (idx x0.Rows (IntKind.wrap .i64 (y3 - 1))) = some v13) (cx : Cx) : AT Try.prog cx (rg Try.f41 8) [⟨[],3,65,66⟩,⟨[],3,62,63⟩,⟨[],3,60,61⟩,⟨[15],3,53,54⟩,⟨[8,15],3,46,47⟩,⟨[2,8,15],3,41,42⟩] 15 [28,27,26,25,24,23,22,21,20,19,18,17,16,15,14,13,12,11,10,9,8,7,6,5,4,3,2,1,0] ⟨100,0,[sB 69 false,sI 66 v9.Bare,sA 65 7 3 2,sI 63 v9.Members,sA 62 7 3 1,sI 61 v9.Bare,sA 60 7 3 2,sI 54 v9.Bare,sA 53 7 3 2,sI 47 v9.Members,sA 46 7 3 1,sI 42 v9.Id,sA 41 7 3 0,sA 7 7 3 0,sI 6 y3,sI 5 (IntKind.wrap .i64 ((IntKind.wrap .i64 (1 * 2 ^ min (((IntKind.wrap .u64 x1) : Int)).toNat (IntKind.bits .i64))) - 1)),sA 2 2 2 0],[(7,(zB.row v9)),(2,(CV.frzRow (zC.row x0)))]⟩ (fun s => s = ⟨100,0,[sB 84 (decide (v13.Id ≥ v9.Id)),sI 6 y3,sI 5 (IntKind.wrap .i64 ((IntKind.wrap .i64 (1 * 2 ^ min (((IntKind.wrap .u64 x1) : Int)).toNat (IntKind.bits .i64))) - 1)),sA 2 2 2 0],[(2,(CV.frzRow (zC.row x0)))]⟩) := by
 refine mA zY [(29,[]),(30,[]),(31,[])] 12 [⟨[],3,65,66⟩,⟨[],3,62,63⟩,⟨[],3,60,61⟩,⟨[15],3,53,54⟩,⟨[8,15],3,46,47⟩,⟨[2,8,15],3,41,42⟩] fun cx => ?_
 refine sA_ 0x126f060c600000000e4 132 ⟨100,0,[sB 72 (decide (y3 > 0)),sB 69 false,sI 66 v9.Bare,sA 65 7 3 2,sI 63 v9.Members,sA 62 7 3 1,sI 61 v9.Bare,sA 60 7 3 2,sI 54 v9.Bare,sA 53 7 3 2,sI 47 v9.Members,sA 46 7 3 1,sI 42 v9.Id,sA 41 7 3 0,sA 7 7 3 0,sI 6 y3,sI 5 (IntKind.wrap .i64 ((IntKind.wrap .i64 (1 * 2 ^ min (((IntKind.wrap .u64 x1) : Int)).toNat (IntKind.bits .i64))) - 1)),sA 2 2 2 0],[(7,(zB.row v9)),(2,(CV.frzRow (zC.row x0)))]⟩ ?_
 rw [h11]
 refine mA zY [(32,[]),(33,[]),(34,[]),(35,[])] 8 [⟨[],26,73,74⟩,⟨[],3,65,66⟩,⟨[],3,62,63⟩,⟨[],3,60,61⟩,⟨[15],3,53,54⟩,⟨[8,15],3,46,47⟩,⟨[2,8,15],3,41,42⟩] fun cx => ?_
 refine iN zY 36 zB.row ev13 fun cx => ?_
 refine mA zY [(37,[]),(38,[]),(39,[]),(40,[]),(41,[]),(42,[]),(43,[])] 0 [⟨[],3,80,81⟩,⟨[],26,73,74⟩,⟨[],3,65,66⟩,⟨[],3,62,63⟩,⟨[],3,60,61⟩,⟨[15],3,53,54⟩,⟨[8,15],3,46,47⟩,⟨[2,8,15],3,41,42⟩] fun cx => ?_
 exact mE zY [84,6,5,2] [2]
theorem zFG (n : Nat) (v9 : zB) (y3 : Int) (x1 : Int) (x0 : zC) (cx : Cx) : AT Try.prog cx (rg Try.f41 8) [⟨[],3,65,66⟩,⟨[],3,62,63⟩,⟨[],3,60,61⟩,⟨[15],3,53,54⟩,⟨[8,15],3,46,47⟩,⟨[2,8,15],3,41,42⟩] 15 [28,27,26,25,24,23,22,21,20,19,18,17,16,15,14,13,12,11,10,9,8,7,6,5,4,3,2,1,0] ⟨100,0,[sB 69 true,sI 66 v9.Bare,sA 65 7 3 2,sI 63 v9.Members,sA 62 7 3 1,sI 61 v9.Bare,sA 60 7 3 2,sI 54 v9.Bare,sA 53 7 3 2,sI 47 v9.Members,sA 46 7 3 1,sI 42 v9.Id,sA 41 7 3 0,sA 7 7 3 0,sI 6 y3,sI 5 (IntKind.wrap .i64 ((IntKind.wrap .i64 (1 * 2 ^ min (((IntKind.wrap .u64 x1) : Int)).toNat (IntKind.bits .i64))) - 1)),sA 2 2 2 0],[(7,(zB.row v9)),(2,(CV.frzRow (zC.row x0)))]⟩ (fun s => s = ⟨100,0,[sB 84 true,sI 6 y3,sI 5 (IntKind.wrap .i64 ((IntKind.wrap .i64 (1 * 2 ^ min (((IntKind.wrap .u64 x1) : Int)).toNat (IntKind.bits .i64))) - 1)),sA 2 2 2 0],[(2,(CV.frzRow (zC.row x0)))]⟩) := by
 refine mA zY [(29,[]),(30,[]),(31,[]),(32,[]),(33,[]),(34,[]),(35,[]),(36,[]),(37,[]),(38,[]),(39,[]),(40,[]),(41,[]),(42,[]),(43,[])] 0 [⟨[],3,65,66⟩,⟨[],3,62,63⟩,⟨[],3,60,61⟩,⟨[15],3,53,54⟩,⟨[8,15],3,46,47⟩,⟨[2,8,15],3,41,42⟩] fun cx => ?_
 exact mE zY [84,6,5,2] [2]
theorem JL (n : Nat) (x0 : zC) (x1 : Int) (r : Bool) (H : zh n x0 x1 = some r) : zG Try.prog 41 [.val true (CV.frzRow (zC.row x0)),.val false [.lit (.int .i64 x1)]] [.val false [.lit (.bool r)]] [] := by
 refine cW Try.func41 (fun g d => sl [g 0,sl [g 1] (cn 24 (sl [g 2] .ret) .skip),g 3,sl [g 4] (.block 0 (.loop (sl [sl [g 5] (cn 33 .skip (.exit 0)),.block 1 (sl [g 7,d 8] (cn 84 (sl [g 9] .ret) .skip))] (g 6)))),sl [g 10] (.block 2 (.loop (sl [sl [g 11] (cn 89 .skip (.exit 2)),.block 3 (sl [d 13] (cn 99 (sl [g 14] .ret) .skip))] (g 12)))),g 15] .ret) [.tmp 4] fun cx => ?_
 unfold zh at H
 refine gA 2 6 4 ?_
 refine tS ?_
 refine rA 1 ?_
 obtain ⟨r1,er1,H⟩ := bs H
 refine vA [.rd,.rd,.rd] (zP n x1 1 6 r1 er1) ?_
 refine lA 2 ?_
 refine sL 4102 4 ⟨100,0,[sB 12 (!r1),sA 2 2 2 0,sI 1 x1],[(2,(CV.frzRow (zC.row x0)))]⟩ ?_
 cases h1 : (!r1)
 ·have H := zI h1 H
  refine lA 2 ?_
  refine kF x0.Pv intRow ?_
  refine lA 4 ?_
  refine sL 524294 4 ⟨100,0,[sB 19 ((x0.Pv.length : Int) != x1),sA 2 2 2 0,sI 1 x1],[(2,(CV.frzRow (zC.row x0)))]⟩ ?_
  cases h2 : ((x0.Pv.length : Int) != x1)
  ·have H := zI h2 H
   refine lA 2 ?_
   refine kF x0.Rows zB.row ?_
   refine uA 2 16777222 4 ?_
   obtain ⟨h3,H⟩ | ⟨h3,H⟩ := bC H
   ·refine nA h3 ?_
    refine tK ?_
    refine rA 2 ?_
    obtain ⟨hg2,H⟩ := gs H
    refine LAt.binC tOk (op := .shl) (t := 3) (ty := 112) (ty' := 3) (x := (.const (.int .i64 1))) (y := (.tmp 26)) (d := 27) (g := none) (.int .i64 1) (.int .u64 (IntKind.wrap .u64 x1)) (.int .i64 (IntKind.wrap .i64 (1 * 2 ^ min (((IntKind.wrap .u64 x1) : Int)).toNat (IntKind.bits .i64)))) _ kr kr kr kr kr (φ := (0 : Int) ≤ (IntKind.wrap .u64 x1)) kr (of_decide_eq_true hg2) rfl ?_
    refine uA 2 36 4 ?_
    refine tS ?_
    refine gA 1 100 4 ?_
    obtain ⟨o8,eo8,Ho8⟩ := bs H
    clear H
    refine Tr.mid (ι := Unit) (fun v => ⟨100,0,[sA 2 2 2 0],[(2,(CV.frzRow (zC.row x0)))]⟩) (fun v => ZY n x0 = some r) ?_ ?_
    ·refine tB ?_
     refine Tr.loop (ι := Nat × (Int)) (fun v => ⟨100,0,[sI 6 v.2,sI 5 (IntKind.wrap .i64 ((IntKind.wrap .i64 (1 * 2 ^ min (((IntKind.wrap .u64 x1) : Int)).toNat (IntKind.bits .i64))) - 1)),sA 2 2 2 0],[(2,(CV.frzRow (zC.row x0)))]⟩) (fun v => ze n v.1 x0 x1 v.2 = some o8) (fun v => v.1) (n,0) eo8 (St.sub_of [6,5,2] [2] kr) ?_
     rintro ⟨mo8,y3⟩ H
     have H : ze n mo8 x0 x1 y3 = some o8 := H
     obtain _ | mo8 := mo8
     ·exact nN H
     rw [ze] at H
     refine tS ?_
     refine rA 3 ?_
     refine kF x0.Rows zB.row ?_
     refine uA 1 8589934692 4 ?_
     obtain ⟨h6,H⟩ | ⟨h6,H⟩ := bC H
     ·refine nA h6 ?_
      refine Tr.exit ?_
      refine aJ ?_
      obtain rfl := si H
      have H := Ho8
      dsimp only at H
      exact jA () H [2] [2]
     refine tA h6 ?_
     refine tK ?_
     refine tS ?_
     refine tB ?_
     refine rA 3 ?_
     obtain ⟨v9,ev9,H⟩ := bs H
     refine iA zB.row ev9 ?_
     refine uA 3 228 132 ?_
     obtain ⟨r10,er10,H⟩ := bs H
     refine sT ⟨100,0,[sA 7 7 3 0,sI 6 y3,sI 5 (IntKind.wrap .i64 ((IntKind.wrap .i64 (1 * 2 ^ min (((IntKind.wrap .u64 x1) : Int)).toNat (IntKind.bits .i64))) - 1)),sA 2 2 2 0],[(7,(zB.row v9)),(2,(CV.frzRow (zC.row x0)))]⟩ ?_
     cases h7 : (!r10)
     ·have H := zI h7 H
      obtain ⟨r11,er11,H⟩ := bs H
      refine sT ⟨100,0,[sA 7 7 3 0,sI 6 y3,sI 5 (IntKind.wrap .i64 ((IntKind.wrap .i64 (1 * 2 ^ min (((IntKind.wrap .u64 x1) : Int)).toNat (IntKind.bits .i64))) - 1)),sA 2 2 2 0],[(7,(zB.row v9)),(2,(CV.frzRow (zC.row x0)))]⟩ ?_
      cases h8 : (!r11)
      ·have H := zI h8 H
       obtain ⟨r12,er12,H⟩ := bs H
       refine sT ⟨100,0,[sA 7 7 3 0,sI 6 y3,sI 5 (IntKind.wrap .i64 ((IntKind.wrap .i64 (1 * 2 ^ min (((IntKind.wrap .u64 x1) : Int)).toNat (IntKind.bits .i64))) - 1)),sA 2 2 2 0],[(7,(zB.row v9)),(2,(CV.frzRow (zC.row x0)))]⟩ ?_
       cases h9 : (!r12)
       ·have H := zI h9 H
        refine sT ⟨100,0,[sA 7 7 3 0,sI 6 y3,sI 5 (IntKind.wrap .i64 ((IntKind.wrap .i64 (1 * 2 ^ min (((IntKind.wrap .u64 x1) : Int)).toNat (IntKind.bits .i64))) - 1)),sA 2 2 2 0],[(7,(zB.row v9)),(2,(CV.frzRow (zC.row x0)))]⟩ ?_
        cases h10 : ((IntKind.wrap .i64 (BitVec.ofInt (IntKind.bits .i64) v9.Bare &&& BitVec.ofInt (IntKind.bits .i64) v9.Members).toNat) != v9.Bare)
        ·have H := zI h10 H
         refine sT ⟨100,0,[sA 7 7 3 0,sI 6 y3,sI 5 (IntKind.wrap .i64 ((IntKind.wrap .i64 (1 * 2 ^ min (((IntKind.wrap .u64 x1) : Int)).toNat (IntKind.bits .i64))) - 1)),sA 2 2 2 0],[(7,(zB.row v9)),(2,(CV.frzRow (zC.row x0)))]⟩ ?_
         cases h11 : (decide (y3 > 0))
         ·have H := zI h11 H
          refine Tr.draws mixed 44 kr ⟨100,0,[sB 84 false,sI 6 y3,sI 5 (IntKind.wrap .i64 ((IntKind.wrap .i64 (1 * 2 ^ min (((IntKind.wrap .u64 x1) : Int)).toNat (IntKind.bits .i64))) - 1)),sA 2 2 2 0],[(2,(CV.frzRow (zC.row x0)))]⟩ (fun cx => ?_) ?_
          ·refine mA zY [(0,[]),(1,[2,8,15])] 42 [⟨[2,8,15],3,41,42⟩] fun cx => ?_
           refine mC zY 2 ?_
           refine vA [.rd,.rd,.rd] (zP n v9.Id 1 99 r10 er10) ?_
           refine fA ?_
           refine mA zY [(3,[]),(4,[])] 39 [⟨[2,8,15],3,41,42⟩] fun cx => ?_
           refine sA_ 41781441855716 132 ⟨100,0,[sB 45 (!r10),sI 42 v9.Id,sA 41 7 3 0,sA 7 7 3 0,sI 6 y3,sI 5 (IntKind.wrap .i64 ((IntKind.wrap .i64 (1 * 2 ^ min (((IntKind.wrap .u64 x1) : Int)).toNat (IntKind.bits .i64))) - 1)),sA 2 2 2 0],[(7,(zB.row v9)),(2,(CV.frzRow (zC.row x0)))]⟩ ?_
           rw [h7]
           refine mA zY [(5,[]),(6,[8,15]),(7,[])] 36 [⟨[8,15],3,46,47⟩,⟨[2,8,15],3,41,42⟩] fun cx => ?_
           refine mC zY 8 ?_
           refine vA [.rd,.rd,.rd] (zP n v9.Members 0 (IntKind.wrap .i64 ((IntKind.wrap .i64 (1 * 2 ^ min (((IntKind.wrap .u64 x1) : Int)).toNat (IntKind.bits .i64))) - 1)) r11 er11) ?_
           refine fA ?_
           refine mA zY [(9,[]),(10,[]),(11,[])] 32 [⟨[8,15],3,46,47⟩,⟨[2,8,15],3,41,42⟩] fun cx => ?_
           refine sA_ 4721302929670372 132 ⟨100,0,[sB 52 (!r11),sI 47 v9.Members,sA 46 7 3 1,sI 42 v9.Id,sA 41 7 3 0,sA 7 7 3 0,sI 6 y3,sI 5 (IntKind.wrap .i64 ((IntKind.wrap .i64 (1 * 2 ^ min (((IntKind.wrap .u64 x1) : Int)).toNat (IntKind.bits .i64))) - 1)),sA 2 2 2 0],[(7,(zB.row v9)),(2,(CV.frzRow (zC.row x0)))]⟩ ?_
           rw [h8]
           refine mA zY [(12,[]),(13,[15]),(14,[])] 29 [⟨[15],3,53,54⟩,⟨[8,15],3,46,47⟩,⟨[2,8,15],3,41,42⟩] fun cx => ?_
           refine mC zY 15 ?_
           refine vA [.rd,.rd,.rd] (zP n v9.Bare 0 (IntKind.wrap .i64 ((IntKind.wrap .i64 (1 * 2 ^ min (((IntKind.wrap .u64 x1) : Int)).toNat (IntKind.bits .i64))) - 1)) r12 er12) ?_
           refine fA ?_
           refine mA zY [(16,[]),(17,[]),(18,[])] 25 [⟨[15],3,53,54⟩,⟨[8,15],3,46,47⟩,⟨[2,8,15],3,41,42⟩] fun cx => ?_
           refine sA_ 0x860c600000000e4 132 ⟨100,0,[sB 59 (!r12),sI 54 v9.Bare,sA 53 7 3 2,sI 47 v9.Members,sA 46 7 3 1,sI 42 v9.Id,sA 41 7 3 0,sA 7 7 3 0,sI 6 y3,sI 5 (IntKind.wrap .i64 ((IntKind.wrap .i64 (1 * 2 ^ min (((IntKind.wrap .u64 x1) : Int)).toNat (IntKind.bits .i64))) - 1)),sA 2 2 2 0],[(7,(zB.row v9)),(2,(CV.frzRow (zC.row x0)))]⟩ ?_
           rw [h9]
           refine mA zY [(19,[]),(20,[]),(21,[]),(22,[]),(23,[]),(24,[]),(25,[]),(26,[]),(27,[]),(28,[])] 15 [⟨[],3,65,66⟩,⟨[],3,62,63⟩,⟨[],3,60,61⟩,⟨[15],3,53,54⟩,⟨[8,15],3,46,47⟩,⟨[2,8,15],3,41,42⟩] fun cx => ?_
           refine sA_ 0x26f060c600000000e4 132 ⟨100,0,[sB 69 ((IntKind.wrap .i64 (BitVec.ofInt (IntKind.bits .i64) v9.Bare &&& BitVec.ofInt (IntKind.bits .i64) v9.Members).toNat) != v9.Bare),sI 66 v9.Bare,sA 65 7 3 2,sI 63 v9.Members,sA 62 7 3 1,sI 61 v9.Bare,sA 60 7 3 2,sI 54 v9.Bare,sA 53 7 3 2,sI 47 v9.Members,sA 46 7 3 1,sI 42 v9.Id,sA 41 7 3 0,sA 7 7 3 0,sI 6 y3,sI 5 (IntKind.wrap .i64 ((IntKind.wrap .i64 (1 * 2 ^ min (((IntKind.wrap .u64 x1) : Int)).toNat (IntKind.bits .i64))) - 1)),sA 2 2 2 0],[(7,(zB.row v9)),(2,(CV.frzRow (zC.row x0)))]⟩ ?_
           rw [h10]
           exact zFE n y3 v9 x1 x0 h11 cx
          refine nB_ ?_
          refine tK ?_
          refine eA 3 100 4 ?_
          exact jB mo8 (IntKind.wrap .i64 (y3 + 1)) H [6,5,2] [2]
         have H := zJ h11 H
         obtain ⟨v13,ev13,H⟩ := bs H
         refine Tr.draws mixed 44 kr ⟨100,0,[sB 84 (decide (v13.Id ≥ v9.Id)),sI 6 y3,sI 5 (IntKind.wrap .i64 ((IntKind.wrap .i64 (1 * 2 ^ min (((IntKind.wrap .u64 x1) : Int)).toNat (IntKind.bits .i64))) - 1)),sA 2 2 2 0],[(2,(CV.frzRow (zC.row x0)))]⟩ (fun cx => ?_) ?_
         ·refine mA zY [(0,[]),(1,[2,8,15])] 42 [⟨[2,8,15],3,41,42⟩] fun cx => ?_
          refine mC zY 2 ?_
          refine vA [.rd,.rd,.rd] (zP n v9.Id 1 99 r10 er10) ?_
          refine fA ?_
          refine mA zY [(3,[]),(4,[])] 39 [⟨[2,8,15],3,41,42⟩] fun cx => ?_
          refine sA_ 41781441855716 132 ⟨100,0,[sB 45 (!r10),sI 42 v9.Id,sA 41 7 3 0,sA 7 7 3 0,sI 6 y3,sI 5 (IntKind.wrap .i64 ((IntKind.wrap .i64 (1 * 2 ^ min (((IntKind.wrap .u64 x1) : Int)).toNat (IntKind.bits .i64))) - 1)),sA 2 2 2 0],[(7,(zB.row v9)),(2,(CV.frzRow (zC.row x0)))]⟩ ?_
          rw [h7]
          refine mA zY [(5,[]),(6,[8,15]),(7,[])] 36 [⟨[8,15],3,46,47⟩,⟨[2,8,15],3,41,42⟩] fun cx => ?_
          refine mC zY 8 ?_
          refine vA [.rd,.rd,.rd] (zP n v9.Members 0 (IntKind.wrap .i64 ((IntKind.wrap .i64 (1 * 2 ^ min (((IntKind.wrap .u64 x1) : Int)).toNat (IntKind.bits .i64))) - 1)) r11 er11) ?_
          refine fA ?_
          refine mA zY [(9,[]),(10,[]),(11,[])] 32 [⟨[8,15],3,46,47⟩,⟨[2,8,15],3,41,42⟩] fun cx => ?_
          refine sA_ 4721302929670372 132 ⟨100,0,[sB 52 (!r11),sI 47 v9.Members,sA 46 7 3 1,sI 42 v9.Id,sA 41 7 3 0,sA 7 7 3 0,sI 6 y3,sI 5 (IntKind.wrap .i64 ((IntKind.wrap .i64 (1 * 2 ^ min (((IntKind.wrap .u64 x1) : Int)).toNat (IntKind.bits .i64))) - 1)),sA 2 2 2 0],[(7,(zB.row v9)),(2,(CV.frzRow (zC.row x0)))]⟩ ?_
          rw [h8]
          refine mA zY [(12,[]),(13,[15]),(14,[])] 29 [⟨[15],3,53,54⟩,⟨[8,15],3,46,47⟩,⟨[2,8,15],3,41,42⟩] fun cx => ?_
          refine mC zY 15 ?_
          refine vA [.rd,.rd,.rd] (zP n v9.Bare 0 (IntKind.wrap .i64 ((IntKind.wrap .i64 (1 * 2 ^ min (((IntKind.wrap .u64 x1) : Int)).toNat (IntKind.bits .i64))) - 1)) r12 er12) ?_
          refine fA ?_
          refine mA zY [(16,[]),(17,[]),(18,[])] 25 [⟨[15],3,53,54⟩,⟨[8,15],3,46,47⟩,⟨[2,8,15],3,41,42⟩] fun cx => ?_
          refine sA_ 0x860c600000000e4 132 ⟨100,0,[sB 59 (!r12),sI 54 v9.Bare,sA 53 7 3 2,sI 47 v9.Members,sA 46 7 3 1,sI 42 v9.Id,sA 41 7 3 0,sA 7 7 3 0,sI 6 y3,sI 5 (IntKind.wrap .i64 ((IntKind.wrap .i64 (1 * 2 ^ min (((IntKind.wrap .u64 x1) : Int)).toNat (IntKind.bits .i64))) - 1)),sA 2 2 2 0],[(7,(zB.row v9)),(2,(CV.frzRow (zC.row x0)))]⟩ ?_
          rw [h9]
          refine mA zY [(19,[]),(20,[]),(21,[]),(22,[]),(23,[]),(24,[]),(25,[]),(26,[]),(27,[]),(28,[])] 15 [⟨[],3,65,66⟩,⟨[],3,62,63⟩,⟨[],3,60,61⟩,⟨[15],3,53,54⟩,⟨[8,15],3,46,47⟩,⟨[2,8,15],3,41,42⟩] fun cx => ?_
          refine sA_ 0x26f060c600000000e4 132 ⟨100,0,[sB 69 ((IntKind.wrap .i64 (BitVec.ofInt (IntKind.bits .i64) v9.Bare &&& BitVec.ofInt (IntKind.bits .i64) v9.Members).toNat) != v9.Bare),sI 66 v9.Bare,sA 65 7 3 2,sI 63 v9.Members,sA 62 7 3 1,sI 61 v9.Bare,sA 60 7 3 2,sI 54 v9.Bare,sA 53 7 3 2,sI 47 v9.Members,sA 46 7 3 1,sI 42 v9.Id,sA 41 7 3 0,sA 7 7 3 0,sI 6 y3,sI 5 (IntKind.wrap .i64 ((IntKind.wrap .i64 (1 * 2 ^ min (((IntKind.wrap .u64 x1) : Int)).toNat (IntKind.bits .i64))) - 1)),sA 2 2 2 0],[(7,(zB.row v9)),(2,(CV.frzRow (zC.row x0)))]⟩ ?_
          rw [h10]
          exact zFF n y3 v9 x1 x0 v13 h11 ev13 cx
         refine sT ⟨100,0,[sB 84 (decide (v13.Id ≥ v9.Id)),sI 6 y3,sI 5 (IntKind.wrap .i64 ((IntKind.wrap .i64 (1 * 2 ^ min (((IntKind.wrap .u64 x1) : Int)).toNat (IntKind.bits .i64))) - 1)),sA 2 2 2 0],[(2,(CV.frzRow (zC.row x0)))]⟩ ?_
         cases h12 : (decide (v13.Id ≥ v9.Id))
         ·have H := zI h12 H
          refine nB_ ?_
          refine tK ?_
          refine eA 3 100 4 ?_
          exact jB mo8 (IntKind.wrap .i64 (y3 + 1)) H [6,5,2] [2]
         have H := zJ h12 H
         refine tB_ ?_
         refine gA 1 16 0 ?_
         refine te ?_
         obtain rfl := si H
         have H := Ho8
         dsimp only at H
         exact fF H
        have H := zJ h10 H
        refine Tr.draws mixed 44 kr ⟨100,0,[sB 84 true,sI 6 y3,sI 5 (IntKind.wrap .i64 ((IntKind.wrap .i64 (1 * 2 ^ min (((IntKind.wrap .u64 x1) : Int)).toNat (IntKind.bits .i64))) - 1)),sA 2 2 2 0],[(2,(CV.frzRow (zC.row x0)))]⟩ (fun cx => ?_) ?_
        ·refine mA zY [(0,[]),(1,[2,8,15])] 42 [⟨[2,8,15],3,41,42⟩] fun cx => ?_
         refine mC zY 2 ?_
         refine vA [.rd,.rd,.rd] (zP n v9.Id 1 99 r10 er10) ?_
         refine fA ?_
         refine mA zY [(3,[]),(4,[])] 39 [⟨[2,8,15],3,41,42⟩] fun cx => ?_
         refine sA_ 41781441855716 132 ⟨100,0,[sB 45 (!r10),sI 42 v9.Id,sA 41 7 3 0,sA 7 7 3 0,sI 6 y3,sI 5 (IntKind.wrap .i64 ((IntKind.wrap .i64 (1 * 2 ^ min (((IntKind.wrap .u64 x1) : Int)).toNat (IntKind.bits .i64))) - 1)),sA 2 2 2 0],[(7,(zB.row v9)),(2,(CV.frzRow (zC.row x0)))]⟩ ?_
         rw [h7]
         refine mA zY [(5,[]),(6,[8,15]),(7,[])] 36 [⟨[8,15],3,46,47⟩,⟨[2,8,15],3,41,42⟩] fun cx => ?_
         refine mC zY 8 ?_
         refine vA [.rd,.rd,.rd] (zP n v9.Members 0 (IntKind.wrap .i64 ((IntKind.wrap .i64 (1 * 2 ^ min (((IntKind.wrap .u64 x1) : Int)).toNat (IntKind.bits .i64))) - 1)) r11 er11) ?_
         refine fA ?_
         refine mA zY [(9,[]),(10,[]),(11,[])] 32 [⟨[8,15],3,46,47⟩,⟨[2,8,15],3,41,42⟩] fun cx => ?_
         refine sA_ 4721302929670372 132 ⟨100,0,[sB 52 (!r11),sI 47 v9.Members,sA 46 7 3 1,sI 42 v9.Id,sA 41 7 3 0,sA 7 7 3 0,sI 6 y3,sI 5 (IntKind.wrap .i64 ((IntKind.wrap .i64 (1 * 2 ^ min (((IntKind.wrap .u64 x1) : Int)).toNat (IntKind.bits .i64))) - 1)),sA 2 2 2 0],[(7,(zB.row v9)),(2,(CV.frzRow (zC.row x0)))]⟩ ?_
         rw [h8]
         refine mA zY [(12,[]),(13,[15]),(14,[])] 29 [⟨[15],3,53,54⟩,⟨[8,15],3,46,47⟩,⟨[2,8,15],3,41,42⟩] fun cx => ?_
         refine mC zY 15 ?_
         refine vA [.rd,.rd,.rd] (zP n v9.Bare 0 (IntKind.wrap .i64 ((IntKind.wrap .i64 (1 * 2 ^ min (((IntKind.wrap .u64 x1) : Int)).toNat (IntKind.bits .i64))) - 1)) r12 er12) ?_
         refine fA ?_
         refine mA zY [(16,[]),(17,[]),(18,[])] 25 [⟨[15],3,53,54⟩,⟨[8,15],3,46,47⟩,⟨[2,8,15],3,41,42⟩] fun cx => ?_
         refine sA_ 0x860c600000000e4 132 ⟨100,0,[sB 59 (!r12),sI 54 v9.Bare,sA 53 7 3 2,sI 47 v9.Members,sA 46 7 3 1,sI 42 v9.Id,sA 41 7 3 0,sA 7 7 3 0,sI 6 y3,sI 5 (IntKind.wrap .i64 ((IntKind.wrap .i64 (1 * 2 ^ min (((IntKind.wrap .u64 x1) : Int)).toNat (IntKind.bits .i64))) - 1)),sA 2 2 2 0],[(7,(zB.row v9)),(2,(CV.frzRow (zC.row x0)))]⟩ ?_
         rw [h9]
         refine mA zY [(19,[]),(20,[]),(21,[]),(22,[]),(23,[]),(24,[]),(25,[]),(26,[]),(27,[]),(28,[])] 15 [⟨[],3,65,66⟩,⟨[],3,62,63⟩,⟨[],3,60,61⟩,⟨[15],3,53,54⟩,⟨[8,15],3,46,47⟩,⟨[2,8,15],3,41,42⟩] fun cx => ?_
         refine sA_ 0x26f060c600000000e4 132 ⟨100,0,[sB 69 ((IntKind.wrap .i64 (BitVec.ofInt (IntKind.bits .i64) v9.Bare &&& BitVec.ofInt (IntKind.bits .i64) v9.Members).toNat) != v9.Bare),sI 66 v9.Bare,sA 65 7 3 2,sI 63 v9.Members,sA 62 7 3 1,sI 61 v9.Bare,sA 60 7 3 2,sI 54 v9.Bare,sA 53 7 3 2,sI 47 v9.Members,sA 46 7 3 1,sI 42 v9.Id,sA 41 7 3 0,sA 7 7 3 0,sI 6 y3,sI 5 (IntKind.wrap .i64 ((IntKind.wrap .i64 (1 * 2 ^ min (((IntKind.wrap .u64 x1) : Int)).toNat (IntKind.bits .i64))) - 1)),sA 2 2 2 0],[(7,(zB.row v9)),(2,(CV.frzRow (zC.row x0)))]⟩ ?_
         rw [h10]
         exact zFG n v9 y3 x1 x0 cx
        refine tB_ ?_
        refine gA 1 16 0 ?_
        refine te ?_
        obtain rfl := si H
        have H := Ho8
        dsimp only at H
        exact fF H
       have H := zJ h9 H
       refine Tr.draws mixed 44 kr ⟨100,0,[sB 84 true,sI 6 y3,sI 5 (IntKind.wrap .i64 ((IntKind.wrap .i64 (1 * 2 ^ min (((IntKind.wrap .u64 x1) : Int)).toNat (IntKind.bits .i64))) - 1)),sA 2 2 2 0],[(2,(CV.frzRow (zC.row x0)))]⟩ (fun cx => ?_) ?_
       ·refine mA zY [(0,[]),(1,[2,8,15])] 42 [⟨[2,8,15],3,41,42⟩] fun cx => ?_
        refine mC zY 2 ?_
        refine vA [.rd,.rd,.rd] (zP n v9.Id 1 99 r10 er10) ?_
        refine fA ?_
        refine mA zY [(3,[]),(4,[])] 39 [⟨[2,8,15],3,41,42⟩] fun cx => ?_
        refine sA_ 41781441855716 132 ⟨100,0,[sB 45 (!r10),sI 42 v9.Id,sA 41 7 3 0,sA 7 7 3 0,sI 6 y3,sI 5 (IntKind.wrap .i64 ((IntKind.wrap .i64 (1 * 2 ^ min (((IntKind.wrap .u64 x1) : Int)).toNat (IntKind.bits .i64))) - 1)),sA 2 2 2 0],[(7,(zB.row v9)),(2,(CV.frzRow (zC.row x0)))]⟩ ?_
        rw [h7]
        refine mA zY [(5,[]),(6,[8,15]),(7,[])] 36 [⟨[8,15],3,46,47⟩,⟨[2,8,15],3,41,42⟩] fun cx => ?_
        refine mC zY 8 ?_
        refine vA [.rd,.rd,.rd] (zP n v9.Members 0 (IntKind.wrap .i64 ((IntKind.wrap .i64 (1 * 2 ^ min (((IntKind.wrap .u64 x1) : Int)).toNat (IntKind.bits .i64))) - 1)) r11 er11) ?_
        refine fA ?_
        refine mA zY [(9,[]),(10,[]),(11,[])] 32 [⟨[8,15],3,46,47⟩,⟨[2,8,15],3,41,42⟩] fun cx => ?_
        refine sA_ 4721302929670372 132 ⟨100,0,[sB 52 (!r11),sI 47 v9.Members,sA 46 7 3 1,sI 42 v9.Id,sA 41 7 3 0,sA 7 7 3 0,sI 6 y3,sI 5 (IntKind.wrap .i64 ((IntKind.wrap .i64 (1 * 2 ^ min (((IntKind.wrap .u64 x1) : Int)).toNat (IntKind.bits .i64))) - 1)),sA 2 2 2 0],[(7,(zB.row v9)),(2,(CV.frzRow (zC.row x0)))]⟩ ?_
        rw [h8]
        refine mA zY [(12,[]),(13,[15]),(14,[])] 29 [⟨[15],3,53,54⟩,⟨[8,15],3,46,47⟩,⟨[2,8,15],3,41,42⟩] fun cx => ?_
        refine mC zY 15 ?_
        refine vA [.rd,.rd,.rd] (zP n v9.Bare 0 (IntKind.wrap .i64 ((IntKind.wrap .i64 (1 * 2 ^ min (((IntKind.wrap .u64 x1) : Int)).toNat (IntKind.bits .i64))) - 1)) r12 er12) ?_
        refine fA ?_
        refine mA zY [(16,[]),(17,[]),(18,[])] 25 [⟨[15],3,53,54⟩,⟨[8,15],3,46,47⟩,⟨[2,8,15],3,41,42⟩] fun cx => ?_
        refine sA_ 0x860c600000000e4 132 ⟨100,0,[sB 59 (!r12),sI 54 v9.Bare,sA 53 7 3 2,sI 47 v9.Members,sA 46 7 3 1,sI 42 v9.Id,sA 41 7 3 0,sA 7 7 3 0,sI 6 y3,sI 5 (IntKind.wrap .i64 ((IntKind.wrap .i64 (1 * 2 ^ min (((IntKind.wrap .u64 x1) : Int)).toNat (IntKind.bits .i64))) - 1)),sA 2 2 2 0],[(7,(zB.row v9)),(2,(CV.frzRow (zC.row x0)))]⟩ ?_
        rw [h9]
        refine mA zY [(19,[]),(20,[]),(21,[]),(22,[]),(23,[]),(24,[]),(25,[]),(26,[]),(27,[]),(28,[]),(29,[]),(30,[]),(31,[]),(32,[]),(33,[]),(34,[]),(35,[]),(36,[]),(37,[]),(38,[]),(39,[]),(40,[]),(41,[]),(42,[]),(43,[])] 0 [⟨[15],3,53,54⟩,⟨[8,15],3,46,47⟩,⟨[2,8,15],3,41,42⟩] fun cx => ?_
        exact mE zY [84,6,5,2] [2]
       refine tB_ ?_
       refine gA 1 16 0 ?_
       refine te ?_
       obtain rfl := si H
       have H := Ho8
       dsimp only at H
       exact fF H
      have H := zJ h8 H
      refine Tr.draws mixed 44 kr ⟨100,0,[sB 84 true,sI 6 y3,sI 5 (IntKind.wrap .i64 ((IntKind.wrap .i64 (1 * 2 ^ min (((IntKind.wrap .u64 x1) : Int)).toNat (IntKind.bits .i64))) - 1)),sA 2 2 2 0],[(2,(CV.frzRow (zC.row x0)))]⟩ (fun cx => ?_) ?_
      ·refine mA zY [(0,[]),(1,[2,8])] 42 [⟨[2,8],3,41,42⟩] fun cx => ?_
       refine mC zY 2 ?_
       refine vA [.rd,.rd,.rd] (zP n v9.Id 1 99 r10 er10) ?_
       refine fA ?_
       refine mA zY [(3,[]),(4,[])] 39 [⟨[2,8],3,41,42⟩] fun cx => ?_
       refine sA_ 41781441855716 132 ⟨100,0,[sB 45 (!r10),sI 42 v9.Id,sA 41 7 3 0,sA 7 7 3 0,sI 6 y3,sI 5 (IntKind.wrap .i64 ((IntKind.wrap .i64 (1 * 2 ^ min (((IntKind.wrap .u64 x1) : Int)).toNat (IntKind.bits .i64))) - 1)),sA 2 2 2 0],[(7,(zB.row v9)),(2,(CV.frzRow (zC.row x0)))]⟩ ?_
       rw [h7]
       refine mA zY [(5,[]),(6,[8]),(7,[])] 36 [⟨[8],3,46,47⟩,⟨[2,8],3,41,42⟩] fun cx => ?_
       refine mC zY 8 ?_
       refine vA [.rd,.rd,.rd] (zP n v9.Members 0 (IntKind.wrap .i64 ((IntKind.wrap .i64 (1 * 2 ^ min (((IntKind.wrap .u64 x1) : Int)).toNat (IntKind.bits .i64))) - 1)) r11 er11) ?_
       refine fA ?_
       refine mA zY [(9,[]),(10,[]),(11,[])] 32 [⟨[8],3,46,47⟩,⟨[2,8],3,41,42⟩] fun cx => ?_
       refine sA_ 4721302929670372 132 ⟨100,0,[sB 52 (!r11),sI 47 v9.Members,sA 46 7 3 1,sI 42 v9.Id,sA 41 7 3 0,sA 7 7 3 0,sI 6 y3,sI 5 (IntKind.wrap .i64 ((IntKind.wrap .i64 (1 * 2 ^ min (((IntKind.wrap .u64 x1) : Int)).toNat (IntKind.bits .i64))) - 1)),sA 2 2 2 0],[(7,(zB.row v9)),(2,(CV.frzRow (zC.row x0)))]⟩ ?_
       rw [h8]
       refine mA zY [(12,[]),(13,[]),(14,[]),(15,[]),(16,[]),(17,[]),(18,[]),(19,[]),(20,[]),(21,[]),(22,[]),(23,[]),(24,[]),(25,[]),(26,[]),(27,[]),(28,[]),(29,[]),(30,[]),(31,[]),(32,[]),(33,[]),(34,[]),(35,[]),(36,[]),(37,[]),(38,[]),(39,[]),(40,[]),(41,[]),(42,[]),(43,[])] 0 [⟨[8],3,46,47⟩,⟨[2,8],3,41,42⟩] fun cx => ?_
       exact mE zY [84,6,5,2] [2]
      refine tB_ ?_
      refine gA 1 16 0 ?_
      refine te ?_
      obtain rfl := si H
      have H := Ho8
      dsimp only at H
      exact fF H
     have H := zJ h7 H
     refine Tr.draws mixed 44 kr ⟨100,0,[sB 84 true,sI 6 y3,sI 5 (IntKind.wrap .i64 ((IntKind.wrap .i64 (1 * 2 ^ min (((IntKind.wrap .u64 x1) : Int)).toNat (IntKind.bits .i64))) - 1)),sA 2 2 2 0],[(2,(CV.frzRow (zC.row x0)))]⟩ (fun cx => ?_) ?_
     ·refine mA zY [(0,[]),(1,[2])] 42 [⟨[2],3,41,42⟩] fun cx => ?_
      refine mC zY 2 ?_
      refine vA [.rd,.rd,.rd] (zP n v9.Id 1 99 r10 er10) ?_
      refine fA ?_
      refine mA zY [(3,[]),(4,[])] 39 [⟨[2],3,41,42⟩] fun cx => ?_
      refine sA_ 41781441855716 132 ⟨100,0,[sB 45 (!r10),sI 42 v9.Id,sA 41 7 3 0,sA 7 7 3 0,sI 6 y3,sI 5 (IntKind.wrap .i64 ((IntKind.wrap .i64 (1 * 2 ^ min (((IntKind.wrap .u64 x1) : Int)).toNat (IntKind.bits .i64))) - 1)),sA 2 2 2 0],[(7,(zB.row v9)),(2,(CV.frzRow (zC.row x0)))]⟩ ?_
      rw [h7]
      refine mA zY [(5,[]),(6,[]),(7,[]),(8,[]),(9,[]),(10,[]),(11,[]),(12,[]),(13,[]),(14,[]),(15,[]),(16,[]),(17,[]),(18,[]),(19,[]),(20,[]),(21,[]),(22,[]),(23,[]),(24,[]),(25,[]),(26,[]),(27,[]),(28,[]),(29,[]),(30,[]),(31,[]),(32,[]),(33,[]),(34,[]),(35,[]),(36,[]),(37,[]),(38,[]),(39,[]),(40,[]),(41,[]),(42,[]),(43,[])] 0 [⟨[2],3,41,42⟩] fun cx => ?_
      exact mE zY [84,6,5,2] [2]
     refine tB_ ?_
     refine gA 1 16 0 ?_
     refine te ?_
     obtain rfl := si H
     have H := Ho8
     dsimp only at H
     exact fF H
    rintro _ H
    have H : (ZY n x0) = some r := H
    unfold ZY at H
    refine tS ?_
    refine gA 1 260 4 ?_
    obtain ⟨o5,eo5,Ho5⟩ := bs H
    clear H
    refine Tr.mid (ι := Unit) (fun v => ⟨100,0,[],[]⟩) (fun v => Y9 n = some r) ?_ ?_
    ·refine tB ?_
     refine Tr.loop (ι := Nat × (Int)) (fun v => ⟨100,0,[sI 8 v.2,sA 2 2 2 0],[(2,(CV.frzRow (zC.row x0)))]⟩) (fun v => z5 n v.1 x0 v.2 = some o5) (fun v => v.1) (n,0) eo5 (St.sub_of [8,2] [2] kr) ?_
     rintro ⟨mo5,y4⟩ H
     have H : z5 n mo5 x0 y4 = some o5 := H
     obtain _ | mo5 := mo5
     ·exact nN H
     rw [z5] at H
     refine tS ?_
     refine rA 3 ?_
     refine kF x0.Pv intRow ?_
     refine uA 1 0x20000000000000000000104 4 ?_
     obtain ⟨h4,H⟩ | ⟨h4,H⟩ := bC H
     ·refine nA h4 ?_
      refine Tr.exit ?_
      refine aJ ?_
      obtain rfl := si H
      have H := Ho5
      dsimp only at H
      exact jA () H [] []
     refine tA h4 ?_
     refine tK ?_
     refine tS ?_
     refine tB ?_
     obtain ⟨v6,ev6,H⟩ := bs H
     obtain ⟨r7,er7,H⟩ := bs H
     refine Tr.draws mixed 8 kr ⟨100,0,[sB 99 (decide (r7 < 0)),sI 8 y4,sA 2 2 2 0],[(2,(CV.frzRow (zC.row x0)))]⟩ (fun cx => ?_) ?_
     ·refine aA [(0,[6]),(1,[]),(2,[6]),(3,[])] 4 [⟨[6],27,93,94⟩,⟨[6],29,2,92⟩] fun cx => ?_
      refine aI tOk 4 27 0 94 95 96 none ⟨(.box 2),[(0,0)],1,false,1,(CV.frzEs (x0.Pv.map intRow))⟩ y4 [cI v6] _ kr kr kr kr kr kr rfl (zBz ev6) rfl (fun cx => ?_)
      refine aA [(5,[])] 2 [⟨[6],27,93,94⟩,⟨[6],29,2,92⟩] fun cx => ?_
      refine bA 6 ?_
      refine vA [.rd,.rd] (J0 n x0 v6 r7 er7) ?_
      refine fA ?_
      refine aA [(7,[])] 0 [⟨[6],27,93,94⟩,⟨[6],29,2,92⟩] fun cx => ?_
      exact eE [99,8,2] [2]
     refine sT ⟨100,0,[sB 99 (decide (r7 < 0)),sI 8 y4,sA 2 2 2 0],[(2,(CV.frzRow (zC.row x0)))]⟩ ?_
     cases h5 : (decide (r7 < 0))
     ·have H := zI h5 H
      refine nB_ ?_
      refine tK ?_
      refine eA 3 260 4 ?_
      exact jB mo5 (IntKind.wrap .i64 (y4 + 1)) H [8,2] [2]
     have H := zJ h5 H
     refine tB_ ?_
     refine gA 1 16 0 ?_
     refine te ?_
     obtain rfl := si H
     have H := Ho5
     dsimp only at H
     exact fF H
    rintro _ H
    have H : (Y9 n) = some r := H
    unfold Y9 at H
    refine gA 1 16 0 ?_
    exact te (fT H)
   refine tA h3 ?_
   refine gA 1 16 0 ?_
   exact te (fF H)
  have H := zJ h2 H
  refine uA 5 16777222 4 ?_
  refine tB_ ?_
  refine gA 1 16 0 ?_
  exact te (fF H)
 have H := zJ h1 H
 refine uA 12 16777222 4 ?_
 refine tB_ ?_
 refine gA 1 16 0 ?_
 exact te (fF H)
def qd (n : Nat) (x0 : zC) : Option (zC) :=
  (bif (decide (([] : List zB).length + x0.Rows.length ≤ 268435456)) then (bif (decide (([] : List Int).length + x0.Pv.length ≤ 268435456)) then (some (⟨(([] : List zB) ++ x0.Rows),(([] : List Int) ++ x0.Pv)⟩ : zC)) else none) else none)
theorem Z5 (n : Nat) (x0 : zC) (r : zC) (H : qd n x0 = some r) : zG Try.prog 107 [.val true (CV.frzRow (zC.row x0))] [.val true (zC.row r)] [] := by
 refine cW Try.func107 (fun g d => sl [g 0,d 1] .ret) [.cell 2 29] fun cx => ?_
 unfold qd at H
 refine gA 2 6 6 ?_
 obtain ⟨hg1,H⟩ := gs H
 obtain ⟨hg2,H⟩ := gs H
 refine Tr.draws mixed 10 kr ⟨12,0,[sA 2 2 2 0],[(2,[cL 3 (([] : List zB) ++ x0.Rows) zB.row,cL 1 (([] : List Int) ++ x0.Pv) intRow])]⟩ (fun cx => ?_) ?_
 ·refine aA [(1,[]),(2,[3,7,8,9]),(5,[]),(6,[7,8,9])] 6 [⟨[7,8,9],27,8,9⟩,⟨[3,7,8,9],26,4,5⟩] fun cx => ?_
  refine AT.big2 tOk 0 4 kr (And.intro kr ?_) (And.intro kr ?_)
  ·refine lA 1 ?_
   refine fA ?_
   refine AT.big2 tOk 3 4 kr (And.intro kr ?_) (And.intro kr ?_)
   ·refine pD zB.row hg1 ?_
    refine fA ?_
    refine bA 4 ?_
    refine lA 1 ?_
    refine fA ?_
    refine bA 7 ?_
    refine pD intRow hg2 ?_
    refine fA ?_
    refine bA 8 ?_
    refine lA 1 ?_
    refine fA ?_
    refine bA 9 ?_
    refine lA 1 ?_
    refine fA ?_
    exact eE [2] [2]
   ·refine lA 1 ?_
    refine fA ?_
    refine bA 3 ?_
    refine pD zB.row hg1 ?_
    refine fA ?_
    refine bA 7 ?_
    refine pD intRow hg2 ?_
    refine fA ?_
    refine bA 8 ?_
    refine lA 1 ?_
    refine fA ?_
    refine bA 9 ?_
    refine lA 1 ?_
    refine fA ?_
    exact eE [2] [2]
  ·refine lA 1 ?_
   refine fA ?_
   refine bA 0 ?_
   refine lA 1 ?_
   refine fA ?_
   refine bA 3 ?_
   refine pD zB.row hg1 ?_
   refine fA ?_
   refine bA 7 ?_
   refine pD intRow hg2 ?_
   refine fA ?_
   refine bA 8 ?_
   refine lA 1 ?_
   refine fA ?_
   refine bA 9 ?_
   refine lA 1 ?_
   refine fA ?_
   exact eE [2] [2]
 exact te (fJ [(true,[cL 3 (([] : List zB) ++ x0.Rows) zB.row,cL 1 (([] : List Int) ++ x0.Pv) intRow])] H)
def YC (n : Nat) (x0 : zC) (x1 : zC) : Option (zC × Bool) :=
  ((zh n x0 (x1.Pv.length : Int)).bind fun r1 => (bif (!r1) then ((qd n x1).bind fun r2 => (some (r2,false))) else (some (x0,true))))
theorem zDH (n : Nat) (x0 : zC) (x1 : zC) (r : zC × Bool) (H : YC n x0 x1 = some r) : zG Try.prog 108 [.own true (zC.row x0),.val true (CV.frzRow (zC.row x1))] [.val true (zC.row r.1),.val false [.lit (.bool r.2)]] [] := by
 refine cW Try.func108 (fun g d => sl [g 0,sl [g 1] (cn 11 (sl [g 2] .ret) .skip),g 3] .ret) [.cell 4 29,.tmp 5] fun cx => ?_
 unfold YC at H
 refine gA 4 28 28 ?_
 refine tS ?_
 refine rA 3 ?_
 refine kF x1.Pv intRow ?_
 obtain ⟨r1,er1,H⟩ := bs H
 refine vB [.rd,.rd] [.box 2] (JL n x0 (x1.Pv.length : Int) r1 er1) (.inr (zn (zH zM zj) qa)) ?_
 refine uA 1 2076 28 ?_
 obtain ⟨h1,H⟩ | ⟨h1,H⟩ := bC H
 ·refine nA h1 ?_
  refine tK ?_
  refine gA 3 48 16 ?_
  exact te (fJ [(true,(zC.row x0)),(false,[cB true])] H)
 refine tA h1 ?_
 refine rA 1 ?_
 obtain ⟨r2,er2,H⟩ := bs H
 refine vA [.rd] (Z5 n x1 r2 er2) ?_
 refine uA 2 48 16 ?_
 exact te (fJ [(true,(zC.row r2)),(false,[cB false])] H)
def YH (n : Nat) (x0 : zC) (x1 : Int) (x2 : Int) : Option (zC × Bool) :=
  ((zh n x0 (x0.Pv.length : Int)).bind fun r1 => (bif (!r1) then ((qd n x0).bind fun r7 => (some (r7,false))) else ((zQ n x1 0 (IntKind.wrap .i64 ((x0.Pv.length : Int) - 1))).bind fun r2 => (bif (!r2) then ((qd n x0).bind fun r6 => (some (r6,false))) else ((qd n x0).bind fun r3 => ((idx r3.Pv x1).bind fun v4 => ((YC n (⟨r3.Rows,(r3.Pv.set (x1.toNat) x2)⟩ : zC) x0).bind fun r5 => (some (r5.1,r5.2)))))))))
theorem zGW (n : Nat) (x0 : zC) (x1 : Int) (x2 : Int) (r : zC × Bool) (H : YH n x0 x1 x2 = some r) : zG Try.prog 39 [.val true (CV.frzRow (zC.row x0)),.val false [.lit (.int .i64 x1)],.val false [.lit (.int .i64 x2)]] [.val true (zC.row r.1),.val false [.lit (.bool r.2)]] [] := by
 refine cW Try.func39 (fun g d => sl [g 0,sl [g 1] (cn 23 (sl [g 2] .ret) .skip),g 3,g 4,g 5] .ret) [.cell 6 29,.tmp 7] fun cx => ?_
 unfold YH at H
 refine gA 3 78 72 ?_
 refine tS ?_
 refine rA 3 ?_
 refine kF x0.Pv intRow ?_
 obtain ⟨r1,er1,H⟩ := bs H
 refine vA [.rd,.rd] (JL n x0 (x0.Pv.length : Int) r1 er1) ?_
 refine lA 2 ?_
 refine sL 32846 72 ⟨38,0,[sB 15 (!r1),sA 6 6 2 0,sA 3 3 2 0,sI 1 x1,sI 2 x2],[(6,[cL 3 ([] : List zB) zB.row,cL 1 ([] : List Int) intRow]),(3,(CV.frzRow (zC.row x0)))]⟩ ?_
 cases h1 : (!r1)
 ·have H := zI h1 H
  refine lA 3 ?_
  refine kF x0.Pv intRow ?_
  refine lA 1 ?_
  obtain ⟨r2,er2,H⟩ := bs H
  refine vA [.rd,.rd,.rd] (zP n x1 0 (IntKind.wrap .i64 ((x0.Pv.length : Int) - 1)) r2 er2) ?_
  refine uA 2 8388686 72 ?_
  obtain ⟨h2,H⟩ | ⟨h2,H⟩ := bC H
  ·refine nA h2 ?_
   refine tK ?_
   refine rA 1 ?_
   obtain ⟨r3,er3,H⟩ := bs H
   refine vA [.rd] (Z5 n x0 r3 er3) ?_
   refine uA 2 334 328 ?_
   refine rA 4 ?_
   obtain ⟨v4,ev4,H⟩ := bs H
   refine oA intRow ev4 ?_
   refine LAt.storeB tOk (t := 3) (ty := 0) (ad := (.tmp 32)) (x := (.tmp 31)) (g := none) (tI 3) false [cI x2] 8 1 (x1.toNat) 1 0 1 r3.Pv intRow v4 x2 kr kr kr kr kr kr kr kr (Y3 ev4).2 kr kr kr kr ?_
   refine dA 328 328 ?_
   refine rA 2 ?_
   obtain ⟨r5,er5,H⟩ := bs H
   refine vA [.own,.rd] (zDH n (⟨r3.Rows,(r3.Pv.set (x1.toNat) x2)⟩ : zC) x0 r5 er5) ?_
   refine uA 4 192 64 ?_
   exact te (fJ [(true,(zC.row r5.1)),(false,[cB r5.2])] H)
  refine tA h2 ?_
  refine rA 1 ?_
  obtain ⟨r6,er6,H⟩ := bs H
  refine vA [.rd] (Z5 n x0 r6 er6) ?_
  refine uA 2 192 64 ?_
  exact te (fJ [(true,(zC.row r6)),(false,[cB false])] H)
 have H := zJ h1 H
 refine uA 8 8388686 72 ?_
 refine tB_ ?_
 refine rA 1 ?_
 obtain ⟨r7,er7,H⟩ := bs H
 refine vA [.rd] (Z5 n x0 r7 er7) ?_
 refine uA 2 192 64 ?_
 exact te (fJ [(true,(zC.row r7)),(false,[cB false])] H)
def Qf (n : Nat) (x0 : zC) (x1 : Int) : Option (zC × Bool) :=
  ((ZI n x0 x1).bind fun r1 => ((zh n x0 (x0.Pv.length : Int)).bind fun r2 => (bif (!r2) then ((qd n x0).bind fun r10 => (some (r10,false))) else (bif (decide (r1 < 0)) then ((qd n x0).bind fun r9 => (some (r9,false))) else ((qd n x0).bind fun r3 => (bif (decide ((0 : Int) ≤ 0) && (decide ((0 : Int) ≤ r1) && decide ((r1 : Int) ≤ (x0.Rows.length : Int)))) then (bif (decide (([] : List zB).length + ((x0.Rows.drop ((0 : Int)).toNat).take (((r1 : Int)).toNat - ((0 : Int)).toNat)).length ≤ 268435456)) then (bif (decide ((0 : Int) ≤ (IntKind.wrap .i64 (r1 + 1))) && (decide (((IntKind.wrap .i64 (r1 + 1)) : Int) ≤ (x0.Rows.length : Int)) && decide (((x0.Rows.length : Int) : Int) ≤ (x0.Rows.length : Int)))) then (bif (decide ((([] : List zB) ++ ((x0.Rows.drop ((0 : Int)).toNat).take (((r1 : Int)).toNat - ((0 : Int)).toNat))).length + ((x0.Rows.drop (((IntKind.wrap .i64 (r1 + 1)) : Int)).toNat).take ((((x0.Rows.length : Int) : Int)).toNat - (((IntKind.wrap .i64 (r1 + 1)) : Int)).toNat)).length ≤ 268435456)) then ((YC n (⟨((([] : List zB) ++ ((x0.Rows.drop ((0 : Int)).toNat).take (((r1 : Int)).toNat - ((0 : Int)).toNat))) ++ ((x0.Rows.drop (((IntKind.wrap .i64 (r1 + 1)) : Int)).toNat).take ((((x0.Rows.length : Int) : Int)).toNat - (((IntKind.wrap .i64 (r1 + 1)) : Int)).toNat))),r3.Pv⟩ : zC) x0).bind fun r8 => (some (r8.1,r8.2))) else none) else none) else none) else none))))))
def zJZ : Tab := ⟨14,[0,0,2,0,12,17,0,64,0,256,640,1056,4095,8191],[0,0,2,0,12,17,0,64,0,256,640,1056,0,6144],[0,0,2,0,14,31,0,64,0,256,960,2047,4095,8191]⟩
theorem zo : z6 (rg Try.f36 5) zJZ = true := kr
theorem zEi (n : Nat) (x0 : zC) (r1 : Int) (r3 : zC) (hg4 : (decide ((0 : Int) ≤ 0) && (decide ((0 : Int) ≤ r1) && decide ((r1 : Int) ≤ (x0.Rows.length : Int)))) = true) (hg5 : (decide (([] : List zB).length + ((x0.Rows.drop ((0 : Int)).toNat).take (((r1 : Int)).toNat - ((0 : Int)).toNat)).length ≤ 268435456)) = true) (hg6 : (decide ((0 : Int) ≤ (IntKind.wrap .i64 (r1 + 1))) && (decide (((IntKind.wrap .i64 (r1 + 1)) : Int) ≤ (x0.Rows.length : Int)) && decide (((x0.Rows.length : Int) : Int) ≤ (x0.Rows.length : Int)))) = true) (hg7 : (decide ((([] : List zB) ++ ((x0.Rows.drop ((0 : Int)).toNat).take (((r1 : Int)).toNat - ((0 : Int)).toNat))).length + ((x0.Rows.drop (((IntKind.wrap .i64 (r1 + 1)) : Int)).toNat).take ((((x0.Rows.length : Int) : Int)).toNat - (((IntKind.wrap .i64 (r1 + 1)) : Int)).toNat)).length ≤ 268435456)) = true) (cx : Cx) : AT Try.prog cx (rg Try.f36 5) [] 14 [] ⟨43,0,[sA 7 7 2 0,sI 6 r1,sA 4 4 2 0,sA 2 2 2 0],[(7,(zC.row r3)),(4,[cL 3 ([] : List zB) zB.row,cL 1 ([] : List Int) intRow]),(2,(CV.frzRow (zC.row x0)))]⟩ (fun s => s = ⟨43,0,[sA 7 7 2 0,sA 4 4 2 0,sA 2 2 2 0],[(7,[cL 3 ((([] : List zB) ++ ((x0.Rows.drop ((0 : Int)).toNat).take (((r1 : Int)).toNat - ((0 : Int)).toNat))) ++ ((x0.Rows.drop (((IntKind.wrap .i64 (r1 + 1)) : Int)).toNat).take ((((x0.Rows.length : Int) : Int)).toNat - (((IntKind.wrap .i64 (r1 + 1)) : Int)).toNat))) zB.row,cL 1 r3.Pv intRow]),(4,[cL 3 ([] : List zB) zB.row,cL 1 ([] : List Int) intRow]),(2,(CV.frzRow (zC.row x0)))]⟩) := by
 refine mA zo [(1,[]),(2,[4,5,11,13]),(3,[]),(6,[]),(7,[10,11,13]),(8,[]),(9,[])] 7 [⟨[10,11,13],26,31,32⟩,⟨[4,5,11,13],26,26,27⟩] fun cx => ?_
 refine mB3 tOk zo 0 4 10 kr (And.intro kr ?_) (And.intro kr ?_) (And.intro kr ?_)
 ·refine lA 1 ?_
  refine fA ?_
  refine mB2 tOk zo 4 10 kr (And.intro kr ?_) (And.intro kr ?_)
  ·refine LAt.cutG tOk (t := 26) (ty := 26) (e := 124) (x := (.tmp 27)) (lo := none) (hi := (some (.tmp 28))) (d := 29) (g := none) (tI 124) zB.row x0.Rows ⟨(.box 2),[(0,0)],0,false,3,(CV.frzEs (x0.Rows.map zB.row))⟩ 0 r1 kr kr kr kr kr kr rfl kr rfl kr kr hg4 ?_
   refine fA ?_
   refine mB2 tOk zo 5 10 kr (And.intro kr ?_) (And.intro kr ?_)
   ·refine pD zB.row hg5 ?_
    refine fA ?_
    refine mC zo 10 ?_
    refine LAt.cutG tOk (t := 26) (ty := 26) (e := 124) (x := (.tmp 32)) (lo := (some (.tmp 34))) (hi := none) (d := 35) (g := none) (tI 124) zB.row x0.Rows ⟨(.box 2),[(0,0)],0,false,3,(CV.frzEs (x0.Rows.map zB.row))⟩ (IntKind.wrap .i64 (r1 + 1)) (x0.Rows.length : Int) kr kr kr kr kr kr rfl kr rfl kr kr hg6 ?_
    refine fA ?_
    refine mC zo 11 ?_
    refine pD zB.row hg7 ?_
    refine fA ?_
    refine mA zo [(12,[])] 1 [⟨[10,11,13],26,31,32⟩,⟨[4,5,11,13],26,26,27⟩] fun cx => ?_
    refine mC zo 13 ?_
    refine lA 1 ?_
    refine fA ?_
    exact mE zo [7,4,2] [7,4,2]
   ·refine LAt.cutG tOk (t := 26) (ty := 26) (e := 124) (x := (.tmp 32)) (lo := (some (.tmp 34))) (hi := none) (d := 35) (g := none) (tI 124) zB.row x0.Rows ⟨(.box 2),[(0,0)],0,false,3,(CV.frzEs (x0.Rows.map zB.row))⟩ (IntKind.wrap .i64 (r1 + 1)) (x0.Rows.length : Int) kr kr kr kr kr kr rfl kr rfl kr kr hg6 ?_
    refine fA ?_
    refine mC zo 5 ?_
    refine pD zB.row hg5 ?_
    refine fA ?_
    refine mC zo 11 ?_
    refine pD zB.row hg7 ?_
    refine fA ?_
    refine mA zo [(12,[])] 1 [⟨[10,11,13],26,31,32⟩,⟨[4,5,11,13],26,26,27⟩] fun cx => ?_
    refine mC zo 13 ?_
    refine lA 1 ?_
    refine fA ?_
    exact mE zo [7,4,2] [7,4,2]
  ·refine LAt.cutG tOk (t := 26) (ty := 26) (e := 124) (x := (.tmp 32)) (lo := (some (.tmp 34))) (hi := none) (d := 35) (g := none) (tI 124) zB.row x0.Rows ⟨(.box 2),[(0,0)],0,false,3,(CV.frzEs (x0.Rows.map zB.row))⟩ (IntKind.wrap .i64 (r1 + 1)) (x0.Rows.length : Int) kr kr kr kr kr kr rfl kr rfl kr kr hg6 ?_
   refine fA ?_
   refine mC zo 4 ?_
   refine LAt.cutG tOk (t := 26) (ty := 26) (e := 124) (x := (.tmp 27)) (lo := none) (hi := (some (.tmp 28))) (d := 29) (g := none) (tI 124) zB.row x0.Rows ⟨(.box 2),[(0,0)],0,false,3,(CV.frzEs (x0.Rows.map zB.row))⟩ 0 r1 kr kr kr kr kr kr rfl kr rfl kr kr hg4 ?_
   refine fA ?_
   refine mC zo 5 ?_
   refine pD zB.row hg5 ?_
   refine fA ?_
   refine mC zo 11 ?_
   refine pD zB.row hg7 ?_
   refine fA ?_
   refine mA zo [(12,[])] 1 [⟨[10,11,13],26,31,32⟩,⟨[4,5,11,13],26,26,27⟩] fun cx => ?_
   refine mC zo 13 ?_
   refine lA 1 ?_
   refine fA ?_
   exact mE zo [7,4,2] [7,4,2]
 ·refine LAt.cutG tOk (t := 26) (ty := 26) (e := 124) (x := (.tmp 27)) (lo := none) (hi := (some (.tmp 28))) (d := 29) (g := none) (tI 124) zB.row x0.Rows ⟨(.box 2),[(0,0)],0,false,3,(CV.frzEs (x0.Rows.map zB.row))⟩ 0 r1 kr kr kr kr kr kr rfl kr rfl kr kr hg4 ?_
  refine fA ?_
  refine mB2 tOk zo 0 10 kr (And.intro kr ?_) (And.intro kr ?_)
  ·refine lA 1 ?_
   refine fA ?_
   refine mB2 tOk zo 5 10 kr (And.intro kr ?_) (And.intro kr ?_)
   ·refine pD zB.row hg5 ?_
    refine fA ?_
    refine mC zo 10 ?_
    refine LAt.cutG tOk (t := 26) (ty := 26) (e := 124) (x := (.tmp 32)) (lo := (some (.tmp 34))) (hi := none) (d := 35) (g := none) (tI 124) zB.row x0.Rows ⟨(.box 2),[(0,0)],0,false,3,(CV.frzEs (x0.Rows.map zB.row))⟩ (IntKind.wrap .i64 (r1 + 1)) (x0.Rows.length : Int) kr kr kr kr kr kr rfl kr rfl kr kr hg6 ?_
    refine fA ?_
    refine mC zo 11 ?_
    refine pD zB.row hg7 ?_
    refine fA ?_
    refine mA zo [(12,[])] 1 [⟨[10,11,13],26,31,32⟩,⟨[4,5,11,13],26,26,27⟩] fun cx => ?_
    refine mC zo 13 ?_
    refine lA 1 ?_
    refine fA ?_
    exact mE zo [7,4,2] [7,4,2]
   ·refine LAt.cutG tOk (t := 26) (ty := 26) (e := 124) (x := (.tmp 32)) (lo := (some (.tmp 34))) (hi := none) (d := 35) (g := none) (tI 124) zB.row x0.Rows ⟨(.box 2),[(0,0)],0,false,3,(CV.frzEs (x0.Rows.map zB.row))⟩ (IntKind.wrap .i64 (r1 + 1)) (x0.Rows.length : Int) kr kr kr kr kr kr rfl kr rfl kr kr hg6 ?_
    refine fA ?_
    refine mC zo 5 ?_
    refine pD zB.row hg5 ?_
    refine fA ?_
    refine mC zo 11 ?_
    refine pD zB.row hg7 ?_
    refine fA ?_
    refine mA zo [(12,[])] 1 [⟨[10,11,13],26,31,32⟩,⟨[4,5,11,13],26,26,27⟩] fun cx => ?_
    refine mC zo 13 ?_
    refine lA 1 ?_
    refine fA ?_
    exact mE zo [7,4,2] [7,4,2]
  ·refine LAt.cutG tOk (t := 26) (ty := 26) (e := 124) (x := (.tmp 32)) (lo := (some (.tmp 34))) (hi := none) (d := 35) (g := none) (tI 124) zB.row x0.Rows ⟨(.box 2),[(0,0)],0,false,3,(CV.frzEs (x0.Rows.map zB.row))⟩ (IntKind.wrap .i64 (r1 + 1)) (x0.Rows.length : Int) kr kr kr kr kr kr rfl kr rfl kr kr hg6 ?_
   refine fA ?_
   refine mC zo 0 ?_
   refine lA 1 ?_
   refine fA ?_
   refine mC zo 5 ?_
   refine pD zB.row hg5 ?_
   refine fA ?_
   refine mC zo 11 ?_
   refine pD zB.row hg7 ?_
   refine fA ?_
   refine mA zo [(12,[])] 1 [⟨[10,11,13],26,31,32⟩,⟨[4,5,11,13],26,26,27⟩] fun cx => ?_
   refine mC zo 13 ?_
   refine lA 1 ?_
   refine fA ?_
   exact mE zo [7,4,2] [7,4,2]
 ·refine LAt.cutG tOk (t := 26) (ty := 26) (e := 124) (x := (.tmp 32)) (lo := (some (.tmp 34))) (hi := none) (d := 35) (g := none) (tI 124) zB.row x0.Rows ⟨(.box 2),[(0,0)],0,false,3,(CV.frzEs (x0.Rows.map zB.row))⟩ (IntKind.wrap .i64 (r1 + 1)) (x0.Rows.length : Int) kr kr kr kr kr kr rfl kr rfl kr kr hg6 ?_
  refine fA ?_
  refine mB2 tOk zo 0 4 kr (And.intro kr ?_) (And.intro kr ?_)
  ·refine lA 1 ?_
   refine fA ?_
   refine mC zo 4 ?_
   refine LAt.cutG tOk (t := 26) (ty := 26) (e := 124) (x := (.tmp 27)) (lo := none) (hi := (some (.tmp 28))) (d := 29) (g := none) (tI 124) zB.row x0.Rows ⟨(.box 2),[(0,0)],0,false,3,(CV.frzEs (x0.Rows.map zB.row))⟩ 0 r1 kr kr kr kr kr kr rfl kr rfl kr kr hg4 ?_
   refine fA ?_
   refine mC zo 5 ?_
   refine pD zB.row hg5 ?_
   refine fA ?_
   refine mC zo 11 ?_
   refine pD zB.row hg7 ?_
   refine fA ?_
   refine mA zo [(12,[])] 1 [⟨[10,11,13],26,31,32⟩,⟨[4,5,11,13],26,26,27⟩] fun cx => ?_
   refine mC zo 13 ?_
   refine lA 1 ?_
   refine fA ?_
   exact mE zo [7,4,2] [7,4,2]
  ·refine LAt.cutG tOk (t := 26) (ty := 26) (e := 124) (x := (.tmp 27)) (lo := none) (hi := (some (.tmp 28))) (d := 29) (g := none) (tI 124) zB.row x0.Rows ⟨(.box 2),[(0,0)],0,false,3,(CV.frzEs (x0.Rows.map zB.row))⟩ 0 r1 kr kr kr kr kr kr rfl kr rfl kr kr hg4 ?_
   refine fA ?_
   refine mC zo 0 ?_
   refine lA 1 ?_
   refine fA ?_
   refine mC zo 5 ?_
   refine pD zB.row hg5 ?_
   refine fA ?_
   refine mC zo 11 ?_
   refine pD zB.row hg7 ?_
   refine fA ?_
   refine mA zo [(12,[])] 1 [⟨[10,11,13],26,31,32⟩,⟨[4,5,11,13],26,26,27⟩] fun cx => ?_
   refine mC zo 13 ?_
   refine lA 1 ?_
   refine fA ?_
   exact mE zo [7,4,2] [7,4,2]
theorem zGT (n : Nat) (x0 : zC) (x1 : Int) (r : zC × Bool) (H : Qf n x0 x1 = some r) : zG Try.prog 36 [.val true (CV.frzRow (zC.row x0)),.val false [.lit (.int .i64 x1)]] [.val true (zC.row r.1),.val false [.lit (.bool r.2)]] [] := by
 refine cW Try.func36 (fun g d => sl [g 0,g 1,sl [g 2] (cn 20 (sl [g 3] .ret) .skip),g 4,d 5,g 6] .ret) [.cell 4 29,.tmp 5] fun cx => ?_
 unfold Qf at H
 refine gA 3 22 20 ?_
 refine rA 2 ?_
 obtain ⟨r1,er1,H⟩ := bs H
 refine vA [.rd,.rd] (J0 n x0 x1 r1 er1) ?_
 refine uA 1 84 20 ?_
 refine tS ?_
 refine rA 3 ?_
 refine kF x0.Pv intRow ?_
 obtain ⟨r2,er2,H⟩ := bs H
 refine vA [.rd,.rd] (JL n x0 (x0.Pv.length : Int) r2 er2) ?_
 refine lA 2 ?_
 refine sL 131156 20 ⟨43,0,[sB 17 (!r2),sI 6 r1,sA 4 4 2 0,sA 2 2 2 0],[(4,[cL 3 ([] : List zB) zB.row,cL 1 ([] : List Int) intRow]),(2,(CV.frzRow (zC.row x0)))]⟩ ?_
 cases h1 : (!r2)
 ·have H := zI h1 H
  refine uA 3 1048660 20 ?_
  obtain ⟨h2,H⟩ | ⟨h2,H⟩ := bC H
  ·refine nA h2 ?_
   refine tK ?_
   refine rA 1 ?_
   obtain ⟨r3,er3,H⟩ := bs H
   refine vA [.rd] (Z5 n x0 r3 er3) ?_
   refine uA 2 212 148 ?_
   obtain ⟨hg4,H⟩ := gs H
   obtain ⟨hg5,H⟩ := gs H
   obtain ⟨hg6,H⟩ := gs H
   obtain ⟨hg7,H⟩ := gs H
   refine sT ⟨43,0,[sA 7 7 2 0,sI 6 r1,sA 4 4 2 0,sA 2 2 2 0],[(7,(zC.row r3)),(4,[cL 3 ([] : List zB) zB.row,cL 1 ([] : List Int) intRow]),(2,(CV.frzRow (zC.row x0)))]⟩ ?_
   refine Tr.draws mixed 14 kr ⟨43,0,[sA 7 7 2 0,sA 4 4 2 0,sA 2 2 2 0],[(7,[cL 3 ((([] : List zB) ++ ((x0.Rows.drop ((0 : Int)).toNat).take (((r1 : Int)).toNat - ((0 : Int)).toNat))) ++ ((x0.Rows.drop (((IntKind.wrap .i64 (r1 + 1)) : Int)).toNat).take ((((x0.Rows.length : Int) : Int)).toNat - (((IntKind.wrap .i64 (r1 + 1)) : Int)).toNat))) zB.row,cL 1 r3.Pv intRow]),(4,[cL 3 ([] : List zB) zB.row,cL 1 ([] : List Int) intRow]),(2,(CV.frzRow (zC.row x0)))]⟩ (zEi n x0 r1 r3 hg4 hg5 hg6 hg7) ?_
   refine rA 2 ?_
   obtain ⟨r8,er8,H⟩ := bs H
   refine vA [.own,.rd] (zDH n (⟨((([] : List zB) ++ ((x0.Rows.drop ((0 : Int)).toNat).take (((r1 : Int)).toNat - ((0 : Int)).toNat))) ++ ((x0.Rows.drop (((IntKind.wrap .i64 (r1 + 1)) : Int)).toNat).take ((((x0.Rows.length : Int) : Int)).toNat - (((IntKind.wrap .i64 (r1 + 1)) : Int)).toNat))),r3.Pv⟩ : zC) x0 r8 er8) ?_
   refine uA 4 48 16 ?_
   exact te (fJ [(true,(zC.row r8.1)),(false,[cB r8.2])] H)
  refine tA h2 ?_
  refine rA 1 ?_
  obtain ⟨r9,er9,H⟩ := bs H
  refine vA [.rd] (Z5 n x0 r9 er9) ?_
  refine uA 2 48 16 ?_
  exact te (fJ [(true,(zC.row r9)),(false,[cB false])] H)
 have H := zJ h1 H
 refine uA 3 1048660 20 ?_
 refine tB_ ?_
 refine rA 1 ?_
 obtain ⟨r10,er10,H⟩ := bs H
 refine vA [.rd] (Z5 n x0 r10 er10) ?_
 refine uA 2 48 16 ?_
 exact te (fJ [(true,(zC.row r10)),(false,[cB false])] H)
def Y1 (n : Nat) (x0 : Src) (x1 : Int) : Option (zB × Src) :=
  (bif (decide ((0 : Int) ≤ (IntKind.wrap .u64 x1))) then ((zT n x0 (IntKind.wrap .i64 ((IntKind.wrap .i64 ((IntKind.wrap .i64 (1 * 2 ^ min (((IntKind.wrap .u64 x1) : Int)).toNat (IntKind.bits .i64))) - 1)) + 1))).bind fun r2 => ((ql n r2.2 [1,2,3,2]).bind fun r3 => ((zT n r3.2 (IntKind.wrap .i64 ((IntKind.wrap .i64 ((IntKind.wrap .i64 (1 * 2 ^ min (((IntKind.wrap .u64 x1) : Int)).toNat (IntKind.bits .i64))) - 1)) + 1))).bind fun r4 => (some ((⟨r3.1,r2.1,(IntKind.wrap .i64 (BitVec.ofInt (IntKind.bits .i64) r2.1 &&& BitVec.ofInt (IntKind.bits .i64) r4.1).toNat)⟩ : zB),r4.2))))) else none)
noncomputable abbrev zHN (k : Nat) := Rg Try.f158 k
theorem zG2 (n : Nat) (x0 : Src) (x1 : Int) (r : zB × Src) (H : Y1 n x0 x1 = some r) : zG Try.prog 158 [.ptr (CV.frzRow (Src.row x0)),.val false [.lit (.int .i64 x1)]] [.val true (zB.row r.1)] [(0,(CV.frzRow (Src.row r.2)))] := by
 refine zG.of_body tOk Try.func158 rfl (c := (.seq (zHN 0) (.seq (zHN 1) (.seq (zHN 2) (.seq (zHN 3) .ret))))) kr (Nat.le_of_ble_eq_true kr) 1 (rs := [.cell 4 124]) rfl [] .nil [(true,(zB.row r.1))] [] [(0,(CV.frzRow (Src.row r.2)))] fun cx => ?_
 show Tr _ _ _ ⟨26,1,[sA 0 0 3 0,sI 1 x1],[(0,(CV.frzRow (Src.row x0)))]⟩ _
 unfold Y1 at H
 refine gA 1 19 17 ?_
 refine rA 2 ?_
 obtain ⟨hg1,H⟩ := gs H
 refine LAt.binC tOk (op := .shl) (t := 3) (ty := 112) (ty' := 3) (x := (.const (.int .i64 1))) (y := (.tmp 8)) (d := 9) (g := none) (.int .i64 1) (.int .u64 (IntKind.wrap .u64 x1)) (.int .i64 (IntKind.wrap .i64 (1 * 2 ^ min (((IntKind.wrap .u64 x1) : Int)).toNat (IntKind.bits .i64)))) _ kr kr kr kr kr (φ := (0 : Int) ≤ (IntKind.wrap .u64 x1)) kr (of_decide_eq_true hg1) rfl ?_
 refine uA 2 49 17 ?_
 refine rA 3 ?_
 obtain ⟨r2,er2,H⟩ := bs H
 refine LAt.callL tOk [.lend,.rd] (f := 54) (av := #[.tmp 11,.tmp 13]) (ats := #[100,3]) (d := (some 14)) (ty := 3) (g := none) kr kr kr [] (zm n x0 (IntKind.wrap .i64 ((IntKind.wrap .i64 ((IntKind.wrap .i64 (1 * 2 ^ min (((IntKind.wrap .u64 x1) : Int)).toNat (IntKind.bits .i64))) - 1)) + 1)) r2 er2) kr (.inl rfl) ?_
 refine uA 1 113 17 ?_
 refine rA 2 ?_
 obtain ⟨r3,er3,H⟩ := bs H
 refine LAt.callL tOk [.lend,.rd] (f := 56) (av := #[.tmp 15,.tmp 16]) (ats := #[100,27]) (d := (some 17)) (ty := 3) (g := none) kr kr kr [] (QN n r2.2 [1,2,3,2] r3 er3) kr (.inl rfl) ?_
 refine lA 5 ?_
 obtain ⟨r4,er4,H⟩ := bs H
 refine LAt.callL tOk [.lend,.rd] (f := 54) (av := #[.tmp 20,.tmp 22]) (ats := #[100,3]) (d := (some 23)) (ty := 3) (g := none) kr kr kr [] (zm n r3.2 (IntKind.wrap .i64 ((IntKind.wrap .i64 ((IntKind.wrap .i64 (1 * 2 ^ min (((IntKind.wrap .u64 x1) : Int)).toNat (IntKind.bits .i64))) - 1)) + 1)) r4 er4) kr (.inl rfl) ?_
 refine uA 3 17 17 ?_
 refine te ?_
 obtain rfl := si H
 exact Fin.ofY _ [(true,[cI r3.1,cI r2.1,cI (IntKind.wrap .i64 (BitVec.ofInt (IntKind.bits .i64) r2.1 &&& BitVec.ofInt (IntKind.bits .i64) r4.1).toNat)])] [] _ [] _ [(0,(CV.frzRow (Src.row r4.2)))] kr rfl rfl rfl kr kr kr kr rfl rfl rfl
def YN (n : Nat) (x0 : zC) (x1 : zB) (y5 : Bool) (y6 : (List zB)) : Option (zC) :=
  (bif (!y5) then (bif (decide (y6.length + [x1].length ≤ 268435456)) then (some (⟨(y6 ++ [x1]),(([] : List Int) ++ x0.Pv)⟩ : zC)) else none) else (some (⟨y6,(([] : List Int) ++ x0.Pv)⟩ : zC)))
def Zt (n : Nat) (k : (Int × Bool × (List zB) → Option ((Bool × (List zB)) ⊕ (zC)))) (x0 : zC) (x1 : zB) (y2 : Int) (y9 : Bool) (y10 : Bool) (y11 : Bool) (y12 : Bool) (y13 : (List zB)) : Option ((Bool × (List zB)) ⊕ (zC)) :=
  ((idx x0.Rows y2).bind fun v14 => (bif (v14.Id != x1.Id) then ((idx x0.Rows y2).bind fun v15 => (bif (decide (y13.length + [v15].length ≤ 268435456)) then (k ((IntKind.wrap .i64 (y2 + 1)),y12,(y13 ++ [v15]))) else none)) else (k ((IntKind.wrap .i64 (y2 + 1)),y12,y13))))
def qT (n : Nat) : Nat → zC → zB → Int → Bool → (List zB) → Option ((Bool × (List zB)) ⊕ (zC))
  | 0,_,_,_,_,_ => none
  | mo8 + 1,x0,x1,y2,y3,y4 => (bif (decide (y2 < (x0.Rows.length : Int))) then (bif (!y3) then ((idx x0.Rows y2).bind fun v17 => (bif (decide (v17.Id ≥ x1.Id)) then (bif (decide (y4.length + [x1].length ≤ 268435456)) then (Zt n (fun v => qT n mo8 x0 x1 v.1 v.2.1 v.2.2) x0 x1 y2 true true true true (y4 ++ [x1])) else none) else (Zt n (fun v => qT n mo8 x0 x1 v.1 v.2.1 v.2.2) x0 x1 y2 false true true y3 y4))) else (Zt n (fun v => qT n mo8 x0 x1 v.1 v.2.1 v.2.2) x0 x1 y2 false false false y3 y4)) else (some (Sum.inl (y3,y4))))
def JP (n : Nat) (x0 : zC) (x1 : zB) : Option (zC) :=
  (bif (decide (([] : List Int).length + x0.Pv.length ≤ 268435456)) then ((qT n n x0 x1 0 false ([] : List zB)).bind fun o => match o with | .inl (y5,y6) => (YN n x0 x1 y5 y6) | .inr r => some r) else none)
def zJG : Tab := ⟨13,[0,1,2,4,12,4,52,68,132,4,516,1284,2052],[0,1,2,4,12,4,52,68,132,4,516,1284,2052],[0,1,3,7,15,7,63,127,255,7,519,2047,4095]⟩
theorem zAO : z6 (rg Try.f154 6) zJG = true := kr
theorem zHj (n : Nat) (x0 : zC) (x1 : zB) (r : zC) (H : JP n x0 x1 = some r) : zG Try.prog 154 [.val true (CV.frzRow (zC.row x0)),.val true (CV.frzRow (zB.row x1))] [.val true (zC.row r)] [] := by
 refine cW Try.func154 (fun g d => sl [g 0,g 1,g 2,sl [g 3] (.block 0 (.loop (sl [sl [g 4] (cn 17 .skip (.exit 0)),.block 1 (sl [sl [d 6] (cn 32 (sl [g 7] (g 8)) .skip),d 9] (cn 47 (d 10) .skip))] (g 5)))),sl [g 11] (cn 59 (g 12) .skip),g 13] .ret) [.cell 4 29] fun cx => ?_
 unfold JP at H
 refine gA 3 28 28 ?_
 refine rA 3 ?_
 obtain ⟨hg1,H⟩ := gs H
 refine pD intRow hg1 ?_
 refine uA 3 60 60 ?_
 refine gA 1 124 60 ?_
 refine tS ?_
 refine gA 1 252 60 ?_
 obtain ⟨o8,eo8,Ho8⟩ := bs H
 clear H
 refine Tr.mid (ι := Bool × (List zB)) (fun v => ⟨67,0,[sB 6 v.1,sA 5 5 2 0,sA 4 4 2 0,sA 3 3 3 0],[(5,[cL 3 v.2 zB.row,cL 1 (([] : List Int) ++ x0.Pv) intRow]),(4,[cL 3 ([] : List zB) zB.row,cL 1 ([] : List Int) intRow]),(3,(zB.row x1))]⟩) (fun v => YN n x0 x1 v.1 v.2 = some r) ?_ ?_
 ·refine tB ?_
  refine Tr.loop (ι := Nat × (Int × Bool × (List zB))) (fun v => ⟨67,0,[sI 7 v.2.1,sB 6 v.2.2.1,sA 5 5 2 0,sA 4 4 2 0,sA 3 3 3 0,sA 2 2 2 0],[(5,[cL 3 v.2.2.2 zB.row,cL 1 (([] : List Int) ++ x0.Pv) intRow]),(4,[cL 3 ([] : List zB) zB.row,cL 1 ([] : List Int) intRow]),(3,(zB.row x1)),(2,(CV.frzRow (zC.row x0)))]⟩) (fun v => qT n v.1 x0 x1 v.2.1 v.2.2.1 v.2.2.2 = some o8) (fun v => v.1) (n,(0,false,([] : List zB))) eo8 (St.sub_of [7,6,5,4,3,2] [5,4,3,2] kr) ?_
  rintro ⟨mo8,y2,y3,y4⟩ H
  have H : qT n mo8 x0 x1 y2 y3 y4 = some o8 := H
  obtain _ | mo8 := mo8
  ·exact nN H
  rw [qT] at H
  refine tS ?_
  refine rA 3 ?_
  refine kF x0.Rows zB.row ?_
  refine uA 1 254204 60 ?_
  obtain ⟨h2,H⟩ | ⟨h2,H⟩ := bC H
  ·refine nA h2 ?_
   refine Tr.exit ?_
   refine aJ ?_
   obtain rfl := si H
   have H := Ho8
   dsimp only at H
   exact jA (y3,y4) H [6,5,4,3] [5,4,3]
  refine tA h2 ?_
  refine tK ?_
  refine tS ?_
  refine tB ?_
  refine tS ?_
  refine Tr.mid (ι := Bool × Bool × Bool × Bool × (List zB)) (fun v => ⟨67,0,[sB 32 v.1,sB 22 v.2.1,sB 21 v.2.2.1,sB 20 y3,sB 17 true,sI 16 (x0.Rows.length : Int),sC 15 (cF 3 x0.Rows zB.row),sA 14 2 2 0,sI 13 y2,sI 7 y2,sB 6 v.2.2.2.1,sA 5 5 2 0,sA 4 4 2 0,sA 3 3 3 0,sA 2 2 2 0],[(5,[cL 3 v.2.2.2.2 zB.row,cL 1 (([] : List Int) ++ x0.Pv) intRow]),(4,[cL 3 ([] : List zB) zB.row,cL 1 ([] : List Int) intRow]),(3,(zB.row x1)),(2,(CV.frzRow (zC.row x0)))]⟩) (fun v => Zt n (fun v => qT n mo8 x0 x1 v.1 v.2.1 v.2.2) x0 x1 y2 v.1 v.2.1 v.2.2.1 v.2.2.2.1 v.2.2.2.2 = some o8) ?_ ?_
  ·refine tS ?_
   refine sT ⟨67,0,[sB 17 (decide (y2 < (x0.Rows.length : Int))),sI 16 (x0.Rows.length : Int),sC 15 (cF 3 x0.Rows zB.row),sA 14 2 2 0,sI 13 y2,sI 7 y2,sB 6 y3,sA 5 5 2 0,sA 4 4 2 0,sA 3 3 3 0,sA 2 2 2 0],[(5,[cL 3 y4 zB.row,cL 1 (([] : List Int) ++ x0.Pv) intRow]),(4,[cL 3 ([] : List zB) zB.row,cL 1 ([] : List Int) intRow]),(3,(zB.row x1)),(2,(CV.frzRow (zC.row x0)))]⟩ ?_
   cases h4 : (!y3)
   ·have H := zI h4 H
    refine Tr.draw mixed 13 kr ⟨67,0,[sB 32 false,(31,.tup []),(30,.tup []),(29,.tup []),(28,.tup []),(27,.tup []),(26,.tup []),(25,.tup []),(24,.tup []),(23,.tup []),sB 22 false,sB 21 false,sB 20 y3,sB 17 (decide (y2 < (x0.Rows.length : Int))),sI 16 (x0.Rows.length : Int),sC 15 (cF 3 x0.Rows zB.row),sA 14 2 2 0,sI 13 y2,sI 7 y2,sB 6 y3,sA 5 5 2 0,sA 4 4 2 0,sA 3 3 3 0,sA 2 2 2 0],[(5,[cL 3 y4 zB.row,cL 1 (([] : List Int) ++ x0.Pv) intRow]),(4,[cL 3 ([] : List zB) zB.row,cL 1 ([] : List Int) intRow]),(3,(zB.row x1)),(2,(CV.frzRow (zC.row x0)))]⟩ (fun cx => ?_) ?_
    ·refine mA zAO [(0,[]),(1,[]),(2,[])] 10 [] fun cx => ?_
     refine sA_ 7594236 60 ⟨67,0,[sB 22 (!y3),sB 21 (!y3),sB 20 y3,sB 17 (decide (y2 < (x0.Rows.length : Int))),sI 16 (x0.Rows.length : Int),sC 15 (cF 3 x0.Rows zB.row),sA 14 2 2 0,sI 13 y2,sI 7 y2,sB 6 y3,sA 5 5 2 0,sA 4 4 2 0,sA 3 3 3 0,sA 2 2 2 0],[(5,[cL 3 y4 zB.row,cL 1 (([] : List Int) ++ x0.Pv) intRow]),(4,[cL 3 ([] : List zB) zB.row,cL 1 ([] : List Int) intRow]),(3,(zB.row x1)),(2,(CV.frzRow (zC.row x0)))]⟩ ?_
     rw [h4]
     refine mA zAO [(3,[]),(4,[]),(5,[]),(6,[]),(7,[]),(8,[]),(9,[]),(10,[]),(11,[]),(12,[])] 0 [] fun cx => ?_
     exact mE zAO [32,31,30,29,28,27,26,25,24,23,22,21,20,17,16,15,14,13,7,6,5,4,3,2] [5,4,3,2]
    refine nB_ ?_
    refine tK ?_
    refine sB' 8589140220 60 ⟨67,0,[sB 32 false,(31,.tup []),(30,.tup []),(29,.tup []),(28,.tup []),(27,.tup []),(26,.tup []),(25,.tup []),(24,.tup []),(23,.tup []),sB 22 false,sB 21 false,sB 20 y3,sB 17 (decide (y2 < (x0.Rows.length : Int))),sI 16 (x0.Rows.length : Int),sC 15 (cF 3 x0.Rows zB.row),sA 14 2 2 0,sI 13 y2,sI 7 y2,sB 6 y3,sA 5 5 2 0,sA 4 4 2 0,sA 3 3 3 0,sA 2 2 2 0],[(5,[cL 3 y4 zB.row,cL 1 (([] : List Int) ++ x0.Pv) intRow]),(4,[cL 3 ([] : List zB) zB.row,cL 1 ([] : List Int) intRow]),(3,(zB.row x1)),(2,(CV.frzRow (zC.row x0)))]⟩ ?_
    rw [h2]
    exact jA (false,false,false,y3,y4) H [32,22,21,20,17,16,15,14,13,7,6,5,4,3,2] [5,4,3,2]
   have H := zJ h4 H
   obtain ⟨v17,ev17,H⟩ := bs H
   refine Tr.draw mixed 13 kr ⟨67,0,[sB 32 (decide (v17.Id ≥ x1.Id)),sB 31 (decide (v17.Id ≥ x1.Id)),sI 30 x1.Id,sA 29 3 3 0,sI 28 v17.Id,(27,.fad ((zB.row v17))),(26,.fad ((zB.row v17))),sI 25 y2,sR 24 2 2 0 1 false,sA 23 2 2 0,sB 22 true,sB 21 true,sB 20 y3,sB 17 (decide (y2 < (x0.Rows.length : Int))),sI 16 (x0.Rows.length : Int),sC 15 (cF 3 x0.Rows zB.row),sA 14 2 2 0,sI 13 y2,sI 7 y2,sB 6 y3,sA 5 5 2 0,sA 4 4 2 0,sA 3 3 3 0,sA 2 2 2 0],[(5,[cL 3 y4 zB.row,cL 1 (([] : List Int) ++ x0.Pv) intRow]),(4,[cL 3 ([] : List zB) zB.row,cL 1 ([] : List Int) intRow]),(3,(zB.row x1)),(2,(CV.frzRow (zC.row x0)))]⟩ (fun cx => ?_) ?_
   ·refine mA zAO [(0,[]),(1,[]),(2,[])] 10 [] fun cx => ?_
    refine sA_ 7594236 60 ⟨67,0,[sB 22 (!y3),sB 21 (!y3),sB 20 y3,sB 17 (decide (y2 < (x0.Rows.length : Int))),sI 16 (x0.Rows.length : Int),sC 15 (cF 3 x0.Rows zB.row),sA 14 2 2 0,sI 13 y2,sI 7 y2,sB 6 y3,sA 5 5 2 0,sA 4 4 2 0,sA 3 3 3 0,sA 2 2 2 0],[(5,[cL 3 y4 zB.row,cL 1 (([] : List Int) ++ x0.Pv) intRow]),(4,[cL 3 ([] : List zB) zB.row,cL 1 ([] : List Int) intRow]),(3,(zB.row x1)),(2,(CV.frzRow (zC.row x0)))]⟩ ?_
    rw [h4]
    refine mA zAO [(3,[]),(4,[]),(5,[])] 7 [⟨[],26,23,24⟩] fun cx => ?_
    refine iN zAO 6 zB.row ev17 fun cx => ?_
    refine mA zAO [(7,[]),(8,[]),(9,[]),(10,[]),(11,[]),(12,[])] 0 [⟨[],3,29,30⟩,⟨[],26,23,24⟩] fun cx => ?_
    exact mE zAO [32,31,30,29,28,27,26,25,24,23,22,21,20,17,16,15,14,13,7,6,5,4,3,2] [5,4,3,2]
   refine sT ⟨67,0,[sB 32 (decide (v17.Id ≥ x1.Id)),sB 31 (decide (v17.Id ≥ x1.Id)),sI 30 x1.Id,sA 29 3 3 0,sI 28 v17.Id,(27,.fad ((zB.row v17))),(26,.fad ((zB.row v17))),sI 25 y2,sR 24 2 2 0 1 false,sA 23 2 2 0,sB 22 true,sB 21 true,sB 20 y3,sB 17 (decide (y2 < (x0.Rows.length : Int))),sI 16 (x0.Rows.length : Int),sC 15 (cF 3 x0.Rows zB.row),sA 14 2 2 0,sI 13 y2,sI 7 y2,sB 6 y3,sA 5 5 2 0,sA 4 4 2 0,sA 3 3 3 0,sA 2 2 2 0],[(5,[cL 3 y4 zB.row,cL 1 (([] : List Int) ++ x0.Pv) intRow]),(4,[cL 3 ([] : List zB) zB.row,cL 1 ([] : List Int) intRow]),(3,(zB.row x1)),(2,(CV.frzRow (zC.row x0)))]⟩ ?_
   cases h5 : (decide (v17.Id ≥ x1.Id))
   ·have H := zI h5 H
    refine nB_ ?_
    refine tK ?_
    refine sB' 8589140220 60 ⟨67,0,[sB 32 false,sB 31 false,sI 30 x1.Id,sA 29 3 3 0,sI 28 v17.Id,(27,.fad ((zB.row v17))),(26,.fad ((zB.row v17))),sI 25 y2,sR 24 2 2 0 1 false,sA 23 2 2 0,sB 22 true,sB 21 true,sB 20 y3,sB 17 (decide (y2 < (x0.Rows.length : Int))),sI 16 (x0.Rows.length : Int),sC 15 (cF 3 x0.Rows zB.row),sA 14 2 2 0,sI 13 y2,sI 7 y2,sB 6 y3,sA 5 5 2 0,sA 4 4 2 0,sA 3 3 3 0,sA 2 2 2 0],[(5,[cL 3 y4 zB.row,cL 1 (([] : List Int) ++ x0.Pv) intRow]),(4,[cL 3 ([] : List zB) zB.row,cL 1 ([] : List Int) intRow]),(3,(zB.row x1)),(2,(CV.frzRow (zC.row x0)))]⟩ ?_
    rw [h2]
    exact jA (false,true,true,y3,y4) H [32,22,21,20,17,16,15,14,13,7,6,5,4,3,2] [5,4,3,2]
   have H := zJ h5 H
   refine tB_ ?_
   refine rA 4 ?_
   obtain ⟨hg18,H⟩ := gs H
   refine LAt.appMU tOk (t := 26) (ty := 26) (e := 124) (x := (.tmp 34)) (y := (.tmp 36)) (d := 37) (g := none) (tI 124) zB.row y4 [x1] kr kr kr kr kr kr kr kr kr kr hg18 ?_
   refine uA 2 326416720124 60 ?_
   refine eA 1 326416720124 60 ?_
   refine sB' 326416720124 60 ⟨67,0,[sB 6 true,sA 38 5 2 0,sV 35 (zB.row x1),sA 33 5 2 0,sB 32 true,sB 31 true,sI 30 x1.Id,sA 29 3 3 0,sI 28 v17.Id,(27,.fad ((zB.row v17))),(26,.fad ((zB.row v17))),sI 25 y2,sR 24 2 2 0 1 false,sA 23 2 2 0,sB 22 true,sB 21 true,sB 20 y3,sB 17 (decide (y2 < (x0.Rows.length : Int))),sI 16 (x0.Rows.length : Int),sC 15 (cF 3 x0.Rows zB.row),sA 14 2 2 0,sI 13 y2,sI 7 y2,sA 5 5 2 0,sA 4 4 2 0,sA 3 3 3 0,sA 2 2 2 0],[(5,[cL 3 (y4 ++ [x1]) zB.row,cL 1 (([] : List Int) ++ x0.Pv) intRow]),(4,[cL 3 ([] : List zB) zB.row,cL 1 ([] : List Int) intRow]),(3,(zB.row x1)),(2,(CV.frzRow (zC.row x0)))]⟩ ?_
   rw [h2]
   exact jA (true,true,true,true,(y4 ++ [x1])) H [32,22,21,20,17,16,15,14,13,7,6,5,4,3,2] [5,4,3,2]
  rintro ⟨y9,y10,y11,y12,y13⟩ H
  have H : (Zt n (fun v => qT n mo8 x0 x1 v.1 v.2.1 v.2.2) x0 x1 y2 y9 y10 y11 y12 y13) = some o8 := H
  unfold Zt at H
  obtain ⟨v14,ev14,H⟩ := bs H
  refine Tr.draws mixed 9 kr ⟨67,0,[sB 47 (v14.Id != x1.Id),sI 46 x1.Id,sA 45 3 3 0,sI 44 v14.Id,(43,.fad ((zB.row v14))),(42,.fad ((zB.row v14))),sI 41 y2,sR 40 2 2 0 1 false,sA 39 2 2 0,sB 32 y9,sB 22 y10,sB 21 y11,sB 20 y3,sB 17 true,sI 16 (x0.Rows.length : Int),sC 15 (cF 3 x0.Rows zB.row),sA 14 2 2 0,sI 13 y2,sI 7 y2,sB 6 y12,sA 5 5 2 0,sA 4 4 2 0,sA 3 3 3 0,sA 2 2 2 0],[(5,[cL 3 y13 zB.row,cL 1 (([] : List Int) ++ x0.Pv) intRow]),(4,[cL 3 ([] : List zB) zB.row,cL 1 ([] : List Int) intRow]),(3,(zB.row x1)),(2,(CV.frzRow (zC.row x0)))]⟩ (fun cx => ?_) ?_
  ·refine aA [(0,[]),(1,[]),(2,[])] 6 [⟨[],26,39,40⟩] fun cx => ?_
   refine aI tOk 3 26 0 40 41 42 none ⟨(.box 2),[(0,0)],0,false,3,(CV.frzEs (x0.Rows.map zB.row))⟩ y2 (zB.row v14) _ kr kr kr kr kr kr rfl (zBz ev14) rfl (fun cx => ?_)
   refine aA [(4,[]),(5,[]),(6,[]),(7,[]),(8,[])] 0 [⟨[],3,45,46⟩,⟨[],26,39,40⟩] fun cx => ?_
   exact eE [47,46,45,44,43,42,41,40,39,32,22,21,20,17,16,15,14,13,7,6,5,4,3,2] [5,4,3,2]
  refine sT ⟨67,0,[sB 47 (v14.Id != x1.Id),sI 46 x1.Id,sA 45 3 3 0,sI 44 v14.Id,(43,.fad ((zB.row v14))),(42,.fad ((zB.row v14))),sI 41 y2,sR 40 2 2 0 1 false,sA 39 2 2 0,sB 32 y9,sB 22 y10,sB 21 y11,sB 20 y3,sB 17 true,sI 16 (x0.Rows.length : Int),sC 15 (cF 3 x0.Rows zB.row),sA 14 2 2 0,sI 13 y2,sI 7 y2,sB 6 y12,sA 5 5 2 0,sA 4 4 2 0,sA 3 3 3 0,sA 2 2 2 0],[(5,[cL 3 y13 zB.row,cL 1 (([] : List Int) ++ x0.Pv) intRow]),(4,[cL 3 ([] : List zB) zB.row,cL 1 ([] : List Int) intRow]),(3,(zB.row x1)),(2,(CV.frzRow (zC.row x0)))]⟩ ?_
  cases h3 : (v14.Id != x1.Id)
  ·have H := zI h3 H
   refine nB_ ?_
   refine tK ?_
   refine eA 3 0xff81007fe0fc 60 ?_
   exact jB mo8 ((IntKind.wrap .i64 (y2 + 1)),y12,y13) H [7,6,5,4,3,2] [5,4,3,2]
  have H := zJ h3 H
  refine tB_ ?_
  obtain ⟨v15,ev15,H⟩ := bs H
  obtain ⟨hg16,H⟩ := gs H
  refine Tr.draw mixed 11 kr ⟨67,0,[sA 57 5 2 0,sV 54 (zB.row v15),(53,.fad ((zB.row v15))),sI 52 y2,sR 51 2 2 0 1 false,sA 50 2 2 0,sA 48 5 2 0,sB 47 true,sI 46 x1.Id,sA 45 3 3 0,sI 44 v14.Id,(43,.fad ((zB.row v14))),(42,.fad ((zB.row v14))),sI 41 y2,sR 40 2 2 0 1 false,sA 39 2 2 0,sB 32 y9,sB 22 y10,sB 21 y11,sB 20 y3,sB 17 true,sI 16 (x0.Rows.length : Int),sC 15 (cF 3 x0.Rows zB.row),sA 14 2 2 0,sI 13 y2,sI 7 y2,sB 6 y12,sA 5 5 2 0,sA 4 4 2 0,sA 3 3 3 0,sA 2 2 2 0],[(5,[cL 3 (y13 ++ [v15]) zB.row,cL 1 (([] : List Int) ++ x0.Pv) intRow]),(4,[cL 3 ([] : List zB) zB.row,cL 1 ([] : List Int) intRow]),(3,(zB.row x1)),(2,(CV.frzRow (zC.row x0)))]⟩ (fun cx => ?_) ?_
  ·refine aA [(0,[]),(1,[8,10]),(2,[]),(3,[7,8,10]),(4,[])] 6 [⟨[7,8,10],26,50,51⟩,⟨[8,10],26,48,49⟩] fun cx => ?_
   refine aI tOk 5 26 0 51 52 53 none ⟨(.box 2),[(0,0)],0,false,3,(CV.frzEs (x0.Rows.map zB.row))⟩ y2 (zB.row v15) _ kr kr kr kr kr kr rfl (zBz ev15) rfl (fun cx => ?_)
   refine aA [(6,[])] 4 [⟨[7,8,10],26,50,51⟩,⟨[8,10],26,48,49⟩] fun cx => ?_
   refine bA 7 ?_
   refine lA 1 ?_
   refine fA ?_
   refine bA 8 ?_
   refine LAt.appMU tOk (t := 26) (ty := 26) (e := 124) (x := (.tmp 49)) (y := (.tmp 55)) (d := 56) (g := none) (tI 124) zB.row y13 [v15] kr kr kr kr kr kr kr kr kr kr hg16 ?_
   refine fA ?_
   refine aA [(9,[])] 1 [⟨[7,8,10],26,50,51⟩,⟨[8,10],26,48,49⟩] fun cx => ?_
   refine bA 10 ?_
   refine lA 1 ?_
   refine fA ?_
   exact eE [57,54,53,52,51,50,48,47,46,45,44,43,42,41,40,39,32,22,21,20,17,16,15,14,13,7,6,5,4,3,2] [5,4,3,2]
  refine eA 3 0x27dff81007fe0fc 60 ?_
  exact jB mo8 ((IntKind.wrap .i64 (y2 + 1)),y12,(y13 ++ [v15])) H [7,6,5,4,3,2] [5,4,3,2]
 rintro ⟨y5,y6⟩ H
 have H : (YN n x0 x1 y5 y6) = some r := H
 unfold YN at H
 refine tS ?_
 refine gA 2 0x800000000000038 56 ?_
 obtain ⟨h1,H⟩ | ⟨h1,H⟩ := bC H
 ·refine nA h1 ?_
  refine tK ?_
  refine gA 2 16 16 ?_
  exact te (fJ [(true,[cL 3 y6 zB.row,cL 1 (([] : List Int) ++ x0.Pv) intRow])] H)
 refine tA h1 ?_
 refine Tr.at ?_
 refine lA 4 ?_
 obtain ⟨hg7,H⟩ := gs H
 refine LAt.appMU tOk (t := 26) (ty := 26) (e := 124) (x := (.tmp 61)) (y := (.tmp 63)) (d := 64) (g := none) (tI 124) zB.row y6 [x1] kr kr kr kr kr kr kr kr kr kr hg7 ?_
 refine uA 2 48 48 ?_
 refine gA 2 16 16 ?_
 exact te (fJ [(true,[cL 3 (y6 ++ [x1]) zB.row,cL 1 (([] : List Int) ++ x0.Pv) intRow])] H)
def Yv (n : Nat) (x0 : zC) (x1 : zB) : Option (zC × Bool) :=
  ((zh n x0 (x0.Pv.length : Int)).bind fun r1 => (bif (!r1) then ((qd n x0).bind fun r4 => (some (r4,false))) else ((JP n x0 x1).bind fun r2 => ((YC n r2 x0).bind fun r3 => (some (r3.1,r3.2))))))
theorem zGt (n : Nat) (x0 : zC) (x1 : zB) (r : zC × Bool) (H : Yv n x0 x1 = some r) : zG Try.prog 157 [.val true (CV.frzRow (zC.row x0)),.val true (CV.frzRow (zB.row x1))] [.val true (zC.row r.1),.val false [.lit (.bool r.2)]] [] := by
 refine cW Try.func157 (fun g d => sl [g 0,sl [g 1] (cn 11 (sl [g 2] .ret) .skip),d 3] .ret) [.cell 4 29,.tmp 5] fun cx => ?_
 unfold Yv at H
 refine gA 4 28 28 ?_
 refine tS ?_
 refine rA 3 ?_
 refine kF x0.Pv intRow ?_
 obtain ⟨r1,er1,H⟩ := bs H
 refine vA [.rd,.rd] (JL n x0 (x0.Pv.length : Int) r1 er1) ?_
 refine uA 1 2076 28 ?_
 obtain ⟨h1,H⟩ | ⟨h1,H⟩ := bC H
 ·refine nA h1 ?_
  refine tK ?_
  obtain ⟨r2,er2,H⟩ := bs H
  obtain ⟨r3,er3,H⟩ := bs H
  refine Tr.draws mixed 9 kr ⟨21,0,[sB 5 r3.2,sA 4 4 2 0],[(4,(zC.row r3.1))]⟩ (fun cx => ?_) ?_
  ·refine aA [(0,[2,4,7]),(1,[2,4,7]),(3,[4,7])] 6 [⟨[4,7],29,2,17⟩,⟨[2,4,7],124,3,15⟩,⟨[2,4,7],29,2,14⟩] fun cx => ?_
   refine bA 2 ?_
   refine vA [.rd,.rd] (zHj n x0 x1 r2 er2) ?_
   refine fA ?_
   refine bA 4 ?_
   refine vA [.own,.rd] (zDH n r2 x0 r3 er3) ?_
   refine fA ?_
   refine aA [(5,[]),(6,[])] 2 [⟨[4,7],29,2,17⟩,⟨[2,4,7],124,3,15⟩,⟨[2,4,7],29,2,14⟩] fun cx => ?_
   refine bA 7 ?_
   refine lA 1 ?_
   refine fA ?_
   refine aA [(8,[])] 0 [⟨[4,7],29,2,17⟩,⟨[2,4,7],124,3,15⟩,⟨[2,4,7],29,2,14⟩] fun cx => ?_
   exact eE [5,4] [4]
  exact te (fJ [(true,(zC.row r3.1)),(false,[cB r3.2])] H)
 refine tA h1 ?_
 refine rA 1 ?_
 obtain ⟨r4,er4,H⟩ := bs H
 refine vA [.rd] (Z5 n x0 r4 er4) ?_
 refine uA 2 48 16 ?_
 exact te (fJ [(true,(zC.row r4)),(false,[cB false])] H)
def JB (n : Nat) (y9 : (List Int)) (y10 : Int) (y11 : Int) (y12 : (List zB)) (y13 : (List Int)) : Option (zC × Src) :=
  (some ((⟨y12,y13⟩ : zC),(⟨y9,y10,y11⟩ : Src)))
def q6 (n : Nat) : Nat → Int → Int → (List Int) → Int → Int → (List zB) → (List Int) → Option (((List Int) × Int × Int × (List zB) × (List Int)) ⊕ (zC × Src))
  | 0,_,_,_,_,_,_,_ => none
  | mo14 + 1,x1,y3,y4,y5,y6,y7,y8 => (bif (decide (y3 > 0)) then ((zT n (⟨y4,y5,y6⟩ : Src) 4).bind fun r15 => (bif (r15.1 == 0) then ((zT n r15.2 x1).bind fun r20 => ((zT n r20.2 3).bind fun r21 => ((YH n (⟨y7,y8⟩ : zC) r20.1 (IntKind.wrap .i64 (1 + r21.1))).bind fun r22 => (q6 n mo14 x1 (IntKind.wrap .i64 (y3 - 1)) r21.2.b r21.2.i r21.2.h r22.1.Rows r22.1.Pv)))) else (bif (r15.1 == 1) then ((zT n r15.2 2).bind fun r18 => ((Qf n (⟨y7,y8⟩ : zC) (IntKind.wrap .i64 (2 + r18.1))).bind fun r19 => (q6 n mo14 x1 (IntKind.wrap .i64 (y3 - 1)) r18.2.b r18.2.i r18.2.h r19.1.Rows r19.1.Pv))) else ((Y1 n r15.2 x1).bind fun r16 => ((Yv n (⟨y7,y8⟩ : zC) r16.1).bind fun r17 => (q6 n mo14 x1 (IntKind.wrap .i64 (y3 - 1)) r16.2.b r16.2.i r16.2.h r17.1.Rows r17.1.Pv)))))) else (some (Sum.inl (y4,y5,y6,y7,y8))))
def Y0 (n : Nat) (x0 : Src) (x1 : Int) : Option (zC × Src) :=
  ((QH n x1).bind fun r1 => ((zT n x0 6).bind fun r2 => ((q6 n n x1 r2.1 r2.2.b r2.2.i r2.2.h r1.Rows r1.Pv).bind fun o => match o with | .inl (y9,y10,y11,y12,y13) => (JB n y9 y10 y11 y12 y13) | .inr r => some r)))
def zI8 : Tab := ⟨12,[0,0,0,6,0,24,32,105,128,256,256,1023],[0,0,0,6,0,16,32,73,128,256,256,512],[0,0,0,6,0,30,62,127,255,511,511,1023]⟩
noncomputable abbrev zCB (k : Nat) := Rg Try.f120 k
noncomputable abbrev zIF (k : Nat) := Rd Try.f120 k
theorem JE : z6 (rg Try.f120 8) zI8 = true := kr
theorem zG1 (n : Nat) (x0 : Src) (x1 : Int) (r : zC × Src) (H : Y0 n x0 x1 = some r) : zG Try.prog 120 [.ptr (CV.frzRow (Src.row x0)),.val false [.lit (.int .i64 x1)]] [.val true (zC.row r.1)] [(0,(CV.frzRow (Src.row r.2)))] := by
 refine zG.of_body tOk Try.func120 rfl (c := (.seq (zCB 0) (.seq (zCB 1) (.seq (.seq (zCB 2) (.block 0 (.loop (.seq (.seq (zCB 3) (.cond (.tmp 12) .skip (.exit 0))) (.seq (.block 1 (.seq (zCB 5) (.block 2 (.seq (zCB 7) (.cond (.tmp 25) (zIF 8) (.seq (zCB 9) (.cond (.tmp 38) (zIF 10) (zIF 6)))))))) (zCB 4)))))) (.seq (zCB 11) .ret))))) kr (Nat.le_of_ble_eq_true kr) 1 (rs := [.cell 4 29]) rfl [] .nil [(true,(zC.row r.1))] [] [(0,(CV.frzRow (Src.row r.2)))] fun cx => ?_
 show Tr _ _ _ ⟨49,1,[sA 0 0 3 0,sI 1 x1],[(0,(CV.frzRow (Src.row x0)))]⟩ _
 unfold Y0 at H
 refine gA 1 19 17 ?_
 refine rA 1 ?_
 obtain ⟨r1,er1,H⟩ := bs H
 refine vA [.rd] (zDD n x1 r1 er1) ?_
 refine uA 2 51 49 ?_
 refine tS ?_
 refine rA 1 ?_
 obtain ⟨r2,er2,H⟩ := bs H
 refine LAt.callL tOk [.lend,.rd] (f := 54) (av := #[.tmp 9,.const (.int .i64 6)]) (ats := #[100,3]) (d := (some 10)) (ty := 3) (g := none) kr kr kr [] (zm n x0 6 r2 er2) kr (.inl rfl) ?_
 refine uA 1 115 49 ?_
 obtain ⟨o14,eo14,Ho14⟩ := bs H
 clear H
 refine Tr.mid (ι := (List Int) × Int × Int × (List zB) × (List Int)) (fun v => ⟨49,1,[sA 5 5 2 0,sA 4 4 2 0,sA 0 0 3 0],[(0,[cF 1 v.1 zN,cI v.2.1,cI v.2.2.1]),(5,[cL 3 v.2.2.2.1 zB.row,cL 1 v.2.2.2.2 intRow]),(4,[cL 3 ([] : List zB) zB.row,cL 1 ([] : List Int) intRow])]⟩) (fun v => JB n v.1 v.2.1 v.2.2.1 v.2.2.2.1 v.2.2.2.2 = some r) ?_ ?_
 ·refine tB ?_
  refine Tr.loop (ι := Nat × (Int × (List Int) × Int × Int × (List zB) × (List Int))) (fun v => ⟨49,1,[sI 6 v.2.1,sA 5 5 2 0,sA 4 4 2 0,sA 0 0 3 0,sI 1 x1],[(0,[cF 1 v.2.2.1 zN,cI v.2.2.2.1,cI v.2.2.2.2.1]),(5,[cL 3 v.2.2.2.2.2.1 zB.row,cL 1 v.2.2.2.2.2.2 intRow]),(4,[cL 3 ([] : List zB) zB.row,cL 1 ([] : List Int) intRow])]⟩) (fun v => q6 n v.1 x1 v.2.1 v.2.2.1 v.2.2.2.1 v.2.2.2.2.1 v.2.2.2.2.2.1 v.2.2.2.2.2.2 = some o14) (fun v => v.1) (n,(r2.1,r2.2.b,r2.2.i,r2.2.h,r1.Rows,r1.Pv)) eo14 (St.sub_of [6,5,4,0,1] [0,5,4] kr) ?_
  rintro ⟨mo14,y3,y4,y5,y6,y7,y8⟩ H
  have H : q6 n mo14 x1 y3 y4 y5 y6 y7 y8 = some o14 := H
  obtain _ | mo14 := mo14
  ·exact nN H
  rw [q6] at H
  refine tS ?_
  refine gA 2 4211 49 ?_
  obtain ⟨h1,H⟩ | ⟨h1,H⟩ := bC H
  ·refine nA h1 ?_
   refine Tr.exit ?_
   refine aJ ?_
   obtain rfl := si H
   have H := Ho14
   dsimp only at H
   exact jA (y4,y5,y6,y7,y8) H [5,4,0] [0,5,4]
  refine tA h1 ?_
  refine tK ?_
  refine tS ?_
  refine tB ?_
  refine rA 1 ?_
  obtain ⟨r15,er15,H⟩ := bs H
  refine LAt.callL tOk [.lend,.rd] (f := 54) (av := #[.tmp 15,.const (.int .i64 4)]) (ats := #[100,3]) (d := (some 16)) (ty := 3) (g := none) kr kr kr [] (zm n (⟨y4,y5,y6⟩ : Src) 4 r15 er15) kr (.inl rfl) ?_
  refine dA 65651 49 ?_
  refine tB ?_
  refine gA 2 33620083 49 ?_
  obtain ⟨h2,H⟩ | ⟨h2,H⟩ := bC H
  ·refine nA h2 ?_
   refine gA 2 274877907059 49 ?_
   obtain ⟨h3,H⟩ | ⟨h3,H⟩ := bC H
   ·refine nA h3 ?_
    obtain ⟨r16,er16,H⟩ := bs H
    obtain ⟨r17,er17,H⟩ := bs H
    refine Tr.draw mixed 9 kr ⟨49,1,[sI 6 y3,sA 5 5 2 0,sA 4 4 2 0,sA 0 0 3 0,sI 1 x1],[(5,(zC.row r17.1)),(0,(CV.frzRow (Src.row r16.2))),(4,[cL 3 ([] : List zB) zB.row,cL 1 ([] : List Int) intRow])]⟩ (fun cx => ?_) ?_
    ·refine aA [(0,[4,8]),(1,[]),(2,[])] 6 [⟨[4,8],29,5,18⟩] fun cx => ?_
     refine bA 3 ?_
     refine LAt.callL tOk [.lend,.rd] (f := 158) (av := #[.tmp 19,.tmp 20]) (ats := #[100,3]) (d := (some 21)) (ty := 124) (g := none) kr kr kr [] (zG2 n r15.2 x1 r16 er16) kr (.inl rfl) ?_
     refine fA ?_
     refine bA 4 ?_
     refine vB [.rd,.rd] [.box 5] (zGt n (⟨y7,y8⟩ : zC) r16.1 r17 er17) (.inr (zn (zC.row_mine _) (zn (zH zM zj) qa))) ?_
     refine fA ?_
     refine AT.movT tOk 5 (ty := 85) (t := 22) (d := 17) (g := none) [(true,(zC.row r17.1)),(false,[cB r17.2])] _ kr kr kr (.inl rfl) kr kr kr kr rfl (fun cx => ?_)
     refine aA [(6,[]),(7,[])] 1 [⟨[4,8],29,5,18⟩] fun cx => ?_
     refine bA 8 ?_
     refine lA 1 ?_
     refine fA ?_
     exact eE [6,5,4,0,1] [5,0,4]
    refine eA 3 115 49 ?_
    exact jB mo14 ((IntKind.wrap .i64 (y3 - 1)),r16.2.b,r16.2.i,r16.2.h,r17.1.Rows,r17.1.Pv) H [6,5,4,0,1] [0,5,4]
   refine tA h3 ?_
   obtain ⟨r18,er18,H⟩ := bs H
   obtain ⟨r19,er19,H⟩ := bs H
   refine Tr.draw mixed 9 kr ⟨49,1,[sI 6 y3,sA 5 5 2 0,sA 4 4 2 0,sA 0 0 3 0,sI 1 x1],[(5,(zC.row r19.1)),(0,(CV.frzRow (Src.row r18.2))),(4,[cL 3 ([] : List zB) zB.row,cL 1 ([] : List Int) intRow])]⟩ (fun cx => ?_) ?_
   ·refine aA [(0,[4,8]),(1,[])] 7 [⟨[4,8],29,5,41⟩] fun cx => ?_
    refine bA 2 ?_
    refine LAt.callL tOk [.lend,.rd] (f := 54) (av := #[.tmp 42,.const (.int .i64 2)]) (ats := #[100,3]) (d := (some 43)) (ty := 3) (g := none) kr kr kr [] (zm n r15.2 2 r18 er18) kr (.inl rfl) ?_
    refine fA ?_
    refine aA [(3,[])] 5 [⟨[4,8],29,5,41⟩] fun cx => ?_
    refine bA 4 ?_
    refine vB [.rd,.rd] [.box 5] (zGT n (⟨y7,y8⟩ : zC) (IntKind.wrap .i64 (2 + r18.1)) r19 er19) (.inr (zn (zC.row_mine _) (zn (zH zM zj) qa))) ?_
    refine fA ?_
    refine AT.movT tOk 5 (ty := 85) (t := 45) (d := 40) (g := none) [(true,(zC.row r19.1)),(false,[cB r19.2])] _ kr kr kr (.inl rfl) kr kr kr kr rfl (fun cx => ?_)
    refine aA [(6,[]),(7,[])] 1 [⟨[4,8],29,5,41⟩] fun cx => ?_
    refine bA 8 ?_
    refine lA 1 ?_
    refine fA ?_
    exact eE [6,5,4,0,1] [5,0,4]
   refine eA 3 115 49 ?_
   exact jB mo14 ((IntKind.wrap .i64 (y3 - 1)),r18.2.b,r18.2.i,r18.2.h,r19.1.Rows,r19.1.Pv) H [6,5,4,0,1] [0,5,4]
  refine tA h2 ?_
  obtain ⟨r20,er20,H⟩ := bs H
  obtain ⟨r21,er21,H⟩ := bs H
  obtain ⟨r22,er22,H⟩ := bs H
  refine Tr.draw mixed 12 kr ⟨49,1,[sI 6 y3,sA 5 5 2 0,sA 4 4 2 0,sA 0 0 3 0,sI 1 x1],[(5,(zC.row r22.1)),(0,(CV.frzRow (Src.row r21.2))),(4,[cL 3 ([] : List zB) zB.row,cL 1 ([] : List Int) intRow])]⟩ (fun cx => ?_) ?_
  ·refine mA JE [(0,[7,11]),(1,[]),(2,[]),(4,[])] 8 [⟨[7,11],29,5,28⟩] fun cx => ?_
   refine mC JE 3 ?_
   refine LAt.callL tOk [.lend,.rd] (f := 54) (av := #[.tmp 29,.tmp 30]) (ats := #[100,3]) (d := (some 31)) (ty := 3) (g := none) kr kr kr [] (zm n r15.2 x1 r20 er20) kr (.inl rfl) ?_
   refine fA ?_
   refine mC JE 5 ?_
   refine LAt.callL tOk [.lend,.rd] (f := 54) (av := #[.tmp 32,.const (.int .i64 3)]) (ats := #[100,3]) (d := (some 33)) (ty := 3) (g := none) kr kr kr [] (zm n r20.2 3 r21 er21) kr (.inl rfl) ?_
   refine fA ?_
   refine mA JE [(6,[])] 5 [⟨[7,11],29,5,28⟩] fun cx => ?_
   refine mC JE 7 ?_
   refine vB [.rd,.rd,.rd] [.box 5] (zGW n (⟨y7,y8⟩ : zC) r20.1 (IntKind.wrap .i64 (1 + r21.1)) r22 er22) (.inr (zn (zC.row_mine _) (zn (zH zM zj) qa))) ?_
   refine fA ?_
   refine AT.movT tOk 8 (ty := 85) (t := 35) (d := 27) (g := none) [(true,(zC.row r22.1)),(false,[cB r22.2])] _ kr (oM JE kr) (dM JE kr) (.inl rfl) kr kr kr kr rfl (fun cx => ?_)
   refine mA JE [(9,[]),(10,[])] 1 [⟨[7,11],29,5,28⟩] fun cx => ?_
   refine mC JE 11 ?_
   refine lA 1 ?_
   refine fA ?_
   exact mE JE [6,5,4,0,1] [5,0,4]
  refine eA 3 115 49 ?_
  exact jB mo14 ((IntKind.wrap .i64 (y3 - 1)),r21.2.b,r21.2.i,r21.2.h,r22.1.Rows,r22.1.Pv) H [6,5,4,0,1] [0,5,4]
 rintro ⟨y9,y10,y11,y12,y13⟩ H
 have H : (JB n y9 y10 y11 y12 y13) = some r := H
 unfold JB at H
 refine gA 2 17 17 ?_
 refine te ?_
 obtain rfl := si H
 exact Fin.ofY _ [(true,[cL 3 y12 zB.row,cL 1 y13 intRow])] [] _ [] _ [(0,[cF 1 y9 zN,cI y10,cI y11])] kr rfl rfl rfl kr kr kr kr rfl rfl rfl
def Qq (n : Nat) (x0 : Src) : Option (Int × Src) :=
  ((ql n x0 [11,12,13,14]).bind fun r1 => (some (r1.1,r1.2)))
noncomputable abbrev zI4 (k : Nat) := Rg Try.f121 k
theorem zCd (n : Nat) (x0 : Src) (r : Int × Src) (H : Qq n x0 = some r) : zG Try.prog 121 [.ptr (CV.frzRow (Src.row x0))] [.val false [.lit (.int .i64 r.1)]] [(0,(CV.frzRow (Src.row r.2)))] := by
 refine zG.of_body tOk Try.func121 rfl (c := (.seq (zI4 0) (.seq (zI4 1) .ret))) kr (Nat.le_of_ble_eq_true kr) 1 (rs := [.tmp 2]) rfl [] .nil [(false,[.lit (.int .i64 r.1)])] [] [(0,(CV.frzRow (Src.row r.2)))] fun cx => ?_
 show Tr _ _ _ ⟨6,1,[sA 0 0 3 0],[(0,(CV.frzRow (Src.row x0)))]⟩ _
 unfold Qq at H
 refine gA 1 1 1 ?_
 refine rA 2 ?_
 obtain ⟨r1,er1,H⟩ := bs H
 refine LAt.callL tOk [.lend,.rd] (f := 56) (av := #[.tmp 3,.tmp 4]) (ats := #[100,27]) (d := (some 5)) (ty := 3) (g := none) kr kr kr [] (QN n x0 [11,12,13,14] r1 er1) kr (.inl rfl) ?_
 refine uA 1 5 1 ?_
 refine te ?_
 obtain rfl := si H
 exact Fin.ofY _ [(false,[cI r1.1])] [] _ [] _ [(0,(CV.frzRow (Src.row r1.2)))] kr rfl rfl rfl kr kr kr kr rfl rfl rfl
def J5 (n : Nat) : Option (Int) :=
  (some (-1))
def qc (n : Nat) : Nat → (List zA) → Int → Int → Int → Option ((Unit) ⊕ (Int))
  | 0,_,_,_,_ => none
  | mo2 + 1,x0,x1,x2,y1 => (bif (decide (y1 < (x0.length : Int))) then ((idx x0 y1).bind fun v3 => (bif (v3.Tag == x1) then ((idx x0 y1).bind fun v4 => (bif (v4.Mac == x2) then (some (Sum.inr y1)) else (qc n mo2 x0 x1 x2 (IntKind.wrap .i64 (y1 + 1))))) else (qc n mo2 x0 x1 x2 (IntKind.wrap .i64 (y1 + 1))))) else (some (Sum.inl ())))
def Zk (n : Nat) (x0 : (List zA)) (x1 : Int) (x2 : Int) : Option (Int) :=
  ((qc n n x0 x1 x2 0).bind fun o => match o with | .inl _ => (J5 n) | .inr r => some r)
theorem zDG (n : Nat) (x0 : (List zA)) (x1 : Int) (x2 : Int) (r : Int) (H : Zk n x0 x1 x2 = some r) : zG Try.prog 141 [.val false [.sl false 5 (CV.frzEs (x0.map zA.row))],.val false [.lit (.int .i64 x1)],.val false [.lit (.int .i64 x2)]] [.val false [.lit (.int .i64 r)]] [] := by
 refine cW Try.func141 (fun g d => sl [g 0,sl [g 1] (.block 0 (.loop (sl [sl [g 2] (cn 11 .skip (.exit 0)),.block 1 (sl [g 4] (cn 29 (sl [g 5] .ret) .skip))] (g 3)))),g 6] .ret) [.tmp 6] fun cx => ?_
 unfold Zk at H
 refine gA 1 7 0 ?_
 refine tS ?_
 refine gA 1 135 0 ?_
 obtain ⟨o2,eo2,Ho2⟩ := bs H
 clear H
 refine Tr.mid (ι := Unit) (fun v => ⟨31,0,[],[]⟩) (fun v => J5 n = some r) ?_ ?_
 ·refine tB ?_
  refine Tr.loop (ι := Nat × (Int)) (fun v => ⟨31,0,[sI 7 v.2,sC 0 (cF 5 x0 zA.row),sI 1 x1,sI 2 x2],[]⟩) (fun v => qc n v.1 x0 x1 x2 v.2 = some o2) (fun v => v.1) (n,0) eo2 (St.sub_of [7,0,1,2] [] kr) ?_
  rintro ⟨mo2,y1⟩ H
  have H : qc n mo2 x0 x1 x2 y1 = some o2 := H
  obtain _ | mo2 := mo2
  ·exact nN H
  rw [qc] at H
  refine tS ?_
  refine rA 2 ?_
  refine kF x0 zA.row ?_
  refine uA 1 2183 0 ?_
  obtain ⟨h1,H⟩ | ⟨h1,H⟩ := bC H
  ·refine nA h1 ?_
   refine Tr.exit ?_
   refine aJ ?_
   obtain rfl := si H
   have H := Ho2
   dsimp only at H
   exact jA () H [] []
  refine tA h1 ?_
  refine tK ?_
  refine tS ?_
  refine tB ?_
  refine rA 2 ?_
  obtain ⟨v3,ev3,H⟩ := bs H
  refine iA zA.row ev3 ?_
  refine lA 5 ?_
  refine sL 2097287 0 ⟨31,0,[sB 21 (v3.Tag == x1),sI 7 y1,sC 0 (cF 5 x0 zA.row),sI 1 x1,sI 2 x2],[]⟩ ?_
  cases h2 : (v3.Tag == x1)
  ·have H := zI h2 H
   refine uA 8 536871047 0 ?_
   refine nB_ ?_
   refine tK ?_
   refine eA 3 135 0 ?_
   exact jB mo2 (IntKind.wrap .i64 (y1 + 1)) H [7,0,1,2] []
  have H := zJ h2 H
  refine lA 2 ?_
  obtain ⟨v4,ev4,H⟩ := bs H
  refine iA zA.row ev4 ?_
  refine uA 5 536871047 0 ?_
  obtain ⟨h3,H⟩ | ⟨h3,H⟩ := bC H
  ·refine nA h3 ?_
   refine tK ?_
   refine eA 3 135 0 ?_
   exact jB mo2 (IntKind.wrap .i64 (y1 + 1)) H [7,0,1,2] []
  refine tA h3 ?_
  refine gA 2 64 0 ?_
  refine te ?_
  obtain rfl := si H
  have H := Ho2
  dsimp only at H
  exact fJ [(false,[cI y1])] H
 rintro _ H
 have H : (J5 n) = some r := H
 unfold J5 at H
 refine gA 1 64 0 ?_
 exact te (fJ [(false,[cI (-1)])] H)
def qP (n : Nat) (x0 : zA) : Option (Bool) :=
  ((zQ n x0.Tag 1 99).bind fun r1 => (bif r1 then ((zQ n x0.Mac 1 9999).bind fun r2 => (bif r2 then ((zQ n x0.Port 0 7).bind fun r3 => (bif r3 then ((zQ n x0.Age 0 4).bind fun r4 => (bif r4 then (bif (!x0.Sc) then (some true) else (some (x0.Age == 0))) else (some false))) else (some false))) else (some false))) else (some false)))
theorem J6 (n : Nat) (x0 : zA) (r : Bool) (H : qP n x0 = some r) : zG Try.prog 143 [.val true (CV.frzRow (zA.row x0))] [.val false [.lit (.bool r)]] [] := by
 refine cW Try.func143 (fun g d => sl [g 0,g 1] .ret) [.tmp 2] fun cx => ?_
 unfold qP at H
 refine gA 2 2 2 ?_
 refine rA 2 ?_
 obtain ⟨r1,er1,H⟩ := bs H
 refine vA [.rd,.rd,.rd] (zP n x0.Tag 1 99 r1 er1) ?_
 refine lA 1 ?_
 refine sL 66 2 ⟨31,0,[sB 6 r1,sA 1 1 5 0],[(1,(zA.row x0))]⟩ ?_
 cases h1 : r1
 ·have H := zI h1 H
  refine uA 25 4 0 ?_
  exact te (fF H)
 have H := zJ h1 H
 refine lA 2 ?_
 obtain ⟨r2,er2,H⟩ := bs H
 refine vA [.rd,.rd,.rd] (zP n x0.Mac 1 9999 r2 er2) ?_
 refine lA 2 ?_
 refine sL 2050 2 ⟨31,0,[sB 11 r2,sA 1 1 5 0],[(1,(zA.row x0))]⟩ ?_
 cases h2 : r2
 ·have H := zI h2 H
  refine uA 20 4 0 ?_
  exact te (fF H)
 have H := zJ h2 H
 refine lA 2 ?_
 obtain ⟨r3,er3,H⟩ := bs H
 refine vA [.rd,.rd,.rd] (zP n x0.Port 0 7 r3 er3) ?_
 refine lA 2 ?_
 refine sL 65538 2 ⟨31,0,[sB 16 r3,sA 1 1 5 0],[(1,(zA.row x0))]⟩ ?_
 cases h3 : r3
 ·have H := zI h3 H
  refine uA 15 4 0 ?_
  exact te (fF H)
 have H := zJ h3 H
 refine lA 2 ?_
 obtain ⟨r4,er4,H⟩ := bs H
 refine vA [.rd,.rd,.rd] (zP n x0.Age 0 4 r4 er4) ?_
 refine lA 2 ?_
 refine sL 2097154 2 ⟨31,0,[sB 21 r4,sA 1 1 5 0],[(1,(zA.row x0))]⟩ ?_
 cases h4 : r4
 ·have H := zI h4 H
  refine uA 10 4 0 ?_
  exact te (fF H)
 have H := zJ h4 H
 refine lA 4 ?_
 refine sL 35651586 2 ⟨31,0,[sB 25 (!x0.Sc),sB 21 true,sA 1 1 5 0],[(1,(zA.row x0))]⟩ ?_
 cases h5 : (!x0.Sc)
 ·have H := zI h5 H
  refine uA 6 4 0 ?_
  exact te (fJ [(false,[cB (x0.Age == 0)])] H)
 have H := zJ h5 H
 refine uA 6 4 0 ?_
 exact te (fT H)
def qk (n : Nat) (x0 : zA) (x1 : Int) (x2 : Int) : Option (Bool) :=
  (bif (x0.Tag != x1) then (some (decide (x0.Tag < x1))) else (some (decide (x0.Mac < x2))))
theorem zDF (n : Nat) (x0 : zA) (x1 : Int) (x2 : Int) (r : Bool) (H : qk n x0 x1 x2 = some r) : zG Try.prog 167 [.val true (CV.frzRow (zA.row x0)),.val false [.lit (.int .i64 x1)],.val false [.lit (.int .i64 x2)]] [.val false [.lit (.bool r)]] [] := by
 refine cW Try.func167 (fun g d => sl [g 0,sl [g 1] (cn 10 (sl [g 2] .ret) .skip),g 3] .ret) [.tmp 6] fun cx => ?_
 unfold qk at H
 refine gA 2 14 8 ?_
 refine tS ?_
 refine gA 4 1038 8 ?_
 obtain ⟨h1,H⟩ | ⟨h1,H⟩ := bC H
 ·refine nA h1 ?_
  refine tK ?_
  refine gA 5 64 0 ?_
  exact te (fJ [(false,[cB (decide (x0.Mac < x2))])] H)
 refine tA h1 ?_
 refine gA 5 64 0 ?_
 exact te (fJ [(false,[cB (decide (x0.Tag < x1))])] H)
def YG (n : Nat) (x0 : (List zA)) : Option (Bool) :=
  (some (decide ((x0.length : Int) ≤ 12)))
def z7 (n : Nat) : Nat → (List zA) → Int → Option ((Unit) ⊕ (Bool))
  | 0,_,_ => none
  | mo2 + 1,x0,y1 => (bif (decide (y1 < (x0.length : Int))) then ((idx x0 y1).bind fun v3 => ((qP n v3).bind fun r4 => (bif (!r4) then (some (Sum.inr false)) else (bif (decide (y1 > 0)) then ((idx x0 (IntKind.wrap .i64 (y1 - 1))).bind fun v5 => ((idx x0 y1).bind fun v6 => ((idx x0 y1).bind fun v7 => ((qk n v5 v6.Tag v7.Mac).bind fun r8 => (bif (!r8) then (some (Sum.inr false)) else (z7 n mo2 x0 (IntKind.wrap .i64 (y1 + 1)))))))) else (z7 n mo2 x0 (IntKind.wrap .i64 (y1 + 1))))))) else (some (Sum.inl ())))
def qX (n : Nat) (x0 : (List zA)) : Option (Bool) :=
  ((z7 n n x0 0).bind fun o => match o with | .inl _ => (YG n x0) | .inr r => some r)
def zJD : Tab := ⟨29,[0,0,3,4,8,16,48,64,192,320,512,512,2560,5632,8704,512,512,98816,131584,262656,512,512,3146240,4194816,8389120,17318400,33554944,67109440,134217792],[0,0,3,4,8,16,32,64,192,320,512,512,2560,5632,8704,512,512,98816,131584,262656,512,512,3146240,4194816,8389120,17318400,33554944,67109440,134217792],[0,0,3,7,15,31,63,127,255,511,1023,1023,3071,8191,16383,1023,1023,99327,230399,492543,1023,1023,3146751,7341055,15729663,33554431,67108863,134217727,268435455]⟩
theorem qO : z6 (rg Try.f142 4) zJD = true := kr
theorem zCb (n : Nat) (x0 : (List zA)) (r : Bool) (H : qX n x0 = some r) : zG Try.prog 142 [.val false [.sl false 5 (CV.frzEs (x0.map zA.row))]] [.val false [.lit (.bool r)]] [] := by
 refine cW Try.func142 (fun g d => sl [g 0,sl [g 1] (.block 0 (.loop (sl [sl [g 2] (cn 7 .skip (.exit 0)),.block 1 (sl [d 4] (cn 38 (sl [g 5] .ret) .skip))] (g 3)))),g 6] .ret) [.tmp 2] fun cx => ?_
 unfold qX at H
 refine gA 1 1 0 ?_
 refine tS ?_
 refine gA 1 9 0 ?_
 obtain ⟨o2,eo2,Ho2⟩ := bs H
 clear H
 refine Tr.mid (ι := Unit) (fun v => ⟨42,0,[sC 0 (cF 5 x0 zA.row)],[]⟩) (fun v => YG n x0 = some r) ?_ ?_
 ·refine tB ?_
  refine Tr.loop (ι := Nat × (Int)) (fun v => ⟨42,0,[sI 3 v.2,sC 0 (cF 5 x0 zA.row)],[]⟩) (fun v => z7 n v.1 x0 v.2 = some o2) (fun v => v.1) (n,0) eo2 (St.sub_of [3,0] [] kr) ?_
  rintro ⟨mo2,y1⟩ H
  have H : z7 n mo2 x0 y1 = some o2 := H
  obtain _ | mo2 := mo2
  ·exact nN H
  rw [z7] at H
  refine tS ?_
  refine rA 2 ?_
  refine kF x0 zA.row ?_
  refine uA 1 137 0 ?_
  obtain ⟨h1,H⟩ | ⟨h1,H⟩ := bC H
  ·refine nA h1 ?_
   refine Tr.exit ?_
   refine aJ ?_
   obtain rfl := si H
   have H := Ho2
   dsimp only at H
   exact jA () H [0] []
  refine tA h1 ?_
  refine tK ?_
  refine tS ?_
  refine tB ?_
  obtain ⟨v3,ev3,H⟩ := bs H
  obtain ⟨r4,er4,H⟩ := bs H
  refine sT ⟨42,0,[sB 7 (decide (y1 < (x0.length : Int))),sI 3 y1,sC 0 (cF 5 x0 zA.row)],[]⟩ ?_
  cases h2 : (!r4)
  ·have H := zI h2 H
   refine sT ⟨42,0,[sB 7 (decide (y1 < (x0.length : Int))),sI 3 y1,sC 0 (cF 5 x0 zA.row)],[]⟩ ?_
   cases h3 : (decide (y1 > 0))
   ·have H := zI h3 H
    refine Tr.draws mixed 29 kr ⟨42,0,[sB 38 false,sI 3 y1,sC 0 (cF 5 x0 zA.row)],[]⟩ (fun cx => ?_) ?_
    ·refine mA qO [(0,[]),(1,[])] 27 [] fun cx => ?_
     refine iN qO 2 zA.row ev3 fun cx => ?_
     refine mA qO [(3,[])] 25 [] fun cx => ?_
     refine mC qO 4 ?_
     refine vA [.rd] (J6 n v3 r4 er4) ?_
     refine fA ?_
     refine mA qO [(5,[]),(6,[])] 22 [] fun cx => ?_
     refine sA_ 65545 0 ⟨42,0,[sB 16 (!r4),sI 3 y1,sC 0 (cF 5 x0 zA.row)],[]⟩ ?_
     rw [h2]
     refine mA qO [(7,[]),(8,[]),(9,[])] 19 [] fun cx => ?_
     refine sA_ 589833 0 ⟨42,0,[sB 19 (decide (y1 > 0)),sB 16 false,sI 3 y1,sC 0 (cF 5 x0 zA.row)],[]⟩ ?_
     rw [h3]
     refine mA qO [(10,[]),(11,[]),(12,[]),(13,[]),(14,[]),(15,[]),(16,[]),(17,[]),(18,[]),(19,[]),(20,[]),(21,[]),(22,[]),(23,[]),(24,[]),(25,[]),(26,[]),(27,[]),(28,[])] 0 [] fun cx => ?_
     exact mE qO [38,3,0] []
    refine nB_ ?_
    refine tK ?_
    refine eA 3 9 0 ?_
    exact jB mo2 (IntKind.wrap .i64 (y1 + 1)) H [3,0] []
   have H := zJ h3 H
   obtain ⟨v5,ev5,H⟩ := bs H
   obtain ⟨v6,ev6,H⟩ := bs H
   obtain ⟨v7,ev7,H⟩ := bs H
   obtain ⟨r8,er8,H⟩ := bs H
   refine Tr.draws mixed 29 kr ⟨42,0,[sB 38 (!r8),sI 3 y1,sC 0 (cF 5 x0 zA.row)],[]⟩ (fun cx => ?_) ?_
   ·refine mA qO [(0,[]),(1,[])] 27 [] fun cx => ?_
    refine iN qO 2 zA.row ev3 fun cx => ?_
    refine mA qO [(3,[])] 25 [] fun cx => ?_
    refine mC qO 4 ?_
    refine vA [.rd] (J6 n v3 r4 er4) ?_
    refine fA ?_
    refine mA qO [(5,[]),(6,[])] 22 [] fun cx => ?_
    refine sA_ 65545 0 ⟨42,0,[sB 16 (!r4),sI 3 y1,sC 0 (cF 5 x0 zA.row)],[]⟩ ?_
    rw [h2]
    refine mA qO [(7,[]),(8,[]),(9,[])] 19 [] fun cx => ?_
    refine sA_ 589833 0 ⟨42,0,[sB 19 (decide (y1 > 0)),sB 16 false,sI 3 y1,sC 0 (cF 5 x0 zA.row)],[]⟩ ?_
    rw [h3]
    refine mA qO [(10,[]),(11,[]),(12,[])] 16 [] fun cx => ?_
    refine iN qO 13 zA.row ev5 fun cx => ?_
    refine mA qO [(14,[]),(15,[]),(16,[])] 12 [] fun cx => ?_
    refine iN qO 17 zA.row ev6 fun cx => ?_
    refine mA qO [(18,[]),(19,[]),(20,[]),(21,[])] 7 [] fun cx => ?_
    refine iN qO 22 zA.row ev7 fun cx => ?_
    refine mA qO [(23,[]),(24,[])] 4 [] fun cx => ?_
    refine mC qO 25 ?_
    refine vA [.rd,.rd,.rd] (zDF n v5 v6.Tag v7.Mac r8 er8) ?_
    refine fA ?_
    refine mA qO [(26,[]),(27,[]),(28,[])] 0 [] fun cx => ?_
    exact mE qO [38,3,0] []
   refine sT ⟨42,0,[sB 38 (!r8),sI 3 y1,sC 0 (cF 5 x0 zA.row)],[]⟩ ?_
   cases h4 : (!r8)
   ·have H := zI h4 H
    refine nB_ ?_
    refine tK ?_
    refine eA 3 9 0 ?_
    exact jB mo2 (IntKind.wrap .i64 (y1 + 1)) H [3,0] []
   have H := zJ h4 H
   refine tB_ ?_
   refine gA 1 4 0 ?_
   refine te ?_
   obtain rfl := si H
   have H := Ho2
   dsimp only at H
   exact fF H
  have H := zJ h2 H
  refine Tr.draws mixed 29 kr ⟨42,0,[sB 38 true,sI 3 y1,sC 0 (cF 5 x0 zA.row)],[]⟩ (fun cx => ?_) ?_
  ·refine mA qO [(0,[]),(1,[])] 27 [] fun cx => ?_
   refine iN qO 2 zA.row ev3 fun cx => ?_
   refine mA qO [(3,[])] 25 [] fun cx => ?_
   refine mC qO 4 ?_
   refine vA [.rd] (J6 n v3 r4 er4) ?_
   refine fA ?_
   refine mA qO [(5,[]),(6,[])] 22 [] fun cx => ?_
   refine sA_ 65545 0 ⟨42,0,[sB 16 (!r4),sI 3 y1,sC 0 (cF 5 x0 zA.row)],[]⟩ ?_
   rw [h2]
   refine mA qO [(7,[]),(8,[]),(9,[]),(10,[]),(11,[]),(12,[]),(13,[]),(14,[]),(15,[]),(16,[]),(17,[]),(18,[]),(19,[]),(20,[]),(21,[]),(22,[]),(23,[]),(24,[]),(25,[]),(26,[]),(27,[]),(28,[])] 0 [] fun cx => ?_
   exact mE qO [38,3,0] []
  refine tB_ ?_
  refine gA 1 4 0 ?_
  refine te ?_
  obtain rfl := si H
  have H := Ho2
  dsimp only at H
  exact fF H
 rintro _ H
 have H : (YG n x0) = some r := H
 unfold YG at H
 refine rA 1 ?_
 refine kF x0 zA.row ?_
 refine uA 2 4 0 ?_
 exact te (fJ [(false,[cB (decide ((x0.length : Int) ≤ 12))])] H)
def z8 (n : Nat) (x0 : (List zA)) : Option ((List zA)) :=
  (bif (decide (([] : List zA).length + x0.length ≤ 268435456)) then (some (([] : List zA) ++ x0)) else none)
theorem Z4 (n : Nat) (x0 : (List zA)) (r : (List zA)) (H : z8 n x0 = some r) : zG Try.prog 138 [.val false [.sl false 5 (CV.frzEs (x0.map zA.row))]] [.val false [.sl true 5 (r.map zA.row)]] [] := by
 refine cW Try.func138 (fun g d => sl [g 0,g 1] .ret) [.tmp 2] fun cx => ?_
 unfold z8 at H
 refine gA 1 1 0 ?_
 refine rA 2 ?_
 obtain ⟨hg1,H⟩ := gs H
 refine pD zA.row hg1 ?_
 refine LAt.moveU (T := lk tab) (ty := 25) (x := (.tmp 5)) (d := 2) (g := none) false [cL 5 (([] : List zA) ++ x0) zA.row] kr kr kr kr kr ?_
 refine dA 4 0 ?_
 exact te (fJ [(false,[cL 5 (([] : List zA) ++ x0) zA.row])] H)
def YM (n : Nat) (x1 : zA) (y4 : Bool) (y5 : (List zA)) : Option ((List zA)) :=
  (bif (!y4) then (bif (decide (y5.length + [x1].length ≤ 268435456)) then (some (y5 ++ [x1])) else none) else (some y5))
def ZN (n : Nat) (k : (Int × Bool × (List zA) → Option ((Bool × (List zA)) ⊕ ((List zA))))) (x0 : (List zA)) (x1 : zA) (y1 : Int) (y8 : Bool) (y9 : (List zA)) : Option ((Bool × (List zA)) ⊕ ((List zA))) :=
  ((idx x0 y1).bind fun v10 => (bif (v10.Tag != x1.Tag) then ((idx x0 y1).bind fun v14 => (bif (decide (y9.length + [v14].length ≤ 268435456)) then (k ((IntKind.wrap .i64 (y1 + 1)),y8,(y9 ++ [v14]))) else none)) else ((idx x0 y1).bind fun v11 => (bif (v11.Mac != x1.Mac) then ((idx x0 y1).bind fun v12 => (bif (decide (y9.length + [v12].length ≤ 268435456)) then (k ((IntKind.wrap .i64 (y1 + 1)),y8,(y9 ++ [v12]))) else none)) else (k ((IntKind.wrap .i64 (y1 + 1)),y8,y9))))))
def qN (n : Nat) : Nat → (List zA) → zA → Int → Bool → (List zA) → Option ((Bool × (List zA)) ⊕ ((List zA)))
  | 0,_,_,_,_,_ => none
  | mo7 + 1,x0,x1,y1,y2,y3 => (bif (decide (y1 < (x0.length : Int))) then (bif (!y2) then ((idx x0 y1).bind fun v16 => ((qk n v16 x1.Tag x1.Mac).bind fun r17 => (bif (!r17) then (bif (decide (y3.length + [x1].length ≤ 268435456)) then (ZN n (fun v => qN n mo7 x0 x1 v.1 v.2.1 v.2.2) x0 x1 y1 true (y3 ++ [x1])) else none) else (ZN n (fun v => qN n mo7 x0 x1 v.1 v.2.1 v.2.2) x0 x1 y1 y2 y3)))) else (ZN n (fun v => qN n mo7 x0 x1 v.1 v.2.1 v.2.2) x0 x1 y1 y2 y3)) else (some (Sum.inl (y2,y3))))
def Za (n : Nat) (x0 : (List zA)) (x1 : zA) : Option ((List zA)) :=
  ((qN n n x0 x1 0 false ([] : List zA)).bind fun o => match o with | .inl (y4,y5) => (YM n x1 y4 y5) | .inr r => some r)
def zJE : Tab := ⟨14,[0,1,2,4,4,28,36,4,132,4,516,1348,2052,4100],[0,1,2,4,4,28,36,4,132,4,516,1348,2052,4100],[0,1,3,7,7,31,63,7,135,7,519,2047,4095,8191]⟩
theorem JF : z6 (rg Try.f144 6) zJE = true := kr
def zJF : Tab := ⟨18,[0,0,3,4,8,0,32,80,128,256,256,1792,2304,4352,256,16640,41216,65792],[0,0,3,4,8,0,32,80,128,256,256,1792,2304,4352,256,16640,41216,65792],[0,0,3,7,15,0,32,127,255,511,511,2047,4095,8191,511,16895,65535,131071]⟩
theorem YD : z6 (rg Try.f144 9) zJF = true := kr
theorem JA (n : Nat) (x0 : (List zA)) (x1 : zA) (r : (List zA)) (H : Za n x0 x1 = some r) : zG Try.prog 144 [.val false [.sl false 5 (CV.frzEs (x0.map zA.row))],.val true (CV.frzRow (zA.row x1))] [.val false [.sl true 5 (r.map zA.row)]] [] := by
 refine cW Try.func144 (fun g d => sl [g 0,g 1,g 2,sl [g 3] (.block 0 (.loop (sl [sl [g 4] (cn 12 .skip (.exit 0)),.block 1 (sl [sl [d 6] (cn 28 (sl [g 7] (g 8)) .skip),d 9] (cn 50 (g 10) .skip))] (g 5)))),sl [g 11] (cn 59 (g 12) .skip),g 13] .ret) [.tmp 4] fun cx => ?_
 unfold Za at H
 refine gA 2 9 8 ?_
 refine rA 1 ?_
 refine LAt.moveU (T := lk tab) (ty := 25) (x := (.tmp 8)) (d := 5) (g := none) false [cL 5 ([] : List zA) zA.row] kr kr kr kr kr ?_
 refine dA 41 8 ?_
 refine gA 1 105 8 ?_
 refine tS ?_
 refine gA 1 233 8 ?_
 obtain ⟨o7,eo7,Ho7⟩ := bs H
 clear H
 refine Tr.mid (ι := Bool × (List zA)) (fun v => ⟨65,0,[sB 6 v.1,sC 5 (cL 5 v.2 zA.row),sA 3 3 5 0],[(3,(zA.row x1))]⟩) (fun v => YM n x1 v.1 v.2 = some r) ?_ ?_
 ·refine tB ?_
  refine Tr.loop (ι := Nat × (Int × Bool × (List zA))) (fun v => ⟨65,0,[sI 7 v.2.1,sB 6 v.2.2.1,sC 5 (cL 5 v.2.2.2 zA.row),sA 3 3 5 0,sC 0 (cF 5 x0 zA.row)],[(3,(zA.row x1))]⟩) (fun v => qN n v.1 x0 x1 v.2.1 v.2.2.1 v.2.2.2 = some o7) (fun v => v.1) (n,(0,false,([] : List zA))) eo7 (St.sub_of [7,6,5,3,0] [3] kr) ?_
  rintro ⟨mo7,y1,y2,y3⟩ H
  have H : qN n mo7 x0 x1 y1 y2 y3 = some o7 := H
  obtain _ | mo7 := mo7
  ·exact nN H
  rw [qN] at H
  refine tS ?_
  refine rA 2 ?_
  refine kF x0 zA.row ?_
  refine uA 1 4329 8 ?_
  obtain ⟨h2,H⟩ | ⟨h2,H⟩ := bC H
  ·refine nA h2 ?_
   refine Tr.exit ?_
   refine aJ ?_
   obtain rfl := si H
   have H := Ho7
   dsimp only at H
   exact jA (y2,y3) H [6,5,3] [3]
  refine tA h2 ?_
  refine tK ?_
  refine tS ?_
  refine tB ?_
  refine tS ?_
  refine Tr.mid (ι := Bool × (List zA)) (fun v => ⟨65,0,[sI 7 y1,sB 6 v.1,sC 5 (cL 5 v.2 zA.row),sA 3 3 5 0,sC 0 (cF 5 x0 zA.row)],[(3,(zA.row x1))]⟩) (fun v => ZN n (fun v => qN n mo7 x0 x1 v.1 v.2.1 v.2.2) x0 x1 y1 v.1 v.2 = some o7) ?_ ?_
  ·refine tS ?_
   refine sT ⟨65,0,[sB 12 (decide (y1 < (x0.length : Int))),sI 7 y1,sB 6 y2,sC 5 (cL 5 y3 zA.row),sA 3 3 5 0,sC 0 (cF 5 x0 zA.row)],[(3,(zA.row x1))]⟩ ?_
   cases h5 : (!y2)
   ·have H := zI h5 H
    refine Tr.draw mixed 14 kr ⟨65,0,[sB 28 false,sI 7 y1,sB 6 y2,sC 5 (cL 5 y3 zA.row),sA 3 3 5 0,sC 0 (cF 5 x0 zA.row)],[(3,(zA.row x1))]⟩ (fun cx => ?_) ?_
    ·refine mA JF [(0,[]),(1,[]),(2,[])] 11 [] fun cx => ?_
     refine sA_ 131305 8 ⟨65,0,[sB 17 (!y2),sI 7 y1,sB 6 y2,sC 5 (cL 5 y3 zA.row),sA 3 3 5 0,sC 0 (cF 5 x0 zA.row)],[(3,(zA.row x1))]⟩ ?_
     rw [h5]
     refine mA JF [(3,[]),(4,[]),(5,[]),(6,[]),(7,[]),(8,[]),(9,[]),(10,[]),(11,[]),(12,[]),(13,[])] 0 [] fun cx => ?_
     exact mE JF [28,7,6,5,3,0] [3]
    refine nB_ ?_
    refine tK ?_
    exact jA (y2,y3) H [7,6,5,3,0] [3]
   have H := zJ h5 H
   obtain ⟨v16,ev16,H⟩ := bs H
   obtain ⟨r17,er17,H⟩ := bs H
   refine Tr.draw mixed 14 kr ⟨65,0,[sB 28 (!r17),sI 7 y1,sB 6 y2,sC 5 (cL 5 y3 zA.row),sA 3 3 5 0,sC 0 (cF 5 x0 zA.row)],[(3,(zA.row x1))]⟩ (fun cx => ?_) ?_
   ·refine mA JF [(0,[]),(1,[]),(2,[])] 11 [] fun cx => ?_
    refine sA_ 131305 8 ⟨65,0,[sB 17 (!y2),sI 7 y1,sB 6 y2,sC 5 (cL 5 y3 zA.row),sA 3 3 5 0,sC 0 (cF 5 x0 zA.row)],[(3,(zA.row x1))]⟩ ?_
    rw [h5]
    refine mA JF [(3,[]),(4,[])] 9 [] fun cx => ?_
    refine iN JF 5 zA.row ev16 fun cx => ?_
    refine mA JF [(6,[]),(7,[]),(8,[11]),(9,[]),(10,[11])] 3 [⟨[11],3,24,25⟩,⟨[11],3,22,23⟩] fun cx => ?_
    refine mC JF 11 ?_
    refine vA [.rd,.rd,.rd] (zDF n v16 x1.Tag x1.Mac r17 er17) ?_
    refine fA ?_
    refine mA JF [(12,[]),(13,[])] 0 [⟨[11],3,24,25⟩,⟨[11],3,22,23⟩] fun cx => ?_
    exact mE JF [28,7,6,5,3,0] [3]
   refine sT ⟨65,0,[sB 28 (!r17),sI 7 y1,sB 6 y2,sC 5 (cL 5 y3 zA.row),sA 3 3 5 0,sC 0 (cF 5 x0 zA.row)],[(3,(zA.row x1))]⟩ ?_
   cases h6 : (!r17)
   ·have H := zI h6 H
    refine nB_ ?_
    refine tK ?_
    exact jA (y2,y3) H [7,6,5,3,0] [3]
   have H := zJ h6 H
   refine tB_ ?_
   refine rA 3 ?_
   obtain ⟨hg18,H⟩ := gs H
   refine LAt.appMU tOk (t := 25) (ty := 25) (e := 49) (x := (.tmp 29)) (y := (.tmp 31)) (d := 32) (g := none) (tI 49) zA.row y3 [x1] kr kr kr kr kr kr kr kr kr kr hg18 ?_
   refine LAt.moveU (T := lk tab) (ty := 25) (x := (.tmp 32)) (d := 5) (g := none) false [cL 5 (y3 ++ [x1]) zA.row] kr kr kr kr kr ?_
   refine dA 169 8 ?_
   refine eA 1 233 8 ?_
   exact jA (true,(y3 ++ [x1])) H [7,6,5,3,0] [3]
  rintro ⟨y8,y9⟩ H
  have H : (ZN n (fun v => qN n mo7 x0 x1 v.1 v.2.1 v.2.2) x0 x1 y1 y8 y9) = some o7 := H
  unfold ZN at H
  refine tS ?_
  obtain ⟨v10,ev10,H⟩ := bs H
  refine sT ⟨65,0,[sI 7 y1,sB 6 y8,sC 5 (cL 5 y9 zA.row),sA 3 3 5 0,sC 0 (cF 5 x0 zA.row)],[(3,(zA.row x1))]⟩ ?_
  cases h3 : (v10.Tag != x1.Tag)
  ·have H := zI h3 H
   obtain ⟨v11,ev11,H⟩ := bs H
   refine Tr.draw mixed 18 kr ⟨65,0,[sB 50 (v11.Mac != x1.Mac),sI 7 y1,sB 6 y8,sC 5 (cL 5 y9 zA.row),sA 3 3 5 0,sC 0 (cF 5 x0 zA.row)],[(3,(zA.row x1))]⟩ (fun cx => ?_) ?_
   ·refine mA YD [(0,[]),(1,[])] 16 [] fun cx => ?_
    refine iN YD 2 zA.row ev10 fun cx => ?_
    refine mA YD [(3,[]),(4,[]),(5,[]),(6,[]),(7,[]),(8,[])] 9 [⟨[],3,38,39⟩] fun cx => ?_
    refine sA_ 3023656976617 8 ⟨65,0,[sB 41 (v10.Tag != x1.Tag),sI 39 x1.Tag,sA 38 3 5 0,sI 7 y1,sB 6 y8,sC 5 (cL 5 y9 zA.row),sA 3 3 5 0,sC 0 (cF 5 x0 zA.row)],[(3,(zA.row x1))]⟩ ?_
    rw [h3]
    refine mA YD [(9,[]),(10,[])] 7 [⟨[],3,38,39⟩] fun cx => ?_
    refine iN YD 11 zA.row ev11 fun cx => ?_
    refine mA YD [(12,[]),(13,[]),(14,[]),(15,[]),(16,[]),(17,[])] 0 [⟨[],3,47,48⟩,⟨[],3,38,39⟩] fun cx => ?_
    exact mE YD [50,7,6,5,3,0] [3]
   refine sT ⟨65,0,[sB 50 (v11.Mac != x1.Mac),sI 7 y1,sB 6 y8,sC 5 (cL 5 y9 zA.row),sA 3 3 5 0,sC 0 (cF 5 x0 zA.row)],[(3,(zA.row x1))]⟩ ?_
   cases h4 : (v11.Mac != x1.Mac)
   ·have H := zI h4 H
    refine nB_ ?_
    refine tK ?_
    refine eA 3 233 8 ?_
    exact jB mo7 ((IntKind.wrap .i64 (y1 + 1)),y8,y9) H [7,6,5,3,0] [3]
   have H := zJ h4 H
   refine tB_ ?_
   refine Tr.at ?_
   refine lA 3 ?_
   obtain ⟨v12,ev12,H⟩ := bs H
   refine iA zA.row ev12 ?_
   refine lA 2 ?_
   obtain ⟨hg13,H⟩ := gs H
   refine LAt.appMU tOk (t := 25) (ty := 25) (e := 49) (x := (.tmp 51)) (y := (.tmp 56)) (d := 57) (g := none) (tI 49) zA.row y9 [v12] kr kr kr kr kr kr kr kr kr kr hg13 ?_
   refine LAt.moveU (T := lk tab) (ty := 25) (x := (.tmp 57)) (d := 5) (g := none) false [cL 5 (y9 ++ [v12]) zA.row] kr kr kr kr kr ?_
   refine dA 233 8 ?_
   refine eA 3 233 8 ?_
   exact jB mo7 ((IntKind.wrap .i64 (y1 + 1)),y8,(y9 ++ [v12])) H [7,6,5,3,0] [3]
  have H := zJ h3 H
  refine Tr.draw mixed 18 kr ⟨65,0,[sB 50 true,sI 7 y1,sB 6 y8,sC 5 (cL 5 y9 zA.row),sA 3 3 5 0,sC 0 (cF 5 x0 zA.row)],[(3,(zA.row x1))]⟩ (fun cx => ?_) ?_
  ·refine mA YD [(0,[]),(1,[])] 16 [] fun cx => ?_
   refine iN YD 2 zA.row ev10 fun cx => ?_
   refine mA YD [(3,[]),(4,[]),(5,[]),(6,[]),(7,[]),(8,[])] 9 [⟨[],3,38,39⟩] fun cx => ?_
   refine sA_ 3023656976617 8 ⟨65,0,[sB 41 (v10.Tag != x1.Tag),sI 39 x1.Tag,sA 38 3 5 0,sI 7 y1,sB 6 y8,sC 5 (cL 5 y9 zA.row),sA 3 3 5 0,sC 0 (cF 5 x0 zA.row)],[(3,(zA.row x1))]⟩ ?_
   rw [h3]
   refine mA YD [(9,[]),(10,[]),(11,[]),(12,[]),(13,[]),(14,[]),(15,[]),(16,[]),(17,[])] 0 [⟨[],3,38,39⟩] fun cx => ?_
   exact mE YD [50,7,6,5,3,0] [3]
  refine tB_ ?_
  refine Tr.at ?_
  refine lA 3 ?_
  obtain ⟨v14,ev14,H⟩ := bs H
  refine iA zA.row ev14 ?_
  refine lA 2 ?_
  obtain ⟨hg15,H⟩ := gs H
  refine LAt.appMU tOk (t := 25) (ty := 25) (e := 49) (x := (.tmp 51)) (y := (.tmp 56)) (d := 57) (g := none) (tI 49) zA.row y9 [v14] kr kr kr kr kr kr kr kr kr kr hg15 ?_
  refine LAt.moveU (T := lk tab) (ty := 25) (x := (.tmp 57)) (d := 5) (g := none) false [cL 5 (y9 ++ [v14]) zA.row] kr kr kr kr kr ?_
  refine dA 233 8 ?_
  refine eA 3 233 8 ?_
  exact jB mo7 ((IntKind.wrap .i64 (y1 + 1)),y8,(y9 ++ [v14])) H [7,6,5,3,0] [3]
 rintro ⟨y4,y5⟩ H
 have H : (YM n x1 y4 y5) = some r := H
 unfold YM at H
 refine tS ?_
 refine gA 2 0x800000000000028 8 ?_
 obtain ⟨h1,H⟩ | ⟨h1,H⟩ := bC H
 ·refine nA h1 ?_
  refine tK ?_
  refine gA 2 48 0 ?_
  exact te (fJ [(false,[cL 5 y5 zA.row])] H)
 refine tA h1 ?_
 refine Tr.at ?_
 refine lA 3 ?_
 obtain ⟨hg6,H⟩ := gs H
 refine LAt.appMU tOk (t := 25) (ty := 25) (e := 49) (x := (.tmp 60)) (y := (.tmp 62)) (d := 63) (g := none) (tI 49) zA.row y5 [x1] kr kr kr kr kr kr kr kr kr kr hg6 ?_
 refine LAt.moveU (T := lk tab) (ty := 25) (x := (.tmp 63)) (d := 5) (g := none) false [cL 5 (y5 ++ [x1]) zA.row] kr kr kr kr kr ?_
 refine dA 32 0 ?_
 refine gA 2 48 0 ?_
 exact te (fJ [(false,[cL 5 (y5 ++ [x1]) zA.row])] H)
def Zz (n : Nat) (x0 : (List zA)) (x1 : Int) (x2 : Int) (x3 : Int) : Option ((List zA)) :=
  ((Zk n x0 x1 x2).bind fun r1 => ((qX n x0).bind fun r2 => (bif (!r2) then ((z8 n x0).bind fun r13 => (some r13)) else ((qP n (⟨x1,x2,x3,0,false⟩ : zA)).bind fun r3 => (bif (!r3) then ((z8 n x0).bind fun r12 => (some r12)) else (bif (decide (r1 ≥ 0)) then ((idx x0 r1).bind fun v7 => (bif v7.Sc then ((z8 n x0).bind fun r11 => (some r11)) else (bif (decide (r1 < 0)) then (bif (decide ((x0.length : Int) ≥ 12)) then ((z8 n x0).bind fun r10 => (some r10)) else ((Za n x0 (⟨x1,x2,x3,0,false⟩ : zA)).bind fun r9 => (some r9))) else ((Za n x0 (⟨x1,x2,x3,0,false⟩ : zA)).bind fun r8 => (some r8))))) else (bif (decide (r1 < 0)) then (bif (decide ((x0.length : Int) ≥ 12)) then ((z8 n x0).bind fun r6 => (some r6)) else ((Za n x0 (⟨x1,x2,x3,0,false⟩ : zA)).bind fun r5 => (some r5))) else ((Za n x0 (⟨x1,x2,x3,0,false⟩ : zA)).bind fun r4 => (some r4)))))))))
theorem zEj (n : Nat) (x0 : (List zA)) (x1 : Int) (x2 : Int) (x3 : Int) (r : (List zA)) (H : Zz n x0 x1 x2 x3 = some r) : zG Try.prog 84 [.val false [.sl false 5 (CV.frzEs (x0.map zA.row))],.val false [.lit (.int .i64 x1)],.val false [.lit (.int .i64 x2)],.val false [.lit (.int .i64 x3)]] [.val false [.sl true 5 (r.map zA.row)]] [] := by
 refine cW Try.func84 (fun g d => sl [g 0,g 1,g 2,sl [g 3] (cn 46 (sl [g 4] .ret) .skip),g 5] .ret) [.tmp 8] fun cx => ?_
 unfold Zz at H
 refine gA 1 15 0 ?_
 refine gA 6 519 512 ?_
 refine rA 3 ?_
 obtain ⟨r1,er1,H⟩ := bs H
 refine vA [.rd,.rd,.rd] (zDG n x0 x1 x2 r1 er1) ?_
 refine uA 1 1537 512 ?_
 refine tS ?_
 refine rA 1 ?_
 obtain ⟨r2,er2,H⟩ := bs H
 refine vA [.rd] (zCb n x0 r2 er2) ?_
 refine lA 2 ?_
 refine sL 4195841 512 ⟨52,0,[sB 22 (!r2),sI 10 r1,sA 9 9 5 0,sC 0 (cF 5 x0 zA.row)],[(9,[cI x1,cI x2,cI x3,cI 0,cB false])]⟩ ?_
 cases h1 : (!r2)
 ·have H := zI h1 H
  refine lA 1 ?_
  obtain ⟨r3,er3,H⟩ := bs H
  refine vA [.rd] (J6 n (⟨x1,x2,x3,0,false⟩ : zA) r3 er3) ?_
  refine lA 3 ?_
  refine sL 134219265 512 ⟨52,0,[sB 27 (!r3),sI 10 r1,sA 9 9 5 0,sC 0 (cF 5 x0 zA.row)],[(9,[cI x1,cI x2,cI x3,cI 0,cB false])]⟩ ?_
  cases h2 : (!r3)
  ·have H := zI h2 H
   refine lA 3 ?_
   refine sL 1207961089 512 ⟨52,0,[sB 30 (decide (r1 ≥ 0)),sB 27 false,sI 10 r1,sA 9 9 5 0,sC 0 (cF 5 x0 zA.row)],[(9,[cI x1,cI x2,cI x3,cI 0,cB false])]⟩ ?_
   cases h3 : (decide (r1 ≥ 0))
   ·have H := zI h3 H
    refine lA 11 ?_
    refine sL 2473901163009 512 ⟨52,0,[sB 41 (decide (r1 < 0)),sB 38 false,sA 9 9 5 0,sC 0 (cF 5 x0 zA.row)],[(9,[cI x1,cI x2,cI x3,cI 0,cB false])]⟩ ?_
    cases h4 : (decide (r1 < 0))
    ·have H := zI h4 H
     refine uA 5 70368744178177 512 ?_
     refine nB_ ?_
     refine tK ?_
     refine rA 2 ?_
     obtain ⟨r4,er4,H⟩ := bs H
     refine vA [.rd,.rd] (JA n x0 (⟨x1,x2,x3,0,false⟩ : zA) r4 er4) ?_
     refine LAt.moveU (T := lk tab) (ty := 25) (x := (.tmp 51)) (d := 8) (g := none) false [cL 5 r4 zA.row] kr kr kr kr kr ?_
     refine dA 256 0 ?_
     exact te (fJ [(false,[cL 5 r4 zA.row])] H)
    have H := zJ h4 H
    refine lA 1 ?_
    refine kF x0 zA.row ?_
    refine uA 3 70368744178177 512 ?_
    obtain ⟨h5,H⟩ | ⟨h5,H⟩ := bC H
    ·refine nA h5 ?_
     refine tK ?_
     refine rA 2 ?_
     obtain ⟨r5,er5,H⟩ := bs H
     refine vA [.rd,.rd] (JA n x0 (⟨x1,x2,x3,0,false⟩ : zA) r5 er5) ?_
     refine LAt.moveU (T := lk tab) (ty := 25) (x := (.tmp 51)) (d := 8) (g := none) false [cL 5 r5 zA.row] kr kr kr kr kr ?_
     refine dA 256 0 ?_
     exact te (fJ [(false,[cL 5 r5 zA.row])] H)
    refine tA h5 ?_
    refine rA 1 ?_
    obtain ⟨r6,er6,H⟩ := bs H
    refine vA [.rd] (Z4 n x0 r6 er6) ?_
    refine LAt.moveU (T := lk tab) (ty := 25) (x := (.tmp 48)) (d := 8) (g := none) false [cL 5 r6 zA.row] kr kr kr kr kr ?_
    refine dA 256 0 ?_
    exact te (fJ [(false,[cL 5 r6 zA.row])] H)
   have H := zJ h3 H
   refine lA 2 ?_
   obtain ⟨v7,ev7,H⟩ := bs H
   refine iA zA.row ev7 ?_
   refine lA 5 ?_
   refine sL 274877908481 512 ⟨52,0,[sB 38 v7.Sc,sI 10 r1,sA 9 9 5 0,sC 0 (cF 5 x0 zA.row)],[(9,[cI x1,cI x2,cI x3,cI 0,cB false])]⟩ ?_
   cases h6 : v7.Sc
   ·have H := zI h6 H
    refine lA 3 ?_
    refine sL 2473901163009 512 ⟨52,0,[sB 41 (decide (r1 < 0)),sB 38 false,sA 9 9 5 0,sC 0 (cF 5 x0 zA.row)],[(9,[cI x1,cI x2,cI x3,cI 0,cB false])]⟩ ?_
    cases h7 : (decide (r1 < 0))
    ·have H := zI h7 H
     refine uA 5 70368744178177 512 ?_
     refine nB_ ?_
     refine tK ?_
     refine rA 2 ?_
     obtain ⟨r8,er8,H⟩ := bs H
     refine vA [.rd,.rd] (JA n x0 (⟨x1,x2,x3,0,false⟩ : zA) r8 er8) ?_
     refine LAt.moveU (T := lk tab) (ty := 25) (x := (.tmp 51)) (d := 8) (g := none) false [cL 5 r8 zA.row] kr kr kr kr kr ?_
     refine dA 256 0 ?_
     exact te (fJ [(false,[cL 5 r8 zA.row])] H)
    have H := zJ h7 H
    refine lA 1 ?_
    refine kF x0 zA.row ?_
    refine uA 3 70368744178177 512 ?_
    obtain ⟨h8,H⟩ | ⟨h8,H⟩ := bC H
    ·refine nA h8 ?_
     refine tK ?_
     refine rA 2 ?_
     obtain ⟨r9,er9,H⟩ := bs H
     refine vA [.rd,.rd] (JA n x0 (⟨x1,x2,x3,0,false⟩ : zA) r9 er9) ?_
     refine LAt.moveU (T := lk tab) (ty := 25) (x := (.tmp 51)) (d := 8) (g := none) false [cL 5 r9 zA.row] kr kr kr kr kr ?_
     refine dA 256 0 ?_
     exact te (fJ [(false,[cL 5 r9 zA.row])] H)
    refine tA h8 ?_
    refine rA 1 ?_
    obtain ⟨r10,er10,H⟩ := bs H
    refine vA [.rd] (Z4 n x0 r10 er10) ?_
    refine LAt.moveU (T := lk tab) (ty := 25) (x := (.tmp 48)) (d := 8) (g := none) false [cL 5 r10 zA.row] kr kr kr kr kr ?_
    refine dA 256 0 ?_
    exact te (fJ [(false,[cL 5 r10 zA.row])] H)
   have H := zJ h6 H
   refine uA 8 70368744178177 512 ?_
   refine tB_ ?_
   refine rA 1 ?_
   obtain ⟨r11,er11,H⟩ := bs H
   refine vA [.rd] (Z4 n x0 r11 er11) ?_
   refine LAt.moveU (T := lk tab) (ty := 25) (x := (.tmp 48)) (d := 8) (g := none) false [cL 5 r11 zA.row] kr kr kr kr kr ?_
   refine dA 256 0 ?_
   exact te (fJ [(false,[cL 5 r11 zA.row])] H)
  have H := zJ h2 H
  refine uA 19 70368744178177 512 ?_
  refine tB_ ?_
  refine rA 1 ?_
  obtain ⟨r12,er12,H⟩ := bs H
  refine vA [.rd] (Z4 n x0 r12 er12) ?_
  refine LAt.moveU (T := lk tab) (ty := 25) (x := (.tmp 48)) (d := 8) (g := none) false [cL 5 r12 zA.row] kr kr kr kr kr ?_
  refine dA 256 0 ?_
  exact te (fJ [(false,[cL 5 r12 zA.row])] H)
 have H := zJ h1 H
 refine uA 24 70368744178177 512 ?_
 refine tB_ ?_
 refine rA 1 ?_
 obtain ⟨r13,er13,H⟩ := bs H
 refine vA [.rd] (Z4 n x0 r13 er13) ?_
 refine LAt.moveU (T := lk tab) (ty := 25) (x := (.tmp 48)) (d := 8) (g := none) false [cL 5 r13 zA.row] kr kr kr kr kr ?_
 refine dA 256 0 ?_
 exact te (fJ [(false,[cL 5 r13 zA.row])] H)
def Qk (n : Nat) (x0 : (List zA)) (x1 : Int) (x2 : Int) (x3 : Int) : Option ((List zA) × Bool) :=
  ((qX n x0).bind fun r1 => (bif (!r1) then ((z8 n x0).bind fun r8 => (some (r8,false))) else ((qP n (⟨x1,x2,x3,0,true⟩ : zA)).bind fun r2 => (bif (!r2) then ((z8 n x0).bind fun r7 => (some (r7,false))) else ((Zk n x0 x1 x2).bind fun r3 => (bif (decide (r3 < 0)) then (bif (decide ((x0.length : Int) ≥ 12)) then ((z8 n x0).bind fun r6 => (some (r6,false))) else ((Za n x0 (⟨x1,x2,x3,0,true⟩ : zA)).bind fun r5 => (some (r5,true)))) else ((Za n x0 (⟨x1,x2,x3,0,true⟩ : zA)).bind fun r4 => (some (r4,true)))))))))
theorem zFB (n : Nat) (x0 : (List zA)) (x1 : Int) (x2 : Int) (x3 : Int) (r : (List zA) × Bool) (H : Qk n x0 x1 x2 x3 = some r) : zG Try.prog 123 [.val false [.sl false 5 (CV.frzEs (x0.map zA.row))],.val false [.lit (.int .i64 x1)],.val false [.lit (.int .i64 x2)],.val false [.lit (.int .i64 x3)]] [.val false [.sl true 5 (r.1.map zA.row)],.val false [.lit (.bool r.2)]] [] := by
 refine cW Try.func123 (fun g d => sl [g 0,g 1,sl [g 2] (cn 34 (sl [g 3] .ret) .skip),g 4] .ret) [.tmp 8,.tmp 9] fun cx => ?_
 unfold Qk at H
 refine gA 2 15 0 ?_
 refine gA 6 1031 1024 ?_
 refine tS ?_
 refine rA 1 ?_
 obtain ⟨r1,er1,H⟩ := bs H
 refine vA [.rd] (zCb n x0 r1 er1) ?_
 refine lA 2 ?_
 refine sL 263175 1024 ⟨40,0,[sB 18 (!r1),sA 10 10 5 0,sC 0 (cF 5 x0 zA.row),sI 1 x1,sI 2 x2],[(10,[cI x1,cI x2,cI x3,cI 0,cB true])]⟩ ?_
 cases h1 : (!r1)
 ·have H := zI h1 H
  refine lA 1 ?_
  obtain ⟨r2,er2,H⟩ := bs H
  refine vA [.rd] (J6 n (⟨x1,x2,x3,0,true⟩ : zA) r2 er2) ?_
  refine lA 3 ?_
  refine sL 8389639 1024 ⟨40,0,[sB 23 (!r2),sA 10 10 5 0,sC 0 (cF 5 x0 zA.row),sI 1 x1,sI 2 x2],[(10,[cI x1,cI x2,cI x3,cI 0,cB true])]⟩ ?_
  cases h2 : (!r2)
  ·have H := zI h2 H
   refine lA 3 ?_
   obtain ⟨r3,er3,H⟩ := bs H
   refine vA [.rd,.rd,.rd] (zDG n x0 x1 x2 r3 er3) ?_
   refine lA 2 ?_
   refine sL 545260545 1024 ⟨40,0,[sB 29 (decide (r3 < 0)),sB 23 false,sA 10 10 5 0,sC 0 (cF 5 x0 zA.row)],[(10,[cI x1,cI x2,cI x3,cI 0,cB true])]⟩ ?_
   cases h3 : (decide (r3 < 0))
   ·have H := zI h3 H
    refine uA 5 17179870209 1024 ?_
    refine nB_ ?_
    refine tK ?_
    refine rA 2 ?_
    obtain ⟨r4,er4,H⟩ := bs H
    refine vA [.rd,.rd] (JA n x0 (⟨x1,x2,x3,0,true⟩ : zA) r4 er4) ?_
    refine LAt.moveU (T := lk tab) (ty := 25) (x := (.tmp 39)) (d := 8) (g := none) false [cL 5 r4 zA.row] kr kr kr kr kr ?_
    refine uA 1 768 0 ?_
    exact te (fJ [(false,[cL 5 r4 zA.row]),(false,[cB true])] H)
   have H := zJ h3 H
   refine lA 1 ?_
   refine kF x0 zA.row ?_
   refine uA 3 17179870209 1024 ?_
   obtain ⟨h4,H⟩ | ⟨h4,H⟩ := bC H
   ·refine nA h4 ?_
    refine tK ?_
    refine rA 2 ?_
    obtain ⟨r5,er5,H⟩ := bs H
    refine vA [.rd,.rd] (JA n x0 (⟨x1,x2,x3,0,true⟩ : zA) r5 er5) ?_
    refine LAt.moveU (T := lk tab) (ty := 25) (x := (.tmp 39)) (d := 8) (g := none) false [cL 5 r5 zA.row] kr kr kr kr kr ?_
    refine uA 1 768 0 ?_
    exact te (fJ [(false,[cL 5 r5 zA.row]),(false,[cB true])] H)
   refine tA h4 ?_
   refine rA 1 ?_
   obtain ⟨r6,er6,H⟩ := bs H
   refine vA [.rd] (Z4 n x0 r6 er6) ?_
   refine LAt.moveU (T := lk tab) (ty := 25) (x := (.tmp 36)) (d := 8) (g := none) false [cL 5 r6 zA.row] kr kr kr kr kr ?_
   refine uA 1 768 0 ?_
   exact te (fJ [(false,[cL 5 r6 zA.row]),(false,[cB false])] H)
  have H := zJ h2 H
  refine uA 11 17179870209 1024 ?_
  refine tB_ ?_
  refine rA 1 ?_
  obtain ⟨r7,er7,H⟩ := bs H
  refine vA [.rd] (Z4 n x0 r7 er7) ?_
  refine LAt.moveU (T := lk tab) (ty := 25) (x := (.tmp 36)) (d := 8) (g := none) false [cL 5 r7 zA.row] kr kr kr kr kr ?_
  refine uA 1 768 0 ?_
  exact te (fJ [(false,[cL 5 r7 zA.row]),(false,[cB false])] H)
 have H := zJ h1 H
 refine uA 16 17179870209 1024 ?_
 refine tB_ ?_
 refine rA 1 ?_
 obtain ⟨r8,er8,H⟩ := bs H
 refine vA [.rd] (Z4 n x0 r8 er8) ?_
 refine LAt.moveU (T := lk tab) (ty := 25) (x := (.tmp 36)) (d := 8) (g := none) false [cL 5 r8 zA.row] kr kr kr kr kr ?_
 refine uA 1 768 0 ?_
 exact te (fJ [(false,[cL 5 r8 zA.row]),(false,[cB false])] H)
def Zh (n : Nat) (r3 : zD) (r4 : ByteArray × Src) (r5 : (List Pt) × Src) (r6 : zC × Src) (y17 : (List Int)) (y18 : Int) (y19 : Int) (y20 : (List zA)) : Option (zD × Src) :=
  ((zT n (⟨y17,y18,y19⟩ : Src) 5).bind fun r21 => ((ql n r21.2 [0,1,5,1000000]).bind fun r22 => (some ((⟨r3.Id,r4.1,r5.1,y20,r6.1,r21.1,r3.Pa,r3.Wo,r3.Dr,r22.1⟩ : zD),r22.2))))
def QB (n : Nat) (r1 : Int × Src) (r3 : zD) (r4 : ByteArray × Src) (r5 : (List Pt) × Src) (r6 : zC × Src) (y13 : (List Int)) (y14 : Int) (y15 : Int) (y16 : (List zA)) : Option (zD × Src) :=
  ((Zj n (⟨y13,y14,y15⟩ : Src) 3).bind fun r23 => (bif r23.1 then ((Qq n r23.2).bind fun r24 => ((zT n r24.2 (IntKind.wrap .i64 (1 + r1.1))).bind fun r25 => ((Qk n y16 1 r24.1 r25.1).bind fun r26 => (Zh n r3 r4 r5 r6 r25.2.b r25.2.i r25.2.h r26.1)))) else (Zh n r3 r4 r5 r6 r23.2.b r23.2.i r23.2.h y16)))
def ZE (n : Nat) : Nat → Int × Src → Int → (List Int) → Int → Int → (List zA) → Option (((List Int) × Int × Int × (List zA)) ⊕ (zD × Src))
  | 0,_,_,_,_,_,_ => none
  | mo27 + 1,r1,y8,y9,y10,y11,y12 => (bif (decide (y8 > 0)) then ((zT n (⟨y9,y10,y11⟩ : Src) 3).bind fun r28 => ((Qq n r28.2).bind fun r29 => ((zT n r29.2 (IntKind.wrap .i64 (1 + r1.1))).bind fun r30 => ((Zz n y12 (IntKind.wrap .i64 (1 + r28.1)) r29.1 r30.1).bind fun r31 => (ZE n mo27 r1 (IntKind.wrap .i64 (y8 - 1)) r30.2.b r30.2.i r30.2.h r31))))) else (some (Sum.inl (y9,y10,y11,y12))))
def YK (n : Nat) (x0 : Src) : Option (zD × Src) :=
  ((zT n x0 4).bind fun r1 => ((zT n r1.2 5).bind fun r2 => ((Z9 n (IntKind.wrap .i64 (1 + r2.1)) (IntKind.wrap .i64 (1 + r1.1))).bind fun r3 => ((JO n r2.2 [(⟨#[]⟩ : ByteArray),(⟨#[121,97,114,100]⟩ : ByteArray),(⟨#[98,49]⟩ : ByteArray)]).bind fun r4 => ((YI n r4.2 (IntKind.wrap .i64 (1 + r1.1))).bind fun r5 => ((Y0 n r5.2 (IntKind.wrap .i64 (1 + r1.1))).bind fun r6 => ((zT n r6.2 6).bind fun r7 => ((ZE n n r1 r7.1 r7.2.b r7.2.i r7.2.h r3.F).bind fun o => match o with | .inl (y13,y14,y15,y16) => (QB n r1 r3 r4 r5 r6 y13 y14 y15 y16) | .inr r => some r))))))))
def zJc : Tab := ⟨13,[0,1,0,4,8,0,40,0,0,448,594,2047,4095],[0,1,0,4,8,0,32,0,0,384,594,0,3072],[0,1,0,4,12,0,44,0,0,492,1023,2047,4095]⟩
noncomputable abbrev G53 (k : Nat) := Rg Try.f53 k
noncomputable abbrev D53 (k : Nat) := Rd Try.f53 k
theorem zAt : z6 (rg Try.f53 9) zJc = true := kr
def zJJ : Tab := ⟨13,[0,1,0,4,0,0,56,74,128,256,256,1023,3071],[0,1,0,4,0,0,48,74,128,256,256,0,2560],[0,1,0,4,0,0,60,127,255,511,511,1023,3071]⟩
theorem Jn : z6 (rg Try.f53 11) zJJ = true := kr
theorem zGZ (n : Nat) (x0 : Src) (r : zD × Src) (H : YK n x0 = some r) : zG Try.prog 53 [.ptr (CV.frzRow (Src.row x0))] [.val true (zD.row r.1)] [(0,(CV.frzRow (Src.row r.2)))] := by
 refine zG.of_body tOk Try.func53 rfl (c := (.seq (G53 0) (.seq (G53 1) (.seq (G53 2) (.seq (G53 3) (.seq (G53 4) (.seq (G53 5) (.seq (.seq (G53 6) (.block 0 (.loop (.seq (.seq (G53 7) (.cond (.tmp 29) .skip (.exit 0))) (.seq (.block 1 (D53 9)) (G53 8)))))) (.seq (.seq (G53 10) (.cond (.tmp 45) (D53 11) .skip)) (.seq (G53 12) (.seq (G53 13) (.seq (G53 14) .ret)))))))))))) kr (Nat.le_of_ble_eq_true kr) 1 (rs := [.cell 2 31]) rfl [] .nil [(true,(zD.row r.1))] [] [(0,(CV.frzRow (Src.row r.2)))] fun cx => ?_
 show Tr _ _ _ ⟨66,1,[sA 0 0 3 0],[(0,(CV.frzRow (Src.row x0)))]⟩ _
 unfold YK at H
 refine gA 1 5 5 ?_
 refine rA 1 ?_
 obtain ⟨r1,er1,H⟩ := bs H
 refine LAt.callL tOk [.lend,.rd] (f := 54) (av := #[.tmp 6,.const (.int .i64 4)]) (ats := #[100,3]) (d := (some 7)) (ty := 3) (g := none) kr kr kr [] (zm n x0 4 r1 er1) kr (.inl rfl) ?_
 refine uA 2 13 5 ?_
 refine rA 1 ?_
 obtain ⟨r2,er2,H⟩ := bs H
 refine LAt.callL tOk [.lend,.rd] (f := 54) (av := #[.tmp 9,.const (.int .i64 5)]) (ats := #[100,3]) (d := (some 10)) (ty := 3) (g := none) kr kr kr [] (zm n r1.2 5 r2 er2) kr (.inl rfl) ?_
 refine lA 2 ?_
 obtain ⟨r3,er3,H⟩ := bs H
 refine vA [.rd,.rd] (zE8 n (IntKind.wrap .i64 (1 + r2.1)) (IntKind.wrap .i64 (1 + r1.1)) r3 er3) ?_
 refine uA 2 29 21 ?_
 refine rA 2 ?_
 obtain ⟨r4,er4,H⟩ := bs H
 refine LAt.callL tOk [.lend,.rd] (f := 118) (av := #[.tmp 14,.tmp 15]) (ats := #[100,145]) (d := (some 16)) (ty := 9) (g := none) kr kr kr [] (zHi n r2.2 [(⟨#[]⟩ : ByteArray),(⟨#[121,97,114,100]⟩ : ByteArray),(⟨#[98,49]⟩ : ByteArray)] r4 er4) kr (.inl rfl) ?_
 refine uA 2 29 21 ?_
 refine rA 2 ?_
 obtain ⟨r5,er5,H⟩ := bs H
 refine LAt.callL tOk [.lend,.rd] (f := 119) (av := #[.tmp 18,.tmp 19]) (ats := #[100,3]) (d := (some 20)) (ty := 24) (g := none) kr kr kr [] (zGX n r4.2 (IntKind.wrap .i64 (1 + r1.1)) r5 er5) kr (.inl rfl) ?_
 refine uA 2 29 21 ?_
 refine rA 2 ?_
 obtain ⟨r6,er6,H⟩ := bs H
 refine LAt.callL tOk [.lend,.rd] (f := 120) (av := #[.tmp 22,.tmp 23]) (ats := #[100,3]) (d := (some 24)) (ty := 29) (g := none) kr kr kr [] (zG1 n r5.2 (IntKind.wrap .i64 (1 + r1.1)) r6 er6) kr (.inl rfl) ?_
 refine uA 2 29 21 ?_
 refine tS ?_
 refine rA 1 ?_
 obtain ⟨r7,er7,H⟩ := bs H
 refine LAt.callL tOk [.lend,.rd] (f := 54) (av := #[.tmp 26,.const (.int .i64 6)]) (ats := #[100,3]) (d := (some 27)) (ty := 3) (g := none) kr kr kr [] (zm n r6.2 6 r7 er7) kr (.inl rfl) ?_
 refine uA 1 61 21 ?_
 obtain ⟨o27,eo27,Ho27⟩ := bs H
 clear H
 refine Tr.mid (ι := (List Int) × Int × Int × (List zA)) (fun v => ⟨66,1,[sA 4 4 11 0,sI 3 (IntKind.wrap .i64 (1 + r1.1)),sA 2 2 11 0,sA 0 0 3 0],[(0,[cF 1 v.1 zN,cI v.2.1,cI v.2.2.1]),(4,[cI r3.Id,cS r4.1,cL 8 r5.1 Pt.row,cL 5 v.2.2.2 zA.row,cL 3 r6.1.Rows zB.row,cL 1 r6.1.Pv intRow,cI r3.Tk,cI r3.Pa,cI r3.Wo,cI r3.Dr,cI r3.Ve]),(2,[cI 0,cS (⟨#[]⟩ : ByteArray),cL 8 ([] : List Pt) Pt.row,cL 5 ([] : List zA) zA.row,cL 3 ([] : List zB) zB.row,cL 1 ([] : List Int) intRow,cI 0,cI 0,cI 0,cI 0,cI 0])]⟩) (fun v => QB n r1 r3 r4 r5 r6 v.1 v.2.1 v.2.2.1 v.2.2.2 = some r) ?_ ?_
 ·refine tB ?_
  refine Tr.loop (ι := Nat × (Int × (List Int) × Int × Int × (List zA))) (fun v => ⟨66,1,[sI 5 v.2.1,sA 4 4 11 0,sI 3 (IntKind.wrap .i64 (1 + r1.1)),sA 2 2 11 0,sA 0 0 3 0],[(0,[cF 1 v.2.2.1 zN,cI v.2.2.2.1,cI v.2.2.2.2.1]),(4,[cI r3.Id,cS r4.1,cL 8 r5.1 Pt.row,cL 5 v.2.2.2.2.2 zA.row,cL 3 r6.1.Rows zB.row,cL 1 r6.1.Pv intRow,cI r3.Tk,cI r3.Pa,cI r3.Wo,cI r3.Dr,cI r3.Ve]),(2,[cI 0,cS (⟨#[]⟩ : ByteArray),cL 8 ([] : List Pt) Pt.row,cL 5 ([] : List zA) zA.row,cL 3 ([] : List zB) zB.row,cL 1 ([] : List Int) intRow,cI 0,cI 0,cI 0,cI 0,cI 0])]⟩) (fun v => ZE n v.1 r1 v.2.1 v.2.2.1 v.2.2.2.1 v.2.2.2.2.1 v.2.2.2.2.2 = some o27) (fun v => v.1) (n,(r7.1,r7.2.b,r7.2.i,r7.2.h,r3.F)) eo27 (St.sub_of [5,4,3,2,0] [0,4,2] kr) ?_
  rintro ⟨mo27,y8,y9,y10,y11,y12⟩ H
  have H : ZE n mo27 r1 y8 y9 y10 y11 y12 = some o27 := H
  obtain _ | mo27 := mo27
  ·exact nN H
  rw [ZE] at H
  refine tS ?_
  refine gA 2 536870973 21 ?_
  obtain ⟨h2,H⟩ | ⟨h2,H⟩ := bC H
  ·refine nA h2 ?_
   refine Tr.exit ?_
   refine aJ ?_
   obtain rfl := si H
   have H := Ho27
   dsimp only at H
   exact jA (y9,y10,y11,y12) H [4,3,2,0] [0,4,2]
  refine tA h2 ?_
  refine tK ?_
  refine tS ?_
  refine tB ?_
  obtain ⟨r28,er28,H⟩ := bs H
  obtain ⟨r29,er29,H⟩ := bs H
  obtain ⟨r30,er30,H⟩ := bs H
  obtain ⟨r31,er31,H⟩ := bs H
  refine Tr.draw mixed 13 kr ⟨66,1,[sI 5 y8,sA 4 4 11 0,sI 3 (IntKind.wrap .i64 (1 + r1.1)),sA 2 2 11 0,sA 0 0 3 0],[(4,[cI r3.Id,cS r4.1,cL 8 r5.1 Pt.row,cL 5 r31 zA.row,cL 3 r6.1.Rows zB.row,cL 1 r6.1.Pv intRow,cI r3.Tk,cI r3.Pa,cI r3.Wo,cI r3.Dr,cI r3.Ve]),(0,(CV.frzRow (Src.row r30.2))),(2,[cI 0,cS (⟨#[]⟩ : ByteArray),cL 8 ([] : List Pt) Pt.row,cL 5 ([] : List zA) zA.row,cL 3 ([] : List zB) zB.row,cL 1 ([] : List Int) intRow,cI 0,cI 0,cI 0,cI 0,cI 0])]⟩ (fun cx => ?_) ?_
  ·refine mA zAt [(0,[]),(1,[10,12]),(2,[]),(5,[]),(7,[]),(8,[])] 7 [⟨[10,12],25,32,33⟩] fun cx => ?_
   refine mC zAt 3 ?_
   refine LAt.callL tOk [.lend,.rd] (f := 54) (av := #[.tmp 34,.const (.int .i64 3)]) (ats := #[100,3]) (d := (some 35)) (ty := 3) (g := none) kr kr kr [] (zm n (⟨y9,y10,y11⟩ : Src) 3 r28 er28) kr (.inl rfl) ?_
   refine fA ?_
   refine mA zAt [(4,[])] 5 [⟨[10,12],25,32,33⟩] fun cx => ?_
   refine mC zAt 6 ?_
   refine LAt.callL tOk [.lend] (f := 121) (av := #[.tmp 37]) (ats := #[100]) (d := (some 38)) (ty := 3) (g := none) kr kr kr [] (zCd n r28.2 r29 er29) kr (.inl rfl) ?_
   refine fA ?_
   refine mC zAt 9 ?_
   refine LAt.callL tOk [.lend,.rd] (f := 54) (av := #[.tmp 39,.tmp 40]) (ats := #[100,3]) (d := (some 41)) (ty := 3) (g := none) kr kr kr [] (zm n r29.2 (IntKind.wrap .i64 (1 + r1.1)) r30 er30) kr (.inl rfl) ?_
   refine fA ?_
   refine mC zAt 10 ?_
   refine vB [.rd,.rd,.rd,.rd] [.box 4] (zEj n y12 (IntKind.wrap .i64 (1 + r28.1)) r29.1 r30.1 r31 er31) (.inr (zn (zH (Z8 (ZQ zA.row_mine _)) zj) qa)) ?_
   refine fA ?_
   refine mA zAt [(11,[])] 1 [⟨[10,12],25,32,33⟩] fun cx => ?_
   refine mC zAt 12 ?_
   refine lA 1 ?_
   refine fA ?_
   exact mE zAt [5,4,3,2,0] [4,0,2]
  refine eA 3 61 21 ?_
  exact jB mo27 ((IntKind.wrap .i64 (y8 - 1)),r30.2.b,r30.2.i,r30.2.h,r31) H [5,4,3,2,0] [0,4,2]
 rintro ⟨y13,y14,y15,y16⟩ H
 have H : (QB n r1 r3 r4 r5 r6 y13 y14 y15 y16) = some r := H
 unfold QB at H
 refine tS ?_
 refine Tr.mid (ι := (List Int) × Int × Int × (List zA)) (fun v => ⟨66,1,[sA 4 4 11 0,sA 2 2 11 0,sA 0 0 3 0],[(0,[cF 1 v.1 zN,cI v.2.1,cI v.2.2.1]),(4,[cI r3.Id,cS r4.1,cL 8 r5.1 Pt.row,cL 5 v.2.2.2 zA.row,cL 3 r6.1.Rows zB.row,cL 1 r6.1.Pv intRow,cI r3.Tk,cI r3.Pa,cI r3.Wo,cI r3.Dr,cI r3.Ve]),(2,[cI 0,cS (⟨#[]⟩ : ByteArray),cL 8 ([] : List Pt) Pt.row,cL 5 ([] : List zA) zA.row,cL 3 ([] : List zB) zB.row,cL 1 ([] : List Int) intRow,cI 0,cI 0,cI 0,cI 0,cI 0])]⟩) (fun v => Zh n r3 r4 r5 r6 v.1 v.2.1 v.2.2.1 v.2.2.2 = some r) ?_ ?_
 ·refine rA 1 ?_
  obtain ⟨r23,er23,H⟩ := bs H
  refine LAt.callL tOk [.lend,.rd] (f := 122) (av := #[.tmp 44,.const (.int .i64 3)]) (ats := #[100,3]) (d := (some 45)) (ty := 4) (g := none) kr kr kr [] (zBu n (⟨y13,y14,y15⟩ : Src) 3 r23 er23) kr (.inl rfl) ?_
  refine dA 35184372088861 21 ?_
  cases h1 : r23.1
  ·have H := zI h1 H
   refine nB_ ?_
   refine tK ?_
   exact jA (r23.2.b,r23.2.i,r23.2.h,y16) H [4,2,0] [0,4,2]
  have H := zJ h1 H
  refine tB_ ?_
  obtain ⟨r24,er24,H⟩ := bs H
  obtain ⟨r25,er25,H⟩ := bs H
  obtain ⟨r26,er26,H⟩ := bs H
  refine Tr.draw mixed 13 kr ⟨66,1,[sA 4 4 11 0,sA 2 2 11 0,sA 0 0 3 0],[(4,[cI r3.Id,cS r4.1,cL 8 r5.1 Pt.row,cL 5 r26.1 zA.row,cL 3 r6.1.Rows zB.row,cL 1 r6.1.Pv intRow,cI r3.Tk,cI r3.Pa,cI r3.Wo,cI r3.Dr,cI r3.Ve]),(0,(CV.frzRow (Src.row r25.2))),(2,[cI 0,cS (⟨#[]⟩ : ByteArray),cL 8 ([] : List Pt) Pt.row,cL 5 ([] : List zA) zA.row,cL 3 ([] : List zB) zB.row,cL 1 ([] : List Int) intRow,cI 0,cI 0,cI 0,cI 0,cI 0])]⟩ (fun cx => ?_) ?_
  ·refine mA Jn [(0,[]),(1,[7,12]),(2,[]),(4,[]),(5,[])] 8 [⟨[7,12],25,47,48⟩] fun cx => ?_
   refine mC Jn 3 ?_
   refine LAt.callL tOk [.lend] (f := 121) (av := #[.tmp 49]) (ats := #[100]) (d := (some 50)) (ty := 3) (g := none) kr kr kr [] (zCd n r23.2 r24 er24) kr (.inl rfl) ?_
   refine fA ?_
   refine mC Jn 6 ?_
   refine LAt.callL tOk [.lend,.rd] (f := 54) (av := #[.tmp 51,.tmp 52]) (ats := #[100,3]) (d := (some 53)) (ty := 3) (g := none) kr kr kr [] (zm n r24.2 (IntKind.wrap .i64 (1 + r1.1)) r25 er25) kr (.inl rfl) ?_
   refine fA ?_
   refine mC Jn 7 ?_
   refine vB [.rd,.rd,.rd,.rd] [.box 4] (zFB n y16 1 r24.1 r25.1 r26 er26) (.inr (zn (zH (Z8 (ZQ zA.row_mine _)) zj) (zn (zH zM zj) qa))) ?_
   refine fA ?_
   refine AT.movT tOk 8 (ty := 150) (t := 54) (d := 46) (g := none) [(false,[cL 5 r26.1 zA.row]),(false,[cB r26.2])] _ kr (oM Jn kr) (dM Jn kr) (.inl rfl) kr kr kr kr rfl (fun cx => ?_)
   refine mA Jn [(9,[]),(10,[]),(11,[])] 1 [⟨[7,12],25,47,48⟩] fun cx => ?_
   refine mC Jn 12 ?_
   refine lA 1 ?_
   refine fA ?_
   exact mE Jn [4,2,0] [4,0,2]
  exact jA (r25.2.b,r25.2.i,r25.2.h,r26.1) H [4,2,0] [0,4,2]
 rintro ⟨y17,y18,y19,y20⟩ H
 have H : (Zh n r3 r4 r5 r6 y17 y18 y19 y20) = some r := H
 unfold Zh at H
 refine rA 1 ?_
 obtain ⟨r21,er21,H⟩ := bs H
 refine LAt.callL tOk [.lend,.rd] (f := 54) (av := #[.tmp 58,.const (.int .i64 5)]) (ats := #[100,3]) (d := (some 59)) (ty := 3) (g := none) kr kr kr [] (zm n (⟨y17,y18,y19⟩ : Src) 5 r21 er21) kr (.inl rfl) ?_
 refine uA 2 21 21 ?_
 refine rA 2 ?_
 obtain ⟨r22,er22,H⟩ := bs H
 refine LAt.callL tOk [.lend,.rd] (f := 56) (av := #[.tmp 61,.tmp 62]) (ats := #[100,27]) (d := (some 63)) (ty := 3) (g := none) kr kr kr [] (QN n r21.2 [0,1,5,1000000] r22 er22) kr (.inl rfl) ?_
 refine uA 2 21 21 ?_
 refine gA 2 5 5 ?_
 refine te ?_
 obtain rfl := si H
 exact Fin.ofY _ [(true,[cI r3.Id,cS r4.1,cL 8 r5.1 Pt.row,cL 5 y20 zA.row,cL 3 r6.1.Rows zB.row,cL 1 r6.1.Pv intRow,cI r21.1,cI r3.Pa,cI r3.Wo,cI r3.Dr,cI r22.1])] [] _ [] _ [(0,(CV.frzRow (Src.row r22.2)))] kr rfl rfl rfl kr kr kr kr rfl rfl rfl
def Ye (n : Nat) (y6 : (List Int)) (y7 : (List Int)) (y8 : Int) (y9 : Int) : Option ((List Int) × Src) :=
  (some (y6,(⟨y7,y8,y9⟩ : Src)))
def ZF (n : Nat) : Nat → Int → Int → (List Int) → (List Int) → Int → Int → Option (((List Int) × (List Int) × Int × Int) ⊕ ((List Int) × Src))
  | 0,_,_,_,_,_,_ => none
  | mo10 + 1,x1,y1,y2,y3,y4,y5 => (bif (decide (y1 < x1)) then ((ZJ n (⟨y3,y4,y5⟩ : Src)).bind fun r11 => (bif (decide (y2.length + [(IntKind.wrap .u8 r11.1)].length ≤ 268435456)) then (ZF n mo10 x1 (IntKind.wrap .i64 (y1 + 1)) (y2 ++ [(IntKind.wrap .u8 r11.1)]) r11.2.b r11.2.i r11.2.h) else none)) else (some (Sum.inl (y2,y3,y4,y5))))
def YL (n : Nat) (x0 : Src) (x1 : Int) : Option ((List Int) × Src) :=
  ((ZF n n x1 0 ([] : List Int) x0.b x0.i x0.h).bind fun o => match o with | .inl (y6,y7,y8,y9) => (Ye n y6 y7 y8 y9) | .inr r => some r)
noncomputable abbrev zDs (k : Nat) := Rg Try.f161 k
theorem zGa (n : Nat) (x0 : Src) (x1 : Int) (r : (List Int) × Src) (H : YL n x0 x1 = some r) : zG Try.prog 161 [.ptr (CV.frzRow (Src.row x0)),.val false [.lit (.int .i64 x1)]] [.val false [.sl true 1 (r.1.map zN)]] [(0,(CV.frzRow (Src.row r.2)))] := by
 refine zG.of_body tOk Try.func161 rfl (c := (.seq (zDs 0) (.seq (zDs 1) (.seq (.seq (zDs 2) (.block 0 (.loop (.seq (.seq (zDs 3) (.cond (.tmp 10) .skip (.exit 0))) (.seq (.block 1 (zDs 5)) (zDs 4)))))) (.seq (zDs 6) .ret))))) kr (Nat.le_of_ble_eq_true kr) 1 (rs := [.tmp 4]) rfl [] .nil [(false,[.sl true 1 (r.1.map zN)])] [] [(0,(CV.frzRow (Src.row r.2)))] fun cx => ?_
 show Tr _ _ _ ⟨20,1,[sA 0 0 3 0,sI 1 x1],[(0,(CV.frzRow (Src.row x0)))]⟩ _
 unfold YL at H
 refine gA 1 3 1 ?_
 refine rA 1 ?_
 refine LAt.moveU (T := lk tab) (ty := 22) (x := (.tmp 7)) (d := 5) (g := none) false [cL 1 ([] : List Int) zN] kr kr kr kr kr ?_
 refine dA 35 1 ?_
 refine tS ?_
 refine gA 1 99 1 ?_
 obtain ⟨o10,eo10,Ho10⟩ := bs H
 clear H
 refine Tr.mid (ι := (List Int) × (List Int) × Int × Int) (fun v => ⟨20,1,[sC 5 (cL 1 v.1 zN),sA 0 0 3 0],[(0,[cF 1 v.2.1 zN,cI v.2.2.1,cI v.2.2.2])]⟩) (fun v => Ye n v.1 v.2.1 v.2.2.1 v.2.2.2 = some r) ?_ ?_
 ·refine tB ?_
  refine Tr.loop (ι := Nat × (Int × (List Int) × (List Int) × Int × Int)) (fun v => ⟨20,1,[sI 6 v.2.1,sC 5 (cL 1 v.2.2.1 zN),sA 0 0 3 0,sI 1 x1],[(0,[cF 1 v.2.2.2.1 zN,cI v.2.2.2.2.1,cI v.2.2.2.2.2])]⟩) (fun v => ZF n v.1 x1 v.2.1 v.2.2.1 v.2.2.2.1 v.2.2.2.2.1 v.2.2.2.2.2 = some o10) (fun v => v.1) (n,(0,([] : List Int),x0.b,x0.i,x0.h)) eo10 (St.sub_of [6,5,0,1] [0] kr) ?_
  rintro ⟨mo10,y1,y2,y3,y4,y5⟩ H
  have H : ZF n mo10 x1 y1 y2 y3 y4 y5 = some o10 := H
  obtain _ | mo10 := mo10
  ·exact nN H
  rw [ZF] at H
  refine tS ?_
  refine gA 3 1123 1 ?_
  obtain ⟨h1,H⟩ | ⟨h1,H⟩ := bC H
  ·refine nA h1 ?_
   refine Tr.exit ?_
   refine aJ ?_
   obtain rfl := si H
   have H := Ho10
   dsimp only at H
   exact jA (y2,y3,y4,y5) H [5,0] [0]
  refine tA h1 ?_
  refine tK ?_
  refine tS ?_
  refine tB ?_
  refine Tr.at ?_
  refine lA 2 ?_
  obtain ⟨r11,er11,H⟩ := bs H
  refine LAt.callL tOk [.lend] (f := 124) (av := #[.tmp 14]) (ats := #[100]) (d := (some 15)) (ty := 3) (g := none) kr kr kr [] (JM n (⟨y3,y4,y5⟩ : Src) r11 er11) kr (.inl rfl) ?_
  refine lA 2 ?_
  obtain ⟨hg12,H⟩ := gs H
  refine LAt.appMU tOk (t := 22) (ty := 22) (e := 5) (x := (.tmp 13)) (y := (.tmp 17)) (d := 18) (g := none) (tI 5) zN y2 [(IntKind.wrap .u8 r11.1)] kr kr kr kr kr kr kr kr kr kr hg12 ?_
  refine LAt.moveU (T := lk tab) (ty := 22) (x := (.tmp 18)) (d := 5) (g := none) false [cL 1 (y2 ++ [(IntKind.wrap .u8 r11.1)]) zN] kr kr kr kr kr ?_
  refine dA 99 1 ?_
  refine eA 3 99 1 ?_
  exact jB mo10 ((IntKind.wrap .i64 (y1 + 1)),(y2 ++ [(IntKind.wrap .u8 r11.1)]),r11.2.b,r11.2.i,r11.2.h) H [6,5,0,1] [0]
 rintro ⟨y6,y7,y8,y9⟩ H
 have H : (Ye n y6 y7 y8 y9) = some r := H
 unfold Ye at H
 refine gA 2 49 1 ?_
 refine te ?_
 obtain rfl := si H
 exact Fin.ofY _ [(false,[cL 1 y6 zN])] [] _ [] _ [(0,[cF 1 y7 zN,cI y8,cI y9])] kr rfl rfl rfl kr kr kr kr rfl rfl rfl
def J3 (n : Nat) (x0 : Src) : Option ((List Int) × Src) :=
  ((ql n x0 [0,1,2,5,9]).bind fun r1 => ((YL n r1.2 r1.1).bind fun r2 => (some (r2.1,r2.2))))
noncomputable abbrev zI7 (k : Nat) := Rg Try.f135 k
theorem zGx (n : Nat) (x0 : Src) (r : (List Int) × Src) (H : J3 n x0 = some r) : zG Try.prog 135 [.ptr (CV.frzRow (Src.row x0))] [.val false [.sl true 1 (r.1.map zN)]] [(0,(CV.frzRow (Src.row r.2)))] := by
 refine zG.of_body tOk Try.func135 rfl (c := (.seq (zI7 0) (.seq (zI7 1) .ret))) kr (Nat.le_of_ble_eq_true kr) 1 (rs := [.tmp 2]) rfl [] .nil [(false,[.sl true 1 (r.1.map zN)])] [] [(0,(CV.frzRow (Src.row r.2)))] fun cx => ?_
 show Tr _ _ _ ⟨8,1,[sA 0 0 3 0],[(0,(CV.frzRow (Src.row x0)))]⟩ _
 unfold J3 at H
 refine gA 1 1 1 ?_
 refine rA 3 ?_
 obtain ⟨r1,er1,H⟩ := bs H
 refine LAt.callL tOk [.lend,.rd] (f := 56) (av := #[.tmp 4,.tmp 5]) (ats := #[100,27]) (d := (some 6)) (ty := 3) (g := none) kr kr kr [] (QN n x0 [0,1,2,5,9] r1 er1) kr (.inl rfl) ?_
 obtain ⟨r2,er2,H⟩ := bs H
 refine LAt.callL tOk [.lend,.rd] (f := 161) (av := #[.tmp 3,.tmp 6]) (ats := #[100,3]) (d := (some 7)) (ty := 22) (g := none) kr kr kr [] (zGa n r1.2 r1.1 r2 er2) kr (.inl rfl) ?_
 refine LAt.moveU (T := lk tab) (ty := 22) (x := (.tmp 7)) (d := 2) (g := none) false [cL 1 r2.1 zN] kr kr kr kr kr ?_
 refine dA 5 1 ?_
 refine te ?_
 obtain rfl := si H
 exact Fin.ofY _ [(false,[cL 1 r2.1 zN])] [] _ [] _ [(0,(CV.frzRow (Src.row r2.2)))] kr rfl rfl rfl kr kr kr kr rfl rfl rfl
def Yy (n : Nat) (x0 : Src) : Option (Frame × Src) :=
  ((ql n x0 [0,11,12,13,14,11,12]).bind fun r1 => ((Qq n r1.2).bind fun r2 => ((ql n r2.2 [0,0,0,1,2,3]).bind fun r3 => ((J3 n r3.2).bind fun r4 => (some ((⟨r1.1,r2.1,r3.1,r4.1⟩ : Frame),r4.2))))))
noncomputable abbrev G70 (k : Nat) := Rg Try.f70 k
theorem zGz (n : Nat) (x0 : Src) (r : Frame × Src) (H : Yy n x0 = some r) : zG Try.prog 70 [.ptr (CV.frzRow (Src.row x0))] [.val true (Frame.row r.1)] [(0,(CV.frzRow (Src.row r.2)))] := by
 refine zG.of_body tOk Try.func70 rfl (c := (.seq (G70 0) (.seq (G70 1) .ret))) kr (Nat.le_of_ble_eq_true kr) 1 (rs := [.cell 2 53]) rfl [] .nil [(true,(Frame.row r.1))] [] [(0,(CV.frzRow (Src.row r.2)))] fun cx => ?_
 show Tr _ _ _ ⟨14,1,[sA 0 0 3 0],[(0,(CV.frzRow (Src.row x0)))]⟩ _
 unfold Yy at H
 refine gA 1 5 5 ?_
 refine rA 2 ?_
 obtain ⟨r1,er1,H⟩ := bs H
 refine LAt.callL tOk [.lend,.rd] (f := 56) (av := #[.tmp 3,.tmp 4]) (ats := #[100,27]) (d := (some 5)) (ty := 3) (g := none) kr kr kr [] (QN n x0 [0,11,12,13,14,11,12] r1 er1) kr (.inl rfl) ?_
 refine lA 1 ?_
 obtain ⟨r2,er2,H⟩ := bs H
 refine LAt.callL tOk [.lend] (f := 121) (av := #[.tmp 6]) (ats := #[100]) (d := (some 7)) (ty := 3) (g := none) kr kr kr [] (zCd n r1.2 r2 er2) kr (.inl rfl) ?_
 refine lA 2 ?_
 obtain ⟨r3,er3,H⟩ := bs H
 refine LAt.callL tOk [.lend,.rd] (f := 56) (av := #[.tmp 8,.tmp 9]) (ats := #[100,27]) (d := (some 10)) (ty := 3) (g := none) kr kr kr [] (QN n r2.2 [0,0,0,1,2,3] r3 er3) kr (.inl rfl) ?_
 refine lA 1 ?_
 obtain ⟨r4,er4,H⟩ := bs H
 refine LAt.callL tOk [.lend] (f := 135) (av := #[.tmp 11]) (ats := #[100]) (d := (some 12)) (ty := 22) (g := none) kr kr kr [] (zGx n r3.2 r4 er4) kr (.inl rfl) ?_
 refine uA 2 5 5 ?_
 refine te ?_
 obtain rfl := si H
 exact Fin.ofY _ [(true,[cI r1.1,cI r2.1,cI r3.1,cL 1 r4.1 zN])] [] _ [] _ [(0,(CV.frzRow (Src.row r4.2)))] kr rfl rfl rfl kr kr kr kr rfl rfl rfl
def Qz (n : Nat) (x0 : (List Int)) : Option (zD × Int × Frame) :=
  ((JN n x0).bind fun r1 => ((YK n r1).bind fun r2 => ((zT n r2.2 (r2.1.Ps.length : Int)).bind fun r3 => ((Yy n r3.2).bind fun r4 => (some (r2.1,r3.1,r4.1))))))
theorem zFq (n : Nat) (x0 : (List Int)) (r : zD × Int × Frame) (H : Qz n x0 = some r) : zG Try.prog 21 [.val false [.sl false 1 (CV.frzEs (x0.map zN))]] [.val true (zD.row r.1),.val false [.lit (.int .i64 r.2.1)],.val true (Frame.row r.2.2)] [] := by
 refine cW Try.func21 (fun g d => sl [g 0,g 1,g 2,d 3] .ret) [.cell 2 31,.tmp 3,.cell 4 53] fun cx => ?_
 unfold Qz at H
 refine gA 3 21 20 ?_
 refine rA 1 ?_
 obtain ⟨r1,er1,H⟩ := bs H
 refine vA [.rd] (zHh n x0 r1 er1) ?_
 refine uA 1 52 276 ?_
 refine rA 1 ?_
 obtain ⟨r2,er2,H⟩ := bs H
 refine LAt.callL tOk [.lend] (f := 53) (av := #[.tmp 9]) (ats := #[100]) (d := (some 10)) (ty := 31) (g := none) kr kr kr [] (zGZ n r1 r2 er2) kr (.inl rfl) ?_
 refine uA 2 116 340 ?_
 obtain ⟨r3,er3,H⟩ := bs H
 obtain ⟨r4,er4,H⟩ := bs H
 refine Tr.draws mixed 11 kr ⟨19,0,[sI 3 r3.1,sA 4 4 4 0,sA 2 2 11 0],[(4,(Frame.row r4.1)),(2,(zD.row r2.1))]⟩ (fun cx => ?_) ?_
 ·refine aA [(0,[8,10]),(1,[]),(2,[]),(3,[5,7,8,10])] 7 [⟨[5,7,8,10],24,13,14⟩,⟨[8,10],31,6,11⟩] fun cx => ?_
  refine aL tOk 4 24 3 44 14 15 none ⟨(.box 6),[(0,0)],2,true,8,(r2.1.Ps.map Pt.row)⟩ (r2.1.Ps).length _ kr kr kr kr kr kr kr (zHE _ _) rfl (fun cx => ?_)
  refine aA [(6,[])] 5 [⟨[5,7,8,10],24,13,14⟩,⟨[8,10],31,6,11⟩] fun cx => ?_
  refine bA 5 ?_
  refine LAt.callL tOk [.lend,.rd] (f := 54) (av := #[.tmp 12,.tmp 15]) (ats := #[100,3]) (d := (some 16)) (ty := 3) (g := none) kr kr kr [] (zm n r2.2 (r2.1.Ps.length : Int) r3 er3) kr (.inl rfl) ?_
  refine fA ?_
  refine bA 7 ?_
  refine LAt.callL tOk [.lend] (f := 70) (av := #[.tmp 17]) (ats := #[100]) (d := (some 18)) (ty := 53) (g := none) kr kr kr [] (zGz n r3.2 r4 er4) kr (.inl rfl) ?_
  refine fA ?_
  refine bA 8 ?_
  refine lA 1 ?_
  refine fA ?_
  refine aA [(9,[])] 1 [⟨[5,7,8,10],24,13,14⟩,⟨[8,10],31,6,11⟩] fun cx => ?_
  refine bA 10 ?_
  refine lA 1 ?_
  refine fA ?_
  exact eE [3,4,2] [4,2]
 exact te (fJ [(true,(zD.row r2.1)),(false,[cI r3.1]),(true,(Frame.row r4.1))] H)
def qC (n : Nat) (x0 : (List zA)) : Option ((List zA)) :=
  (bif (decide (([] : List zA).length + x0.length ≤ 268435456)) then (some (([] : List zA) ++ x0)) else none)
theorem qI (n : Nat) (x0 : (List zA)) (r : (List zA)) (H : qC n x0 = some r) : zG Try.prog 128 [.val false [.sl false 5 (CV.frzEs (x0.map zA.row))]] [.val false [.sl true 5 (r.map zA.row)]] [] := by
 refine cW Try.func128 (fun g d => sl [g 0,g 1] .ret) [.tmp 2] fun cx => ?_
 unfold qC at H
 refine gA 1 1 0 ?_
 refine rA 1 ?_
 obtain ⟨hg1,H⟩ := gs H
 refine LAt.appCU tOk (t := 25) (ty := 25) (e := 49) (x := (.const (.slice none 0 0))) (y := (.tmp 3)) (d := 4) (g := none) (tI 49) zA.row ([] : List zA) x0 ⟨(.slot 3),[],0,false,5,(CV.frzEs (x0.map zA.row))⟩ kr kr kr kr kr kr kr kr kr kr kr (.inr rfl) (fun _ => rfl) (fun _ => rfl) hg1 ?_
 refine LAt.moveU (T := lk tab) (ty := 25) (x := (.tmp 4)) (d := 2) (g := none) false [cL 5 (([] : List zA) ++ x0) zA.row] kr kr kr kr kr ?_
 refine dA 4 0 ?_
 exact te (fJ [(false,[cL 5 (([] : List zA) ++ x0) zA.row])] H)
def Y6 (n : Nat) (x0 : (List Int)) : Option ((List Int)) :=
  (bif (decide (([] : List Int).length + x0.length ≤ 268435456)) then (some (([] : List Int) ++ x0)) else none)
theorem zFk (n : Nat) (x0 : (List Int)) (r : (List Int)) (H : Y6 n x0 = some r) : zG Try.prog 155 [.val false [.sl false 1 (CV.frzEs (x0.map intRow))]] [.val false [.sl true 1 (r.map intRow)]] [] := by
 refine cW Try.func155 (fun g d => sl [g 0,g 1] .ret) [.tmp 2] fun cx => ?_
 unfold Y6 at H
 refine gA 1 1 0 ?_
 refine rA 1 ?_
 obtain ⟨hg1,H⟩ := gs H
 refine LAt.appCU tOk (t := 27) (ty := 27) (e := 3) (x := (.const (.slice none 0 0))) (y := (.tmp 3)) (d := 4) (g := none) (tI 3) intRow ([] : List Int) x0 ⟨(.slot 3),[],0,false,1,(CV.frzEs (x0.map intRow))⟩ kr kr kr kr kr kr kr kr kr kr kr (.inr rfl) (fun _ => rfl) (fun _ => rfl) hg1 ?_
 refine LAt.moveU (T := lk tab) (ty := 27) (x := (.tmp 4)) (d := 2) (g := none) false [cL 1 (([] : List Int) ++ x0) intRow] kr kr kr kr kr ?_
 refine dA 4 0 ?_
 exact te (fJ [(false,[cL 1 (([] : List Int) ++ x0) intRow])] H)
def Qy (n : Nat) (x0 : zC) : Option (zC) :=
  (bif (decide (([] : List zB).length + x0.Rows.length ≤ 268435456)) then ((Y6 n x0.Pv).bind fun r2 => (some (⟨(([] : List zB) ++ x0.Rows),r2⟩ : zC))) else none)
theorem zFl (n : Nat) (x0 : zC) (r : zC) (H : Qy n x0 = some r) : zG Try.prog 103 [.val true (CV.frzRow (zC.row x0))] [.val true (zC.row r)] [] := by
 refine cW Try.func103 (fun g d => sl [g 0,d 1] .ret) [.cell 2 29] fun cx => ?_
 unfold Qy at H
 refine gA 2 6 6 ?_
 obtain ⟨hg1,H⟩ := gs H
 obtain ⟨r2,er2,H⟩ := bs H
 refine Tr.draws mixed 8 kr ⟨10,0,[sA 2 2 2 0],[(2,[cL 3 (([] : List zB) ++ x0.Rows) zB.row,cL 1 r2 intRow])]⟩ (fun cx => ?_) ?_
 ·refine aA [(0,[]),(1,[2,5,6,7]),(3,[]),(4,[5,6,7])] 4 [⟨[5,6,7],27,6,7⟩,⟨[2,5,6,7],26,3,4⟩] fun cx => ?_
  refine bA 2 ?_
  refine LAt.appCU tOk (t := 26) (ty := 26) (e := 124) (x := (.const (.slice none 0 0))) (y := (.tmp 4)) (d := 5) (g := none) (tI 124) zB.row ([] : List zB) x0.Rows ⟨(.box 1),[(0,0)],0,false,3,(CV.frzEs (x0.Rows.map zB.row))⟩ kr kr kr kr kr kr kr kr kr kr kr (.inr rfl) (fun _ => rfl) (fun _ => rfl) hg1 ?_
  refine fA ?_
  refine bA 5 ?_
  refine vA [.rd] (zFk n x0.Pv r2 er2) ?_
  refine fA ?_
  refine bA 6 ?_
  refine lA 1 ?_
  refine fA ?_
  refine bA 7 ?_
  refine lA 1 ?_
  refine fA ?_
  exact eE [2] [2]
 exact te (fJ [(true,[cL 3 (([] : List zB) ++ x0.Rows) zB.row,cL 1 r2 intRow])] H)
def QZ (n : Nat) (x0 : zD) : Option (zD) :=
  (bif (decide (([] : List Pt).length + x0.Ps.length ≤ 268435456)) then ((qC n x0.F).bind fun r2 => ((Qy n x0.V).bind fun r3 => (some (⟨x0.Id,x0.Name,(([] : List Pt) ++ x0.Ps),r2,r3,x0.Tk,x0.Pa,x0.Wo,x0.Dr,x0.Ve⟩ : zD)))) else none)
theorem zEU (n : Nat) (x0 : zD) (r : zD) (H : QZ n x0 = some r) : zG Try.prog 58 [.val true (CV.frzRow (zD.row x0))] [.val true (zD.row r)] [] := by
 refine cW Try.func58 (fun g d => sl [g 0,g 1,d 2,g 3] .ret) [.cell 2 31] fun cx => ?_
 unfold QZ at H
 refine gA 2 6 6 ?_
 refine rA 2 ?_
 obtain ⟨hg1,H⟩ := gs H
 refine LAt.appCU tOk (t := 24) (ty := 24) (e := 44) (x := (.const (.slice none 0 0))) (y := (.tmp 4)) (d := 5) (g := none) (tI 44) Pt.row ([] : List Pt) x0.Ps ⟨(.slot 4),[],0,false,8,(CV.frzEs (x0.Ps.map Pt.row))⟩ kr kr kr kr kr kr kr kr kr kr kr (.inr rfl) (fun _ => rfl) (fun _ => rfl) hg1 ?_
 refine uA 2 6 6 ?_
 obtain ⟨r2,er2,H⟩ := bs H
 obtain ⟨r3,er3,H⟩ := bs H
 refine Tr.draws mixed 10 kr ⟨16,0,[sA 2 2 11 0,sA 1 1 11 0],[(1,[cI x0.Id,cS x0.Name,cL 8 (([] : List Pt) ++ x0.Ps) Pt.row,cL 5 r2 zA.row,cL 3 r3.Rows zB.row,cL 1 r3.Pv intRow,cI x0.Tk,cI x0.Pa,cI x0.Wo,cI x0.Dr,cI x0.Ve]),(2,[cI 0,cS (⟨#[]⟩ : ByteArray),cL 8 ([] : List Pt) Pt.row,cL 5 ([] : List zA) zA.row,cL 3 ([] : List zB) zB.row,cL 1 ([] : List Int) intRow,cI 0,cI 0,cI 0,cI 0,cI 0])]⟩ (fun cx => ?_) ?_
 ·refine aA [(0,[]),(1,[2,5,7,9]),(3,[]),(4,[5,7,9])] 6 [⟨[5,7,9],29,10,11⟩,⟨[2,5,7,9],25,7,8⟩] fun cx => ?_
  refine bA 2 ?_
  refine vA [.rd] (qI n x0.F r2 er2) ?_
  refine fA ?_
  refine aA [(6,[])] 4 [⟨[5,7,9],29,10,11⟩,⟨[2,5,7,9],25,7,8⟩] fun cx => ?_
  refine bA 5 ?_
  refine vA [.rd] (zFl n x0.V r3 er3) ?_
  refine fA ?_
  refine bA 7 ?_
  refine LAt.storeO tOk (t := 25) (ty := 0) (ad := (.tmp 13)) (x := (.tmp 9)) (g := none) (tI 25) false [cL 5 r2 zA.row] 1 3 [cI x0.Id,cS x0.Name,cL 8 (([] : List Pt) ++ x0.Ps) Pt.row,cF 5 x0.F zA.row,cF 3 x0.V.Rows zB.row,cF 1 x0.V.Pv intRow,cI x0.Tk,cI x0.Pa,cI x0.Wo,cI x0.Dr,cI x0.Ve] kr kr kr kr kr kr kr kr ?_
  refine fA ?_
  refine aA [(8,[])] 1 [⟨[5,7,9],29,10,11⟩,⟨[2,5,7,9],25,7,8⟩] fun cx => ?_
  refine bA 9 ?_
  refine lA 1 ?_
  refine fA ?_
  exact eE [2,1] [1,2]
 refine gA 2 4 4 ?_
 exact te (fJ [(true,[cI x0.Id,cS x0.Name,cL 8 (([] : List Pt) ++ x0.Ps) Pt.row,cL 5 r2 zA.row,cL 3 r3.Rows zB.row,cL 1 r3.Pv intRow,cI x0.Tk,cI x0.Pa,cI x0.Wo,cI x0.Dr,cI x0.Ve])] H)
def zt (n : Nat) (x0 : Int) (x1 : Int) (x2 : Int) : Option (Bool) :=
  (bif (decide (x0 ≥ x1)) then (some (decide (x0 ≤ x2))) else (some false))
theorem zz (n : Nat) (x0 : Int) (x1 : Int) (x2 : Int) (r : Bool) (H : zt n x0 x1 x2 = some r) : zG Try.prog 63 [.val false [.lit (.int .i64 x0)],.val false [.lit (.int .i64 x1)],.val false [.lit (.int .i64 x2)]] [.val false [.lit (.bool r)]] [] := by
 refine cW Try.func63 (fun g d => sl [g 0,g 1] .ret) [.tmp 6] fun cx => ?_
 unfold zt at H
 refine gA 1 7 0 ?_
 refine rA 4 ?_
 refine sL 1029 0 ⟨15,0,[sB 10 (decide (x0 ≥ x1)),sI 0 x0,sI 2 x2],[]⟩ ?_
 cases h1 : (decide (x0 ≥ x1))
 ·have H := zI h1 H
  refine uA 5 64 0 ?_
  exact te (fF H)
 have H := zJ h1 H
 refine uA 5 64 0 ?_
 exact te (fJ [(false,[cB (decide (x0 ≤ x2))])] H)
def YQ (n : Nat) (x0 : Vec) : Option (Bool) :=
  ((zt n x0.Root 1 99).bind fun r1 => (bif r1 then ((zt n x0.Co 0 100000).bind fun r2 => (bif r2 then ((zt n x0.Hops 0 10).bind fun r3 => (bif r3 then ((zt n x0.Bridge 1 99).bind fun r4 => (bif r4 then ((zt n x0.Port 0 7).bind fun r5 => (some r5)) else (some false))) else (some false))) else (some false))) else (some false)))
theorem zCN (n : Nat) (x0 : Vec) (r : Bool) (H : YQ n x0 = some r) : zG Try.prog 16 [.val true (CV.frzRow (Vec.row x0))] [.val false [.lit (.bool r)]] [] := by
 refine cW Try.func16 (fun g d => sl [g 0,g 1] .ret) [.tmp 2] fun cx => ?_
 unfold YQ at H
 refine gA 2 2 2 ?_
 refine rA 2 ?_
 obtain ⟨r1,er1,H⟩ := bs H
 refine vA [.rd,.rd,.rd] (zz n x0.Root 1 99 r1 er1) ?_
 refine lA 1 ?_
 refine sL 66 2 ⟨26,0,[sB 6 r1,sA 1 1 5 0],[(1,(Vec.row x0))]⟩ ?_
 cases h1 : r1
 ·have H := zI h1 H
  refine uA 20 4 0 ?_
  exact te (fF H)
 have H := zJ h1 H
 refine lA 2 ?_
 obtain ⟨r2,er2,H⟩ := bs H
 refine vA [.rd,.rd,.rd] (zz n x0.Co 0 100000 r2 er2) ?_
 refine lA 2 ?_
 refine sL 2050 2 ⟨26,0,[sB 11 r2,sA 1 1 5 0],[(1,(Vec.row x0))]⟩ ?_
 cases h2 : r2
 ·have H := zI h2 H
  refine uA 15 4 0 ?_
  exact te (fF H)
 have H := zJ h2 H
 refine lA 2 ?_
 obtain ⟨r3,er3,H⟩ := bs H
 refine vA [.rd,.rd,.rd] (zz n x0.Hops 0 10 r3 er3) ?_
 refine lA 2 ?_
 refine sL 65538 2 ⟨26,0,[sB 16 r3,sA 1 1 5 0],[(1,(Vec.row x0))]⟩ ?_
 cases h3 : r3
 ·have H := zI h3 H
  refine uA 10 4 0 ?_
  exact te (fF H)
 have H := zJ h3 H
 refine lA 2 ?_
 obtain ⟨r4,er4,H⟩ := bs H
 refine vA [.rd,.rd,.rd] (zz n x0.Bridge 1 99 r4 er4) ?_
 refine lA 2 ?_
 refine sL 2097154 2 ⟨26,0,[sB 21 r4,sA 1 1 5 0],[(1,(Vec.row x0))]⟩ ?_
 cases h4 : r4
 ·have H := zI h4 H
  refine uA 5 4 0 ?_
  exact te (fF H)
 have H := zJ h4 H
 refine lA 2 ?_
 obtain ⟨r5,er5,H⟩ := bs H
 refine vA [.rd,.rd,.rd] (zz n x0.Port 0 7 r5 er5) ?_
 refine uA 2 4 0 ?_
 exact te (fJ [(false,[cB r5])] H)
def Js (n : Nat) (x0 : Pt) : Option (Bool) :=
  ((zt n x0.Co 1 1000).bind fun r1 => (bif (!r1) then (some false) else (bif x0.Has then (bif (!x0.Up) then (some false) else ((YQ n x0.Hd).bind fun r2 => (some r2))) else (some ((x0.Hd.Root == 0) && ((x0.Hd.Co == 0) && ((x0.Hd.Hops == 0) && ((x0.Hd.Bridge == 0) && ((x0.Hd.Port == 0) && true)))))))))
theorem zH2 (n : Nat) (x0 : Pt) (r : Bool) (H : Js n x0 = some r) : zG Try.prog 67 [.val true (CV.frzRow (Pt.row x0))] [.val false [.lit (.bool r)]] [] := by
 refine cW Try.func67 (fun g d => sl [g 0,sl [g 1] (cn 15 (sl [g 2] .ret) .skip),sl [g 3] (cn 17 (sl [g 4] .ret) .skip),g 5] .ret) [.tmp 2] fun cx => ?_
 unfold Js at H
 refine gA 2 2 2 ?_
 refine tS ?_
 refine rA 2 ?_
 obtain ⟨r1,er1,H⟩ := bs H
 refine vA [.rd,.rd,.rd] (zz n x0.Co 1 1000 r1 er1) ?_
 refine lA 2 ?_
 refine sL 130 2 ⟨25,0,[sB 7 (!r1),sA 1 1 8 0],[(1,(Pt.row x0))]⟩ ?_
 cases h1 : (!r1)
 ·have H := zI h1 H
  refine lA 3 ?_
  refine sL 1154 2 ⟨25,0,[sB 10 x0.Has,sB 7 false,sA 1 1 8 0],[(1,(Pt.row x0))]⟩ ?_
  cases h2 : x0.Has
  ·have H := zI h2 H
   refine uA 5 32770 2 ?_
   refine nB_ ?_
   refine tK ?_
   refine tS ?_
   refine gA 2 131074 2 ?_
   refine sT ⟨25,0,[sB 17 x0.Has,sA 1 1 8 0],[(1,(Pt.row x0))]⟩ ?_
   rw [h2]
   refine nB_ ?_
   refine tK ?_
   refine rA 3 ?_
   refine LAt.eqSG false (t := 35) (ty := 35) (ty' := 4) (x := (.tmp 22)) (y := (.tmp 23)) (d := 24) (g := none) ((x0.Hd.Root == 0) && ((x0.Hd.Co == 0) && ((x0.Hd.Hops == 0) && ((x0.Hd.Bridge == 0) && ((x0.Hd.Port == 0) && true))))) _ kr kr kr kr rfl ?_
   refine uA 1 4 0 ?_
   exact te (fJ [(false,[cB ((x0.Hd.Root == 0) && ((x0.Hd.Co == 0) && ((x0.Hd.Hops == 0) && ((x0.Hd.Bridge == 0) && ((x0.Hd.Port == 0) && true)))))])] H)
  have H := zJ h2 H
  refine uA 5 32770 2 ?_
  obtain ⟨h3,H⟩ | ⟨h3,H⟩ := bC H
  ·refine nA h3 ?_
   refine tK ?_
   refine tS ?_
   refine gA 2 131074 2 ?_
   refine sT ⟨25,0,[sB 17 x0.Has,sA 1 1 8 0],[(1,(Pt.row x0))]⟩ ?_
   rw [h2]
   refine tB_ ?_
   refine rA 2 ?_
   obtain ⟨r2,er2,H⟩ := bs H
   refine vA [.rd] (zCN n x0.Hd r2 er2) ?_
   refine uA 1 4 0 ?_
   exact te (fJ [(false,[cB r2])] H)
  refine tA h3 ?_
  refine gA 1 4 0 ?_
  exact te (fF H)
 have H := zJ h1 H
 refine uA 8 32770 2 ?_
 refine tB_ ?_
 refine gA 1 4 0 ?_
 exact te (fF H)
def Yl (n : Nat) (x0 : zA) : Option (Bool) :=
  ((zt n x0.Tag 1 99).bind fun r1 => (bif r1 then ((zt n x0.Mac 1 9999).bind fun r2 => (bif r2 then ((zt n x0.Port 0 7).bind fun r3 => (bif r3 then ((zt n x0.Age 0 4).bind fun r4 => (bif r4 then (bif (!x0.Sc) then (some true) else (some (x0.Age == 0))) else (some false))) else (some false))) else (some false))) else (some false)))
theorem zAK (n : Nat) (x0 : zA) (r : Bool) (H : Yl n x0 = some r) : zG Try.prog 133 [.val true (CV.frzRow (zA.row x0))] [.val false [.lit (.bool r)]] [] := by
 refine cW Try.func133 (fun g d => sl [g 0,g 1] .ret) [.tmp 2] fun cx => ?_
 unfold Yl at H
 refine gA 2 2 2 ?_
 refine rA 2 ?_
 obtain ⟨r1,er1,H⟩ := bs H
 refine vA [.rd,.rd,.rd] (zz n x0.Tag 1 99 r1 er1) ?_
 refine lA 1 ?_
 refine sL 66 2 ⟨31,0,[sB 6 r1,sA 1 1 5 0],[(1,(zA.row x0))]⟩ ?_
 cases h1 : r1
 ·have H := zI h1 H
  refine uA 25 4 0 ?_
  exact te (fF H)
 have H := zJ h1 H
 refine lA 2 ?_
 obtain ⟨r2,er2,H⟩ := bs H
 refine vA [.rd,.rd,.rd] (zz n x0.Mac 1 9999 r2 er2) ?_
 refine lA 2 ?_
 refine sL 2050 2 ⟨31,0,[sB 11 r2,sA 1 1 5 0],[(1,(zA.row x0))]⟩ ?_
 cases h2 : r2
 ·have H := zI h2 H
  refine uA 20 4 0 ?_
  exact te (fF H)
 have H := zJ h2 H
 refine lA 2 ?_
 obtain ⟨r3,er3,H⟩ := bs H
 refine vA [.rd,.rd,.rd] (zz n x0.Port 0 7 r3 er3) ?_
 refine lA 2 ?_
 refine sL 65538 2 ⟨31,0,[sB 16 r3,sA 1 1 5 0],[(1,(zA.row x0))]⟩ ?_
 cases h3 : r3
 ·have H := zI h3 H
  refine uA 15 4 0 ?_
  exact te (fF H)
 have H := zJ h3 H
 refine lA 2 ?_
 obtain ⟨r4,er4,H⟩ := bs H
 refine vA [.rd,.rd,.rd] (zz n x0.Age 0 4 r4 er4) ?_
 refine lA 2 ?_
 refine sL 2097154 2 ⟨31,0,[sB 21 r4,sA 1 1 5 0],[(1,(zA.row x0))]⟩ ?_
 cases h4 : r4
 ·have H := zI h4 H
  refine uA 10 4 0 ?_
  exact te (fF H)
 have H := zJ h4 H
 refine lA 4 ?_
 refine sL 35651586 2 ⟨31,0,[sB 25 (!x0.Sc),sB 21 true,sA 1 1 5 0],[(1,(zA.row x0))]⟩ ?_
 cases h5 : (!x0.Sc)
 ·have H := zI h5 H
  refine uA 6 4 0 ?_
  exact te (fJ [(false,[cB (x0.Age == 0)])] H)
 have H := zJ h5 H
 refine uA 6 4 0 ?_
 exact te (fT H)
def Qx (n : Nat) (x0 : zA) (x1 : Int) (x2 : Int) : Option (Bool) :=
  (bif (decide (x0.Tag > x1)) then (some true) else (bif (x0.Tag == x1) then (some (decide (x0.Mac > x2))) else (some false)))
theorem zDh (n : Nat) (x0 : zA) (x1 : Int) (x2 : Int) (r : Bool) (H : Qx n x0 x1 x2 = some r) : zG Try.prog 134 [.val true (CV.frzRow (zA.row x0)),.val false [.lit (.int .i64 x1)],.val false [.lit (.int .i64 x2)]] [.val false [.lit (.bool r)]] [] := by
 refine cW Try.func134 (fun g d => sl [g 0,g 1] .ret) [.tmp 6] fun cx => ?_
 unfold Qx at H
 refine gA 2 14 8 ?_
 refine rA 5 ?_
 refine sL 2062 8 ⟨23,0,[sB 11 (decide (x0.Tag > x1)),sA 3 3 5 0,sI 1 x1,sI 2 x2],[(3,(zA.row x0))]⟩ ?_
 cases h1 : (decide (x0.Tag > x1))
 ·have H := zI h1 H
  refine lA 5 ?_
  refine sL 67596 8 ⟨23,0,[sB 16 (x0.Tag == x1),sB 11 false,sA 3 3 5 0,sI 2 x2],[(3,(zA.row x0))]⟩ ?_
  cases h2 : (x0.Tag == x1)
  ·have H := zI h2 H
   refine uA 7 64 0 ?_
   exact te (fF H)
  have H := zJ h2 H
  refine uA 7 64 0 ?_
  exact te (fJ [(false,[cB (decide (x0.Mac > x2))])] H)
 have H := zJ h1 H
 refine uA 12 64 0 ?_
 exact te (fT H)
end Go.Proofs.Ytcegokjpmppdbaa.Tw
