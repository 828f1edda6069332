import Derived.Test.YtajadnlejdpceaaGreatProg
import Derived.Test.YtajadnlejdpceaaGreatTlRule
import Derived.Test.YtajadnlejdpceaaGreatTlU15
import Derived.WalkKit
set_option linter.unusedVariables false
set_option linter.unusedSimpArgs false
set_option maxRecDepth 100000
set_option maxHeartbeats 1000000
namespace Go.Proofs.YtajadnlejdpceaaGreat.Tw
open Go Go.TL Go.Proofs
def tab : List (Nat × TI) := [(2,⟨.int .i64,1,8,[.lit (.int .i64 0)]⟩),
  (3,⟨.int .i64,1,8,[.lit (.int .i64 0)]⟩),
  (4,⟨.bool,1,1,[.lit (.bool false)]⟩),
  (5,⟨.int .u8,1,1,[.lit (.int .u8 0)]⟩),
  (6,⟨.int .u8,1,1,[.lit (.int .u8 0)]⟩),
  (7,⟨.st [(0,1,2),(1,1,3),(2,1,4),(3,1,6)],4,24,[.lit (.int .i64 0),.lit (.int .i64 0),.lit (.bool false),.lit (.int .u8 0)]⟩),
  (8,⟨.st [(0,1,2),(1,1,3),(2,1,4),(3,1,6)],4,24,[.lit (.int .i64 0),.lit (.int .i64 0),.lit (.bool false),.lit (.int .u8 0)]⟩),
  (9,⟨.str,1,16,[.lit (.string ⟨#[]⟩)]⟩),
  (22,⟨.sl 5,1,24,[.sl true 1 []]⟩),
  (24,⟨.sl 100,1,24,[.sl true 8 []]⟩),
  (25,⟨.sl 103,1,24,[.sl true 5 []]⟩),
  (26,⟨.sl 113,1,24,[.sl true 3 []]⟩),
  (27,⟨.sl 3,1,24,[.sl true 1 []]⟩),
  (29,⟨.st [(0,1,26),(1,1,27)],2,48,[.sl true 3 [],.sl true 1 []]⟩),
  (31,⟨.st [(0,1,3),(1,1,9),(2,1,24),(3,1,25),(4,2,29),(6,1,3),(7,1,3),(8,1,3),(9,1,3),(10,1,3)],11,160,[.lit (.int .i64 0),.lit (.string ⟨#[]⟩),.sl true 8 [],.sl true 5 [],.sl true 3 [],.sl true 1 [],.lit (.int .i64 0),.lit (.int .i64 0),.lit (.int .i64 0),.lit (.int .i64 0),.lit (.int .i64 0)]⟩),
  (33,⟨.st [(0,1,3),(1,1,3),(2,1,3),(3,1,3),(4,1,3)],5,40,[.lit (.int .i64 0),.lit (.int .i64 0),.lit (.int .i64 0),.lit (.int .i64 0),.lit (.int .i64 0)]⟩),
  (49,⟨.sl 31,1,24,[.sl true 11 []]⟩),
  (50,⟨.sl 78,1,24,[.sl true 4 []]⟩),
  (51,⟨.sl 127,1,24,[.sl true 7 []]⟩),
  (53,⟨.st [(0,1,49),(1,1,50),(2,1,51)],3,72,[.sl true 11 [],.sl true 4 [],.sl true 7 []]⟩),
  (78,⟨.st [(0,1,3),(1,1,3),(2,1,3),(3,1,3)],4,32,[.lit (.int .i64 0),.lit (.int .i64 0),.lit (.int .i64 0),.lit (.int .i64 0)]⟩),
  (84,⟨.st [(0,1,3),(1,1,3)],2,16,[.lit (.int .i64 0),.lit (.int .i64 0)]⟩),
  (100,⟨.st [(0,1,4),(1,1,3),(2,1,4),(3,5,33)],8,64,[.lit (.bool false),.lit (.int .i64 0),.lit (.bool false),.lit (.int .i64 0),.lit (.int .i64 0),.lit (.int .i64 0),.lit (.int .i64 0),.lit (.int .i64 0)]⟩),
  (103,⟨.st [(0,1,3),(1,1,3),(2,1,3),(3,1,3),(4,1,4)],5,40,[.lit (.int .i64 0),.lit (.int .i64 0),.lit (.int .i64 0),.lit (.int .i64 0),.lit (.bool false)]⟩),
  (113,⟨.st [(0,1,3),(1,1,3),(2,1,3)],3,24,[.lit (.int .i64 0),.lit (.int .i64 0),.lit (.int .i64 0)]⟩),
  (127,⟨.st [(0,1,3),(1,1,4),(2,5,33)],7,56,[.lit (.int .i64 0),.lit (.bool false),.lit (.int .i64 0),.lit (.int .i64 0),.lit (.int .i64 0),.lit (.int .i64 0),.lit (.int .i64 0)]⟩),
  (148,⟨.st [(0,1,22),(1,1,3),(2,1,3)],3,40,[.sl true 1 [],.lit (.int .i64 0),.lit (.int .i64 0)]⟩),
  (150,⟨.sl 9,1,24,[.sl true 1 []]⟩),
  (163,⟨.int .u64,1,8,[.lit (.int .u64 0)]⟩)]
def tI (t : Nat) : TI := (lk tab t).getD ⟨.bool,1,1,[]⟩
theorem mixed : Tryz.prog.follows .mixedOrders = true := by kernel_rfl
theorem tOk : TOk Tryz.prog (lk tab) := zP0 (by kernel_rfl)
instance : TC Tryz.prog (lk tab) := ⟨tOk⟩
structure Src where
  b : (List Int)
  i : Int
  h : Int
def Src.row (v : Src) : List CV := [.sl true 1 (v.b.map zd),.lit (.int .i64 v.i),.lit (.int .i64 v.h)]
def Src.wf (v : Src) : Prop := QO zLR v.b ∧ zj v.i ∧ zj v.h ∧ True
theorem Src.enc : Enc Src [.sl 1 [.int .u8],.int .i64,.int .i64] Src.row Src.wf := fun cs h => by
  obtain ⟨c0,r0,rfl,k0,h⟩ := zR h
  obtain ⟨c1,r1,rfl,k1,h⟩ := zR h
  obtain ⟨c2,r2,rfl,k2,h⟩ := zR h
  obtain rfl := Qj h
  obtain ⟨x0,rfl,w0⟩ := Enc.sl zMh k0
  obtain ⟨x1,rfl,w1⟩ := zq k1
  obtain ⟨x2,rfl,w2⟩ := zq k2
  exact ⟨⟨x0,x1,x2⟩,rfl,⟨w0,w1,w2,trivial⟩⟩
theorem Src.row_mine (v : Src) : CV.mineRow (Src.row v) := zE (Q0 (Zv zLQ _)) (zE zM (zE zM (zS)))
structure Vec where
  Root : Int
  Co : Int
  Hops : Int
  Bridge : Int
  Port : Int
def Vec.row (v : Vec) : List CV := [.lit (.int .i64 v.Root),.lit (.int .i64 v.Co),.lit (.int .i64 v.Hops),.lit (.int .i64 v.Bridge),.lit (.int .i64 v.Port)]
def Vec.wf (v : Vec) : Prop := zj v.Root ∧ zj v.Co ∧ zj v.Hops ∧ zj v.Bridge ∧ zj v.Port ∧ True
theorem Vec.enc : Enc Vec [.int .i64,.int .i64,.int .i64,.int .i64,.int .i64] Vec.row Vec.wf := fun cs h => by
  obtain ⟨c0,r0,rfl,k0,h⟩ := zR h
  obtain ⟨c1,r1,rfl,k1,h⟩ := zR h
  obtain ⟨c2,r2,rfl,k2,h⟩ := zR h
  obtain ⟨c3,r3,rfl,k3,h⟩ := zR h
  obtain ⟨c4,r4,rfl,k4,h⟩ := zR h
  obtain rfl := Qj h
  obtain ⟨x0,rfl,w0⟩ := zq k0
  obtain ⟨x1,rfl,w1⟩ := zq k1
  obtain ⟨x2,rfl,w2⟩ := zq k2
  obtain ⟨x3,rfl,w3⟩ := zq k3
  obtain ⟨x4,rfl,w4⟩ := zq k4
  exact ⟨⟨x0,x1,x2,x3,x4⟩,rfl,⟨w0,w1,w2,w3,w4,trivial⟩⟩
theorem Vec.row_mine (v : Vec) : CV.mineRow (Vec.row v) := zE zM (zE zM (zE zM (zE zM (zE zM (zS)))))
structure Pt where
  Up : Bool
  Co : Int
  Has : Bool
  Hd : Vec
def Pt.row (v : Pt) : List CV := [.lit (.bool v.Up),.lit (.int .i64 v.Co),.lit (.bool v.Has),.lit (.int .i64 v.Hd.Root),.lit (.int .i64 v.Hd.Co),.lit (.int .i64 v.Hd.Hops),.lit (.int .i64 v.Hd.Bridge),.lit (.int .i64 v.Hd.Port)]
def Pt.wf (v : Pt) : Prop := zj v.Co ∧ zj v.Hd.Root ∧ zj v.Hd.Co ∧ zj v.Hd.Hops ∧ zj v.Hd.Bridge ∧ zj v.Hd.Port ∧ True
theorem Pt.enc : Enc Pt [.bool,.int .i64,.bool,.int .i64,.int .i64,.int .i64,.int .i64,.int .i64] Pt.row Pt.wf := fun cs h => by
  obtain ⟨c0,r0,rfl,k0,h⟩ := zR h
  obtain ⟨c1,r1,rfl,k1,h⟩ := zR h
  obtain ⟨c2,r2,rfl,k2,h⟩ := zR h
  obtain ⟨c3,r3,rfl,k3,h⟩ := zR h
  obtain ⟨c4,r4,rfl,k4,h⟩ := zR h
  obtain ⟨c5,r5,rfl,k5,h⟩ := zR h
  obtain ⟨c6,r6,rfl,k6,h⟩ := zR h
  obtain ⟨c7,r7,rfl,k7,h⟩ := zR h
  obtain rfl := Qj h
  obtain ⟨x0,rfl⟩ := zDw k0
  obtain ⟨x1,rfl,w1⟩ := zq k1
  obtain ⟨x2,rfl⟩ := zDw k2
  obtain ⟨x3,rfl,w3⟩ := zq k3
  obtain ⟨x4,rfl,w4⟩ := zq k4
  obtain ⟨x5,rfl,w5⟩ := zq k5
  obtain ⟨x6,rfl,w6⟩ := zq k6
  obtain ⟨x7,rfl,w7⟩ := zq k7
  exact ⟨⟨x0,x1,x2,⟨x3,x4,x5,x6,x7⟩⟩,rfl,⟨w1,w3,w4,w5,w6,w7,trivial⟩⟩
theorem Pt.row_mine (v : Pt) : CV.mineRow (Pt.row v) := zE zM (zE zM (zE zM (zE zM (zE zM (zE zM (zE zM (zE zM (zS))))))))
structure zB where
  Tag : Int
  Mac : Int
  Port : Int
  Age : Int
  Sc : Bool
def zB.row (v : zB) : List CV := [.lit (.int .i64 v.Tag),.lit (.int .i64 v.Mac),.lit (.int .i64 v.Port),.lit (.int .i64 v.Age),.lit (.bool v.Sc)]
def zB.wf (v : zB) : Prop := zj v.Tag ∧ zj v.Mac ∧ zj v.Port ∧ zj v.Age ∧ True
theorem zB.enc : Enc zB [.int .i64,.int .i64,.int .i64,.int .i64,.bool] zB.row zB.wf := fun cs h => by
  obtain ⟨c0,r0,rfl,k0,h⟩ := zR h
  obtain ⟨c1,r1,rfl,k1,h⟩ := zR h
  obtain ⟨c2,r2,rfl,k2,h⟩ := zR h
  obtain ⟨c3,r3,rfl,k3,h⟩ := zR h
  obtain ⟨c4,r4,rfl,k4,h⟩ := zR h
  obtain rfl := Qj h
  obtain ⟨x0,rfl,w0⟩ := zq k0
  obtain ⟨x1,rfl,w1⟩ := zq k1
  obtain ⟨x2,rfl,w2⟩ := zq k2
  obtain ⟨x3,rfl,w3⟩ := zq k3
  obtain ⟨x4,rfl⟩ := zDw k4
  exact ⟨⟨x0,x1,x2,x3,x4⟩,rfl,⟨w0,w1,w2,w3,trivial⟩⟩
theorem zB.row_mine (v : zB) : CV.mineRow (zB.row v) := zE zM (zE zM (zE zM (zE zM (zE zM (zS)))))
structure zC where
  Id : Int
  Members : Int
  Bare : Int
def zC.row (v : zC) : List CV := [.lit (.int .i64 v.Id),.lit (.int .i64 v.Members),.lit (.int .i64 v.Bare)]
def zC.wf (v : zC) : Prop := zj v.Id ∧ zj v.Members ∧ zj v.Bare ∧ True
theorem zC.enc : Enc zC [.int .i64,.int .i64,.int .i64] zC.row zC.wf := fun cs h => by
  obtain ⟨c0,r0,rfl,k0,h⟩ := zR h
  obtain ⟨c1,r1,rfl,k1,h⟩ := zR h
  obtain ⟨c2,r2,rfl,k2,h⟩ := zR h
  obtain rfl := Qj h
  obtain ⟨x0,rfl,w0⟩ := zq k0
  obtain ⟨x1,rfl,w1⟩ := zq k1
  obtain ⟨x2,rfl,w2⟩ := zq k2
  exact ⟨⟨x0,x1,x2⟩,rfl,⟨w0,w1,w2,trivial⟩⟩
theorem zC.row_mine (v : zC) : CV.mineRow (zC.row v) := zE zM (zE zM (zE zM (zS)))
structure zD where
  Rows : (List zC)
  Pv : (List Int)
def zD.row (v : zD) : List CV := [.sl true 3 (v.Rows.map zC.row),.sl true 1 (v.Pv.map intRow)]
def zD.wf (v : zD) : Prop := QO zC.wf v.Rows ∧ QO zj v.Pv ∧ True
theorem zD.enc : Enc zD [.sl 3 [.int .i64,.int .i64,.int .i64],.sl 1 [.int .i64]] zD.row zD.wf := fun cs h => by
  obtain ⟨c0,r0,rfl,k0,h⟩ := zR h
  obtain ⟨c1,r1,rfl,k1,h⟩ := zR h
  obtain rfl := Qj h
  obtain ⟨x0,rfl,w0⟩ := Enc.sl zC.enc k0
  obtain ⟨x1,rfl,w1⟩ := Enc.sl zNc k1
  exact ⟨⟨x0,x1⟩,rfl,⟨w0,w1,trivial⟩⟩
theorem zD.row_mine (v : zD) : CV.mineRow (zD.row v) := zE (Q0 (Zv zC.row_mine _)) (zE (Q0 (Zv zIG _)) (zS))
structure zA where
  Id : Int
  Name : ByteArray
  Ps : (List Pt)
  F : (List zB)
  V : zD
  Tk : Int
  Pa : Int
  Wo : Int
  Dr : Int
  Ve : Int
def zA.row (v : zA) : List CV := [.lit (.int .i64 v.Id),.lit (.string v.Name),.sl true 8 (v.Ps.map Pt.row),.sl true 5 (v.F.map zB.row),.sl true 3 (v.V.Rows.map zC.row),.sl true 1 (v.V.Pv.map intRow),.lit (.int .i64 v.Tk),.lit (.int .i64 v.Pa),.lit (.int .i64 v.Wo),.lit (.int .i64 v.Dr),.lit (.int .i64 v.Ve)]
def zA.wf (v : zA) : Prop := zj v.Id ∧ v.Name.size ≤ maxLen ∧ QO Pt.wf v.Ps ∧ QO zB.wf v.F ∧ QO zC.wf v.V.Rows ∧ QO zj v.V.Pv ∧ zj v.Tk ∧ zj v.Pa ∧ zj v.Wo ∧ zj v.Dr ∧ zj v.Ve ∧ True
theorem zA.enc : Enc zA [.int .i64,.str,.sl 8 [.bool,.int .i64,.bool,.int .i64,.int .i64,.int .i64,.int .i64,.int .i64],.sl 5 [.int .i64,.int .i64,.int .i64,.int .i64,.bool],.sl 3 [.int .i64,.int .i64,.int .i64],.sl 1 [.int .i64],.int .i64,.int .i64,.int .i64,.int .i64,.int .i64] zA.row zA.wf := fun cs h => by
  obtain ⟨c0,r0,rfl,k0,h⟩ := zR h
  obtain ⟨c1,r1,rfl,k1,h⟩ := zR h
  obtain ⟨c2,r2,rfl,k2,h⟩ := zR h
  obtain ⟨c3,r3,rfl,k3,h⟩ := zR h
  obtain ⟨c4,r4,rfl,k4,h⟩ := zR h
  obtain ⟨c5,r5,rfl,k5,h⟩ := zR h
  obtain ⟨c6,r6,rfl,k6,h⟩ := zR h
  obtain ⟨c7,r7,rfl,k7,h⟩ := zR h
  obtain ⟨c8,r8,rfl,k8,h⟩ := zR h
  obtain ⟨c9,r9,rfl,k9,h⟩ := zR h
  obtain ⟨c10,r10,rfl,k10,h⟩ := zR h
  obtain rfl := Qj h
  obtain ⟨x0,rfl,w0⟩ := zq k0
  obtain ⟨x1,rfl,w1⟩ := zOF k1
  obtain ⟨x2,rfl,w2⟩ := Enc.sl Pt.enc k2
  obtain ⟨x3,rfl,w3⟩ := Enc.sl zB.enc k3
  obtain ⟨x4,rfl,w4⟩ := Enc.sl zC.enc k4
  obtain ⟨x5,rfl,w5⟩ := Enc.sl zNc k5
  obtain ⟨x6,rfl,w6⟩ := zq k6
  obtain ⟨x7,rfl,w7⟩ := zq k7
  obtain ⟨x8,rfl,w8⟩ := zq k8
  obtain ⟨x9,rfl,w9⟩ := zq k9
  obtain ⟨x10,rfl,w10⟩ := zq k10
  exact ⟨⟨x0,x1,x2,x3,⟨x4,x5⟩,x6,x7,x8,x9,x10⟩,rfl,⟨w0,w1,w2,w3,w4,w5,w6,w7,w8,w9,w10,trivial⟩⟩
theorem zA.row_mine (v : zA) : CV.mineRow (zA.row v) := zE zM (zE zM (zE (Q0 (Zv Pt.row_mine _)) (zE (Q0 (Zv zB.row_mine _)) (zE (Q0 (Zv zC.row_mine _)) (zE (Q0 (Zv zIG _)) (zE zM (zE zM (zE zM (zE zM (zE zM (zS)))))))))))
structure Link where
  A : Int
  P : Int
  B : Int
  Q : Int
def Link.row (v : Link) : List CV := [.lit (.int .i64 v.A),.lit (.int .i64 v.P),.lit (.int .i64 v.B),.lit (.int .i64 v.Q)]
def Link.wf (v : Link) : Prop := zj v.A ∧ zj v.P ∧ zj v.B ∧ zj v.Q ∧ True
theorem Link.enc : Enc Link [.int .i64,.int .i64,.int .i64,.int .i64] Link.row Link.wf := fun cs h => by
  obtain ⟨c0,r0,rfl,k0,h⟩ := zR h
  obtain ⟨c1,r1,rfl,k1,h⟩ := zR h
  obtain ⟨c2,r2,rfl,k2,h⟩ := zR h
  obtain ⟨c3,r3,rfl,k3,h⟩ := zR h
  obtain rfl := Qj h
  obtain ⟨x0,rfl,w0⟩ := zq k0
  obtain ⟨x1,rfl,w1⟩ := zq k1
  obtain ⟨x2,rfl,w2⟩ := zq k2
  obtain ⟨x3,rfl,w3⟩ := zq k3
  exact ⟨⟨x0,x1,x2,x3⟩,rfl,⟨w0,w1,w2,w3,trivial⟩⟩
theorem Link.row_mine (v : Link) : CV.mineRow (Link.row v) := zE zM (zE zM (zE zM (zE zM (zS))))
structure Say where
  Link : Int
  Back : Bool
  V : Vec
def Say.row (v : Say) : List CV := [.lit (.int .i64 v.Link),.lit (.bool v.Back),.lit (.int .i64 v.V.Root),.lit (.int .i64 v.V.Co),.lit (.int .i64 v.V.Hops),.lit (.int .i64 v.V.Bridge),.lit (.int .i64 v.V.Port)]
def Say.wf (v : Say) : Prop := zj v.Link ∧ zj v.V.Root ∧ zj v.V.Co ∧ zj v.V.Hops ∧ zj v.V.Bridge ∧ zj v.V.Port ∧ True
theorem Say.enc : Enc Say [.int .i64,.bool,.int .i64,.int .i64,.int .i64,.int .i64,.int .i64] Say.row Say.wf := fun cs h => by
  obtain ⟨c0,r0,rfl,k0,h⟩ := zR h
  obtain ⟨c1,r1,rfl,k1,h⟩ := zR h
  obtain ⟨c2,r2,rfl,k2,h⟩ := zR h
  obtain ⟨c3,r3,rfl,k3,h⟩ := zR h
  obtain ⟨c4,r4,rfl,k4,h⟩ := zR h
  obtain ⟨c5,r5,rfl,k5,h⟩ := zR h
  obtain ⟨c6,r6,rfl,k6,h⟩ := zR h
  obtain rfl := Qj h
  obtain ⟨x0,rfl,w0⟩ := zq k0
  obtain ⟨x1,rfl⟩ := zDw k1
  obtain ⟨x2,rfl,w2⟩ := zq k2
  obtain ⟨x3,rfl,w3⟩ := zq k3
  obtain ⟨x4,rfl,w4⟩ := zq k4
  obtain ⟨x5,rfl,w5⟩ := zq k5
  obtain ⟨x6,rfl,w6⟩ := zq k6
  exact ⟨⟨x0,x1,⟨x2,x3,x4,x5,x6⟩⟩,rfl,⟨w0,w2,w3,w4,w5,w6,trivial⟩⟩
theorem Say.row_mine (v : Say) : CV.mineRow (Say.row v) := zE zM (zE zM (zE zM (zE zM (zE zM (zE zM (zE zM (zS)))))))
structure Net where
  Bs : (List zA)
  Ls : (List Link)
  Said : (List Say)
def Net.row (v : Net) : List CV := [.sl true 11 (v.Bs.map zA.row),.sl true 4 (v.Ls.map Link.row),.sl true 7 (v.Said.map Say.row)]
def Net.wf (v : Net) : Prop := QO zA.wf v.Bs ∧ QO Link.wf v.Ls ∧ QO Say.wf v.Said ∧ True
theorem Net.enc : Enc Net [.sl 11 [.int .i64,.str,.sl 8 [.bool,.int .i64,.bool,.int .i64,.int .i64,.int .i64,.int .i64,.int .i64],.sl 5 [.int .i64,.int .i64,.int .i64,.int .i64,.bool],.sl 3 [.int .i64,.int .i64,.int .i64],.sl 1 [.int .i64],.int .i64,.int .i64,.int .i64,.int .i64,.int .i64],.sl 4 [.int .i64,.int .i64,.int .i64,.int .i64],.sl 7 [.int .i64,.bool,.int .i64,.int .i64,.int .i64,.int .i64,.int .i64]] Net.row Net.wf := fun cs h => by
  obtain ⟨c0,r0,rfl,k0,h⟩ := zR h
  obtain ⟨c1,r1,rfl,k1,h⟩ := zR h
  obtain ⟨c2,r2,rfl,k2,h⟩ := zR h
  obtain rfl := Qj h
  obtain ⟨x0,rfl,w0⟩ := Enc.sl zA.enc k0
  obtain ⟨x1,rfl,w1⟩ := Enc.sl Link.enc k1
  obtain ⟨x2,rfl,w2⟩ := Enc.sl Say.enc k2
  exact ⟨⟨x0,x1,x2⟩,rfl,⟨w0,w1,w2,trivial⟩⟩
theorem Net.row_mine (v : Net) : CV.mineRow (Net.row v) := zE (Q0 (Zv zA.row_mine _)) (zE (Q0 (Zv Link.row_mine _)) (zE (Q0 (Zv Say.row_mine _)) (zS)))
structure Event where
  Ki : Int
  At : Int
def Event.row (v : Event) : List CV := [.lit (.int .i64 v.Ki),.lit (.int .i64 v.At)]
def Event.wf (v : Event) : Prop := zj v.Ki ∧ zj v.At ∧ True
theorem Event.enc : Enc Event [.int .i64,.int .i64] Event.row Event.wf := fun cs h => by
  obtain ⟨c0,r0,rfl,k0,h⟩ := zR h
  obtain ⟨c1,r1,rfl,k1,h⟩ := zR h
  obtain rfl := Qj h
  obtain ⟨x0,rfl,w0⟩ := zq k0
  obtain ⟨x1,rfl,w1⟩ := zq k1
  exact ⟨⟨x0,x1⟩,rfl,⟨w0,w1,trivial⟩⟩
theorem Event.row_mine (v : Event) : CV.mineRow (Event.row v) := zE zM (zE zM (zS))
def zFZ (n : Nat) (x0 : (List Int)) : Option (Bool) :=
  (some (decide ((x0.length : Int) > 1048576)))
theorem zOH (n : Nat) (x0 : (List Int)) (r : Bool) (H : zFZ n x0 = some r) : zJ Tryz.prog 8 [.val false [.sl false 1 (CV.frzEs (x0.map zd))]] [.val false [.lit (.bool r)]] [] := by
 refine cW Tryz.func8 (fun g d => sl [g 0,g 1] .ret) [.tmp 2] fun cx=>?_
 unfold zFZ at H
 exact gA 1 1 0<|rA 1<|kF x0 zd<|uA 2 4 0<|te (fJ [(false,[cB (decide ((x0.length : Int) > 1048576))])] H)
def zCU (n : Nat) (x0 : (List Int)) (y3 : Int) : Option (Src) :=
  (some (⟨x0,0,y3⟩ : Src))
def YN (n : Nat) : Nat → (List Int) → Int → Int → Option ((Int) ⊕ (Src))
  | 0,_,_,_ => none
  | mo4 + 1,x0,y1,y2 => (bif (decide (y1 < (x0.length : Int))) then (bif (decide (y1 < 4000)) then ((idx x0 y1).bind fun v5 => (YN n mo4 x0 (IntKind.wrap .i64 (y1 + 1)) (IntKind.wrap .i64 (BitVec.ofInt (IntKind.bits .i64) (IntKind.wrap .i64 ((IntKind.wrap .i64 ((IntKind.wrap .i64 (y2 * 137)) + (IntKind.wrap .i64 v5))) + 11)) &&& BitVec.ofInt (IntKind.bits .i64) 1073741823).toNat))) else (some (Sum.inl y2))) else (some (Sum.inl y2)))
def Y3 (n : Nat) (x0 : (List Int)) : Option (Src) :=
  ((YN n n x0 0 (IntKind.wrap .i64 (762762 + (x0.length : Int)))).bind fun o => match o with | .inl y3 => (zCU n x0 y3) | .inr r => some r)
noncomputable abbrev G76 (k : Nat) := Rg Tryz.f76 k
theorem zEq (n : Nat) (x0 : (List Int)) (r : Src) (H : Y3 n x0 = some r) : zJ Tryz.prog 76 [.val false [.sl false 1 (CV.frzEs (x0.map zd))]] [.ptr (fR (Src.row r))] [] := by
 refine zJ.of_body_ptr tOk Tryz.func76 rfl (c := (.seq (G76 0) (.seq (G76 1) (.seq (.seq (G76 2) (.block 0 (.loop (.seq (.seq (G76 3) (.cond (.tmp 15) .skip (.exit 0))) (.seq (.block 1 (G76 5)) (G76 4)))))) (.seq (G76 6) .ret))))) kr (Nat.le_of_ble_eq_true kr) 2 31 rfl (fR (Src.row r)) fun cx=>?_
 show Tr _ _ _ ⟨32,0,[sC 0 (cF 1 x0 zd)],[]⟩ _
 unfold Y3 at H
 refine gA 1 1 0<|rA 1<|kF x0 zd<|uA 2 9 0<|tS<|gA 1 25 0 ?_
 obtain ⟨o4,eo4,Ho4⟩ := bs H
 clear H
 refine Tr.mid (ι := Int) (fun v => ⟨32,0,[sI 3 v,sC 0 (cF 1 x0 zd)],[]⟩) (fun v => zCU n x0 v = some r) ?_ ?_
 ·refine tB<|Tr.loop (ι := Nat × (Int × Int)) (fun v => ⟨32,0,[sI 4 v.2.1,sI 3 v.2.2,sC 0 (cF 1 x0 zd)],[]⟩) (fun v => YN n v.1 x0 v.2.1 v.2.2 = some o4) (fun v => v.1) (n,(0,(wI (762762 + (x0.length : Int))))) eo4 (St.sub_of [4,3,0] [] kr) ?_
  rintro ⟨mo4,y1,y2⟩ H
  have H : YN n mo4 x0 y1 y2 = some o4 := H
  obtain _ | mo4 := mo4
  ·exact nN H
  rw [YN] at H
  refine tS<|rA 2<|kF x0 zd<|lA 2 ?_
  obtain ⟨h1,H⟩ | ⟨h1,H⟩ := bC H
  ·refine qL 4121 0 [12] h1<|uA 3 32793 0<|nB_<|Tr.exit<|aJ ?_
   obtain rfl := si H
   have H := Ho4
   dsimp only at H
   exact jA y2 H [3,0] []
  refine qL 4121 0 [12] h1<|uA 3 32793 0 ?_
  obtain ⟨h2,H⟩ | ⟨h2,H⟩ := bC H
  ·refine nA h2<|Tr.exit<|aJ ?_
   obtain rfl := si H
   have H := Ho4
   dsimp only at H
   exact jA y2 H [3,0] []
  exact tA h2<|tK<|tS<|tB<|Tr.at<|lA 4<|bE H fun v5 ev5 H=> iA zd ev5<|uA 6 25 0<|eA 3 25 0<|jB mo4 ((wI (y1 + 1)),(wI (BitVec.ofInt (IntKind.bits .i64) (wI ((wI ((wI (y2 * 137)) + (wI v5))) + 11)) &&& BitVec.ofInt (IntKind.bits .i64) 1073741823).toNat)) H [4,3,0] []
 rintro y3 H
 have H : (zCU n x0 y3) = some r := H
 unfold zCU at H
 refine gA 5 4 2147483648<|te ?_
 obtain rfl := si H
 exact And.intro kr kr
def Ym (n : Nat) (x0 : Src) : Option (Int × Src) :=
  (bif (decide ((0 : Int) ≤ 33)) then (bif (decide ((0 : Int) ≤ 47)) then (bif (decide (x0.i < (x0.b.length : Int))) then ((idx x0.b x0.i).bind fun v3 => (some ((IntKind.wrap .i64 (BitVec.ofInt (IntKind.bits .i64) (IntKind.wrap .i64 ((IntKind.wrap .i64 (BitVec.ofInt (IntKind.bits .i64) (IntKind.wrap .i64 (BitVec.ofInt (IntKind.bits .i64) (Int.fdiv (IntKind.wrap .i64 ((IntKind.wrap .i64 (x0.h * 6364136223846793005)) + 1442695040888963407)) (2 ^ min ((33 : Int)).toNat (IntKind.bits .i64))) ^^^ BitVec.ofInt (IntKind.bits .i64) (Int.fdiv (IntKind.wrap .i64 ((IntKind.wrap .i64 (x0.h * 6364136223846793005)) + 1442695040888963407)) (2 ^ min ((47 : Int)).toNat (IntKind.bits .i64)))).toNat) &&& BitVec.ofInt (IntKind.bits .i64) 255).toNat) + (IntKind.wrap .i64 v3))) &&& BitVec.ofInt (IntKind.bits .i64) 255).toNat),(⟨x0.b,(IntKind.wrap .i64 (x0.i + 1)),(IntKind.wrap .i64 ((IntKind.wrap .i64 (x0.h * 6364136223846793005)) + 1442695040888963407))⟩ : Src)))) else (some ((IntKind.wrap .i64 (BitVec.ofInt (IntKind.bits .i64) (IntKind.wrap .i64 (BitVec.ofInt (IntKind.bits .i64) (Int.fdiv (IntKind.wrap .i64 ((IntKind.wrap .i64 (x0.h * 6364136223846793005)) + 1442695040888963407)) (2 ^ min ((33 : Int)).toNat (IntKind.bits .i64))) ^^^ BitVec.ofInt (IntKind.bits .i64) (Int.fdiv (IntKind.wrap .i64 ((IntKind.wrap .i64 (x0.h * 6364136223846793005)) + 1442695040888963407)) (2 ^ min ((47 : Int)).toNat (IntKind.bits .i64)))).toNat) &&& BitVec.ofInt (IntKind.bits .i64) 255).toNat),(⟨x0.b,x0.i,(IntKind.wrap .i64 ((IntKind.wrap .i64 (x0.h * 6364136223846793005)) + 1442695040888963407))⟩ : Src)))) else none) else none)
def zPZ : Tab := ⟨13,[0,1,2,4,8,0,32,64,128,256,528,1024,4095],[0,1,2,4,8,0,32,64,128,256,528,1024,2048],[0,1,3,7,15,0,32,96,224,480,1023,2047,4095]⟩
noncomputable abbrev zMu (k : Nat) := Rg Tryz.f174 k
noncomputable abbrev zN4 (k : Nat) := Rd Tryz.f174 k
theorem zDt : zg (rg Tryz.f174 2) zPZ = true := kr
def zPa : Tab := ⟨15,[0,0,2,4,8,0,32,64,128,272,512,1024,2049,4096,16383],[0,0,2,4,8,0,32,64,128,272,512,1024,2049,4096,8193],[0,0,2,6,14,0,32,96,224,510,1022,2046,4095,8191,16383]⟩
theorem zI1 : zg (rg Tryz.f174 4) zPa = true := kr
theorem zDi (n : Nat) (x0 : Src) (r : Int × Src) (H : Ym n x0 = some r) : zJ Tryz.prog 174 [.ptr (fR (Src.row x0))] [.val false [.lit (.int .i64 r.1)]] [(0,(fR (Src.row r.2)))] := by
 refine zJ.of_body tOk Tryz.func174 rfl (c := (.seq (zMu 0) (.seq (zMu 1) (.seq (zN4 2) (.seq (.seq (zN4 3) (.cond (.tmp 34) (.seq (zN4 4) (zMu 5)) .skip)) (.seq (zMu 6) .ret)))))) kr (Nat.le_of_ble_eq_true kr) 1 (rs := [.tmp 2]) rfl [] .nil [(false,[.lit (.int .i64 r.1)])] [] [(0,(fR (Src.row r.2)))] fun cx=>?_
 show Tr _ _ _ ⟨58,1,[sA 0 0 3 0],[(0,(fR (Src.row x0)))]⟩ _
 unfold Ym at H
 refine gA 1 1 1<|gA 10 1 1<|gE H fun hg1 H=> gE H fun hg2 H=> Tr.draws mixed 13 kr ⟨58,1,[sI 3 (wI (BitVec.ofInt (IntKind.bits .i64) (wI (BitVec.ofInt (IntKind.bits .i64) (Int.fdiv (wI ((wI (x0.h * 0x5851f42d4c957f2d)) + 0x14057b7ef767814f)) (2 ^ min ((33 : Int)).toNat (IntKind.bits .i64))) ^^^ BitVec.ofInt (IntKind.bits .i64) (Int.fdiv (wI ((wI (x0.h * 0x5851f42d4c957f2d)) + 0x14057b7ef767814f)) (2 ^ min ((47 : Int)).toNat (IntKind.bits .i64)))).toNat) &&& BitVec.ofInt (IntKind.bits .i64) 255).toNat),sA 0 0 3 0],[(0,[cF 1 x0.b zd,cI x0.i,cI (wI ((wI (x0.h * 0x5851f42d4c957f2d)) + 0x14057b7ef767814f))])]⟩ (fun cx=>?_) ?_
 ·refine mA zDt [(0,[]),(1,[]),(2,[]),(3,[4]),(5,[]),(6,[]),(7,[]),(8,[9])] 5 [⟨[9],3,20,21⟩,⟨[4],3,15,16⟩] fun cx=>mB2 tOk zDt 4 9 kr (And.intro kr ?_) (And.intro kr ?_)
  ·exact LAt.binC tOk (op := .shr) (t := 3) (ty := 163) (ty' := 3) (x := (.tmp 16)) (y := (.const (.int .u64 33))) (d := 17) (g := none) (.int .i64 (wI ((wI (x0.h * 0x5851f42d4c957f2d)) + 0x14057b7ef767814f))) (.int .u64 33) (.int .i64 (Int.fdiv (wI ((wI (x0.h * 0x5851f42d4c957f2d)) + 0x14057b7ef767814f)) (2 ^ min ((33 : Int)).toNat (IntKind.bits .i64)))) _ kr kr kr kr kr (φ := (0 : Int) ≤ 33) kr (of_decide_eq_true hg1) rfl<|fA<|mC zDt 9<|LAt.binC tOk (op := .shr) (t := 3) (ty := 163) (ty' := 3) (x := (.tmp 21)) (y := (.const (.int .u64 47))) (d := 22) (g := none) (.int .i64 (wI ((wI (x0.h * 0x5851f42d4c957f2d)) + 0x14057b7ef767814f))) (.int .u64 47) (.int .i64 (Int.fdiv (wI ((wI (x0.h * 0x5851f42d4c957f2d)) + 0x14057b7ef767814f)) (2 ^ min ((47 : Int)).toNat (IntKind.bits .i64)))) _ kr kr kr kr kr (φ := (0 : Int) ≤ 47) kr (of_decide_eq_true hg2) rfl<|fA<|mA zDt [(10,[]),(11,[]),(12,[])] 0 [⟨[9],3,20,21⟩,⟨[4],3,15,16⟩] fun cx=>mE zDt [3,0] [0]
  ·exact LAt.binC tOk (op := .shr) (t := 3) (ty := 163) (ty' := 3) (x := (.tmp 21)) (y := (.const (.int .u64 47))) (d := 22) (g := none) (.int .i64 (wI ((wI (x0.h * 0x5851f42d4c957f2d)) + 0x14057b7ef767814f))) (.int .u64 47) (.int .i64 (Int.fdiv (wI ((wI (x0.h * 0x5851f42d4c957f2d)) + 0x14057b7ef767814f)) (2 ^ min ((47 : Int)).toNat (IntKind.bits .i64)))) _ kr kr kr kr kr (φ := (0 : Int) ≤ 47) kr (of_decide_eq_true hg2) rfl<|fA<|mC zDt 4<|LAt.binC tOk (op := .shr) (t := 3) (ty := 163) (ty' := 3) (x := (.tmp 16)) (y := (.const (.int .u64 33))) (d := 17) (g := none) (.int .i64 (wI ((wI (x0.h * 0x5851f42d4c957f2d)) + 0x14057b7ef767814f))) (.int .u64 33) (.int .i64 (Int.fdiv (wI ((wI (x0.h * 0x5851f42d4c957f2d)) + 0x14057b7ef767814f)) (2 ^ min ((33 : Int)).toNat (IntKind.bits .i64)))) _ kr kr kr kr kr (φ := (0 : Int) ≤ 33) kr (of_decide_eq_true hg1) rfl<|fA<|mA zDt [(10,[]),(11,[]),(12,[])] 0 [⟨[9],3,20,21⟩,⟨[4],3,15,16⟩] fun cx=>mE zDt [3,0] [0]
 refine tS<|Tr.draws mixed 10 kr ⟨58,1,[sB 34 (decide (x0.i < (x0.b.length : Int))),sI 3 (wI (BitVec.ofInt (IntKind.bits .i64) (wI (BitVec.ofInt (IntKind.bits .i64) (Int.fdiv (wI ((wI (x0.h * 0x5851f42d4c957f2d)) + 0x14057b7ef767814f)) (2 ^ min ((33 : Int)).toNat (IntKind.bits .i64))) ^^^ BitVec.ofInt (IntKind.bits .i64) (Int.fdiv (wI ((wI (x0.h * 0x5851f42d4c957f2d)) + 0x14057b7ef767814f)) (2 ^ min ((47 : Int)).toNat (IntKind.bits .i64)))).toNat) &&& BitVec.ofInt (IntKind.bits .i64) 255).toNat),sA 0 0 3 0],[(0,[cF 1 x0.b zd,cI x0.i,cI (wI ((wI (x0.h * 0x5851f42d4c957f2d)) + 0x14057b7ef767814f))])]⟩ (fun cx=>?_) ?_
 ·refine aA [(0,[]),(1,[]),(2,[]),(3,[]),(4,[]),(5,[]),(6,[]),(7,[])] 2 [⟨[],22,31,32⟩,⟨[],3,27,28⟩] fun cx=>aL tOk 8 22 3 5 32 33 none ⟨(.box 0),[(0,0)],0,false,1,(CV.frzEs (x0.b.map zd))⟩ (x0.b).length _ kr kr kr kr kr kr kr (zHo _ _) rfl (fun cx=>?_)
  exact aA [(9,[])] 0 [⟨[],22,31,32⟩,⟨[],3,27,28⟩] fun cx=>eE [34,3,0] [0]
 obtain ⟨h1,H⟩ | ⟨h1,H⟩ := bC H
 ·exact qT [34] h1<|nB_<|tK<|gA 2 5 1<|te<|fY [(false,[cI (wI (BitVec.ofInt (IntKind.bits .i64) (wI (BitVec.ofInt (IntKind.bits .i64) (Int.fdiv (wI ((wI (x0.h * 0x5851f42d4c957f2d)) + 0x14057b7ef767814f)) (2 ^ min ((33 : Int)).toNat (IntKind.bits .i64))) ^^^ BitVec.ofInt (IntKind.bits .i64) (Int.fdiv (wI ((wI (x0.h * 0x5851f42d4c957f2d)) + 0x14057b7ef767814f)) (2 ^ min ((47 : Int)).toNat (IntKind.bits .i64)))).toNat) &&& BitVec.ofInt (IntKind.bits .i64) 255).toNat)])] [(0,[cF 1 x0.b zd,cI x0.i,cI (wI ((wI (x0.h * 0x5851f42d4c957f2d)) + 0x14057b7ef767814f))])] H
 refine qT [34] h1<|tB_<|bE H fun v3 ev3 H=> Tr.draws mixed 15 kr ⟨58,1,[sI 3 (wI (BitVec.ofInt (IntKind.bits .i64) (wI ((wI (BitVec.ofInt (IntKind.bits .i64) (wI (BitVec.ofInt (IntKind.bits .i64) (Int.fdiv (wI ((wI (x0.h * 0x5851f42d4c957f2d)) + 0x14057b7ef767814f)) (2 ^ min ((33 : Int)).toNat (IntKind.bits .i64))) ^^^ BitVec.ofInt (IntKind.bits .i64) (Int.fdiv (wI ((wI (x0.h * 0x5851f42d4c957f2d)) + 0x14057b7ef767814f)) (2 ^ min ((47 : Int)).toNat (IntKind.bits .i64)))).toNat) &&& BitVec.ofInt (IntKind.bits .i64) 255).toNat) + (wI v3))) &&& BitVec.ofInt (IntKind.bits .i64) 255).toNat),sA 0 0 3 0],[(0,[cF 1 x0.b zd,cI x0.i,cI (wI ((wI (x0.h * 0x5851f42d4c957f2d)) + 0x14057b7ef767814f))])]⟩ (fun cx=>?_) ?_
 ·exact mA zI1 [(0,[]),(1,[]),(2,[]),(3,[]),(4,[]),(5,[]),(6,[]),(7,[]),(8,[])] 6 [⟨[],3,42,43⟩,⟨[],22,38,39⟩] fun cx=>iN zI1 9 zd ev3 fun cx=>mA zI1 [(10,[]),(11,[]),(12,[]),(13,[]),(14,[])] 0 [⟨[],3,42,43⟩,⟨[],22,38,39⟩] fun cx=>mE zI1 [3,0] [0]
 exact eA 9 9 1<|gA 2 5 1<|te<|fY [(false,[cI (wI (BitVec.ofInt (IntKind.bits .i64) (wI ((wI (BitVec.ofInt (IntKind.bits .i64) (wI (BitVec.ofInt (IntKind.bits .i64) (Int.fdiv (wI ((wI (x0.h * 0x5851f42d4c957f2d)) + 0x14057b7ef767814f)) (2 ^ min ((33 : Int)).toNat (IntKind.bits .i64))) ^^^ BitVec.ofInt (IntKind.bits .i64) (Int.fdiv (wI ((wI (x0.h * 0x5851f42d4c957f2d)) + 0x14057b7ef767814f)) (2 ^ min ((47 : Int)).toNat (IntKind.bits .i64)))).toNat) &&& BitVec.ofInt (IntKind.bits .i64) 255).toNat) + (wI v3))) &&& BitVec.ofInt (IntKind.bits .i64) 255).toNat)])] [(0,[cF 1 x0.b zd,cI (wI (x0.i + 1)),cI (wI ((wI (x0.h * 0x5851f42d4c957f2d)) + 0x14057b7ef767814f))])] H
def zF (n : Nat) (x0 : Src) (x1 : Int) : Option (Int × Src) :=
  (bif (decide (x1 ≤ 0)) then (some (0,x0)) else (bif (decide (x1 ≤ 256)) then ((Ym n x0).bind fun r5 => (bif (decide ((x1 : Int) ≠ 0)) then (some ((Int.tmod r5.1 x1),r5.2)) else none)) else ((Ym n x0).bind fun r1 => ((Ym n r1.2).bind fun r2 => ((Ym n r2.2).bind fun r3 => (bif (decide ((x1 : Int) ≠ 0)) then (some ((Int.tmod (IntKind.wrap .i64 ((IntKind.wrap .i64 ((IntKind.wrap .i64 (r1.1 * 65536)) + (IntKind.wrap .i64 (r2.1 * 256)))) + r3.1)) x1),r3.2)) else none))))))
noncomputable abbrev zGN (k : Nat) := Rg Tryz.f119 k
theorem zL (n : Nat) (x0 : Src) (x1 : Int) (r : Int × Src) (H : zF n x0 x1 = some r) : zJ Tryz.prog 119 [.ptr (fR (Src.row x0)),.val false [.lit (.int .i64 x1)]] [.val false [.lit (.int .i64 r.1)]] [(0,(fR (Src.row r.2)))] := by
 refine zJ.of_body tOk Tryz.func119 rfl (c := (.seq (zGN 0) (.seq (.seq (zGN 1) (.cond (.tmp 9) (.seq (zGN 2) .ret) .skip)) (.seq (.seq (zGN 3) (.cond (.tmp 11) (.seq (zGN 4) .ret) .skip)) (.seq (zGN 5) (.seq (zGN 6) (.seq (zGN 7) (.seq (zGN 8) .ret)))))))) kr (Nat.le_of_ble_eq_true kr) 1 (rs := [.tmp 4]) rfl [] .nil [(false,[.lit (.int .i64 r.1)])] [] [(0,(fR (Src.row r.2)))] fun cx=>?_
 show Tr _ _ _ ⟨31,1,[sA 0 0 3 0,sI 1 x1],[(0,(fR (Src.row x0)))]⟩ _
 unfold zF at H
 refine gA 1 3 1<|tS<|gA 2 515 1 ?_
 obtain ⟨h1,H⟩ | ⟨h1,H⟩ := bC H
 ·refine nA h1<|tK<|tS<|gA 2 2051 1 ?_
  obtain ⟨h2,H⟩ | ⟨h2,H⟩ := bC H
  ·exact nA h2<|tK<|rA 1<|bE H fun r1 er1 H=> vL [.lend] (zDi n x0 r1 er1)<|uA 1 35 1<|rA 1<|bE H fun r2 er2 H=> vL [.lend] (zDi n r1.2 r2 er2)<|uA 1 99 1<|rA 1<|bE H fun r3 er3 H=> vL [.lend] (zDi n r2.2 r3 er3)<|uA 1 227 1<|rA 8<|gE H fun hg4 H=> LAt.binC tOk (op := .rem) (t := 3) (ty := 3) (ty' := 3) (x := (.tmp 28)) (y := (.tmp 29)) (d := 30) (g := none) (.int .i64 (wI ((wI ((wI (r1.1 * 65536)) + (wI (r2.1 * 256)))) + r3.1))) (.int .i64 x1) (.int .i64 (Int.tmod (wI ((wI ((wI (r1.1 * 65536)) + (wI (r2.1 * 256)))) + r3.1)) x1)) _ kr kr kr kr kr (φ := (IntKind.i64 = IntKind.i64 ∧ (x1 : Int) ≠ 0)) kr (⟨rfl,of_decide_eq_true hg4⟩) rfl<|uA 1 17 1<|te<|fY [(false,[cI (Int.tmod (wI ((wI ((wI (r1.1 * 65536)) + (wI (r2.1 * 256)))) + r3.1)) x1)])] [(0,(fR (Src.row r3.2)))] H
  exact tA h2<|rA 1<|bE H fun r5 er5 H=> vL [.lend] (zDi n x0 r5 er5)<|lA 1<|gE H fun hg6 H=> LAt.binC tOk (op := .rem) (t := 3) (ty := 3) (ty' := 3) (x := (.tmp 13)) (y := (.tmp 14)) (d := 15) (g := none) (.int .i64 r5.1) (.int .i64 x1) (.int .i64 (Int.tmod r5.1 x1)) _ kr kr kr kr kr (φ := (IntKind.i64 = IntKind.i64 ∧ (x1 : Int) ≠ 0)) kr (⟨rfl,of_decide_eq_true hg6⟩) rfl<|uA 1 17 1<|te<|fY [(false,[cI (Int.tmod r5.1 x1)])] [(0,(fR (Src.row r5.2)))] H
 exact tA h1<|gA 1 17 1<|te<|fY [(false,[cI 0])] [(0,(fR (Src.row x0)))] H
def zBu (n : Nat) (r1 : Int × Src) (y4 : (List Int)) : Option ((List Int) × Src) :=
  (some (y4,r1.2))
def Q1 (n : Nat) : Nat → Int × Src → Int → Int → (List Int) → Option (((List Int)) ⊕ ((List Int) × Src))
  | 0,_,_,_,_ => none
  | mo5 + 1,r1,x1,y2,y3 => (bif (decide (y2 < x1)) then (bif (decide ((7 : Int) ≠ 0)) then (bif (decide (y3.length + [(IntKind.wrap .i64 (1 + (Int.tmod (IntKind.wrap .i64 (r1.1 + (IntKind.wrap .i64 (y2 * 3)))) 7)))].length ≤ 268435456)) then (Q1 n mo5 r1 x1 (IntKind.wrap .i64 (y2 + 1)) (y3 ++ [(IntKind.wrap .i64 (1 + (Int.tmod (IntKind.wrap .i64 (r1.1 + (IntKind.wrap .i64 (y2 * 3)))) 7)))])) else none) else none) else (some (Sum.inl y3)))
def zAG (n : Nat) (x0 : Src) (x1 : Int) : Option ((List Int) × Src) :=
  ((zF n x0 7).bind fun r1 => ((Q1 n n r1 x1 0 ([] : List Int)).bind fun o => match o with | .inl y4 => (zBu n r1 y4) | .inr r => some r))
noncomputable abbrev zG6 (k : Nat) := Rg Tryz.f120 k
theorem zIQ (n : Nat) (x0 : Src) (x1 : Int) (r : (List Int) × Src) (H : zAG n x0 x1 = some r) : zJ Tryz.prog 120 [.ptr (fR (Src.row x0)),.val false [.lit (.int .i64 x1)]] [.val false [.sl true 1 (r.1.map intRow)]] [(0,(fR (Src.row r.2)))] := by
 refine zJ.of_body tOk Tryz.func120 rfl (c := (.seq (zG6 0) (.seq (zG6 1) (.seq (zG6 2) (.seq (.seq (zG6 3) (.block 0 (.loop (.seq (.seq (zG6 4) (.cond (.tmp 13) .skip (.exit 0))) (.seq (.block 1 (zG6 6)) (zG6 5)))))) (.seq (zG6 7) .ret)))))) kr (Nat.le_of_ble_eq_true kr) 1 (rs := [.tmp 4]) rfl [] .nil [(false,[.sl true 1 (r.1.map intRow)])] [] [(0,(fR (Src.row r.2)))] fun cx=>?_
 show Tr _ _ _ ⟨26,1,[sA 0 0 3 0,sI 1 x1],[(0,(fR (Src.row x0)))]⟩ _
 unfold zAG at H
 refine gA 1 3 1<|rA 1<|LAt.moveU (T := lk tab) (ty := 27) (x := (.tmp 8)) (d := 5) (g := none) false [cL 1 ([] : List Int) intRow] kr kr kr kr kr<|dA 35 1<|rA 1<|bE H fun r1 er1 H=> vL [.lend,.rd] (zL n x0 7 r1 er1)<|uA 1 99 1<|tS<|gA 1 227 1 ?_
 obtain ⟨o5,eo5,Ho5⟩ := bs H
 clear H
 refine Tr.mid (ι := (List Int)) (fun v => ⟨26,1,[sC 5 (cL 1 v intRow),sA 0 0 3 0],[(0,(fR (Src.row r1.2)))]⟩) (fun v => zBu n r1 v = some r) ?_ ?_
 ·refine tB<|Tr.loop (ι := Nat × (Int × (List Int))) (fun v => ⟨26,1,[sI 7 v.2.1,sI 6 r1.1,sC 5 (cL 1 v.2.2 intRow),sA 0 0 3 0,sI 1 x1],[(0,(fR (Src.row r1.2)))]⟩) (fun v => Q1 n v.1 r1 x1 v.2.1 v.2.2 = some o5) (fun v => v.1) (n,(0,([] : List Int))) eo5 (St.sub_of [7,6,5,0,1] [0] kr) ?_
  rintro ⟨mo5,y2,y3⟩ H
  have H : Q1 n mo5 r1 x1 y2 y3 = some o5 := H
  obtain _ | mo5 := mo5
  ·exact nN H
  rw [Q1] at H
  refine tS<|gA 3 8419 1 ?_
  obtain ⟨h1,H⟩ | ⟨h1,H⟩ := bC H
  ·refine nA h1<|Tr.exit<|aJ ?_
   obtain rfl := si H
   have H := Ho5
   dsimp only at H
   exact jA y3 H [5,0] [0]
  exact tA h1<|tK<|tS<|tB<|Tr.at<|lA 5<|gE H fun hg6 H=> LAt.binC tOk (op := .rem) (t := 3) (ty := 3) (ty' := 3) (x := (.tmp 20)) (y := (.const (.int .i64 7))) (d := 21) (g := none) (.int .i64 (wI (r1.1 + (wI (y2 * 3))))) (.int .i64 7) (.int .i64 (Int.tmod (wI (r1.1 + (wI (y2 * 3)))) 7)) _ kr kr kr kr kr (φ := (IntKind.i64 = IntKind.i64 ∧ (7 : Int) ≠ 0)) kr (⟨rfl,of_decide_eq_true hg6⟩) rfl<|lA 2<|gE H fun hg7 H=> LAt.appMU tOk (t := 27) (ty := 27) (e := 3) (x := (.tmp 16)) (y := (.tmp 23)) (d := 24) (g := none) (tI 3) intRow y3 [(wI (1 + (Int.tmod (wI (r1.1 + (wI (y2 * 3)))) 7)))] kr kr kr kr kr kr kr kr kr kr hg7<|LAt.moveU (T := lk tab) (ty := 27) (x := (.tmp 24)) (d := 5) (g := none) false [cL 1 (y3 ++ [(wI (1 + (Int.tmod (wI (r1.1 + (wI (y2 * 3)))) 7)))]) intRow] kr kr kr kr kr<|dA 227 1<|eA 3 227 1<|jB mo5 ((wI (y2 + 1)),(y3 ++ [(wI (1 + (Int.tmod (wI (r1.1 + (wI (y2 * 3)))) 7)))])) H [7,6,5,0,1] [0]
 rintro y4 H
 have H : (zBu n r1 y4) = some r := H
 unfold zBu at H
 exact gA 2 49 1<|te<|fY [(false,[cL 1 y4 intRow])] [(0,(fR (Src.row r1.2)))] H
def QC (n : Nat) (x0 : Src) (x1 : Int) : Option (Bool × Src) :=
  ((zF n x0 x1).bind fun r1 => (some ((r1.1 == 0),r1.2)))
noncomputable abbrev G80 (k : Nat) := Rg Tryz.f80 k
theorem zCD (n : Nat) (x0 : Src) (x1 : Int) (r : Bool × Src) (H : QC n x0 x1 = some r) : zJ Tryz.prog 80 [.ptr (fR (Src.row x0)),.val false [.lit (.int .i64 x1)]] [.val false [.lit (.bool r.1)]] [(0,(fR (Src.row r.2)))] := by
 refine zJ.of_body tOk Tryz.func80 rfl (c := (.seq (G80 0) (.seq (G80 1) .ret))) kr (Nat.le_of_ble_eq_true kr) 1 (rs := [.tmp 4]) rfl [] .nil [(false,[.lit (.bool r.1)])] [] [(0,(fR (Src.row r.2)))] fun cx=>?_
 show Tr _ _ _ ⟨9,1,[sA 0 0 3 0,sI 1 x1],[(0,(fR (Src.row x0)))]⟩ _
 unfold QC at H
 exact gA 1 3 1<|rA 2<|bE H fun r1 er1 H=> vL [.lend,.rd] (zL n x0 x1 r1 er1)<|uA 2 17 1<|te<|fY [(false,[cB (r1.1 == 0)])] [(0,(fR (Src.row r1.2)))] H
def zBE (n : Nat) (y3 : Int) : Option (Int) :=
  (some y3)
def YE (n : Nat) (k : (Int × Int → Option ((Int) ⊕ (Int)))) (v5 : Link) (x1 : Int) (x2 : Int) (y1 : Int) (y6 : Int) : Option ((Int) ⊕ (Int)) :=
  (bif (v5.B == x1) then (bif (v5.Q == x2) then (k ((IntKind.wrap .i64 (y1 + 1)),(IntKind.wrap .i64 (y6 + 1)))) else (k ((IntKind.wrap .i64 (y1 + 1)),y6))) else (k ((IntKind.wrap .i64 (y1 + 1)),y6)))
def ZB (n : Nat) : Nat → Net → Int → Int → Int → Int → Option ((Int) ⊕ (Int))
  | 0,_,_,_,_,_ => none
  | mo4 + 1,x0,x1,x2,y1,y2 => (bif (decide (y1 < (x0.Ls.length : Int))) then ((idx x0.Ls y1).bind fun v5 => (bif (v5.A == x1) then (bif (v5.P == x2) then (YE n (fun v => ZB n mo4 x0 x1 x2 v.1 v.2) v5 x1 x2 y1 (IntKind.wrap .i64 (y2 + 1))) else (YE n (fun v => ZB n mo4 x0 x1 x2 v.1 v.2) v5 x1 x2 y1 y2)) else (YE n (fun v => ZB n mo4 x0 x1 x2 v.1 v.2) v5 x1 x2 y1 y2))) else (some (Sum.inl y2)))
def QK (n : Nat) (x0 : Net) (x1 : Int) (x2 : Int) : Option (Int) :=
  ((ZB n n x0 x1 x2 0 0).bind fun o => match o with | .inl y3 => (zBE n y3) | .inr r => some r)
theorem zAH (n : Nat) (x0 : Net) (x1 : Int) (x2 : Int) (r : Int) (H : QK n x0 x1 x2 = some r) : zJ Tryz.prog 175 [.val true (fR (Net.row x0)),.val false [.lit (.int .i64 x1)],.val false [.lit (.int .i64 x2)]] [.val false [.lit (.int .i64 r)]] [] := by
 refine cW Tryz.func175 (fun g d => sl [g 0,g 1,sl [g 2] (.block 0 (.loop (sl [sl [g 3] (cn 14 .skip (.exit 0)),.block 1 (sl [g 5,sl [g 6] (cn 31 (g 7) .skip),g 8] (cn 43 (g 9) .skip))] (g 4)))),g 10] .ret) [.tmp 6] fun cx=>?_
 unfold QK at H
 refine gA 2 14 8<|gA 1 142 8<|tS<|gA 1 398 8 ?_
 obtain ⟨o4,eo4,Ho4⟩ := bs H
 clear H
 refine Tr.mid (ι := Int) (fun v => ⟨47,0,[sI 7 v],[]⟩) (fun v => zBE n v = some r) ?_ ?_
 ·refine tB<|Tr.loop (ι := Nat × (Int × Int)) (fun v => ⟨47,0,[sI 8 v.2.1,sI 7 v.2.2,sA 3 3 3 0,sI 1 x1,sI 2 x2],[(3,(fR (Net.row x0)))]⟩) (fun v => ZB n v.1 x0 x1 x2 v.2.1 v.2.2 = some o4) (fun v => v.1) (n,(0,0)) eo4 (St.sub_of [8,7,3,1,2] [3] kr) ?_
  rintro ⟨mo4,y1,y2⟩ H
  have H : ZB n mo4 x0 x1 x2 y1 y2 = some o4 := H
  obtain _ | mo4 := mo4
  ·exact nN H
  rw [ZB] at H
  refine tS<|rA 3<|kF x0.Ls Link.row<|uA 1 16782 8 ?_
  obtain ⟨h1,H⟩ | ⟨h1,H⟩ := bC H
  ·refine nA h1<|Tr.exit<|aJ ?_
   obtain rfl := si H
   have H := Ho4
   dsimp only at H
   exact jA y2 H [7] []
  refine tA h1<|tK<|tS<|tB<|rA 3<|bE H fun v5 ev5 H=> iA Link.row ev5<|uA 3 910 520<|tS<|Tr.mid (ι := Int) (fun v => ⟨47,0,[sA 9 9 4 0,sI 8 y1,sI 7 v,sA 3 3 3 0,sI 1 x1,sI 2 x2],[(9,(Link.row v5)),(3,(fR (Net.row x0)))]⟩) (fun v => YE n (fun v => ZB n mo4 x0 x1 x2 v.1 v.2) v5 x1 x2 y1 v = some o4) ?_ ?_
  ·refine rA 5 ?_
   obtain ⟨h4,H⟩ | ⟨h4,H⟩ := bC H
   ·exact qL 67109774 520 [26] h4<|uA 5 2147484558 520<|nB_<|tK<|jA y2 H [9,8,7,3,1,2] [9,3]
   refine qL 67109774 520 [26] h4<|uA 5 2147484558 520 ?_
   obtain ⟨h5,H⟩ | ⟨h5,H⟩ := bC H
   ·exact nA h5<|tK<|jA y2 H [9,8,7,3,1,2] [9,3]
   exact tA h5<|eA 3 910 520<|jA (wI (y2 + 1)) H [9,8,7,3,1,2] [9,3]
  rintro y6 H
  have H : (YE n (fun v => ZB n mo4 x0 x1 x2 v.1 v.2) v5 x1 x2 y1 y6) = some o4 := H
  unfold YE at H
  refine rA 5 ?_
  obtain ⟨h2,H⟩ | ⟨h2,H⟩ := bC H
  ·exact qL 274877907854 520 [38] h2<|uA 5 8796093022606 8<|nB_<|tK<|eA 3 398 8<|jB mo4 ((wI (y1 + 1)),y6) H [8,7,3,1,2] [3]
  refine qL 274877907854 520 [38] h2<|uA 5 8796093022606 8 ?_
  obtain ⟨h3,H⟩ | ⟨h3,H⟩ := bC H
  ·exact nA h3<|tK<|eA 3 398 8<|jB mo4 ((wI (y1 + 1)),y6) H [8,7,3,1,2] [3]
  exact tA h3<|eA 3 398 8<|eA 3 398 8<|jB mo4 ((wI (y1 + 1)),(wI (y6 + 1))) H [8,7,3,1,2] [3]
 rintro y3 H
 have H : (zBE n y3) = some r := H
 unfold zBE at H
 exact gA 2 64 0<|te (fJ [(false,[cI y3])] H)
def zAZ (n : Nat) (y6 : (List Int)) (y7 : Int) (y8 : Int) (y9 : (List Link)) : Option ((List Link) × Src) :=
  (some (y9,(⟨y6,y7,y8⟩ : Src)))
def QB (n : Nat) (k : (Int × (List Int) × Int × Int × (List Link) → Option (((List Int) × Int × Int × (List Link)) ⊕ ((List Link) × Src)))) (r21 : Int × Src) (y1 : Int) (y15 : Int) (y16 : Int) (y23 : Int) (y25 : Int) (y5 : (List Link)) (y26 : Bool) : Option (((List Int) × Int × Int × (List Link)) ⊕ ((List Link) × Src)) :=
  (bif y26 then (bif (decide (y5.length + [(⟨y16,y23,y15,y25⟩ : Link)].length ≤ 268435456)) then (k ((IntKind.wrap .i64 (y1 + 1)),r21.2.b,r21.2.i,r21.2.h,(y5 ++ [(⟨y16,y23,y15,y25⟩ : Link)]))) else none) else (k ((IntKind.wrap .i64 (y1 + 1)),r21.2.b,r21.2.i,r21.2.h,y5)))
def JO (n : Nat) (k : (Int × (List Int) × Int × Int × (List Link) → Option (((List Int) × Int × Int × (List Link)) ⊕ ((List Link) × Src)))) (r21 : Int × Src) (y1 : Int) (y15 : Int) (y16 : Int) (y23 : Int) (y5 : (List Link)) (y25 : Int) : Option (((List Int) × Int × Int × (List Link)) ⊕ ((List Link) × Src)) :=
  (bif (y16 != y15) then ((QK n (⟨([] : List zA),y5,([] : List Say)⟩ : Net) y16 y23).bind fun r28 => (bif (r28 == 0) then ((QK n (⟨([] : List zA),y5,([] : List Say)⟩ : Net) y15 y25).bind fun r29 => (bif (r29 == 0) then (QB n k r21 y1 y15 y16 y23 y25 y5 (decide ((y5.length : Int) < 9))) else (QB n k r21 y1 y15 y16 y23 y25 y5 false))) else (QB n k r21 y1 y15 y16 y23 y25 y5 false))) else (QB n k r21 y1 y15 y16 y23 y25 y5 false))
def Qn (n : Nat) : Nat → Int → Int → (List Link) → Int → Option ((Int) ⊕ ((List Link) × Src))
  | 0,_,_,_,_ => none
  | mo30 + 1,x2,y15,y5,y24 => ((QK n (⟨([] : List zA),y5,([] : List Say)⟩ : Net) y15 y24).bind fun r31 => (bif (decide (r31 > 0)) then (bif (decide ((IntKind.wrap .i64 (y24 + 1)) < x2)) then (Qn n mo30 x2 y15 y5 (IntKind.wrap .i64 (y24 + 1))) else (some (Sum.inl y24))) else (some (Sum.inl y24))))
def JN (n : Nat) (k : (Int × (List Int) × Int × Int × (List Link) → Option (((List Int) × Int × Int × (List Link)) ⊕ ((List Link) × Src)))) (r21 : Int × Src) (x2 : Int) (y1 : Int) (y15 : Int) (y16 : Int) (y5 : (List Link)) (y23 : Int) : Option (((List Int) × Int × Int × (List Link)) ⊕ ((List Link) × Src)) :=
  ((Qn n n x2 y15 y5 r21.1).bind fun o => match o with | .inl y25 => (JO n k r21 y1 y15 y16 y23 y5 y25) | .inr r => some (Sum.inr r))
def Qo (n : Nat) : Nat → Int → Int → (List Link) → Int → Option ((Int) ⊕ ((List Link) × Src))
  | 0,_,_,_,_ => none
  | mo32 + 1,x2,y16,y5,y22 => ((QK n (⟨([] : List zA),y5,([] : List Say)⟩ : Net) y16 y22).bind fun r33 => (bif (decide (r33 > 0)) then (bif (decide ((IntKind.wrap .i64 (y22 + 1)) < x2)) then (Qo n mo32 x2 y16 y5 (IntKind.wrap .i64 (y22 + 1))) else (some (Sum.inl y22))) else (some (Sum.inl y22))))
def Zk (n : Nat) (k : (Int × (List Int) × Int × Int × (List Link) → Option (((List Int) × Int × Int × (List Link)) ⊕ ((List Link) × Src)))) (x2 : Int) (y1 : Int) (y5 : (List Link)) (y15 : Int) (y16 : Int) (y17 : (List Int)) (y18 : Int) (y19 : Int) : Option (((List Int) × Int × Int × (List Link)) ⊕ ((List Link) × Src)) :=
  ((zF n (⟨y17,y18,y19⟩ : Src) x2).bind fun r20 => ((zF n r20.2 x2).bind fun r21 => ((Qo n n x2 y16 y5 r20.1).bind fun o => match o with | .inl y23 => (JN n k r21 x2 y1 y15 y16 y5 y23) | .inr r => some (Sum.inr r))))
def zn (n : Nat) : Nat → Int → Int → Int → (List Int) → Int → Int → (List Link) → Option (((List Int) × Int × Int × (List Link)) ⊕ ((List Link) × Src))
  | 0,_,_,_,_,_,_,_ => none
  | mo10 + 1,x1,x2,y1,y2,y3,y4,y5 => ((zF n (⟨y2,y3,y4⟩ : Src) 4).bind fun r11 => (bif (decide (y1 < (IntKind.wrap .i64 (x1 + r11.1)))) then ((zF n r11.2 x1).bind fun r12 => ((zF n r12.2 2).bind fun r13 => (bif (decide ((x1 : Int) ≠ 0)) then (bif (decide (y1 < (IntKind.wrap .i64 (x1 - 1)))) then ((QC n r13.2 5).bind fun r34 => (bif (!r34.1) then (Zk n (fun v => zn n mo10 x1 x2 v.1 v.2.1 v.2.2.1 v.2.2.2.1 v.2.2.2.2) x2 y1 y5 (IntKind.wrap .i64 (y1 + 1)) y1 r34.2.b r34.2.i r34.2.h) else (Zk n (fun v => zn n mo10 x1 x2 v.1 v.2.1 v.2.2.1 v.2.2.2.1 v.2.2.2.2) x2 y1 y5 (Int.tmod (IntKind.wrap .i64 ((IntKind.wrap .i64 (r12.1 + 1)) + r13.1)) x1) r12.1 r34.2.b r34.2.i r34.2.h))) else (Zk n (fun v => zn n mo10 x1 x2 v.1 v.2.1 v.2.2.1 v.2.2.2.1 v.2.2.2.2) x2 y1 y5 (Int.tmod (IntKind.wrap .i64 ((IntKind.wrap .i64 (r12.1 + 1)) + r13.1)) x1) r12.1 r13.2.b r13.2.i r13.2.h)) else none))) else (some (Sum.inl (r11.2.b,r11.2.i,r11.2.h,y5)))))
def Y7 (n : Nat) (x0 : Src) (x1 : Int) (x2 : Int) : Option ((List Link) × Src) :=
  ((zn n n x1 x2 0 x0.b x0.i x0.h ([] : List Link)).bind fun o => match o with | .inl (y6,y7,y8,y9) => (zAZ n y6 y7 y8 y9) | .inr r => some r)
noncomputable abbrev zAQ (k : Nat) := Rg Tryz.f121 k
theorem zGw (n : Nat) (x0 : Src) (x1 : Int) (x2 : Int) (r : (List Link) × Src) (H : Y7 n x0 x1 x2 = some r) : zJ Tryz.prog 121 [.ptr (fR (Src.row x0)),.val false [.lit (.int .i64 x1)],.val false [.lit (.int .i64 x2)]] [.val false [.sl true 4 (r.1.map Link.row)]] [(0,(fR (Src.row r.2)))] := by
 refine zJ.of_body tOk Tryz.func121 rfl (c := (.seq (zAQ 0) (.seq (zAQ 1) (.seq (.seq (zAQ 2) (.block 0 (.loop (.seq (.seq (zAQ 3) (.cond (.tmp 19) .skip (.exit 0))) (.seq (.block 1 (.seq (zAQ 5) (.seq (zAQ 6) (.seq (.seq (zAQ 7) (.cond (.tmp 40) (.seq (zAQ 8) (zAQ 9)) .skip)) (.seq (zAQ 10) (.seq (zAQ 11) (.seq (.block 2 (.loop (.seq (.seq (zAQ 12) (.cond (.tmp 60) .skip (.exit 2))) (.block 3 (zAQ 13))))) (.seq (.block 4 (.loop (.seq (.seq (zAQ 14) (.cond (.tmp 73) .skip (.exit 4))) (.block 5 (zAQ 15))))) (.seq (zAQ 16) (.cond (.tmp 98) (zAQ 17) .skip)))))))))) (zAQ 4)))))) (.seq (zAQ 18) .ret))))) kr (Nat.le_of_ble_eq_true kr) 1 (rs := [.tmp 6]) rfl [] .nil [(false,[.sl true 4 (r.1.map Link.row)])] [] [(0,(fR (Src.row r.2)))] fun cx=>?_
 show Tr _ _ _ ⟨111,1,[sA 0 0 3 0,sI 1 x1,sI 2 x2],[(0,(fR (Src.row x0)))]⟩ _
 unfold Y7 at H
 refine gA 1 7 1<|gA 3 135 129<|tS<|gA 1 391 129 ?_
 obtain ⟨o10,eo10,Ho10⟩ := bs H
 clear H
 refine Tr.mid (ι := (List Int) × Int × Int × (List Link)) (fun v => ⟨111,1,[sA 7 7 3 0,sA 0 0 3 0],[(0,[cF 1 v.1 zd,cI v.2.1,cI v.2.2.1]),(7,[cL 11 ([] : List zA) zA.row,cL 4 v.2.2.2 Link.row,cL 7 ([] : List Say) Say.row])]⟩) (fun v => zAZ n v.1 v.2.1 v.2.2.1 v.2.2.2 = some r) ?_ ?_
 ·refine tB<|Tr.loop (ι := Nat × (Int × (List Int) × Int × Int × (List Link))) (fun v => ⟨111,1,[sI 8 v.2.1,sA 7 7 3 0,sA 0 0 3 0,sI 1 x1,sI 2 x2],[(7,[cL 11 ([] : List zA) zA.row,cL 4 v.2.2.2.2.2 Link.row,cL 7 ([] : List Say) Say.row]),(0,[cF 1 v.2.2.1 zd,cI v.2.2.2.1,cI v.2.2.2.2.1])]⟩) (fun v => zn n v.1 x1 x2 v.2.1 v.2.2.1 v.2.2.2.1 v.2.2.2.2.1 v.2.2.2.2.2 = some o10) (fun v => v.1) (n,(0,x0.b,x0.i,x0.h,([] : List Link))) eo10 (St.sub_of [8,7,0,1,2] [7,0] kr) ?_
  rintro ⟨mo10,y1,y2,y3,y4,y5⟩ H
  have H : zn n mo10 x1 x2 y1 y2 y3 y4 y5 = some o10 := H
  obtain _ | mo10 := mo10
  ·exact nN H
  rw [zn] at H
  refine tS<|rA 3<|bE H fun r11 er11 H=> vL [.lend,.rd] (zL n (⟨y2,y3,y4⟩ : Src) 4 r11 er11)<|uA 2 524679 129 ?_
  obtain ⟨h1,H⟩ | ⟨h1,H⟩ := bC H
  ·refine nA h1<|Tr.exit<|aJ ?_
   obtain rfl := si H
   have H := Ho10
   dsimp only at H
   exact jA (r11.2.b,r11.2.i,r11.2.h,y5) H [7,0] [0,7]
  refine tA h1<|tK<|tS<|tB<|rA 2<|bE H fun r12 er12 H=> vL [.lend,.rd] (zL n r11.2 x1 r12 er12)<|uA 1 903 129<|rA 3<|bE H fun r13 er13 H=> vL [.lend,.rd] (zL n r12.2 2 r13 er13)<|lA 2<|gE H fun hg14 H=> LAt.binC tOk (op := .rem) (t := 3) (ty := 3) (ty' := 3) (x := (.tmp 29)) (y := (.tmp 30)) (d := 31) (g := none) (.int .i64 (wI ((wI (r12.1 + 1)) + r13.1))) (.int .i64 x1) (.int .i64 (Int.tmod (wI ((wI (r12.1 + 1)) + r13.1)) x1)) _ kr kr kr kr kr (φ := (IntKind.i64 = IntKind.i64 ∧ (x1 : Int) ≠ 0)) kr (⟨rfl,of_decide_eq_true hg14⟩) rfl<|uA 1 1927 129<|tS<|Tr.mid (ι := Int × Int × (List Int) × Int × Int) (fun v => ⟨111,1,[sI 10 v.1,sI 9 v.2.1,sI 8 y1,sA 7 7 3 0,sA 0 0 3 0,sI 1 x1,sI 2 x2],[(0,[cF 1 v.2.2.1 zd,cI v.2.2.2.1,cI v.2.2.2.2]),(7,[cL 11 ([] : List zA) zA.row,cL 4 y5 Link.row,cL 7 ([] : List Say) Say.row])]⟩) (fun v => Zk n (fun v => zn n mo10 x1 x2 v.1 v.2.1 v.2.2.1 v.2.2.2.1 v.2.2.2.2) x2 y1 y5 v.1 v.2.1 v.2.2.1 v.2.2.2.1 v.2.2.2.2 = some o10) ?_ ?_
  ·refine rA 5 ?_
   obtain ⟨h10,H⟩ | ⟨h10,H⟩ := bC H
   ·exact qL 68719478663 129 [36] h10<|uA 4 1099511629703 129<|nB_<|tK<|jA ((Int.tmod (wI ((wI (r12.1 + 1)) + r13.1)) x1),r12.1,r13.2.b,r13.2.i,r13.2.h) H [10,9,8,7,0,1,2] [0,7]
   refine qL 68719478663 129 [36] h10<|lA 1<|bE H fun r34 er34 H=> vL [.lend,.rd] (zCD n r13.2 5 r34 er34)<|uA 2 1099511629703 129 ?_
   obtain ⟨h11,H⟩ | ⟨h11,H⟩ := bC H
   ·exact nA h11<|tK<|jA ((Int.tmod (wI ((wI (r12.1 + 1)) + r13.1)) x1),r12.1,r34.2.b,r34.2.i,r34.2.h) H [10,9,8,7,0,1,2] [0,7]
   exact tA h11<|gA 2 903 129<|eA 3 1927 129<|jA ((wI (y1 + 1)),y1,r34.2.b,r34.2.i,r34.2.h) H [10,9,8,7,0,1,2] [0,7]
  rintro ⟨y15,y16,y17,y18,y19⟩ H
  have H : (Zk n (fun v => zn n mo10 x1 x2 v.1 v.2.1 v.2.2.1 v.2.2.2.1 v.2.2.2.2) x2 y1 y5 y15 y16 y17 y18 y19) = some o10 := H
  unfold Zk at H
  refine rA 2<|bE H fun r20 er20 H=> vL [.lend,.rd] (zL n (⟨y17,y18,y19⟩ : Src) x2 r20 er20)<|uA 1 3975 129<|rA 2<|bE H fun r21 er21 H=> vL [.lend,.rd] (zL n r20.2 x2 r21 er21)<|uA 1 8071 129<|tS ?_
  obtain ⟨o32,eo32,Ho32⟩ := bs H
  clear H
  refine Tr.mid (ι := Int) (fun v => ⟨111,1,[sI 12 r21.1,sI 11 v,sI 10 y15,sI 9 y16,sI 8 y1,sA 7 7 3 0,sA 0 0 3 0,sI 1 x1,sI 2 x2],[(0,(fR (Src.row r21.2))),(7,[cL 11 ([] : List zA) zA.row,cL 4 y5 Link.row,cL 7 ([] : List Say) Say.row])]⟩) (fun v => JN n (fun v => zn n mo10 x1 x2 v.1 v.2.1 v.2.2.1 v.2.2.2.1 v.2.2.2.2) r21 x2 y1 y15 y16 y5 v = some o10) ?_ ?_
  ·refine tB<|Tr.loop (ι := Nat × (Int)) (fun v => ⟨111,1,[sI 12 r21.1,sI 11 v.2,sI 10 y15,sI 9 y16,sI 8 y1,sA 7 7 3 0,sA 0 0 3 0,sI 1 x1,sI 2 x2],[(0,(fR (Src.row r21.2))),(7,[cL 11 ([] : List zA) zA.row,cL 4 y5 Link.row,cL 7 ([] : List Say) Say.row])]⟩) (fun v => Qo n v.1 x2 y16 y5 v.2 = some o32) (fun v => v.1) (n,r20.1) eo32 (St.sub_of [12,11,10,9,8,7,0,1,2] [0,7] kr) ?_
   rintro ⟨mo32,y22⟩ H
   have H : Qo n mo32 x2 y16 y5 y22 = some o32 := H
   obtain _ | mo32 := mo32
   ·exact nN H
   rw [Qo] at H
   refine tS<|rA 3<|bE H fun r33 er33 H=> vB [.rd,.rd,.rd] [.box 7] (zAH n (⟨([] : List zA),y5,([] : List Say)⟩ : Net) y16 y22 r33 er33) (.inr (zO (zE zM zS) zW))<|lA 2 ?_
   obtain ⟨h8,H⟩ | ⟨h8,H⟩ := bC H
   ·refine qL 0x80000000001f87 129 [55] h8<|uA 5 0x1000000000001f87 129<|nB_<|Tr.exit<|aJ ?_
    obtain rfl := si H
    have H := Ho32
    dsimp only at H
    exact jA y22 H [12,11,10,9,8,7,0,1,2] [0,7]
   refine qL 0x80000000001f87 129 [55] h8<|uA 5 0x1000000000001f87 129 ?_
   obtain ⟨h9,H⟩ | ⟨h9,H⟩ := bC H
   ·refine nA h9<|Tr.exit<|aJ ?_
    obtain rfl := si H
    have H := Ho32
    dsimp only at H
    exact jA y22 H [12,11,10,9,8,7,0,1,2] [0,7]
   exact tA h9<|tK<|tB<|eA 3 8071 129<|jB mo32 (wI (y22 + 1)) H [12,11,10,9,8,7,0,1,2] [0,7]
  rintro y23 H
  have H : (JN n (fun v => zn n mo10 x1 x2 v.1 v.2.1 v.2.2.1 v.2.2.2.1 v.2.2.2.2) r21 x2 y1 y15 y16 y5 y23) = some o10 := H
  unfold JN at H
  refine tS ?_
  obtain ⟨o30,eo30,Ho30⟩ := bs H
  clear H
  refine Tr.mid (ι := Int) (fun v => ⟨111,1,[sI 12 v,sI 11 y23,sI 10 y15,sI 9 y16,sI 8 y1,sA 7 7 3 0,sA 0 0 3 0,sI 1 x1,sI 2 x2],[(0,(fR (Src.row r21.2))),(7,[cL 11 ([] : List zA) zA.row,cL 4 y5 Link.row,cL 7 ([] : List Say) Say.row])]⟩) (fun v => JO n (fun v => zn n mo10 x1 x2 v.1 v.2.1 v.2.2.1 v.2.2.2.1 v.2.2.2.2) r21 y1 y15 y16 y23 y5 v = some o10) ?_ ?_
  ·refine tB<|Tr.loop (ι := Nat × (Int)) (fun v => ⟨111,1,[sI 12 v.2,sI 11 y23,sI 10 y15,sI 9 y16,sI 8 y1,sA 7 7 3 0,sA 0 0 3 0,sI 1 x1,sI 2 x2],[(0,(fR (Src.row r21.2))),(7,[cL 11 ([] : List zA) zA.row,cL 4 y5 Link.row,cL 7 ([] : List Say) Say.row])]⟩) (fun v => Qn n v.1 x2 y15 y5 v.2 = some o30) (fun v => v.1) (n,r21.1) eo30 (St.sub_of [12,11,10,9,8,7,0,1,2] [0,7] kr) ?_
   rintro ⟨mo30,y24⟩ H
   have H : Qn n mo30 x2 y15 y5 y24 = some o30 := H
   obtain _ | mo30 := mo30
   ·exact nN H
   rw [Qn] at H
   refine tS<|rA 3<|bE H fun r31 er31 H=> vB [.rd,.rd,.rd] [.box 7] (zAH n (⟨([] : List zA),y5,([] : List Say)⟩ : Net) y15 y24 r31 er31) (.inr (zO (zE zM zS) zW))<|lA 2 ?_
   obtain ⟨h6,H⟩ | ⟨h6,H⟩ := bC H
   ·refine qL 0x100000000000001f87 129 [68] h6<|uA 5 0x2000000000000001f87 129<|nB_<|Tr.exit<|aJ ?_
    obtain rfl := si H
    have H := Ho30
    dsimp only at H
    exact jA y24 H [12,11,10,9,8,7,0,1,2] [0,7]
   refine qL 0x100000000000001f87 129 [68] h6<|uA 5 0x2000000000000001f87 129 ?_
   obtain ⟨h7,H⟩ | ⟨h7,H⟩ := bC H
   ·refine nA h7<|Tr.exit<|aJ ?_
    obtain rfl := si H
    have H := Ho30
    dsimp only at H
    exact jA y24 H [12,11,10,9,8,7,0,1,2] [0,7]
   exact tA h7<|tK<|tB<|eA 3 8071 129<|jB mo30 (wI (y24 + 1)) H [12,11,10,9,8,7,0,1,2] [0,7]
  rintro y25 H
  have H : (JO n (fun v => zn n mo10 x1 x2 v.1 v.2.1 v.2.2.1 v.2.2.2.1 v.2.2.2.2) r21 y1 y15 y16 y23 y5 y25) = some o10 := H
  unfold JO at H
  refine tS<|Tr.mid (ι := Bool) (fun v => ⟨111,1,[sB 98 v,sI 12 y25,sI 11 y23,sI 10 y15,sI 9 y16,sI 8 y1,sA 7 7 3 0,sA 0 0 3 0,sI 1 x1,sI 2 x2],[(0,(fR (Src.row r21.2))),(7,[cL 11 ([] : List zA) zA.row,cL 4 y5 Link.row,cL 7 ([] : List Say) Say.row])]⟩) (fun v => QB n (fun v => zn n mo10 x1 x2 v.1 v.2.1 v.2.2.1 v.2.2.2.1 v.2.2.2.2) r21 y1 y15 y16 y23 y25 y5 v = some o10) ?_ ?_
  ·refine Tr.at<|lA 4 ?_
   obtain ⟨h3,H⟩ | ⟨h3,H⟩ := bC H
   ·exact qL 0x80000000000000001f87 129 [79] h3<|uA 19 0x4000000000000000000001f87 129<|jA false H [98,12,11,10,9,8,7,0,1,2] [0,7]
   refine qL 0x80000000000000001f87 129 [79] h3<|lA 3<|bE H fun r28 er28 H=> vB [.rd,.rd,.rd] [.box 7] (zAH n (⟨([] : List zA),y5,([] : List Say)⟩ : Net) y16 y23 r28 er28) (.inr (zO (zE zM zS) zW))<|lA 3 ?_
   obtain ⟨h4,H⟩ | ⟨h4,H⟩ := bC H
   ·exact qL 0x4000000000000000001f87 129 [86] h4<|uA 12 0x4000000000000000000001f87 129<|jA false H [98,12,11,10,9,8,7,0,1,2] [0,7]
   refine qL 0x4000000000000000001f87 129 [86] h4<|lA 3<|bE H fun r29 er29 H=> vB [.rd,.rd,.rd] [.box 7] (zAH n (⟨([] : List zA),y5,([] : List Say)⟩ : Net) y15 y25 r29 er29) (.inr (zO (zE zM zS) zW))<|lA 3 ?_
   obtain ⟨h5,H⟩ | ⟨h5,H⟩ := bC H
   ·exact qL 0x200000000000000000001f87 129 [93] h5<|uA 5 0x4000000000000000000001f87 129<|jA false H [98,12,11,10,9,8,7,0,1,2] [0,7]
   exact qL 0x200000000000000000001f87 129 [93] h5<|lA 2<|kO y5 Link.row<|uA 2 0x4000000000000000000001f87 129<|jA (decide ((y5.length : Int) < 9)) H [98,12,11,10,9,8,7,0,1,2] [0,7]
  rintro y26 H
  have H : (QB n (fun v => zn n mo10 x1 x2 v.1 v.2.1 v.2.2.1 v.2.2.2.1 v.2.2.2.2) r21 y1 y15 y16 y23 y25 y5 y26) = some o10 := H
  unfold QB at H
  cases h2 : y26
  ·have H := q3 h2 H
   exact nB_<|tK<|eA 3 391 129<|jB mo10 ((wI (y1 + 1)),r21.2.b,r21.2.i,r21.2.h,y5) H [8,7,0,1,2] [7,0]
  have H := q7 h2 H
  exact tB_<|Tr.at<|lA 8<|gE H fun hg27 H=> LAt.appMU tOk (t := 50) (ty := 50) (e := 78) (x := (.tmp 100)) (y := (.tmp 106)) (d := 107) (g := none) (tI 78) Link.row y5 [(⟨y16,y23,y15,y25⟩ : Link)] kr kr kr kr kr kr kr kr kr kr hg27<|uA 2 391 129<|eA 3 391 129<|jB mo10 ((wI (y1 + 1)),r21.2.b,r21.2.i,r21.2.h,(y5 ++ [(⟨y16,y23,y15,y25⟩ : Link)])) H [8,7,0,1,2] [7,0]
 rintro ⟨y6,y7,y8,y9⟩ H
 have H : (zAZ n y6 y7 y8 y9) = some r := H
 unfold zAZ at H
 exact gA 3 65 129<|te<|fY [(false,[cL 4 y9 Link.row])] [(0,[cF 1 y6 zd,cI y7,cI y8])] H
def zY (n : Nat) (x0 : Src) (x1 : (List Int)) : Option (Int × Src) :=
  ((zF n x0 (x1.length : Int)).bind fun r1 => ((idx x1 r1.1).bind fun v2 => (some (v2,r1.2))))
noncomputable abbrev G78 (k : Nat) := Rg Tryz.f78 k
theorem zi (n : Nat) (x0 : Src) (x1 : (List Int)) (r : Int × Src) (H : zY n x0 x1 = some r) : zJ Tryz.prog 78 [.ptr (fR (Src.row x0)),.val false [.sl false 1 (CV.frzEs (x1.map intRow))]] [.val false [.lit (.int .i64 r.1)]] [(0,(fR (Src.row r.2)))] := by
 refine zJ.of_body tOk Tryz.func78 rfl (c := (.seq (G78 0) (.seq (G78 1) .ret))) kr (Nat.le_of_ble_eq_true kr) 1 (rs := [.tmp 4]) rfl [] .nil [(false,[.lit (.int .i64 r.1)])] [] [(0,(fR (Src.row r.2)))] fun cx=>?_
 show Tr _ _ _ ⟨12,1,[sA 0 0 3 0,sC 1 (cF 1 x1 intRow)],[(0,(fR (Src.row x0)))]⟩ _
 unfold zY at H
 exact gA 1 3 1<|rA 3<|kF x1 intRow<|bE H fun r1 er1 H=> vL [.lend,.rd] (zL n x0 (x1.length : Int) r1 er1)<|bE H fun v2 ev2 H=> iA intRow ev2<|uA 2 17 1<|te<|fY [(false,[cI v2])] [(0,(fR (Src.row r1.2)))] H
def JH (n : Nat) (x0 : (List Int)) : Option ((List Int) × Int × (List Link)) :=
  ((Y3 n x0).bind fun r1 => ((zF n r1 6).bind fun r2 => ((zF n r2.2 4).bind fun r3 => ((zAG n r3.2 (IntKind.wrap .i64 (1 + r2.1))).bind fun r4 => ((Y7 n r4.2 (IntKind.wrap .i64 (1 + r2.1)) (IntKind.wrap .i64 (2 + r3.1))).bind fun r5 => ((zF n r5.2 10).bind fun r6 => (bif (r6.1 == 0) then ((zY n r6.2 [0,7,99,100]).bind fun r10 => ((idx r4.1 0).bind fun v11 => (some ((r4.1.set (((0 : Int)).toNat) r10.1),(IntKind.wrap .i64 (2 + r3.1)),r5.1)))) else (bif (r6.1 == 1) then ((zY n r6.2 [0,1,7]).bind fun r9 => (some (r4.1,r9.1,r5.1))) else (bif (r6.1 == 2) then (bif (decide (r5.1.length + [(⟨0,0,0,1⟩ : Link)].length ≤ 268435456)) then (some (r4.1,(IntKind.wrap .i64 (2 + r3.1)),(r5.1 ++ [(⟨0,0,0,1⟩ : Link)]))) else none) else (bif (r6.1 == 3) then (bif (decide (r4.1.length + [50,51].length ≤ 268435456)) then (some ((r4.1 ++ [50,51]),(IntKind.wrap .i64 (2 + r3.1)),r5.1)) else none) else (some (r4.1,(IntKind.wrap .i64 (2 + r3.1)),r5.1))))))))))))
theorem zJb (n : Nat) (x0 : (List Int)) (r : (List Int) × Int × (List Link)) (H : JH n x0 = some r) : zJ Tryz.prog 38 [.val false [.sl false 1 (CV.frzEs (x0.map zd))]] [.val false [.sl true 1 (r.1.map intRow)],.val false [.lit (.int .i64 r.2.1)],.val false [.sl true 4 (r.2.2.map Link.row)]] [] := by
 refine cW Tryz.func38 (fun g d => sl [g 0,g 1,g 2,g 3,g 4,g 5,sl [g 6] (.block 0 (sl [g 7] (cn 27 (g 8) (sl [g 9] (cn 34 (g 10) (sl [g 11] (cn 39 (g 12) (sl [g 13] (cn 45 (g 14) .skip))))))))),g 15] .ret) [.tmp 2,.tmp 3,.tmp 4] fun cx=>?_
 unfold JH at H
 refine gA 3 1 0<|rA 1<|bE H fun r1 er1 H=> vA [.rd] (zEq n x0 r1 er1)<|uA 1 32 2048<|rA 1<|bE H fun r2 er2 H=> vL [.lend,.rd] (zL n r1 6 r2 er2)<|uA 2 96 2048<|rA 1<|bE H fun r3 er3 H=> vL [.lend,.rd] (zL n r2.2 4 r3 er3)<|uA 2 224 2048<|rA 2<|bE H fun r4 er4 H=> vL [.lend,.rd] (zIQ n r3.2 (wI (1 + r2.1)) r4 er4)<|LAt.moveU (T := lk tab) (ty := 27) (x := (.tmp 20)) (d := 8) (g := none) false [cL 1 r4.1 intRow] kr kr kr kr kr<|dA 480 2048<|rA 3<|bE H fun r5 er5 H=> vL [.lend,.rd,.rd] (zGw n r4.2 (wI (1 + r2.1)) (wI (2 + r3.1)) r5 er5)<|LAt.moveU (T := lk tab) (ty := 50) (x := (.tmp 24)) (d := 9) (g := none) false [cL 4 r5.1 Link.row] kr kr kr kr kr<|dA 928 2048<|tS<|rA 1<|bE H fun r6 er6 H=> vL [.lend,.rd] (zL n r5.2 10 r6 er6)<|dA 67109792 2048<|tB<|gA 2 201327520 2048 ?_
 obtain ⟨h1,H⟩ | ⟨h1,H⟩ := bC H
 ·refine qT [27] h1<|nB_<|gA 2 17246978976 2048 ?_
  obtain ⟨h2,H⟩ | ⟨h2,H⟩ := bC H
  ·refine nA h2<|gA 2 549822923648 0 ?_
   obtain ⟨h3,H⟩ | ⟨h3,H⟩ := bC H
   ·refine nA h3<|gA 2 35184372089728 0 ?_
    obtain ⟨h4,H⟩ | ⟨h4,H⟩ := bC H
    ·exact nA h4<|tK<|gA 6 796 0<|te (fJ [(false,[cL 1 r4.1 intRow]),(false,[cI (wI (2 + r3.1))]),(false,[cL 4 r5.1 Link.row])] H)
    exact tA h4<|Tr.at<|lA 2<|gE H fun hg7 H=> LAt.appMU tOk (t := 27) (ty := 27) (e := 3) (x := (.tmp 47)) (y := (.tmp 48)) (d := 49) (g := none) (tI 3) intRow r4.1 [50,51] kr kr kr kr kr kr kr kr kr kr hg7<|LAt.moveU (T := lk tab) (ty := 27) (x := (.tmp 49)) (d := 8) (g := none) false [cL 1 (r4.1 ++ [50,51]) intRow] kr kr kr kr kr<|dA 896 0<|gA 6 796 0<|te (fJ [(false,[cL 1 (r4.1 ++ [50,51]) intRow]),(false,[cI (wI (2 + r3.1))]),(false,[cL 4 r5.1 Link.row])] H)
   exact tA h3<|Tr.at<|lA 3<|gE H fun hg8 H=> LAt.appMU tOk (t := 50) (ty := 50) (e := 78) (x := (.tmp 41)) (y := (.tmp 43)) (d := 44) (g := none) (tI 78) Link.row r5.1 [(⟨0,0,0,1⟩ : Link)] kr kr kr kr kr kr kr kr kr kr hg8<|LAt.moveU (T := lk tab) (ty := 50) (x := (.tmp 44)) (d := 9) (g := none) false [cL 4 (r5.1 ++ [(⟨0,0,0,1⟩ : Link)]) Link.row] kr kr kr kr kr<|dA 896 0<|gA 6 796 0<|te (fJ [(false,[cL 1 r4.1 intRow]),(false,[cI (wI (2 + r3.1))]),(false,[cL 4 (r5.1 ++ [(⟨0,0,0,1⟩ : Link)]) Link.row])] H)
  exact tA h2<|Tr.at<|lA 2<|bE H fun r9 er9 H=> vL [.lend,.rd] (zi n r6.2 [0,1,7] r9 er9)<|uA 1 896 0<|gA 6 796 0<|te (fJ [(false,[cL 1 r4.1 intRow]),(false,[cI r9.1]),(false,[cL 4 r5.1 Link.row])] H)
 exact qT [27] h1<|tB_<|Tr.at<|lA 3<|bE H fun r10 er10 H=> vL [.lend,.rd] (zi n r6.2 [0,7,99,100] r10 er10)<|bE H fun v11 ev11 H=> oA intRow ev11<|sS (tI 3) false [cI r10.1] 8 0 (((0 : Int)).toNat) 1 0 1 intRow r10.1 (zN ev11).2<|dA 896 0<|gA 6 796 0<|te (fJ [(false,[cL 1 (r4.1.set (((0 : Int)).toNat) r10.1) intRow]),(false,[cI (wI (2 + r3.1))]),(false,[cL 4 r5.1 Link.row])] H)
def qE (n : Nat) (x0 : Int) (x1 : Int) (x2 : Int) : Option (Bool) :=
  (bif (decide (x0 ≥ x1)) then (some (decide (x0 ≤ x2))) else (some false))
theorem qU (n : Nat) (x0 : Int) (x1 : Int) (x2 : Int) (r : Bool) (H : qE n x0 x1 x2 = some r) : zJ Tryz.prog 82 [.val false [.lit (.int .i64 x0)],.val false [.lit (.int .i64 x1)],.val false [.lit (.int .i64 x2)]] [.val false [.lit (.bool r)]] [] := by
 refine cW Tryz.func82 (fun g d => sl [g 0,g 1] .ret) [.tmp 6] fun cx=>?_
 unfold qE at H
 refine gA 1 7 0<|rA 4 ?_
 obtain ⟨h1,H⟩ | ⟨h1,H⟩ := bC H
 ·exact qL 1029 0 [10] h1<|uA 5 64 0<|te (fF H)
 exact qL 1029 0 [10] h1<|uA 5 64 0<|te (fJ [(false,[cB (decide (x0 ≤ x2))])] H)
def Zs (n : Nat) (x0 : Int) : Option (Int) :=
  (bif (decide ((0 : Int) ≤ x0)) then (some (IntKind.wrap .i64 ((IntKind.wrap .i64 (1 * 2 ^ min ((x0 : Int)).toNat (IntKind.bits .i64))) - 1))) else none)
theorem JY (n : Nat) (x0 : Int) (r : Int) (H : Zs n x0 = some r) : zJ Tryz.prog 158 [.val false [.lit (.int .i64 x0)]] [.val false [.lit (.int .i64 r)]] [] := by
 refine cW Tryz.func158 (fun g d => sl [g 0,g 1] .ret) [.tmp 2] fun cx=>?_
 unfold Zs at H
 exact gA 1 1 0<|rA 1<|gE H fun hg1 H=> LAt.binC tOk (op := .shl) (t := 3) (ty := 3) (ty' := 3) (x := (.const (.int .i64 1))) (y := (.tmp 3)) (d := 4) (g := none) (.int .i64 1) (.int .i64 x0) (.int .i64 (wI (1 * 2 ^ min ((x0 : Int)).toNat (IntKind.bits .i64)))) _ kr kr kr kr kr (φ := (0 : Int) ≤ x0) kr (of_decide_eq_true hg1) rfl<|uA 2 4 0<|te (fJ [(false,[cI (wI ((wI (1 * 2 ^ min ((x0 : Int)).toNat (IntKind.bits .i64))) - 1))])] H)
def zA6 (n : Nat) (r2 : Int) (r3 : Int) (y6 : (List Int)) : Option (zD) :=
  (some (⟨[(⟨1,r2,r3⟩ : zC)],y6⟩ : zD))
def Jf (n : Nat) : Nat → Int → Int → (List Int) → Option (((List Int)) ⊕ (zD))
  | 0,_,_,_ => none
  | mo7 + 1,x0,y4,y5 => (bif (decide (y4 < x0)) then (bif (decide (y5.length + [1].length ≤ 268435456)) then (Jf n mo7 x0 (IntKind.wrap .i64 (y4 + 1)) (y5 ++ [1])) else none) else (some (Sum.inl y5)))
def zCO (n : Nat) (x0 : Int) : Option (zD) :=
  ((qE n x0 1 6).bind fun r1 => (bif (!r1) then (some (⟨([] : List zC),([] : List Int)⟩ : zD)) else ((Zs n x0).bind fun r2 => ((Zs n x0).bind fun r3 => ((Jf n n x0 0 ([] : List Int)).bind fun o => match o with | .inl y6 => (zA6 n r2 r3 y6) | .inr r => some r)))))
theorem zLc (n : Nat) (x0 : Int) (r : zD) (H : zCO n x0 = some r) : zJ Tryz.prog 83 [.val false [.lit (.int .i64 x0)]] [.val true (zD.row r)] [] := by
 refine cW Tryz.func83 (fun g d => sl [g 0,sl [g 1] (cn 6 (sl [g 2] .ret) .skip),g 3,sl [g 4] (.block 0 (.loop (sl [g 5,cn 17 .skip (.exit 0),.block 1 (g 6)] (g 7)))),g 8] .ret) [.cell 2 29] fun cx=>?_
 unfold zCO at H
 refine gA 1 5 4<|tS<|rA 1<|bE H fun r1 er1 H=> vA [.rd,.rd,.rd] (qU n x0 1 6 r1 er1)<|uA 1 69 4 ?_
 obtain ⟨h1,H⟩ | ⟨h1,H⟩ := bC H
 ·refine nA h1<|tK<|rA 1<|bE H fun r2 er2 H=> vA [.rd] (JY n x0 r2 er2)<|lA 1<|bE H fun r3 er3 H=> vA [.rd] (JY n x0 r3 er3)<|uA 5 13 12<|tS<|gA 2 98316 12 ?_
  obtain ⟨o7,eo7,Ho7⟩ := bs H
  clear H
  refine Tr.mid (ι := (List Int)) (fun v => ⟨25,0,[sA 3 3 2 0,sA 2 2 2 0],[(3,[cL 3 [(⟨1,r2,r3⟩ : zC)] zC.row,cL 1 v intRow]),(2,[cL 3 ([] : List zC) zC.row,cL 1 ([] : List Int) intRow])]⟩) (fun v => zA6 n r2 r3 v = some r) ?_ ?_
  ·refine tB<|Tr.loop (ι := Nat × (Int × (List Int))) (fun v => ⟨25,0,[sI 16 v.2.1,sI 15 x0,sA 3 3 2 0,sA 2 2 2 0],[(3,[cL 3 [(⟨1,r2,r3⟩ : zC)] zC.row,cL 1 v.2.2 intRow]),(2,[cL 3 ([] : List zC) zC.row,cL 1 ([] : List Int) intRow])]⟩) (fun v => Jf n v.1 x0 v.2.1 v.2.2 = some o7) (fun v => v.1) (n,(0,([] : List Int))) eo7 (St.sub_of [16,15,3,2] [3,2] kr) ?_
   rintro ⟨mo7,y4,y5⟩ H
   have H : Jf n mo7 x0 y4 y5 = some o7 := H
   obtain _ | mo7 := mo7
   ·exact nN H
   rw [Jf] at H
   refine gA 1 229388 12<|tS ?_
   obtain ⟨h2,H⟩ | ⟨h2,H⟩ := bC H
   ·refine nA h2<|Tr.exit<|aJ ?_
    obtain rfl := si H
    have H := Ho7
    dsimp only at H
    exact jA y5 H [3,2] [3,2]
   exact tA h2<|tK<|tS<|tB<|Tr.at<|lA 3<|gE H fun hg8 H=> LAt.appMU tOk (t := 27) (ty := 27) (e := 3) (x := (.tmp 19)) (y := (.tmp 20)) (d := 21) (g := none) (tI 3) intRow y5 [1] kr kr kr kr kr kr kr kr kr kr hg8<|uA 2 98316 12<|eA 2 98316 12<|jB mo7 ((wI (y4 + 1)),(y5 ++ [1])) H [16,15,3,2] [3,2]
  rintro y6 H
  have H : (zA6 n r2 r3 y6) = some r := H
  unfold zA6 at H
  exact gA 2 4 4<|te (fJ [(true,[cL 3 [(⟨1,r2,r3⟩ : zC)] zC.row,cL 1 y6 intRow])] H)
 exact tA h1<|gA 2 4 4<|te (fJ [(true,[cL 3 ([] : List zC) zC.row,cL 1 ([] : List Int) intRow])] H)
def Jx (n : Nat) (r3 : zD) (x0 : Int) (y6 : (List Pt)) : Option (zA) :=
  (some (⟨x0,(⟨#[]⟩ : ByteArray),y6,([] : List zB),r3,0,0,0,0,0⟩ : zA))
def YI (n : Nat) : Nat → Int → Int → (List Pt) → Option (((List Pt)) ⊕ (zA))
  | 0,_,_,_ => none
  | mo7 + 1,x1,y4,y5 => (bif (decide (y4 < x1)) then (bif (decide (y5.length + [(⟨false,1,false,(⟨0,0,0,0,0⟩ : Vec)⟩ : Pt)].length ≤ 268435456)) then (YI n mo7 x1 (IntKind.wrap .i64 (y4 + 1)) (y5 ++ [(⟨false,1,false,(⟨0,0,0,0,0⟩ : Vec)⟩ : Pt)])) else none) else (some (Sum.inl y5)))
def Q9 (n : Nat) (x0 : Int) (x1 : Int) : Option (zA) :=
  ((qE n x0 1 99).bind fun r1 => (bif (!r1) then (some (⟨0,(⟨#[]⟩ : ByteArray),([] : List Pt),([] : List zB),(⟨([] : List zC),([] : List Int)⟩ : zD),0,0,0,0,0⟩ : zA)) else ((qE n x1 1 6).bind fun r2 => (bif (!r2) then (some (⟨0,(⟨#[]⟩ : ByteArray),([] : List Pt),([] : List zB),(⟨([] : List zC),([] : List Int)⟩ : zD),0,0,0,0,0⟩ : zA)) else ((zCO n x1).bind fun r3 => ((YI n n x1 0 ([] : List Pt)).bind fun o => match o with | .inl y6 => (Jx n r3 x0 y6) | .inr r => some r))))))
theorem zJ5 (n : Nat) (x0 : Int) (x1 : Int) (r : zA) (H : Q9 n x0 x1 = some r) : zJ Tryz.prog 15 [.val false [.lit (.int .i64 x0)],.val false [.lit (.int .i64 x1)]] [.val true (zA.row r)] [] := by
 refine cW Tryz.func15 (fun g d => sl [g 0,sl [g 1] (cn 13 (sl [g 2] .ret) .skip),g 3,sl [g 4] (.block 0 (.loop (sl [g 5,cn 21 .skip (.exit 0),.block 1 (g 6)] (g 7)))),g 8] .ret) [.cell 4 31] fun cx=>?_
 unfold Q9 at H
 refine gA 1 19 16<|tS<|rA 1<|bE H fun r1 er1 H=> vA [.rd,.rd,.rd] (qU n x0 1 99 r1 er1)<|lA 2 ?_
 obtain ⟨h1,H⟩ | ⟨h1,H⟩ := bC H
 ·refine qL 531 16 [9] h1<|lA 1<|bE H fun r2 er2 H=> vA [.rd,.rd,.rd] (qU n x1 1 6 r2 er2)<|uA 2 8211 16 ?_
  obtain ⟨h2,H⟩ | ⟨h2,H⟩ := bC H
  ·refine nA h2<|tK<|rA 2<|bE H fun r3 er3 H=> vA [.rd] (zLc n x1 r3 er3)<|uA 3 50 48<|tS<|gA 2 1572912 48 ?_
   obtain ⟨o7,eo7,Ho7⟩ := bs H
   clear H
   refine Tr.mid (ι := (List Pt)) (fun v => ⟨30,0,[sA 5 5 11 0,sA 4 4 11 0],[(5,[cI x0,cS (⟨#[]⟩ : ByteArray),cL 8 v Pt.row,cL 5 ([] : List zB) zB.row,cL 3 r3.Rows zC.row,cL 1 r3.Pv intRow,cI 0,cI 0,cI 0,cI 0,cI 0]),(4,[cI 0,cS (⟨#[]⟩ : ByteArray),cL 8 ([] : List Pt) Pt.row,cL 5 ([] : List zB) zB.row,cL 3 ([] : List zC) zC.row,cL 1 ([] : List Int) intRow,cI 0,cI 0,cI 0,cI 0,cI 0])]⟩) (fun v => Jx n r3 x0 v = some r) ?_ ?_
   ·refine tB<|Tr.loop (ι := Nat × (Int × (List Pt))) (fun v => ⟨30,0,[sI 20 v.2.1,sI 19 x1,sA 5 5 11 0,sA 4 4 11 0],[(5,[cI x0,cS (⟨#[]⟩ : ByteArray),cL 8 v.2.2 Pt.row,cL 5 ([] : List zB) zB.row,cL 3 r3.Rows zC.row,cL 1 r3.Pv intRow,cI 0,cI 0,cI 0,cI 0,cI 0]),(4,[cI 0,cS (⟨#[]⟩ : ByteArray),cL 8 ([] : List Pt) Pt.row,cL 5 ([] : List zB) zB.row,cL 3 ([] : List zC) zC.row,cL 1 ([] : List Int) intRow,cI 0,cI 0,cI 0,cI 0,cI 0])]⟩) (fun v => YI n v.1 x1 v.2.1 v.2.2 = some o7) (fun v => v.1) (n,(0,([] : List Pt))) eo7 (St.sub_of [20,19,5,4] [5,4] kr) ?_
    rintro ⟨mo7,y4,y5⟩ H
    have H : YI n mo7 x1 y4 y5 = some o7 := H
    obtain _ | mo7 := mo7
    ·exact nN H
    rw [YI] at H
    refine gA 1 3670064 48<|tS ?_
    obtain ⟨h3,H⟩ | ⟨h3,H⟩ := bC H
    ·refine nA h3<|Tr.exit<|aJ ?_
     obtain rfl := si H
     have H := Ho7
     dsimp only at H
     exact jA y5 H [5,4] [5,4]
    exact tA h3<|tK<|tS<|tB<|Tr.at<|lA 4<|gE H fun hg8 H=> LAt.appMU tOk (t := 24) (ty := 24) (e := 100) (x := (.tmp 23)) (y := (.tmp 25)) (d := 26) (g := none) (tI 100) Pt.row y5 [(⟨false,1,false,(⟨0,0,0,0,0⟩ : Vec)⟩ : Pt)] kr kr kr kr kr kr kr kr kr kr hg8<|uA 2 1572912 48<|eA 2 1572912 48<|jB mo7 ((wI (y4 + 1)),(y5 ++ [(⟨false,1,false,(⟨0,0,0,0,0⟩ : Vec)⟩ : Pt)])) H [20,19,5,4] [5,4]
   rintro y6 H
   have H : (Jx n r3 x0 y6) = some r := H
   unfold Jx at H
   exact gA 2 16 16<|te (fJ [(true,[cI x0,cS (⟨#[]⟩ : ByteArray),cL 8 y6 Pt.row,cL 5 ([] : List zB) zB.row,cL 3 r3.Rows zC.row,cL 1 r3.Pv intRow,cI 0,cI 0,cI 0,cI 0,cI 0])] H)
  exact tA h2<|gA 2 16 16<|te (fJ [(true,[cI 0,cS (⟨#[]⟩ : ByteArray),cL 8 ([] : List Pt) Pt.row,cL 5 ([] : List zB) zB.row,cL 3 ([] : List zC) zC.row,cL 1 ([] : List Int) intRow,cI 0,cI 0,cI 0,cI 0,cI 0])] H)
 exact qL 531 16 [9] h1<|uA 4 8211 16<|tB_<|gA 2 16 16<|te (fJ [(true,[cI 0,cS (⟨#[]⟩ : ByteArray),cL 8 ([] : List Pt) Pt.row,cL 5 ([] : List zB) zB.row,cL 3 ([] : List zC) zC.row,cL 1 ([] : List Int) intRow,cI 0,cI 0,cI 0,cI 0,cI 0])] H)
def zCP (n : Nat) (x0 : (List zB)) : Option ((List zB)) :=
  (bif (decide (([] : List zB).length + x0.length ≤ 268435456)) then (some (([] : List zB) ++ x0)) else none)
theorem zLd (n : Nat) (x0 : (List zB)) (r : (List zB)) (H : zCP n x0 = some r) : zJ Tryz.prog 159 [.val false [.sl false 5 (CV.frzEs (x0.map zB.row))]] [.val false [.sl true 5 (r.map zB.row)]] [] := by
 refine cW Tryz.func159 (fun g d => sl [g 0,g 1] .ret) [.tmp 2] fun cx=>?_
 unfold zCP at H
 exact gA 1 1 0<|rA 1<|gE H fun hg1 H=> LAt.appCU tOk (t := 25) (ty := 25) (e := 103) (x := (.const (.slice none 0 0))) (y := (.tmp 3)) (d := 4) (g := none) (tI 103) zB.row ([] : List zB) x0 ⟨(.slot 3),[],0,false,5,(CV.frzEs (x0.map zB.row))⟩ kr kr kr kr kr kr kr kr kr kr kr (.inr rfl) (fun _ => rfl) (fun _ => rfl) hg1<|LAt.moveU (T := lk tab) (ty := 25) (x := (.tmp 4)) (d := 2) (g := none) false [cL 5 (([] : List zB) ++ x0) zB.row] kr kr kr kr kr<|dA 4 0<|te (fJ [(false,[cL 5 (([] : List zB) ++ x0) zB.row])] H)
def zBi (n : Nat) (x0 : (List Int)) : Option ((List Int)) :=
  (bif (decide (([] : List Int).length + x0.length ≤ 268435456)) then (some (([] : List Int) ++ x0)) else none)
theorem zK8 (n : Nat) (x0 : (List Int)) (r : (List Int)) (H : zBi n x0 = some r) : zJ Tryz.prog 117 [.val false [.sl false 1 (CV.frzEs (x0.map intRow))]] [.val false [.sl true 1 (r.map intRow)]] [] := by
 refine cW Tryz.func117 (fun g d => sl [g 0,g 1] .ret) [.tmp 2] fun cx=>?_
 unfold zBi at H
 exact gA 1 1 0<|rA 1<|gE H fun hg1 H=> LAt.appCU tOk (t := 27) (ty := 27) (e := 3) (x := (.const (.slice none 0 0))) (y := (.tmp 3)) (d := 4) (g := none) (tI 3) intRow ([] : List Int) x0 ⟨(.slot 3),[],0,false,1,(CV.frzEs (x0.map intRow))⟩ kr kr kr kr kr kr kr kr kr kr kr (.inr rfl) (fun _ => rfl) (fun _ => rfl) hg1<|LAt.moveU (T := lk tab) (ty := 27) (x := (.tmp 4)) (d := 2) (g := none) false [cL 1 (([] : List Int) ++ x0) intRow] kr kr kr kr kr<|dA 4 0<|te (fJ [(false,[cL 1 (([] : List Int) ++ x0) intRow])] H)
def J9 (n : Nat) (x0 : zD) : Option (zD) :=
  (bif (decide (([] : List zC).length + x0.Rows.length ≤ 268435456)) then ((zBi n x0.Pv).bind fun r2 => (some (⟨(([] : List zC) ++ x0.Rows),r2⟩ : zD))) else none)
theorem zK9 (n : Nat) (x0 : zD) (r : zD) (H : J9 n x0 = some r) : zJ Tryz.prog 160 [.val true (fR (zD.row x0))] [.val true (zD.row r)] [] := by
 refine cW Tryz.func160 (fun g d => sl [g 0,d 1] .ret) [.cell 2 29] fun cx=>?_
 unfold J9 at H
 refine gA 2 6 6<|gE H fun hg1 H=> bE H fun r2 er2 H=> Tr.draws mixed 8 kr ⟨10,0,[sA 2 2 2 0],[(2,[cL 3 (([] : List zC) ++ x0.Rows) zC.row,cL 1 r2 intRow])]⟩ (fun cx=>?_) ?_
 ·exact aA [(0,[]),(1,[2,5,6,7]),(3,[]),(4,[5,6,7])] 4 [⟨[5,6,7],27,6,7⟩,⟨[2,5,6,7],26,3,4⟩] fun cx=>bA 2<|LAt.appCU tOk (t := 26) (ty := 26) (e := 113) (x := (.const (.slice none 0 0))) (y := (.tmp 4)) (d := 5) (g := none) (tI 113) zC.row ([] : List zC) x0.Rows ⟨(.box 1),[(0,0)],0,false,3,(CV.frzEs (x0.Rows.map zC.row))⟩ kr kr kr kr kr kr kr kr kr kr kr (.inr rfl) (fun _ => rfl) (fun _ => rfl) hg1<|fA<|bA 5<|vA [.rd] (zK8 n x0.Pv r2 er2)<|fA<|bA 6<|lA 1<|fA<|bA 7<|lA 1<|fA<|eE [2] [2]
 exact te (fJ [(true,[cL 3 (([] : List zC) ++ x0.Rows) zC.row,cL 1 r2 intRow])] H)
def Zi (n : Nat) (x0 : zA) : Option (zA) :=
  (bif (decide (([] : List Pt).length + x0.Ps.length ≤ 268435456)) then ((zCP n x0.F).bind fun r2 => ((J9 n x0.V).bind fun r3 => (some (⟨x0.Id,x0.Name,(([] : List Pt) ++ x0.Ps),r2,r3,x0.Tk,x0.Pa,x0.Wo,x0.Dr,x0.Ve⟩ : zA)))) else none)
theorem zJJ (n : Nat) (x0 : zA) (r : zA) (H : Zi n x0 = some r) : zJ Tryz.prog 86 [.val true (fR (zA.row x0))] [.val true (zA.row r)] [] := by
 refine cW Tryz.func86 (fun g d => sl [g 0,g 1,d 2,g 3] .ret) [.cell 2 31] fun cx=>?_
 unfold Zi at H
 refine gA 2 6 6<|rA 2<|gE H fun hg1 H=> LAt.appCU tOk (t := 24) (ty := 24) (e := 100) (x := (.const (.slice none 0 0))) (y := (.tmp 4)) (d := 5) (g := none) (tI 100) Pt.row ([] : List Pt) x0.Ps ⟨(.slot 4),[],0,false,8,(CV.frzEs (x0.Ps.map Pt.row))⟩ kr kr kr kr kr kr kr kr kr kr kr (.inr rfl) (fun _ => rfl) (fun _ => rfl) hg1<|uA 2 6 6<|bE H fun r2 er2 H=> bE H fun r3 er3 H=> Tr.draws mixed 10 kr ⟨16,0,[sA 2 2 11 0,sA 1 1 11 0],[(1,[cI x0.Id,cS x0.Name,cL 8 (([] : List Pt) ++ x0.Ps) Pt.row,cL 5 r2 zB.row,cL 3 r3.Rows zC.row,cL 1 r3.Pv intRow,cI x0.Tk,cI x0.Pa,cI x0.Wo,cI x0.Dr,cI x0.Ve]),(2,[cI 0,cS (⟨#[]⟩ : ByteArray),cL 8 ([] : List Pt) Pt.row,cL 5 ([] : List zB) zB.row,cL 3 ([] : List zC) zC.row,cL 1 ([] : List Int) intRow,cI 0,cI 0,cI 0,cI 0,cI 0])]⟩ (fun cx=>?_) ?_
 ·exact aA [(0,[]),(1,[2,5,7,9]),(3,[]),(4,[5,7,9])] 6 [⟨[5,7,9],29,10,11⟩,⟨[2,5,7,9],25,7,8⟩] fun cx=>bA 2<|vA [.rd] (zLd n x0.F r2 er2)<|fA<|aA [(6,[])] 4 [⟨[5,7,9],29,10,11⟩,⟨[2,5,7,9],25,7,8⟩] fun cx=>bA 5<|vA [.rd] (zK9 n x0.V r3 er3)<|fA<|bA 7<|LAt.storeO tOk (t := 25) (ty := 0) (ad := (.tmp 13)) (x := (.tmp 9)) (g := none) (tI 25) false [cL 5 r2 zB.row] 1 3 [cI x0.Id,cS x0.Name,cL 8 (([] : List Pt) ++ x0.Ps) Pt.row,cF 5 x0.F zB.row,cF 3 x0.V.Rows zC.row,cF 1 x0.V.Pv intRow,cI x0.Tk,cI x0.Pa,cI x0.Wo,cI x0.Dr,cI x0.Ve] kr kr kr kr kr kr kr kr<|fA<|aA [(8,[])] 1 [⟨[5,7,9],29,10,11⟩,⟨[2,5,7,9],25,7,8⟩] fun cx=>bA 9<|lA 1<|fA<|eE [2,1] [1,2]
 exact gA 2 4 4<|te (fJ [(true,[cI x0.Id,cS x0.Name,cL 8 (([] : List Pt) ++ x0.Ps) Pt.row,cL 5 r2 zB.row,cL 3 r3.Rows zC.row,cL 1 r3.Pv intRow,cI x0.Tk,cI x0.Pa,cI x0.Wo,cI x0.Dr,cI x0.Ve])] H)
def Y1 (n : Nat) (x0 : Vec) : Option (Bool) :=
  ((qE n x0.Root 1 99).bind fun r1 => (bif r1 then ((qE n x0.Co 0 100000).bind fun r2 => (bif r2 then ((qE n x0.Hops 0 10).bind fun r3 => (bif r3 then ((qE n x0.Bridge 1 99).bind fun r4 => (bif r4 then ((qE n x0.Port 0 7).bind fun r5 => (some r5)) else (some false))) else (some false))) else (some false))) else (some false)))
theorem zEj (n : Nat) (x0 : Vec) (r : Bool) (H : Y1 n x0 = some r) : zJ Tryz.prog 88 [.val true (fR (Vec.row x0))] [.val false [.lit (.bool r)]] [] := by
 refine cW Tryz.func88 (fun g d => sl [g 0,g 1] .ret) [.tmp 2] fun cx=>?_
 unfold Y1 at H
 refine gA 2 2 2<|rA 2<|bE H fun r1 er1 H=> vA [.rd,.rd,.rd] (qU n x0.Root 1 99 r1 er1)<|lA 1 ?_
 obtain ⟨h1,H⟩ | ⟨h1,H⟩ := bC H
 ·exact qL 66 2 [6] h1<|uA 20 4 0<|te (fF H)
 refine qL 66 2 [6] h1<|lA 2<|bE H fun r2 er2 H=> vA [.rd,.rd,.rd] (qU n x0.Co 0 100000 r2 er2)<|lA 2 ?_
 obtain ⟨h2,H⟩ | ⟨h2,H⟩ := bC H
 ·exact qL 2050 2 [11] h2<|uA 15 4 0<|te (fF H)
 refine qL 2050 2 [11] h2<|lA 2<|bE H fun r3 er3 H=> vA [.rd,.rd,.rd] (qU n x0.Hops 0 10 r3 er3)<|lA 2 ?_
 obtain ⟨h3,H⟩ | ⟨h3,H⟩ := bC H
 ·exact qL 65538 2 [16] h3<|uA 10 4 0<|te (fF H)
 refine qL 65538 2 [16] h3<|lA 2<|bE H fun r4 er4 H=> vA [.rd,.rd,.rd] (qU n x0.Bridge 1 99 r4 er4)<|lA 2 ?_
 obtain ⟨h4,H⟩ | ⟨h4,H⟩ := bC H
 ·exact qL 2097154 2 [21] h4<|uA 5 4 0<|te (fF H)
 exact qL 2097154 2 [21] h4<|lA 2<|bE H fun r5 er5 H=> vA [.rd,.rd,.rd] (qU n x0.Port 0 7 r5 er5)<|uA 2 4 0<|te (fJ [(false,[cB r5])] H)
def zCq (n : Nat) (x0 : Pt) : Option (Bool) :=
  ((qE n x0.Co 1 1000).bind fun r1 => (bif (!r1) then (some false) else (bif x0.Has then (bif (!x0.Up) then (some false) else ((Y1 n x0.Hd).bind fun r2 => (some r2))) else (some ((x0.Hd.Root == 0) && ((x0.Hd.Co == 0) && ((x0.Hd.Hops == 0) && ((x0.Hd.Bridge == 0) && ((x0.Hd.Port == 0) && true)))))))))
theorem zNh (n : Nat) (x0 : Pt) (r : Bool) (H : zCq n x0 = some r) : zJ Tryz.prog 97 [.val true (fR (Pt.row x0))] [.val false [.lit (.bool r)]] [] := by
 refine cW Tryz.func97 (fun g d => sl [g 0,sl [g 1] (cn 15 (sl [g 2] .ret) .skip),sl [g 3] (cn 17 (sl [g 4] .ret) .skip),g 5] .ret) [.tmp 2] fun cx=>?_
 unfold zCq at H
 refine gA 2 2 2<|tS<|rA 2<|bE H fun r1 er1 H=> vA [.rd,.rd,.rd] (qU n x0.Co 1 1000 r1 er1)<|lA 2 ?_
 obtain ⟨h1,H⟩ | ⟨h1,H⟩ := bC H
 ·refine qL 130 2 [7] h1<|lA 3 ?_
  obtain ⟨h2,H⟩ | ⟨h2,H⟩ := bC H
  ·exact qL 1154 2 [10] h2<|uA 5 32770 2<|nB_<|tK<|tS<|gA 2 131074 2<|qT [17] h2<|nB_<|tK<|rA 3<|LAt.eqSG false (t := 33) (ty := 33) (ty' := 4) (x := (.tmp 22)) (y := (.tmp 23)) (d := 24) (g := none) ((x0.Hd.Root == 0) && ((x0.Hd.Co == 0) && ((x0.Hd.Hops == 0) && ((x0.Hd.Bridge == 0) && ((x0.Hd.Port == 0) && true))))) _ kr kr kr kr rfl<|uA 1 4 0<|te (fJ [(false,[cB ((x0.Hd.Root == 0) && ((x0.Hd.Co == 0) && ((x0.Hd.Hops == 0) && ((x0.Hd.Bridge == 0) && ((x0.Hd.Port == 0) && true)))))])] H)
  refine qL 1154 2 [10] h2<|uA 5 32770 2 ?_
  obtain ⟨h3,H⟩ | ⟨h3,H⟩ := bC H
  ·exact nA h3<|tK<|tS<|gA 2 131074 2<|qT [17] h2<|tB_<|rA 2<|bE H fun r2 er2 H=> vA [.rd] (zEj n x0.Hd r2 er2)<|uA 1 4 0<|te (fJ [(false,[cB r2])] H)
  exact tA h3<|gA 1 4 0<|te (fF H)
 exact qL 130 2 [7] h1<|uA 8 32770 2<|tB_<|gA 1 4 0<|te (fF H)
def zCt (n : Nat) (x0 : zB) : Option (Bool) :=
  ((qE n x0.Tag 1 99).bind fun r1 => (bif r1 then ((qE n x0.Mac 1 9999).bind fun r2 => (bif r2 then ((qE n x0.Port 0 7).bind fun r3 => (bif r3 then ((qE n x0.Age 0 4).bind fun r4 => (bif r4 then (bif (!x0.Sc) then (some true) else (some (x0.Age == 0))) else (some false))) else (some false))) else (some false))) else (some false)))
theorem zFs (n : Nat) (x0 : zB) (r : Bool) (H : zCt n x0 = some r) : zJ Tryz.prog 167 [.val true (fR (zB.row x0))] [.val false [.lit (.bool r)]] [] := by
 refine cW Tryz.func167 (fun g d => sl [g 0,g 1] .ret) [.tmp 2] fun cx=>?_
 unfold zCt at H
 refine gA 2 2 2<|rA 2<|bE H fun r1 er1 H=> vA [.rd,.rd,.rd] (qU n x0.Tag 1 99 r1 er1)<|lA 1 ?_
 obtain ⟨h1,H⟩ | ⟨h1,H⟩ := bC H
 ·exact qL 66 2 [6] h1<|uA 25 4 0<|te (fF H)
 refine qL 66 2 [6] h1<|lA 2<|bE H fun r2 er2 H=> vA [.rd,.rd,.rd] (qU n x0.Mac 1 9999 r2 er2)<|lA 2 ?_
 obtain ⟨h2,H⟩ | ⟨h2,H⟩ := bC H
 ·exact qL 2050 2 [11] h2<|uA 20 4 0<|te (fF H)
 refine qL 2050 2 [11] h2<|lA 2<|bE H fun r3 er3 H=> vA [.rd,.rd,.rd] (qU n x0.Port 0 7 r3 er3)<|lA 2 ?_
 obtain ⟨h3,H⟩ | ⟨h3,H⟩ := bC H
 ·exact qL 65538 2 [16] h3<|uA 15 4 0<|te (fF H)
 refine qL 65538 2 [16] h3<|lA 2<|bE H fun r4 er4 H=> vA [.rd,.rd,.rd] (qU n x0.Age 0 4 r4 er4)<|lA 2 ?_
 obtain ⟨h4,H⟩ | ⟨h4,H⟩ := bC H
 ·exact qL 2097154 2 [21] h4<|uA 10 4 0<|te (fF H)
 refine qL 2097154 2 [21] h4<|lA 4 ?_
 obtain ⟨h5,H⟩ | ⟨h5,H⟩ := bC H
 ·exact qL 35651586 2 [25] h5<|uA 6 4 0<|te (fJ [(false,[cB (x0.Age == 0)])] H)
 exact qL 35651586 2 [25] h5<|uA 6 4 0<|te (fT H)
def zBN (n : Nat) (x0 : zB) (x1 : Int) (x2 : Int) : Option (Bool) :=
  (bif (decide (x0.Tag > x1)) then (some true) else (bif (x0.Tag == x1) then (some (decide (x0.Mac > x2))) else (some false)))
theorem zMI (n : Nat) (x0 : zB) (x1 : Int) (x2 : Int) (r : Bool) (H : zBN n x0 x1 x2 = some r) : zJ Tryz.prog 168 [.val true (fR (zB.row x0)),.val false [.lit (.int .i64 x1)],.val false [.lit (.int .i64 x2)]] [.val false [.lit (.bool r)]] [] := by
 refine cW Tryz.func168 (fun g d => sl [g 0,g 1] .ret) [.tmp 6] fun cx=>?_
 unfold zBN at H
 refine gA 2 14 8<|rA 5 ?_
 obtain ⟨h1,H⟩ | ⟨h1,H⟩ := bC H
 ·refine qL 2062 8 [11] h1<|lA 5 ?_
  obtain ⟨h2,H⟩ | ⟨h2,H⟩ := bC H
  ·exact qL 67596 8 [16] h2<|uA 7 64 0<|te (fF H)
  exact qL 67596 8 [16] h2<|uA 7 64 0<|te (fJ [(false,[cB (decide (x0.Mac > x2))])] H)
 exact qL 2062 8 [11] h1<|uA 12 64 0<|te (fT H)
def zCK (n : Nat) (x0 : (List zB)) : Option (Bool) :=
  (some (decide ((x0.length : Int) ≤ 12)))
def Qb (n : Nat) : Nat → (List zB) → Int → Option ((Unit) ⊕ (Bool))
  | 0,_,_ => none
  | mo2 + 1,x0,y1 => (bif (decide (y1 < (x0.length : Int))) then ((idx x0 y1).bind fun v3 => ((zCt n v3).bind fun r4 => (bif (!r4) then (some (Sum.inr false)) else (bif (decide (y1 > 0)) then ((idx x0 (IntKind.wrap .i64 (y1 - 1))).bind fun v5 => ((idx x0 (IntKind.wrap .i64 (y1 - 1))).bind fun v6 => ((zBN n v3 v5.Tag v6.Mac).bind fun r7 => (bif (!r7) then (some (Sum.inr false)) else (Qb n mo2 x0 (IntKind.wrap .i64 (y1 + 1))))))) else (Qb n mo2 x0 (IntKind.wrap .i64 (y1 + 1))))))) else (some (Sum.inl ())))
def zB7 (n : Nat) (x0 : (List zB)) : Option (Bool) :=
  ((Qb n n x0 0).bind fun o => match o with | .inl _ => (zCK n x0) | .inr r => some r)
def zQA : Tab := ⟨24,[0,1,2,6,8,24,40,64,64,64,576,1344,2112,4160,64,64,32832,81984,131136,262208,532672,1048640,2097224,4194312],[0,1,2,4,8,24,40,64,64,64,576,1344,2112,4160,64,64,32832,81984,131136,262208,532672,1048640,2097224,4194312],[0,1,3,7,15,31,63,127,127,127,639,1919,3967,8063,127,127,32895,114815,245887,508031,1048575,2097151,4194303,8388607]⟩
theorem Q6 : zg (rg Tryz.f98 4) zQA = true := kr
theorem zM4 (n : Nat) (x0 : (List zB)) (r : Bool) (H : zB7 n x0 = some r) : zJ Tryz.prog 98 [.val false [.sl false 5 (CV.frzEs (x0.map zB.row))]] [.val false [.lit (.bool r)]] [] := by
 refine cW Tryz.func98 (fun g d => sl [g 0,sl [g 1] (.block 0 (.loop (sl [g 2,cn 8 .skip (.exit 0),.block 1 (sl [g 3,d 4] (cn 35 (sl [g 5] .ret) .skip))] (g 6)))),g 7] .ret) [.tmp 2] fun cx=>?_
 unfold zB7 at H
 refine gA 1 1 0<|tS<|rA 1<|kF x0 zB.row<|uA 1 225 0 ?_
 obtain ⟨o2,eo2,Ho2⟩ := bs H
 clear H
 refine Tr.mid (ι := Unit) (fun v => ⟨40,0,[sC 0 (cF 5 x0 zB.row)],[]⟩) (fun v => zCK n x0 = some r) ?_ ?_
 ·refine tB<|Tr.loop (ι := Nat × (Int)) (fun v => ⟨40,0,[sI 7 v.2,sI 6 (x0.length : Int),sC 5 (cF 5 x0 zB.row),sC 0 (cF 5 x0 zB.row)],[]⟩) (fun v => Qb n v.1 x0 v.2 = some o2) (fun v => v.1) (n,0) eo2 (St.sub_of [7,6,5,0] [] kr) ?_
  rintro ⟨mo2,y1⟩ H
  have H : Qb n mo2 x0 y1 = some o2 := H
  obtain _ | mo2 := mo2
  ·exact nN H
  rw [Qb] at H
  refine gA 1 481 0<|tS ?_
  obtain ⟨h1,H⟩ | ⟨h1,H⟩ := bC H
  ·refine nA h1<|Tr.exit<|aJ ?_
   obtain rfl := si H
   have H := Ho2
   dsimp only at H
   exact jA () H [0] []
  refine tA h1<|tK<|tS<|tB<|rA 1<|bE H fun v3 ev3 H=> iA zB.row ev3<|uA 4 249 16<|bE H fun r4 er4 H=> sT ⟨40,0,[sI 3 y1,sA 4 4 5 0,sI 7 y1,sI 6 (x0.length : Int),sC 5 (cF 5 x0 zB.row),sC 0 (cF 5 x0 zB.row)],[(4,(zB.row v3))]⟩ ?_
  cases h2 : (!r4)
  ·have H := q3 h2 H
   refine sT ⟨40,0,[sI 3 y1,sA 4 4 5 0,sI 7 y1,sI 6 (x0.length : Int),sC 5 (cF 5 x0 zB.row),sC 0 (cF 5 x0 zB.row)],[(4,(zB.row v3))]⟩ ?_
   cases h3 : (decide (y1 > 0))
   ·have H := q3 h3 H
    refine Tr.draws mixed 24 kr ⟨40,0,[sB 35 false,sI 7 y1,sI 6 (x0.length : Int),sC 5 (cF 5 x0 zB.row),sC 0 (cF 5 x0 zB.row)],[]⟩ (fun cx=>?_) ?_
    ·exact mA Q6 [(0,[1])] 23 [⟨[1],103,4,12⟩] fun cx=>mC Q6 1<|vA [.rd] (zFs n v3 r4 er4)<|fA<|mA Q6 [(2,[]),(3,[])] 20 [⟨[1],103,4,12⟩] fun cx=>qA 37113 16 [15] h2<|mA Q6 [(4,[]),(5,[]),(6,[])] 17 [⟨[1],103,4,12⟩] fun cx=>qA 299257 16 [18] h3<|mA Q6 [(7,[]),(8,[]),(9,[]),(10,[]),(11,[]),(12,[]),(13,[]),(14,[]),(15,[]),(16,[]),(17,[]),(18,[]),(19,[]),(20,[]),(21,[]),(22,[]),(23,[])] 0 [⟨[1],103,4,12⟩] fun cx=>mE Q6 [35,7,6,5,0] []
    exact nB_<|tK<|eA 2 225 0<|jB mo2 (wI (y1 + 1)) H [7,6,5,0] []
   have H := q7 h3 H
   refine bE H fun v5 ev5 H=> bE H fun v6 ev6 H=> bE H fun r7 er7 H=> Tr.draws mixed 24 kr ⟨40,0,[sB 35 (!r7),sI 7 y1,sI 6 (x0.length : Int),sC 5 (cF 5 x0 zB.row),sC 0 (cF 5 x0 zB.row)],[]⟩ (fun cx=>?_) ?_
   ·exact mA Q6 [(0,[1,20])] 23 [⟨[1,20],103,4,12⟩] fun cx=>mC Q6 1<|vA [.rd] (zFs n v3 r4 er4)<|fA<|mA Q6 [(2,[]),(3,[])] 20 [⟨[1,20],103,4,12⟩] fun cx=>qA 37113 16 [15] h2<|mA Q6 [(4,[]),(5,[]),(6,[])] 17 [⟨[1,20],103,4,12⟩] fun cx=>qA 299257 16 [18] h3<|mA Q6 [(7,[20]),(8,[]),(9,[]),(10,[])] 13 [⟨[20],103,4,19⟩,⟨[1,20],103,4,12⟩] fun cx=>iN Q6 11 zB.row ev5 fun cx=>mA Q6 [(12,[]),(13,[]),(14,[]),(15,[]),(16,[])] 7 [⟨[20],103,4,19⟩,⟨[1,20],103,4,12⟩] fun cx=>iN Q6 17 zB.row ev6 fun cx=>mA Q6 [(18,[]),(19,[])] 4 [⟨[20],103,4,19⟩,⟨[1,20],103,4,12⟩] fun cx=>mC Q6 20<|vA [.rd,.rd,.rd] (zMI n v3 v5.Tag v6.Mac r7 er7)<|fA<|mA Q6 [(21,[]),(22,[]),(23,[])] 0 [⟨[20],103,4,19⟩,⟨[1,20],103,4,12⟩] fun cx=>mE Q6 [35,7,6,5,0] []
   obtain ⟨h4,H⟩ | ⟨h4,H⟩ := bC H
   ·exact qT [35] h4<|nB_<|tK<|eA 2 225 0<|jB mo2 (wI (y1 + 1)) H [7,6,5,0] []
   refine qT [35] h4<|tB_<|gA 1 4 0<|te ?_
   obtain rfl := si H
   have H := Ho2
   dsimp only at H
   exact fF H
  have H := q7 h2 H
  refine Tr.draws mixed 24 kr ⟨40,0,[sB 35 true,sI 7 y1,sI 6 (x0.length : Int),sC 5 (cF 5 x0 zB.row),sC 0 (cF 5 x0 zB.row)],[]⟩ (fun cx=>?_) ?_
  ·exact mA Q6 [(0,[1])] 23 [⟨[1],103,4,12⟩] fun cx=>mC Q6 1<|vA [.rd] (zFs n v3 r4 er4)<|fA<|mA Q6 [(2,[]),(3,[])] 20 [⟨[1],103,4,12⟩] fun cx=>qA 37113 16 [15] h2<|mA Q6 [(4,[]),(5,[]),(6,[]),(7,[]),(8,[]),(9,[]),(10,[]),(11,[]),(12,[]),(13,[]),(14,[]),(15,[]),(16,[]),(17,[]),(18,[]),(19,[]),(20,[]),(21,[]),(22,[]),(23,[])] 0 [⟨[1],103,4,12⟩] fun cx=>mE Q6 [35,7,6,5,0] []
  refine tB_<|gA 1 4 0<|te ?_
  obtain rfl := si H
  have H := Ho2
  dsimp only at H
  exact fF H
 rintro _ H
 have H : (zCK n x0) = some r := H
 unfold zCK at H
 exact rA 1<|kF x0 zB.row<|uA 2 4 0<|te (fJ [(false,[cB (decide ((x0.length : Int) ≤ 12))])] H)
def zCL (n : Nat) : Option (Int) :=
  (some (-1))
def Yv (n : Nat) : Nat → zD → Int → Int → Option ((Unit) ⊕ (Int))
  | 0,_,_,_ => none
  | mo2 + 1,x0,x1,y1 => (bif (decide (y1 < (x0.Rows.length : Int))) then ((idx x0.Rows y1).bind fun v3 => (bif (v3.Id == x1) then (some (Sum.inr y1)) else (Yv n mo2 x0 x1 (IntKind.wrap .i64 (y1 + 1))))) else (some (Sum.inl ())))
def zB8 (n : Nat) (x0 : zD) (x1 : Int) : Option (Int) :=
  ((Yv n n x0 x1 0).bind fun o => match o with | .inl _ => (zCL n) | .inr r => some r)
theorem zM5 (n : Nat) (x0 : zD) (x1 : Int) (r : Int) (H : zB8 n x0 x1 = some r) : zJ Tryz.prog 169 [.val true (fR (zD.row x0)),.val false [.lit (.int .i64 x1)]] [.val false [.lit (.int .i64 r)]] [] := by
 refine cW Tryz.func169 (fun g d => sl [g 0,sl [g 1] (.block 0 (.loop (sl [g 2,cn 11 .skip (.exit 0),.block 1 (sl [g 3,g 4] (cn 18 (sl [g 5] .ret) .skip))] (g 6)))),g 7] .ret) [.tmp 4] fun cx=>?_
 unfold zB8 at H
 refine gA 2 6 4<|tS<|rA 2<|kF x0.Rows zC.row<|uA 1 1794 0 ?_
 obtain ⟨o2,eo2,Ho2⟩ := bs H
 clear H
 refine Tr.mid (ι := Unit) (fun v => ⟨21,0,[],[]⟩) (fun v => zCL n = some r) ?_ ?_
 ·refine tB<|Tr.loop (ι := Nat × (Int)) (fun v => ⟨21,0,[sI 10 v.2,sI 9 (x0.Rows.length : Int),sC 8 (cF 3 x0.Rows zC.row),sI 1 x1],[]⟩) (fun v => Yv n v.1 x0 x1 v.2 = some o2) (fun v => v.1) (n,0) eo2 (St.sub_of [10,9,8,1] [] kr) ?_
  rintro ⟨mo2,y1⟩ H
  have H : Yv n mo2 x0 x1 y1 = some o2 := H
  obtain _ | mo2 := mo2
  ·exact nN H
  rw [Yv] at H
  refine gA 1 3842 0<|tS ?_
  obtain ⟨h1,H⟩ | ⟨h1,H⟩ := bC H
  ·refine nA h1<|Tr.exit<|aJ ?_
   obtain rfl := si H
   have H := Ho2
   dsimp only at H
   exact jA () H [] []
  refine tA h1<|tK<|tS<|tB<|rA 1<|bE H fun v3 ev3 H=> iA zC.row ev3<|uA 4 1890 64<|gA 4 263970 0 ?_
  obtain ⟨h2,H⟩ | ⟨h2,H⟩ := bC H
  ·exact nA h2<|tK<|eA 2 1794 0<|jB mo2 (wI (y1 + 1)) H [10,9,8,1] []
  refine tA h2<|gA 2 16 0<|te ?_
  obtain rfl := si H
  have H := Ho2
  dsimp only at H
  exact fJ [(false,[cI y1])] H
 rintro _ H
 have H : (zCL n) = some r := H
 unfold zCL at H
 exact gA 1 16 0<|te (fJ [(false,[cI (-1)])] H)
def zBh (n : Nat) : Option (Bool) :=
  (some true)
def Qx (n : Nat) : Nat → zD → Int → Option ((Unit) ⊕ (Bool))
  | 0,_,_ => none
  | mo4 + 1,x0,y3 => (bif (decide (y3 < (x0.Pv.length : Int))) then ((idx x0.Pv y3).bind fun v5 => ((zB8 n x0 v5).bind fun r6 => (bif (decide (r6 < 0)) then (some (Sum.inr false)) else (Qx n mo4 x0 (IntKind.wrap .i64 (y3 + 1)))))) else (some (Sum.inl ())))
def J8 (n : Nat) (x0 : zD) : Option (Bool) :=
  ((Qx n n x0 0).bind fun o => match o with | .inl _ => (zBh n) | .inr r => some r)
def QL (n : Nat) : Nat → zD → Int → Int → Option ((Unit) ⊕ (Bool))
  | 0,_,_,_ => none
  | mo7 + 1,x0,x1,y2 => (bif (decide (y2 < (x0.Rows.length : Int))) then ((idx x0.Rows y2).bind fun v8 => ((qE n v8.Id 1 99).bind fun r9 => (bif (!r9) then (some (Sum.inr false)) else (bif (decide (y2 > 0)) then ((idx x0.Rows (IntKind.wrap .i64 (y2 - 1))).bind fun v12 => (bif (decide (v12.Id ≥ v8.Id)) then (some (Sum.inr false)) else ((Zs n x1).bind fun r13 => ((qE n v8.Members 0 r13).bind fun r14 => (bif (!r14) then (some (Sum.inr false)) else (bif ((IntKind.wrap .i64 (BitVec.ofInt (IntKind.bits .i64) v8.Bare &&& ~~~BitVec.ofInt (IntKind.bits .i64) v8.Members).toNat) != 0) then (some (Sum.inr false)) else (QL n mo7 x0 x1 (IntKind.wrap .i64 (y2 + 1))))))))) else ((Zs n x1).bind fun r10 => ((qE n v8.Members 0 r10).bind fun r11 => (bif (!r11) then (some (Sum.inr false)) else (bif ((IntKind.wrap .i64 (BitVec.ofInt (IntKind.bits .i64) v8.Bare &&& ~~~BitVec.ofInt (IntKind.bits .i64) v8.Members).toNat) != 0) then (some (Sum.inr false)) else (QL n mo7 x0 x1 (IntKind.wrap .i64 (y2 + 1))))))))))) else (some (Sum.inl ())))
def zBM (n : Nat) (x0 : zD) (x1 : Int) : Option (Bool) :=
  ((qE n x1 1 6).bind fun r1 => (bif (!r1) then (some false) else (bif ((x0.Pv.length : Int) != x1) then (some false) else (bif (decide ((x0.Rows.length : Int) > 6)) then (some false) else ((QL n n x0 x1 0).bind fun o => match o with | .inl _ => (J8 n x0) | .inr r => some r)))))
def zQB : Tab := ⟨36,[0,1,2,4,12,16,48,80,128,384,128,1152,2688,4224,8320,128,32896,82048,131216,262160,524416,1048576,3145728,1048576,9437184,22020096,34603008,68157440,167772160,268435456,805306368,268435456,2415919104,5637144576,8858370048,17448304640],[0,1,2,4,8,16,48,80,128,384,128,1152,2688,4224,8320,128,32896,82048,131216,262160,524288,1048576,3145728,1048576,9437184,22020096,34603008,68157440,134217728,268435456,805306368,268435456,2415919104,5637144576,8858370048,17448304640],[0,1,3,7,15,31,63,127,255,511,255,1279,4095,8191,16383,255,33023,131071,262143,524287,1048575,2097151,4194303,2097151,10485759,33554431,67108863,134217727,268435455,536870911,1073741823,536870911,2684354559,8589934591,17179869183,34359738367]⟩
theorem zy : zg (rg Tryz.f99 6) zQB = true := kr
theorem zJ8 (n : Nat) (x1 : Int) (r13 : Int) (v8 : zC) (r14 : Bool) (y2 : Int) (x0 : zD) (er13 : (Zs n x1) = some r13) (er14 : (qE n v8.Members 0 r13) = some r14) (h12 : (!r14) = false) (cx : Cx) : AT Tryz.prog cx (rg Tryz.f99 6) [⟨[24,25],3,48,49⟩,⟨[24,25],26,41,42⟩,⟨[2,24,25],3,33,34⟩] 15 [20,19,18,17,16,15,14,13,12,11,10,9,8,7,6,5,4,3,2,1,0] ⟨82,0,[sB 53 false,sI 49 v8.Id,sA 48 6 3 0,sR 42 2 2 0 1 false,sA 41 2 2 0,sI 34 v8.Id,sA 33 6 3 0,sA 6 6 3 0,sI 28 y2,sI 27 (x0.Rows.length : Int),sC 26 (cF 3 x0.Rows zC.row),sA 2 2 2 0,sI 1 x1],[(6,(zC.row v8)),(2,(fR (zD.row x0)))]⟩ (fun s => s = ⟨82,0,[sB 68 ((wI (BitVec.ofInt (IntKind.bits .i64) v8.Bare &&& ~~~BitVec.ofInt (IntKind.bits .i64) v8.Members).toNat) != 0),sI 28 y2,sI 27 (x0.Rows.length : Int),sC 26 (cF 3 x0.Rows zC.row),sA 2 2 2 0,sI 1 x1],[(2,(fR (zD.row x0)))]⟩) := by
 exact mA zy [(21,[]),(22,[25]),(23,[])] 12 [⟨[25],3,54,55⟩,⟨[24,25],3,48,49⟩,⟨[24,25],26,41,42⟩,⟨[2,24,25],3,33,34⟩] fun cx=>mC zy 24<|vA [.rd] (JY n x1 r13 er13)<|fA<|mC zy 25<|vA [.rd,.rd,.rd] (qU n v8.Members 0 r13 r14 er14)<|fA<|mA zy [(26,[]),(27,[]),(28,[])] 7 [⟨[25],3,54,55⟩,⟨[24,25],3,48,49⟩,⟨[24,25],26,41,42⟩,⟨[2,24,25],3,33,34⟩] fun cx=>qA 0x20c306061c000046 68 [61] h12<|mA zy [(29,[]),(30,[]),(31,[]),(32,[]),(33,[]),(34,[]),(35,[])] 0 [⟨[],3,64,65⟩,⟨[],3,62,63⟩,⟨[25],3,54,55⟩,⟨[24,25],3,48,49⟩,⟨[24,25],26,41,42⟩,⟨[2,24,25],3,33,34⟩] fun cx=>mE zy [68,28,27,26,2,1] [2]
theorem zJ9 (n : Nat) (x1 : Int) (r13 : Int) (v8 : zC) (r14 : Bool) (y2 : Int) (x0 : zD) (er13 : (Zs n x1) = some r13) (er14 : (qE n v8.Members 0 r13) = some r14) (h12 : (!r14) = true) (cx : Cx) : AT Tryz.prog cx (rg Tryz.f99 6) [⟨[24,25],3,48,49⟩,⟨[24,25],26,41,42⟩,⟨[2,24,25],3,33,34⟩] 15 [20,19,18,17,16,15,14,13,12,11,10,9,8,7,6,5,4,3,2,1,0] ⟨82,0,[sB 53 false,sI 49 v8.Id,sA 48 6 3 0,sR 42 2 2 0 1 false,sA 41 2 2 0,sI 34 v8.Id,sA 33 6 3 0,sA 6 6 3 0,sI 28 y2,sI 27 (x0.Rows.length : Int),sC 26 (cF 3 x0.Rows zC.row),sA 2 2 2 0,sI 1 x1],[(6,(zC.row v8)),(2,(fR (zD.row x0)))]⟩ (fun s => s = ⟨82,0,[sB 68 true,sI 28 y2,sI 27 (x0.Rows.length : Int),sC 26 (cF 3 x0.Rows zC.row),sA 2 2 2 0,sI 1 x1],[(2,(fR (zD.row x0)))]⟩) := by
 exact mA zy [(21,[]),(22,[25]),(23,[])] 12 [⟨[25],3,54,55⟩,⟨[24,25],3,48,49⟩,⟨[24,25],26,41,42⟩,⟨[2,24,25],3,33,34⟩] fun cx=>mC zy 24<|vA [.rd] (JY n x1 r13 er13)<|fA<|mC zy 25<|vA [.rd,.rd,.rd] (qU n v8.Members 0 r13 r14 er14)<|fA<|mA zy [(26,[]),(27,[]),(28,[])] 7 [⟨[25],3,54,55⟩,⟨[24,25],3,48,49⟩,⟨[24,25],26,41,42⟩,⟨[2,24,25],3,33,34⟩] fun cx=>qA 0x20c306061c000046 68 [61] h12<|mA zy [(29,[]),(30,[]),(31,[]),(32,[]),(33,[]),(34,[]),(35,[])] 0 [⟨[25],3,54,55⟩,⟨[24,25],3,48,49⟩,⟨[24,25],26,41,42⟩,⟨[2,24,25],3,33,34⟩] fun cx=>mE zy [68,28,27,26,2,1] [2]
theorem zKA (n : Nat) (v8 : zC) (y2 : Int) (x0 : zD) (x1 : Int) (cx : Cx) : AT Tryz.prog cx (rg Tryz.f99 6) [⟨[],3,48,49⟩,⟨[],26,41,42⟩,⟨[2],3,33,34⟩] 15 [20,19,18,17,16,15,14,13,12,11,10,9,8,7,6,5,4,3,2,1,0] ⟨82,0,[sB 53 true,sI 49 v8.Id,sA 48 6 3 0,sR 42 2 2 0 1 false,sA 41 2 2 0,sI 34 v8.Id,sA 33 6 3 0,sA 6 6 3 0,sI 28 y2,sI 27 (x0.Rows.length : Int),sC 26 (cF 3 x0.Rows zC.row),sA 2 2 2 0,sI 1 x1],[(6,(zC.row v8)),(2,(fR (zD.row x0)))]⟩ (fun s => s = ⟨82,0,[sB 68 true,sI 28 y2,sI 27 (x0.Rows.length : Int),sC 26 (cF 3 x0.Rows zC.row),sA 2 2 2 0,sI 1 x1],[(2,(fR (zD.row x0)))]⟩) := by
 exact mA zy [(21,[]),(22,[]),(23,[]),(24,[]),(25,[]),(26,[]),(27,[]),(28,[]),(29,[]),(30,[]),(31,[]),(32,[]),(33,[]),(34,[]),(35,[])] 0 [⟨[],3,48,49⟩,⟨[],26,41,42⟩,⟨[2],3,33,34⟩] fun cx=>mE zy [68,28,27,26,2,1] [2]
theorem zMH (n : Nat) (x0 : zD) (x1 : Int) (r : Bool) (H : zBM n x0 x1 = some r) : zJ Tryz.prog 99 [.val true (fR (zD.row x0)),.val false [.lit (.int .i64 x1)]] [.val false [.lit (.bool r)]] [] := by
 refine cW Tryz.func99 (fun g d => sl [g 0,sl [g 1] (cn 24 (sl [g 2] .ret) .skip),sl [g 3] (.block 0 (.loop (sl [g 4,cn 29 .skip (.exit 0),.block 1 (sl [g 5,d 6] (cn 68 (sl [g 7] .ret) .skip))] (g 8)))),sl [g 9] (.block 2 (.loop (sl [g 10,cn 74 .skip (.exit 2),.block 3 (sl [g 11,g 12] (cn 80 (sl [g 13] .ret) .skip))] (g 14)))),g 15] .ret) [.tmp 4] fun cx=>?_
 unfold zBM at H
 refine gA 2 6 4<|tS<|rA 1<|bE H fun r1 er1 H=> vA [.rd,.rd,.rd] (qU n x1 1 6 r1 er1)<|lA 2 ?_
 obtain ⟨h1,H⟩ | ⟨h1,H⟩ := bC H
 ·refine qL 4102 4 [12] h1<|lA 2<|kF x0.Pv intRow<|lA 4 ?_
  obtain ⟨h2,H⟩ | ⟨h2,H⟩ := bC H
  ·refine qL 524294 4 [19] h2<|lA 2<|kF x0.Rows zC.row<|uA 2 16777222 4 ?_
   obtain ⟨h3,H⟩ | ⟨h3,H⟩ := bC H
   ·refine nA h3<|tK<|tS<|rA 2<|kF x0.Rows zC.row<|uA 1 469762054 4 ?_
    obtain ⟨o7,eo7,Ho7⟩ := bs H
    clear H
    refine Tr.mid (ι := Unit) (fun v => ⟨82,0,[sA 2 2 2 0],[(2,(fR (zD.row x0)))]⟩) (fun v => J8 n x0 = some r) ?_ ?_
    ·refine tB<|Tr.loop (ι := Nat × (Int)) (fun v => ⟨82,0,[sI 28 v.2,sI 27 (x0.Rows.length : Int),sC 26 (cF 3 x0.Rows zC.row),sA 2 2 2 0,sI 1 x1],[(2,(fR (zD.row x0)))]⟩) (fun v => QL n v.1 x0 x1 v.2 = some o7) (fun v => v.1) (n,0) eo7 (St.sub_of [28,27,26,2,1] [2] kr) ?_
     rintro ⟨mo7,y2⟩ H
     have H : QL n mo7 x0 x1 y2 = some o7 := H
     obtain _ | mo7 := mo7
     ·exact nN H
     rw [QL] at H
     refine gA 1 1006632966 4<|tS ?_
     obtain ⟨h6,H⟩ | ⟨h6,H⟩ := bC H
     ·refine nA h6<|Tr.exit<|aJ ?_
      obtain rfl := si H
      have H := Ho7
      dsimp only at H
      exact jA () H [2] [2]
     refine tA h6<|tK<|tS<|tB<|rA 1<|bE H fun v8 ev8 H=> iA zC.row ev8<|uA 4 469762150 68<|bE H fun r9 er9 H=> sT ⟨82,0,[sI 5 y2,sA 6 6 3 0,sI 28 y2,sI 27 (x0.Rows.length : Int),sC 26 (cF 3 x0.Rows zC.row),sA 2 2 2 0,sI 1 x1],[(6,(zC.row v8)),(2,(fR (zD.row x0)))]⟩ ?_
     cases h7 : (!r9)
     ·have H := q3 h7 H
      refine sT ⟨82,0,[sI 5 y2,sA 6 6 3 0,sI 28 y2,sI 27 (x0.Rows.length : Int),sC 26 (cF 3 x0.Rows zC.row),sA 2 2 2 0,sI 1 x1],[(6,(zC.row v8)),(2,(fR (zD.row x0)))]⟩ ?_
      cases h8 : (decide (y2 > 0))
      ·have H := q3 h8 H
       refine bE H fun r10 er10 H=> bE H fun r11 er11 H=> sT ⟨82,0,[sI 5 y2,sA 6 6 3 0,sI 28 y2,sI 27 (x0.Rows.length : Int),sC 26 (cF 3 x0.Rows zC.row),sA 2 2 2 0,sI 1 x1],[(6,(zC.row v8)),(2,(fR (zD.row x0)))]⟩ ?_
       cases h9 : (!r11)
       ·have H := q3 h9 H
        refine Tr.draws mixed 36 kr ⟨82,0,[sB 68 ((wI (BitVec.ofInt (IntKind.bits .i64) v8.Bare &&& ~~~BitVec.ofInt (IntKind.bits .i64) v8.Members).toNat) != 0),sI 28 y2,sI 27 (x0.Rows.length : Int),sC 26 (cF 3 x0.Rows zC.row),sA 2 2 2 0,sI 1 x1],[(2,(fR (zD.row x0)))]⟩ (fun cx=>?_) ?_
        ·exact mA zy [(0,[]),(1,[2,24,25])] 34 [⟨[2,24,25],3,33,34⟩] fun cx=>mC zy 2<|vA [.rd,.rd,.rd] (qU n v8.Id 1 99 r9 er9)<|fA<|mA zy [(3,[]),(4,[])] 31 [⟨[2,24,25],3,33,34⟩] fun cx=>qA 163678519398 68 [37] h7<|mA zy [(5,[]),(6,[]),(7,[])] 28 [⟨[2,24,25],3,33,34⟩] fun cx=>qA 1263190147174 68 [40] h8<|mA zy [(8,[]),(9,[]),(10,[]),(11,[]),(12,[]),(13,[]),(14,[]),(15,[]),(16,[]),(17,[]),(18,[]),(19,[]),(20,[]),(21,[]),(22,[25]),(23,[])] 12 [⟨[25],3,54,55⟩,⟨[2,24,25],3,33,34⟩] fun cx=>mC zy 24<|vA [.rd] (JY n x1 r10 er10)<|fA<|mC zy 25<|vA [.rd,.rd,.rd] (qU n v8.Members 0 r10 r11 er11)<|fA<|mA zy [(26,[]),(27,[]),(28,[])] 7 [⟨[25],3,54,55⟩,⟨[2,24,25],3,33,34⟩] fun cx=>qA 0x20c000061c000046 68 [61] h9<|mA zy [(29,[]),(30,[]),(31,[]),(32,[]),(33,[]),(34,[]),(35,[])] 0 [⟨[],3,64,65⟩,⟨[],3,62,63⟩,⟨[25],3,54,55⟩,⟨[2,24,25],3,33,34⟩] fun cx=>mE zy [68,28,27,26,2,1] [2]
        obtain ⟨h10,H⟩ | ⟨h10,H⟩ := bC H
        ·exact qT [68] h10<|nB_<|tK<|eA 2 469762054 4<|jB mo7 (wI (y2 + 1)) H [28,27,26,2,1] [2]
        refine qT [68] h10<|tB_<|gA 1 16 0<|te ?_
        obtain rfl := si H
        have H := Ho7
        dsimp only at H
        exact fF H
       have H := q7 h9 H
       refine Tr.draws mixed 36 kr ⟨82,0,[sB 68 true,sI 28 y2,sI 27 (x0.Rows.length : Int),sC 26 (cF 3 x0.Rows zC.row),sA 2 2 2 0,sI 1 x1],[(2,(fR (zD.row x0)))]⟩ (fun cx=>?_) ?_
       ·exact mA zy [(0,[]),(1,[2,24,25])] 34 [⟨[2,24,25],3,33,34⟩] fun cx=>mC zy 2<|vA [.rd,.rd,.rd] (qU n v8.Id 1 99 r9 er9)<|fA<|mA zy [(3,[]),(4,[])] 31 [⟨[2,24,25],3,33,34⟩] fun cx=>qA 163678519398 68 [37] h7<|mA zy [(5,[]),(6,[]),(7,[])] 28 [⟨[2,24,25],3,33,34⟩] fun cx=>qA 1263190147174 68 [40] h8<|mA zy [(8,[]),(9,[]),(10,[]),(11,[]),(12,[]),(13,[]),(14,[]),(15,[]),(16,[]),(17,[]),(18,[]),(19,[]),(20,[]),(21,[]),(22,[25]),(23,[])] 12 [⟨[25],3,54,55⟩,⟨[2,24,25],3,33,34⟩] fun cx=>mC zy 24<|vA [.rd] (JY n x1 r10 er10)<|fA<|mC zy 25<|vA [.rd,.rd,.rd] (qU n v8.Members 0 r10 r11 er11)<|fA<|mA zy [(26,[]),(27,[]),(28,[])] 7 [⟨[25],3,54,55⟩,⟨[2,24,25],3,33,34⟩] fun cx=>qA 0x20c000061c000046 68 [61] h9<|mA zy [(29,[]),(30,[]),(31,[]),(32,[]),(33,[]),(34,[]),(35,[])] 0 [⟨[25],3,54,55⟩,⟨[2,24,25],3,33,34⟩] fun cx=>mE zy [68,28,27,26,2,1] [2]
       refine tB_<|gA 1 16 0<|te ?_
       obtain rfl := si H
       have H := Ho7
       dsimp only at H
       exact fF H
      have H := q7 h8 H
      refine bE H fun v12 ev12 H=> sT ⟨82,0,[sI 5 y2,sA 6 6 3 0,sI 28 y2,sI 27 (x0.Rows.length : Int),sC 26 (cF 3 x0.Rows zC.row),sA 2 2 2 0,sI 1 x1],[(6,(zC.row v8)),(2,(fR (zD.row x0)))]⟩ ?_
      cases h11 : (decide (v12.Id ≥ v8.Id))
      ·have H := q3 h11 H
       refine bE H fun r13 er13 H=> bE H fun r14 er14 H=> sT ⟨82,0,[sI 5 y2,sA 6 6 3 0,sI 28 y2,sI 27 (x0.Rows.length : Int),sC 26 (cF 3 x0.Rows zC.row),sA 2 2 2 0,sI 1 x1],[(6,(zC.row v8)),(2,(fR (zD.row x0)))]⟩ ?_
       cases h12 : (!r14)
       ·have H := q3 h12 H
        refine Tr.draws mixed 36 kr ⟨82,0,[sB 68 ((wI (BitVec.ofInt (IntKind.bits .i64) v8.Bare &&& ~~~BitVec.ofInt (IntKind.bits .i64) v8.Members).toNat) != 0),sI 28 y2,sI 27 (x0.Rows.length : Int),sC 26 (cF 3 x0.Rows zC.row),sA 2 2 2 0,sI 1 x1],[(2,(fR (zD.row x0)))]⟩ (fun cx=>?_) ?_
        ·refine mA zy [(0,[]),(1,[2,24,25])] 34 [⟨[2,24,25],3,33,34⟩] fun cx=>mC zy 2<|vA [.rd,.rd,.rd] (qU n v8.Id 1 99 r9 er9)<|fA<|mA zy [(3,[]),(4,[])] 31 [⟨[2,24,25],3,33,34⟩] fun cx=>qA 163678519398 68 [37] h7<|mA zy [(5,[]),(6,[]),(7,[])] 28 [⟨[2,24,25],3,33,34⟩] fun cx=>qA 1263190147174 68 [40] h8<|mA zy [(8,[]),(9,[24,25]),(10,[]),(11,[])] 24 [⟨[24,25],26,41,42⟩,⟨[2,24,25],3,33,34⟩] fun cx=>iN zy 12 zC.row ev12 fun cx=>mA zy [(13,[]),(14,[]),(15,[]),(16,[24,25]),(17,[]),(18,[]),(19,[]),(20,[])] 15 [⟨[24,25],3,48,49⟩,⟨[24,25],26,41,42⟩,⟨[2,24,25],3,33,34⟩] fun cx=>sA_ 9858247494205510 68 ⟨82,0,[sB 53 (decide (v12.Id ≥ v8.Id)),sI 49 v8.Id,sA 48 6 3 0,sR 42 2 2 0 1 false,sA 41 2 2 0,sI 34 v8.Id,sA 33 6 3 0,sA 6 6 3 0,sI 28 y2,sI 27 (x0.Rows.length : Int),sC 26 (cF 3 x0.Rows zC.row),sA 2 2 2 0,sI 1 x1],[(6,(zC.row v8)),(2,(fR (zD.row x0)))]⟩ ?_
         rw [h11]
         exact zJ8 n x1 r13 v8 r14 y2 x0 er13 er14 h12 cx
        obtain ⟨h13,H⟩ | ⟨h13,H⟩ := bC H
        ·exact qT [68] h13<|nB_<|tK<|eA 2 469762054 4<|jB mo7 (wI (y2 + 1)) H [28,27,26,2,1] [2]
        refine qT [68] h13<|tB_<|gA 1 16 0<|te ?_
        obtain rfl := si H
        have H := Ho7
        dsimp only at H
        exact fF H
       have H := q7 h12 H
       refine Tr.draws mixed 36 kr ⟨82,0,[sB 68 true,sI 28 y2,sI 27 (x0.Rows.length : Int),sC 26 (cF 3 x0.Rows zC.row),sA 2 2 2 0,sI 1 x1],[(2,(fR (zD.row x0)))]⟩ (fun cx=>?_) ?_
       ·refine mA zy [(0,[]),(1,[2,24,25])] 34 [⟨[2,24,25],3,33,34⟩] fun cx=>mC zy 2<|vA [.rd,.rd,.rd] (qU n v8.Id 1 99 r9 er9)<|fA<|mA zy [(3,[]),(4,[])] 31 [⟨[2,24,25],3,33,34⟩] fun cx=>qA 163678519398 68 [37] h7<|mA zy [(5,[]),(6,[]),(7,[])] 28 [⟨[2,24,25],3,33,34⟩] fun cx=>qA 1263190147174 68 [40] h8<|mA zy [(8,[]),(9,[24,25]),(10,[]),(11,[])] 24 [⟨[24,25],26,41,42⟩,⟨[2,24,25],3,33,34⟩] fun cx=>iN zy 12 zC.row ev12 fun cx=>mA zy [(13,[]),(14,[]),(15,[]),(16,[24,25]),(17,[]),(18,[]),(19,[]),(20,[])] 15 [⟨[24,25],3,48,49⟩,⟨[24,25],26,41,42⟩,⟨[2,24,25],3,33,34⟩] fun cx=>sA_ 9858247494205510 68 ⟨82,0,[sB 53 (decide (v12.Id ≥ v8.Id)),sI 49 v8.Id,sA 48 6 3 0,sR 42 2 2 0 1 false,sA 41 2 2 0,sI 34 v8.Id,sA 33 6 3 0,sA 6 6 3 0,sI 28 y2,sI 27 (x0.Rows.length : Int),sC 26 (cF 3 x0.Rows zC.row),sA 2 2 2 0,sI 1 x1],[(6,(zC.row v8)),(2,(fR (zD.row x0)))]⟩ ?_
        rw [h11]
        exact zJ9 n x1 r13 v8 r14 y2 x0 er13 er14 h12 cx
       refine tB_<|gA 1 16 0<|te ?_
       obtain rfl := si H
       have H := Ho7
       dsimp only at H
       exact fF H
      have H := q7 h11 H
      refine Tr.draws mixed 36 kr ⟨82,0,[sB 68 true,sI 28 y2,sI 27 (x0.Rows.length : Int),sC 26 (cF 3 x0.Rows zC.row),sA 2 2 2 0,sI 1 x1],[(2,(fR (zD.row x0)))]⟩ (fun cx=>?_) ?_
      ·refine mA zy [(0,[]),(1,[2])] 34 [⟨[2],3,33,34⟩] fun cx=>mC zy 2<|vA [.rd,.rd,.rd] (qU n v8.Id 1 99 r9 er9)<|fA<|mA zy [(3,[]),(4,[])] 31 [⟨[2],3,33,34⟩] fun cx=>qA 163678519398 68 [37] h7<|mA zy [(5,[]),(6,[]),(7,[])] 28 [⟨[2],3,33,34⟩] fun cx=>qA 1263190147174 68 [40] h8<|mA zy [(8,[]),(9,[]),(10,[]),(11,[])] 24 [⟨[],26,41,42⟩,⟨[2],3,33,34⟩] fun cx=>iN zy 12 zC.row ev12 fun cx=>mA zy [(13,[]),(14,[]),(15,[]),(16,[]),(17,[]),(18,[]),(19,[]),(20,[])] 15 [⟨[],3,48,49⟩,⟨[],26,41,42⟩,⟨[2],3,33,34⟩] fun cx=>sA_ 9858247494205510 68 ⟨82,0,[sB 53 (decide (v12.Id ≥ v8.Id)),sI 49 v8.Id,sA 48 6 3 0,sR 42 2 2 0 1 false,sA 41 2 2 0,sI 34 v8.Id,sA 33 6 3 0,sA 6 6 3 0,sI 28 y2,sI 27 (x0.Rows.length : Int),sC 26 (cF 3 x0.Rows zC.row),sA 2 2 2 0,sI 1 x1],[(6,(zC.row v8)),(2,(fR (zD.row x0)))]⟩ ?_
       rw [h11]
       exact zKA n v8 y2 x0 x1 cx
      refine tB_<|gA 1 16 0<|te ?_
      obtain rfl := si H
      have H := Ho7
      dsimp only at H
      exact fF H
     have H := q7 h7 H
     refine Tr.draws mixed 36 kr ⟨82,0,[sB 68 true,sI 28 y2,sI 27 (x0.Rows.length : Int),sC 26 (cF 3 x0.Rows zC.row),sA 2 2 2 0,sI 1 x1],[(2,(fR (zD.row x0)))]⟩ (fun cx=>?_) ?_
     ·exact mA zy [(0,[]),(1,[2])] 34 [⟨[2],3,33,34⟩] fun cx=>mC zy 2<|vA [.rd,.rd,.rd] (qU n v8.Id 1 99 r9 er9)<|fA<|mA zy [(3,[]),(4,[])] 31 [⟨[2],3,33,34⟩] fun cx=>qA 163678519398 68 [37] h7<|mA zy [(5,[]),(6,[]),(7,[]),(8,[]),(9,[]),(10,[]),(11,[]),(12,[]),(13,[]),(14,[]),(15,[]),(16,[]),(17,[]),(18,[]),(19,[]),(20,[]),(21,[]),(22,[]),(23,[]),(24,[]),(25,[]),(26,[]),(27,[]),(28,[]),(29,[]),(30,[]),(31,[]),(32,[]),(33,[]),(34,[]),(35,[])] 0 [⟨[2],3,33,34⟩] fun cx=>mE zy [68,28,27,26,2,1] [2]
     refine tB_<|gA 1 16 0<|te ?_
     obtain rfl := si H
     have H := Ho7
     dsimp only at H
     exact fF H
    rintro _ H
    have H : (J8 n x0) = some r := H
    unfold J8 at H
    refine tS<|rA 2<|kF x0.Pv intRow<|uA 1 0x3800000000000000004 4 ?_
    obtain ⟨o4,eo4,Ho4⟩ := bs H
    clear H
    refine Tr.mid (ι := Unit) (fun v => ⟨82,0,[],[]⟩) (fun v => zBh n = some r) ?_ ?_
    ·refine tB<|Tr.loop (ι := Nat × (Int)) (fun v => ⟨82,0,[sI 73 v.2,sI 72 (x0.Pv.length : Int),sC 71 (cF 1 x0.Pv intRow),sA 2 2 2 0],[(2,(fR (zD.row x0)))]⟩) (fun v => Qx n v.1 x0 v.2 = some o4) (fun v => v.1) (n,0) eo4 (St.sub_of [73,72,71,2] [2] kr) ?_
     rintro ⟨mo4,y3⟩ H
     have H : Qx n mo4 x0 y3 = some o4 := H
     obtain _ | mo4 := mo4
     ·exact nN H
     rw [Qx] at H
     refine gA 1 0x7800000000000000004 4<|tS ?_
     obtain ⟨h4,H⟩ | ⟨h4,H⟩ := bC H
     ·refine nA h4<|Tr.exit<|aJ ?_
      obtain rfl := si H
      have H := Ho4
      dsimp only at H
      exact jA () H [] []
     refine tA h4<|tK<|tS<|tB<|tR<|bE H fun v5 ev5 H=> iA intRow ev5<|uA 2 0x3800000000000000104 4<|rA 2<|bE H fun r6 er6 H=> vA [.rd,.rd] (zM5 n x0 v5 r6 er6)<|uA 1 0x103800000000000000004 4 ?_
     obtain ⟨h5,H⟩ | ⟨h5,H⟩ := bC H
     ·exact nA h5<|tK<|eA 2 0x3800000000000000004 4<|jB mo4 (wI (y3 + 1)) H [73,72,71,2] [2]
     refine tA h5<|gA 1 16 0<|te ?_
     obtain rfl := si H
     have H := Ho4
     dsimp only at H
     exact fF H
    rintro _ H
    have H : (zBh n) = some r := H
    unfold zBh at H
    exact gA 1 16 0<|te (fT H)
   exact tA h3<|gA 1 16 0<|te (fF H)
  exact qL 524294 4 [19] h2<|uA 5 16777222 4<|tB_<|gA 1 16 0<|te (fF H)
 exact qL 4102 4 [12] h1<|uA 12 16777222 4<|tB_<|gA 1 16 0<|te (fF H)
def YK (n : Nat) (x0 : Int) : Option (Bool) :=
  ((qE n x0 0 1000000).bind fun r1 => (some r1))
theorem zBO (n : Nat) (x0 : Int) (r : Bool) (H : YK n x0 = some r) : zJ Tryz.prog 100 [.val false [.lit (.int .i64 x0)]] [.val false [.lit (.bool r)]] [] := by
 refine cW Tryz.func100 (fun g d => sl [g 0,g 1] .ret) [.tmp 2] fun cx=>?_
 unfold YK at H
 exact gA 1 1 0<|rA 1<|bE H fun r1 er1 H=> vA [.rd,.rd,.rd] (qU n x0 0 1000000 r1 er1)<|uA 1 4 0<|te (fJ [(false,[cB r1])] H)
def JD (n : Nat) (x0 : zA) : Option (Bool) :=
  ((qE n x0.Id 1 99).bind fun r2 => (bif (!r2) then (some false) else (bif (decide ((x0.Name.size : Int) > 10)) then (some false) else ((qE n (x0.Ps.length : Int) 1 6).bind fun r3 => (bif (!r3) then (some false) else ((zB7 n x0.F).bind fun r4 => (bif (!r4) then (some false) else ((zBM n x0.V (x0.Ps.length : Int)).bind fun r5 => (bif (!r5) then (some false) else ((YK n x0.Tk).bind fun r6 => (bif r6 then ((YK n x0.Pa).bind fun r7 => (bif r7 then ((YK n x0.Wo).bind fun r8 => (bif r8 then ((YK n x0.Dr).bind fun r9 => (bif r9 then ((YK n x0.Ve).bind fun r10 => (some r10)) else (some false))) else (some false))) else (some false))) else (some false))))))))))))
def Qk (n : Nat) : Nat → zA → Int → Option ((Unit) ⊕ (Bool))
  | 0,_,_ => none
  | mo11 + 1,x0,y1 => (bif (decide (y1 < (x0.Ps.length : Int))) then ((idx x0.Ps y1).bind fun v12 => ((zCq n v12).bind fun r13 => (bif (!r13) then (some (Sum.inr false)) else (Qk n mo11 x0 (IntKind.wrap .i64 (y1 + 1)))))) else (some (Sum.inl ())))
def Qv (n : Nat) (x0 : zA) : Option (Bool) :=
  ((Qk n n x0 0).bind fun o => match o with | .inl _ => (JD n x0) | .inr r => some r)
theorem zGr (n : Nat) (x0 : zA) (r : Bool) (H : Qv n x0 = some r) : zJ Tryz.prog 23 [.val true (fR (zA.row x0))] [.val false [.lit (.bool r)]] [] := by
 refine cW Tryz.func23 (fun g d => sl [g 0,sl [g 1] (.block 0 (.loop (sl [g 2,cn 9 .skip (.exit 0),.block 1 (sl [g 3,g 4] (cn 14 (sl [g 5] .ret) .skip))] (g 6)))),sl [g 7] (cn 47 (sl [g 8] .ret) .skip),g 9] .ret) [.tmp 2] fun cx=>?_
 unfold Qv at H
 refine gA 2 2 2<|tS<|rA 2<|kF x0.Ps Pt.row<|uA 1 450 2 ?_
 obtain ⟨o11,eo11,Ho11⟩ := bs H
 clear H
 refine Tr.mid (ι := Unit) (fun v => ⟨71,0,[sA 1 1 11 0],[(1,(fR (zA.row x0)))]⟩) (fun v => JD n x0 = some r) ?_ ?_
 ·refine tB<|Tr.loop (ι := Nat × (Int)) (fun v => ⟨71,0,[sI 8 v.2,sI 7 (x0.Ps.length : Int),sC 6 (cF 8 x0.Ps Pt.row),sA 1 1 11 0],[(1,(fR (zA.row x0)))]⟩) (fun v => Qk n v.1 x0 v.2 = some o11) (fun v => v.1) (n,0) eo11 (St.sub_of [8,7,6,1] [1] kr) ?_
  rintro ⟨mo11,y1⟩ H
  have H : Qk n mo11 x0 y1 = some o11 := H
  obtain _ | mo11 := mo11
  ·exact nN H
  rw [Qk] at H
  refine gA 1 962 2<|tS ?_
  obtain ⟨h10,H⟩ | ⟨h10,H⟩ := bC H
  ·refine nA h10<|Tr.exit<|aJ ?_
   obtain rfl := si H
   have H := Ho11
   dsimp only at H
   exact jA () H [1] [1]
  refine tA h10<|tK<|tS<|tB<|tR<|bE H fun v12 ev12 H=> iA Pt.row ev12<|uA 3 466 18<|rA 1<|bE H fun r13 er13 H=> vA [.rd] (zNh n v12 r13 er13)<|uA 1 16834 2 ?_
  obtain ⟨h11,H⟩ | ⟨h11,H⟩ := bC H
  ·exact nA h11<|tK<|eA 2 450 2<|jB mo11 (wI (y1 + 1)) H [8,7,6,1] [1]
  refine tA h11<|gA 1 4 0<|te ?_
  obtain rfl := si H
  have H := Ho11
  dsimp only at H
  exact fF H
 rintro _ H
 have H : (JD n x0) = some r := H
 unfold JD at H
 refine tS<|rA 2<|bE H fun r2 er2 H=> vA [.rd,.rd,.rd] (qU n x0.Id 1 99 r2 er2)<|lA 2 ?_
 obtain ⟨h1,H⟩ | ⟨h1,H⟩ := bC H
 ·refine qL 1048578 2 [20] h1<|lA 6 ?_
  obtain ⟨h2,H⟩ | ⟨h2,H⟩ := bC H
  ·refine qL 67108866 2 [26] h2<|lA 2<|kF x0.Ps Pt.row<|bE H fun r3 er3 H=> vA [.rd,.rd,.rd] (qU n (x0.Ps.length : Int) 1 6 r3 er3)<|lA 3 ?_
   obtain ⟨h3,H⟩ | ⟨h3,H⟩ := bC H
   ·refine qL 8589934594 2 [33] h3<|lA 2<|bE H fun r4 er4 H=> vA [.rd] (zM4 n x0.F r4 er4)<|lA 3 ?_
    obtain ⟨h4,H⟩ | ⟨h4,H⟩ := bC H
    ·refine qL 549755813890 2 [39] h4<|lA 4<|kF x0.Ps Pt.row<|bE H fun r5 er5 H=> vA [.rd,.rd] (zMH n x0.V (x0.Ps.length : Int) r5 er5)<|uA 2 0x800000000002 2 ?_
     obtain ⟨h5,H⟩ | ⟨h5,H⟩ := bC H
     ·refine nA h5<|tK<|rA 2<|bE H fun r6 er6 H=> vA [.rd] (zBO n x0.Tk r6 er6)<|lA 1 ?_
      obtain ⟨h6,H⟩ | ⟨h6,H⟩ := bC H
      ·exact qL 0x8000000000002 2 [51] h6<|uA 20 4 0<|te (fF H)
      refine qL 0x8000000000002 2 [51] h6<|lA 2<|bE H fun r7 er7 H=> vA [.rd] (zBO n x0.Pa r7 er7)<|lA 2 ?_
      obtain ⟨h7,H⟩ | ⟨h7,H⟩ := bC H
      ·exact qL 72057594037927938 2 [56] h7<|uA 15 4 0<|te (fF H)
      refine qL 72057594037927938 2 [56] h7<|lA 2<|bE H fun r8 er8 H=> vA [.rd] (zBO n x0.Wo r8 er8)<|lA 2 ?_
      obtain ⟨h8,H⟩ | ⟨h8,H⟩ := bC H
      ·exact qL 0x2000000000000002 2 [61] h8<|uA 10 4 0<|te (fF H)
      refine qL 0x2000000000000002 2 [61] h8<|lA 2<|bE H fun r9 er9 H=> vA [.rd] (zBO n x0.Dr r9 er9)<|lA 2 ?_
      obtain ⟨h9,H⟩ | ⟨h9,H⟩ := bC H
      ·exact qL 0x40000000000000002 2 [66] h9<|uA 5 4 0<|te (fF H)
      exact qL 0x40000000000000002 2 [66] h9<|lA 2<|bE H fun r10 er10 H=> vA [.rd] (zBO n x0.Ve r10 er10)<|uA 2 4 0<|te (fJ [(false,[cB r10])] H)
     exact tA h5<|gA 1 4 0<|te (fF H)
    exact qL 549755813890 2 [39] h4<|uA 8 0x800000000002 2<|tB_<|gA 1 4 0<|te (fF H)
   exact qL 8589934594 2 [33] h3<|uA 14 0x800000000002 2<|tB_<|gA 1 4 0<|te (fF H)
  exact qL 67108866 2 [26] h2<|uA 21 0x800000000002 2<|tB_<|gA 1 4 0<|te (fF H)
 exact qL 1048578 2 [20] h1<|uA 27 0x800000000002 2<|tB_<|gA 1 4 0<|te (fF H)
def zAA (n : Nat) (x0 : zA) (x1 : Int) : Option (Bool) :=
  ((Qv n x0).bind fun r1 => (bif r1 then ((qE n x1 0 (IntKind.wrap .i64 ((x0.Ps.length : Int) - 1))).bind fun r2 => (some r2)) else (some false)))
theorem zMJ (n : Nat) (x0 : zA) (x1 : Int) (r : Bool) (H : zAA n x0 x1 = some r) : zJ Tryz.prog 87 [.val true (fR (zA.row x0)),.val false [.lit (.int .i64 x1)]] [.val false [.lit (.bool r)]] [] := by
 refine cW Tryz.func87 (fun g d => sl [g 0,g 1] .ret) [.tmp 4] fun cx=>?_
 unfold zAA at H
 refine gA 2 6 4<|rA 1<|bE H fun r1 er1 H=> vA [.rd] (zGr n x0 r1 er1)<|lA 1 ?_
 obtain ⟨h1,H⟩ | ⟨h1,H⟩ := bC H
 ·exact qL 134 4 [7] h1<|uA 8 16 0<|te (fF H)
 exact qL 134 4 [7] h1<|lA 3<|kF x0.Ps Pt.row<|lA 1<|bE H fun r2 er2 H=> vA [.rd,.rd,.rd] (qU n x1 0 (wI ((x0.Ps.length : Int) - 1)) r2 er2)<|uA 2 16 0<|te (fJ [(false,[cB r2])] H)
def zBj (n : Nat) (x0 : Int) : Option (Int) :=
  (some (if 1000000 < (IntKind.wrap .i64 (x0 + 1)) then 1000000 else (IntKind.wrap .i64 (x0 + 1))))
theorem zNi (n : Nat) (x0 : Int) (r : Int) (H : zBj n x0 = some r) : zJ Tryz.prog 93 [.val false [.lit (.int .i64 x0)]] [.val false [.lit (.int .i64 r)]] [] := by
 refine cW Tryz.func93 (fun g d => sl [g 0,g 1] .ret) [.tmp 2] fun cx=>?_
 unfold zBj at H
 exact gA 1 1 0<|gA 4 4 0<|te (fJ [(false,[cI (if 1000000 < (wI (x0 + 1)) then 1000000 else (wI (x0 + 1)))])] H)
def zCN (n : Nat) (x0 : Vec) (x1 : Int) : Option (Vec × Bool) :=
  ((Y1 n x0).bind fun r1 => (bif (!r1) then (some (x0,false)) else ((qE n x1 1 1000).bind fun r2 => (bif (!r2) then (some (x0,false)) else ((Y1 n (⟨x0.Root,(IntKind.wrap .i64 (x0.Co + x1)),(IntKind.wrap .i64 (x0.Hops + 1)),x0.Bridge,x0.Port⟩ : Vec)).bind fun r3 => (bif (!r3) then (some (x0,false)) else (some ((⟨x0.Root,(IntKind.wrap .i64 (x0.Co + x1)),(IntKind.wrap .i64 (x0.Hops + 1)),x0.Bridge,x0.Port⟩ : Vec),true))))))))
theorem zLb (n : Nat) (x0 : Vec) (x1 : Int) (r : Vec × Bool) (H : zCN n x0 x1 = some r) : zJ Tryz.prog 176 [.val true (fR (Vec.row x0)),.val false [.lit (.int .i64 x1)]] [.val true (Vec.row r.1),.val false [.lit (.bool r.2)]] [] := by
 refine cW Tryz.func176 (fun g d => sl [g 0,sl [g 1] (cn 14 (sl [g 2] .ret) .skip),g 3,g 4,g 5,sl [g 6] (cn 28 (sl [g 7] .ret) .skip),g 8] .ret) [.cell 4 33,.tmp 5] fun cx=>?_
 unfold zCN at H
 refine gA 3 22 20<|tS<|rA 1<|bE H fun r1 er1 H=> vA [.rd] (zEj n x0 r1 er1)<|lA 2 ?_
 obtain ⟨h1,H⟩ | ⟨h1,H⟩ := bC H
 ·refine qL 1046 20 [10] h1<|lA 1<|bE H fun r2 er2 H=> vA [.rd,.rd,.rd] (qU n x1 1 1000 r2 er2)<|uA 2 16406 20 ?_
  obtain ⟨h2,H⟩ | ⟨h2,H⟩ := bC H
  ·refine nA h2<|tK<|gA 3 86 84<|gA 6 84 84<|gA 5 84 84<|tS<|rA 1<|bE H fun r3 er3 H=> vA [.rd] (zEj n (⟨x0.Root,(wI (x0.Co + x1)),(wI (x0.Hops + 1)),x0.Bridge,x0.Port⟩ : Vec) r3 er3)<|uA 1 268435540 84 ?_
   obtain ⟨h3,H⟩ | ⟨h3,H⟩ := bC H
   ·exact nA h3<|tK<|gA 3 48 16<|te (fJ [(true,[cI x0.Root,cI (wI (x0.Co + x1)),cI (wI (x0.Hops + 1)),cI x0.Bridge,cI x0.Port]),(false,[cB true])] H)
   exact tA h3<|gA 3 48 16<|te (fJ [(true,(Vec.row x0)),(false,[cB false])] H)
  exact tA h2<|gA 3 48 16<|te (fJ [(true,(Vec.row x0)),(false,[cB false])] H)
 exact qL 1046 20 [10] h1<|uA 4 16406 20<|tB_<|gA 3 48 16<|te (fJ [(true,(Vec.row x0)),(false,[cB false])] H)
def zAe (n : Nat) (x0 : Vec) (x1 : Vec) : Option (Bool) :=
  (bif (x0.Root != x1.Root) then (some (decide (x0.Root < x1.Root))) else (bif (x0.Co != x1.Co) then (some (decide (x0.Co < x1.Co))) else (bif (x0.Bridge != x1.Bridge) then (some (decide (x0.Bridge < x1.Bridge))) else (some (decide (x0.Port < x1.Port))))))
theorem zHH (n : Nat) (x0 : Vec) (x1 : Vec) (r : Bool) (H : zAe n x0 x1 = some r) : zJ Tryz.prog 177 [.val true (fR (Vec.row x0)),.val true (fR (Vec.row x1))] [.val false [.lit (.bool r)]] [] := by
 refine cW Tryz.func177 (fun g d => sl [g 0,.block 0 (sl [g 1] (cn 5 (sl [g 2] .ret) (sl [g 3] (cn 16 (sl [g 4] .ret) (sl [g 5] (cn 27 (sl [g 6] .ret) .skip)))))),g 7] .ret) [.tmp 4] fun cx=>?_
 unfold zAe at H
 refine gA 3 12 12<|tS<|tB<|gA 6 44 12 ?_
 obtain ⟨h1,H⟩ | ⟨h1,H⟩ := bC H
 ·refine nA h1<|gA 6 65548 12 ?_
  obtain ⟨h2,H⟩ | ⟨h2,H⟩ := bC H
  ·refine nA h2<|gA 6 134217740 12 ?_
   obtain ⟨h3,H⟩ | ⟨h3,H⟩ := bC H
   ·exact nA h3<|tK<|gA 6 16 0<|te (fJ [(false,[cB (decide (x0.Port < x1.Port))])] H)
   exact tA h3<|gA 6 16 0<|te (fJ [(false,[cB (decide (x0.Bridge < x1.Bridge))])] H)
  exact tA h2<|gA 6 16 0<|te (fJ [(false,[cB (decide (x0.Co < x1.Co))])] H)
 exact tA h1<|gA 6 16 0<|te (fJ [(false,[cB (decide (x0.Root < x1.Root))])] H)
def zA3 (n : Nat) (x0 : Int) (y11 : Int) (y12 : Int) (y13 : Int) (y14 : Int) : Option (Vec × Int) :=
  (some ((⟨y12,y13,y14,x0,0⟩ : Vec),y11))
def QS (n : Nat) (k : (Int × Int × Int × Int × Int × Int × Int × Int × Int × Int → Option ((Int × Int × Int × Int) ⊕ (Vec × Int)))) (r17 : Vec × Bool) (y1 : Int) (y10 : Int) (y2 : Int) (y3 : Int) (y4 : Int) (y5 : Int) (y6 : Int) (y7 : Int) (y8 : Int) (y9 : Int) (y18 : Bool) (y19 : Bool) (y20 : Bool) (y21 : Bool) (y22 : Bool) (y23 : Bool) (y24 : Bool) : Option ((Int × Int × Int × Int) ⊕ (Vec × Int)) :=
  (bif y18 then (k ((IntKind.wrap .i64 (y1 + 1)),y1,r17.1.Root,r17.1.Co,r17.1.Hops,r17.1.Bridge,r17.1.Port,r17.1.Root,r17.1.Co,r17.1.Hops)) else (k ((IntKind.wrap .i64 (y1 + 1)),y2,y3,y4,y5,y6,y7,y8,y9,y10)))
def qg (n : Nat) : Nat → Int → (List Pt) → Int → Int → Int → Int → Int → Int → Int → Int → Int → Int → Option ((Int × Int × Int × Int) ⊕ (Vec × Int))
  | 0,_,_,_,_,_,_,_,_,_,_,_,_ => none
  | mo15 + 1,x0,x1,y1,y2,y3,y4,y5,y6,y7,y8,y9,y10 => (bif (decide (y1 < (x1.length : Int))) then ((idx x1 y1).bind fun v16 => (bif (!v16.Up) then (qg n mo15 x0 x1 (IntKind.wrap .i64 (y1 + 1)) y2 y3 y4 y5 y6 y7 y8 y9 y10) else (bif (!v16.Has) then (qg n mo15 x0 x1 (IntKind.wrap .i64 (y1 + 1)) y2 y3 y4 y5 y6 y7 y8 y9 y10) else ((zCN n v16.Hd v16.Co).bind fun r17 => (bif r17.2 then (bif (decide (r17.1.Root < x0)) then (bif (decide (y2 < 0)) then (QS n (fun v => qg n mo15 x0 x1 v.1 v.2.1 v.2.2.1 v.2.2.2.1 v.2.2.2.2.1 v.2.2.2.2.2.1 v.2.2.2.2.2.2.1 v.2.2.2.2.2.2.2.1 v.2.2.2.2.2.2.2.2.1 v.2.2.2.2.2.2.2.2.2) r17 y1 y10 y2 y3 y4 y5 y6 y7 y8 y9 true true true true true true true) else ((zAe n r17.1 (⟨y3,y4,y5,y6,y7⟩ : Vec)).bind fun r25 => (QS n (fun v => qg n mo15 x0 x1 v.1 v.2.1 v.2.2.1 v.2.2.2.1 v.2.2.2.2.1 v.2.2.2.2.2.1 v.2.2.2.2.2.2.1 v.2.2.2.2.2.2.2.1 v.2.2.2.2.2.2.2.2.1 v.2.2.2.2.2.2.2.2.2) r17 y1 y10 y2 y3 y4 y5 y6 y7 y8 y9 r25 true true true true true true))) else (QS n (fun v => qg n mo15 x0 x1 v.1 v.2.1 v.2.2.1 v.2.2.2.1 v.2.2.2.2.1 v.2.2.2.2.2.1 v.2.2.2.2.2.2.1 v.2.2.2.2.2.2.2.1 v.2.2.2.2.2.2.2.2.1 v.2.2.2.2.2.2.2.2.2) r17 y1 y10 y2 y3 y4 y5 y6 y7 y8 y9 false false false true true true true)) else (QS n (fun v => qg n mo15 x0 x1 v.1 v.2.1 v.2.2.1 v.2.2.2.1 v.2.2.2.2.1 v.2.2.2.2.2.1 v.2.2.2.2.2.2.1 v.2.2.2.2.2.2.2.1 v.2.2.2.2.2.2.2.2.1 v.2.2.2.2.2.2.2.2.2) r17 y1 y10 y2 y3 y4 y5 y6 y7 y8 y9 false false false false false false false)))))) else (some (Sum.inl (y2,y8,y9,y10))))
def JV (n : Nat) (x0 : Int) (x1 : (List Pt)) : Option (Vec × Int) :=
  ((qg n n x0 x1 0 (-1) 0 0 0 0 0 x0 0 0).bind fun o => match o with | .inl (y11,y12,y13,y14) => (zA3 n x0 y11 y12 y13 y14) | .inr r => some r)
theorem zHF (n : Nat) (x0 : Int) (x1 : (List Pt)) (r : Vec × Int) (H : JV n x0 x1 = some r) : zJ Tryz.prog 137 [.val false [.lit (.int .i64 x0)],.val false [.sl false 8 (CV.frzEs (x1.map Pt.row))]] [.val true (Vec.row r.1),.val false [.lit (.int .i64 r.2)]] [] := by
 refine cW Tryz.func137 (fun g d => sl [g 0,g 1,g 2,sl [g 3] (.block 0 (.loop (sl [g 4,cn 19 .skip (.exit 0),.block 1 (sl [g 5,sl [g 6] (cn 30 (.exit 1) .skip),g 7,g 8] (cn 54 (sl [g 9] (g 10)) .skip))] (g 11)))),g 12] .ret) [.cell 4 33,.tmp 5] fun cx=>?_
 unfold JV at H
 refine gA 2 51 16<|gA 6 243 80<|gA 1 499 336<|tS<|rA 1<|kF x1 Pt.row<|uA 1 459249 336 ?_
 obtain ⟨o15,eo15,Ho15⟩ := bs H
 clear H
 refine Tr.mid (ι := Int × Int × Int × Int) (fun v => ⟨68,0,[sI 7 v.1,sA 6 6 5 0,sI 5 0,sA 4 4 5 0],[(6,[cI v.2.1,cI v.2.2.1,cI v.2.2.2,cI x0,cI 0]),(4,[cI 0,cI 0,cI 0,cI 0,cI 0])]⟩) (fun v => zA3 n x0 v.1 v.2.1 v.2.2.1 v.2.2.2 = some r) ?_ ?_
 ·refine tB<|Tr.loop (ι := Nat × (Int × Int × Int × Int × Int × Int × Int × Int × Int × Int)) (fun v => ⟨68,0,[sI 18 v.2.1,sI 17 (x1.length : Int),sC 16 (cF 8 x1 Pt.row),sA 8 8 5 0,sI 7 v.2.2.1,sA 6 6 5 0,sI 5 0,sA 4 4 5 0,sI 0 x0],[(8,[cI v.2.2.2.1,cI v.2.2.2.2.1,cI v.2.2.2.2.2.1,cI v.2.2.2.2.2.2.1,cI v.2.2.2.2.2.2.2.1]),(6,[cI v.2.2.2.2.2.2.2.2.1,cI v.2.2.2.2.2.2.2.2.2.1,cI v.2.2.2.2.2.2.2.2.2.2,cI x0,cI 0]),(4,[cI 0,cI 0,cI 0,cI 0,cI 0])]⟩) (fun v => qg n v.1 x0 x1 v.2.1 v.2.2.1 v.2.2.2.1 v.2.2.2.2.1 v.2.2.2.2.2.1 v.2.2.2.2.2.2.1 v.2.2.2.2.2.2.2.1 v.2.2.2.2.2.2.2.2.1 v.2.2.2.2.2.2.2.2.2.1 v.2.2.2.2.2.2.2.2.2.2 = some o15) (fun v => v.1) (n,(0,(-1),0,0,0,0,0,x0,0,0)) eo15 (St.sub_of [18,17,16,8,7,6,5,4,0] [8,6,4] kr) ?_
  rintro ⟨mo15,y1,y2,y3,y4,y5,y6,y7,y8,y9,y10⟩ H
  have H : qg n mo15 x0 x1 y1 y2 y3 y4 y5 y6 y7 y8 y9 y10 = some o15 := H
  obtain _ | mo15 := mo15
  ·exact nN H
  rw [qg] at H
  refine gA 1 983537 336<|tS ?_
  obtain ⟨h1,H⟩ | ⟨h1,H⟩ := bC H
  ·refine nA h1<|Tr.exit<|aJ ?_
   obtain rfl := si H
   have H := Ho15
   dsimp only at H
   exact jA (y2,y8,y9,y10) H [7,6,5,4] [6,4]
  refine tA h1<|tK<|tS<|tB<|rA 1<|bE H fun v16 ev16 H=> iA Pt.row ev16<|uA 4 8325105 1360<|tS<|rA 4 ?_
  obtain ⟨h2,H⟩ | ⟨h2,H⟩ := bC H
  ·refine qL 134154225 1360 [26,25] h2<|uA 4 2147420145 1360 ?_
   obtain ⟨h3,H⟩ | ⟨h3,H⟩ := bC H
   ·refine nA h3<|tK<|rA 4<|bE H fun r17 er17 H=> vA [.rd,.rd] (zLb n v16.Hd v16.Co r17 er17)<|LAt.movT tOk (ty := 167) (t := 36) (d := 31) (g := none) [(true,(Vec.row r17.1)),(false,[cB r17.2])] _ kr (.inl rfl) kr kr kr kr rfl<|uA 5 481036279793 3408<|tS<|Tr.mid (ι := Bool × Bool × Bool × Bool × Bool × Bool × Bool) (fun v => ⟨68,0,[sB 54 v.1,sB 46 v.2.1,sB 45 v.2.2.1,sB 40 v.2.2.2.1,sB 39 v.2.2.2.2.1,sB 12 v.2.2.2.2.2.1,sA 11 11 5 0,sB 38 v.2.2.2.2.2.2,(31,.tup [(true,[.dead,.dead,.dead,.dead,.dead]),(false,[.dead])]),sV 37 (Vec.row r17.1),sI 35 v16.Co,sA 34 10 8 1,sV 33 ((Pt.row v16).drop 3),sA 32 10 8 3,sB 30 false,sB 29 false,sB 28 v16.Has,sA 27 10 8 2,sB 26 false,sB 25 false,sB 24 v16.Up,sA 23 10 8 0,sI 9 y1,sA 10 10 8 0,sV 22 (Pt.row v16),(21,.fad ((Pt.row v16))),sI 20 y1,sB 19 true,sI 18 y1,sI 17 (x1.length : Int),sC 16 (cF 8 x1 Pt.row),sA 8 8 5 0,sI 7 y2,sA 6 6 5 0,sI 5 0,sA 4 4 5 0,sI 0 x0],[(11,(Vec.row r17.1)),(10,(Pt.row v16)),(8,[cI y3,cI y4,cI y5,cI y6,cI y7]),(6,[cI y8,cI y9,cI y10,cI x0,cI 0]),(4,[cI 0,cI 0,cI 0,cI 0,cI 0])]⟩) (fun v => QS n (fun v => qg n mo15 x0 x1 v.1 v.2.1 v.2.2.1 v.2.2.2.1 v.2.2.2.2.1 v.2.2.2.2.2.1 v.2.2.2.2.2.2.1 v.2.2.2.2.2.2.2.1 v.2.2.2.2.2.2.2.2.1 v.2.2.2.2.2.2.2.2.2) r17 y1 y10 y2 y3 y4 y5 y6 y7 y8 y9 v.1 v.2.1 v.2.2.1 v.2.2.2.1 v.2.2.2.2.1 v.2.2.2.2.2.1 v.2.2.2.2.2.2 = some o15) ?_ ?_
    ·refine Tr.at<|lA 2 ?_
     obtain ⟨h5,H⟩ | ⟨h5,H⟩ := bC H
     ·refine qL 2130303721457 3408 [40,39,12,38] h5<|uA 14 0x7fffefffff1ff1 3408<|sB' 0x7fffefffff1ff1 3408 ⟨68,0,[sB 54 false,(53,.tup []),(52,.tup []),(51,.tup []),(50,.tup []),(49,.tup []),(48,.tup []),(47,.tup []),sB 46 false,sB 45 false,(44,.tup []),(43,.tup []),(42,.tup []),(41,.tup []),sB 40 false,sB 39 false,sB 12 false,sA 11 11 5 0,sB 38 false,(31,.tup [(true,[.dead,.dead,.dead,.dead,.dead]),(false,[.dead])]),sV 37 (Vec.row r17.1),sI 35 v16.Co,sA 34 10 8 1,sV 33 ((Pt.row v16).drop 3),sA 32 10 8 3,sB 30 (!v16.Has),sB 29 (!v16.Has),sB 28 v16.Has,sA 27 10 8 2,sB 26 false,sB 25 false,sB 24 v16.Up,sA 23 10 8 0,sI 9 y1,sA 10 10 8 0,sV 22 (Pt.row v16),(21,.fad ((Pt.row v16))),sI 20 y1,sB 19 (decide (y1 < (x1.length : Int))),sI 18 y1,sI 17 (x1.length : Int),sC 16 (cF 8 x1 Pt.row),sA 8 8 5 0,sI 7 y2,sA 6 6 5 0,sI 5 0,sA 4 4 5 0,sI 0 x0],[(11,(Vec.row r17.1)),(10,(Pt.row v16)),(8,[cI y3,cI y4,cI y5,cI y6,cI y7]),(6,[cI y8,cI y9,cI y10,cI x0,cI 0]),(4,[cI 0,cI 0,cI 0,cI 0,cI 0])]⟩ ?_
      rw [h1]
      rw [h3]
      exact jA (false,false,false,false,false,false,false) H [54,46,45,40,39,12,11,38,31,37,35,34,33,32,30,29,28,27,26,25,24,23,9,10,22,21,20,19,18,17,16,8,7,6,5,4,0] [11,10,8,6,4]
     refine qL 2130303721457 3408 [40,39,12,38] h5<|lA 6 ?_
     obtain ⟨h6,H⟩ | ⟨h6,H⟩ := bC H
     ·refine qL 0x7fefffff1ff1 3408 [46,45,44] h6<|uA 8 0x7fffefffff1ff1 3408<|sB' 0x7fffefffff1ff1 3408 ⟨68,0,[sB 54 false,(53,.tup []),(52,.tup []),(51,.tup []),(50,.tup []),(49,.tup []),(48,.tup []),(47,.tup []),sB 46 false,sB 45 false,sB 44 false,sI 43 x0,sI 42 r17.1.Root,sA 41 11 5 0,sB 40 true,sB 39 true,sB 12 true,sA 11 11 5 0,sB 38 true,(31,.tup [(true,[.dead,.dead,.dead,.dead,.dead]),(false,[.dead])]),sV 37 (Vec.row r17.1),sI 35 v16.Co,sA 34 10 8 1,sV 33 ((Pt.row v16).drop 3),sA 32 10 8 3,sB 30 (!v16.Has),sB 29 (!v16.Has),sB 28 v16.Has,sA 27 10 8 2,sB 26 false,sB 25 false,sB 24 v16.Up,sA 23 10 8 0,sI 9 y1,sA 10 10 8 0,sV 22 (Pt.row v16),(21,.fad ((Pt.row v16))),sI 20 y1,sB 19 (decide (y1 < (x1.length : Int))),sI 18 y1,sI 17 (x1.length : Int),sC 16 (cF 8 x1 Pt.row),sA 8 8 5 0,sI 7 y2,sA 6 6 5 0,sI 5 0,sA 4 4 5 0,sI 0 x0],[(11,(Vec.row r17.1)),(10,(Pt.row v16)),(8,[cI y3,cI y4,cI y5,cI y6,cI y7]),(6,[cI y8,cI y9,cI y10,cI x0,cI 0]),(4,[cI 0,cI 0,cI 0,cI 0,cI 0])]⟩ ?_
      rw [h1]
      rw [h3]
      exact jA (false,false,false,true,true,true,true) H [54,46,45,40,39,12,11,38,31,37,35,34,33,32,30,29,28,27,26,25,24,23,9,10,22,21,20,19,18,17,16,8,7,6,5,4,0] [11,10,8,6,4]
     refine qL 0x7fefffff1ff1 3408 [46,45,44] h6<|lA 3 ?_
     obtain ⟨h7,H⟩ | ⟨h7,H⟩ := bC H
     ·refine qL 0x3ffefffff1ff1 3408 [49,48] h7<|lA 2<|bE H fun r25 er25 H=> vA [.rd,.rd] (zHH n r17.1 (⟨y3,y4,y5,y6,y7⟩ : Vec) r25 er25)<|uA 2 0x7fffefffff1ff1 3408<|sB' 0x7fffefffff1ff1 3408 ⟨68,0,[sB 54 r25,sB 53 r25,sB 52 r25,sV 51 [cI y3,cI y4,cI y5,cI y6,cI y7],sV 50 (Vec.row r17.1),sB 49 false,sB 48 false,sI 47 y2,sB 46 true,sB 45 true,sB 44 true,sI 43 x0,sI 42 r17.1.Root,sA 41 11 5 0,sB 40 true,sB 39 true,sB 12 true,sA 11 11 5 0,sB 38 true,(31,.tup [(true,[.dead,.dead,.dead,.dead,.dead]),(false,[.dead])]),sV 37 (Vec.row r17.1),sI 35 v16.Co,sA 34 10 8 1,sV 33 ((Pt.row v16).drop 3),sA 32 10 8 3,sB 30 (!v16.Has),sB 29 (!v16.Has),sB 28 v16.Has,sA 27 10 8 2,sB 26 false,sB 25 false,sB 24 v16.Up,sA 23 10 8 0,sI 9 y1,sA 10 10 8 0,sV 22 (Pt.row v16),(21,.fad ((Pt.row v16))),sI 20 y1,sB 19 (decide (y1 < (x1.length : Int))),sI 18 y1,sI 17 (x1.length : Int),sC 16 (cF 8 x1 Pt.row),sA 8 8 5 0,sI 7 y2,sA 6 6 5 0,sI 5 0,sA 4 4 5 0,sI 0 x0],[(11,(Vec.row r17.1)),(10,(Pt.row v16)),(8,[cI y3,cI y4,cI y5,cI y6,cI y7]),(6,[cI y8,cI y9,cI y10,cI x0,cI 0]),(4,[cI 0,cI 0,cI 0,cI 0,cI 0])]⟩ ?_
      rw [h1]
      rw [h3]
      exact jA (r25,true,true,true,true,true,true) H [54,46,45,40,39,12,11,38,31,37,35,34,33,32,30,29,28,27,26,25,24,23,9,10,22,21,20,19,18,17,16,8,7,6,5,4,0] [11,10,8,6,4]
     refine qL 0x3ffefffff1ff1 3408 [49,48] h7<|uA 5 0x7fffefffff1ff1 3408<|sB' 0x7fffefffff1ff1 3408 ⟨68,0,[sB 54 true,sB 53 true,(52,.tup []),(51,.tup []),(50,.tup []),sB 49 true,sB 48 true,sI 47 y2,sB 46 true,sB 45 true,sB 44 true,sI 43 x0,sI 42 r17.1.Root,sA 41 11 5 0,sB 40 true,sB 39 true,sB 12 true,sA 11 11 5 0,sB 38 true,(31,.tup [(true,[.dead,.dead,.dead,.dead,.dead]),(false,[.dead])]),sV 37 (Vec.row r17.1),sI 35 v16.Co,sA 34 10 8 1,sV 33 ((Pt.row v16).drop 3),sA 32 10 8 3,sB 30 (!v16.Has),sB 29 (!v16.Has),sB 28 v16.Has,sA 27 10 8 2,sB 26 false,sB 25 false,sB 24 v16.Up,sA 23 10 8 0,sI 9 y1,sA 10 10 8 0,sV 22 (Pt.row v16),(21,.fad ((Pt.row v16))),sI 20 y1,sB 19 (decide (y1 < (x1.length : Int))),sI 18 y1,sI 17 (x1.length : Int),sC 16 (cF 8 x1 Pt.row),sA 8 8 5 0,sI 7 y2,sA 6 6 5 0,sI 5 0,sA 4 4 5 0,sI 0 x0],[(11,(Vec.row r17.1)),(10,(Pt.row v16)),(8,[cI y3,cI y4,cI y5,cI y6,cI y7]),(6,[cI y8,cI y9,cI y10,cI x0,cI 0]),(4,[cI 0,cI 0,cI 0,cI 0,cI 0])]⟩ ?_
     rw [h1]
     rw [h3]
     exact jA (true,true,true,true,true,true,true) H [54,46,45,40,39,12,11,38,31,37,35,34,33,32,30,29,28,27,26,25,24,23,9,10,22,21,20,19,18,17,16,8,7,6,5,4,0] [11,10,8,6,4]
    rintro ⟨y18,y19,y20,y21,y22,y23,y24⟩ H
    have H : (QS n (fun v => qg n mo15 x0 x1 v.1 v.2.1 v.2.2.1 v.2.2.2.1 v.2.2.2.2.1 v.2.2.2.2.2.1 v.2.2.2.2.2.2.1 v.2.2.2.2.2.2.2.1 v.2.2.2.2.2.2.2.2.1 v.2.2.2.2.2.2.2.2.2) r17 y1 y10 y2 y3 y4 y5 y6 y7 y8 y9 y18 y19 y20 y21 y22 y23 y24) = some o15 := H
    unfold QS at H
    cases h4 : y18
    ·have H := q3 h4 H
     exact nB_<|tK<|eA 2 0x2004061efffff1ff1 3408<|jB mo15 ((wI (y1 + 1)),y2,y3,y4,y5,y6,y7,y8,y9,y10) H [18,17,16,8,7,6,5,4,0] [8,6,4]
    have H := q7 h4 H
    exact tB_<|gA 4 0x1c061efffff1ff1 3408<|eA 9 0x1ffc061efffff1ff1 3408<|eA 2 0x3ffc061efffff1ff1 3408<|jB mo15 ((wI (y1 + 1)),y1,r17.1.Root,r17.1.Co,r17.1.Hops,r17.1.Bridge,r17.1.Port,r17.1.Root,r17.1.Co,r17.1.Hops) H [18,17,16,8,7,6,5,4,0] [8,6,4]
   exact tA h3<|Tr.exit<|aJ<|eA 2 0x2000000007fff07f1 1360<|jB mo15 ((wI (y1 + 1)),y2,y3,y4,y5,y6,y7,y8,y9,y10) H [18,17,16,8,7,6,5,4,0] [8,6,4]
  exact qL 134154225 1360 [26,25] h2<|uA 4 2147420145 1360<|tB_<|Tr.exit<|aJ<|eA 2 0x2000000007fff07f1 1360<|jB mo15 ((wI (y1 + 1)),y2,y3,y4,y5,y6,y7,y8,y9,y10) H [18,17,16,8,7,6,5,4,0] [8,6,4]
 rintro ⟨y11,y12,y13,y14⟩ H
 have H : (zA3 n x0 y11 y12 y13 y14) = some r := H
 unfold zA3 at H
 exact gA 4 48 16<|te (fJ [(true,[cI y12,cI y13,cI y14,cI x0,cI 0]),(false,[cI y11])] H)
def J7 (n : Nat) (x0 : Int) (x1 : (List Pt)) (x2 : Int) : Option (Vec) :=
  ((JV n x0 x1).bind fun r1 => (some (⟨r1.1.Root,r1.1.Co,r1.1.Hops,r1.1.Bridge,x2⟩ : Vec)))
theorem zMG (n : Nat) (x0 : Int) (x1 : (List Pt)) (x2 : Int) (r : Vec) (H : J7 n x0 x1 x2 = some r) : zJ Tryz.prog 173 [.val false [.lit (.int .i64 x0)],.val false [.sl false 8 (CV.frzEs (x1.map Pt.row))],.val false [.lit (.int .i64 x2)]] [.val true (Vec.row r)] [] := by
 refine cW Tryz.func173 (fun g d => sl [g 0,g 1,g 2,g 3] .ret) [.cell 6 33] fun cx=>?_
 unfold J7 at H
 exact gA 1 71 64<|rA 2<|bE H fun r1 er1 H=> vA [.rd,.rd] (zHF n x0 x1 r1 er1)<|LAt.movT tOk (ty := 135) (t := 12) (d := 9) (g := none) [(true,(Vec.row r1.1)),(false,[cI r1.2])] _ kr (.inl rfl) kr kr kr kr rfl<|uA 5 196 192<|gA 3 192 192<|gA 2 64 64<|te (fJ [(true,[cI r1.1.Root,cI r1.1.Co,cI r1.1.Hops,cI r1.1.Bridge,cI x2])] H)
def zBK (n : Nat) (x0 : Int) (x1 : (List Pt)) (x2 : Int) : Option (Int) :=
  ((qE n x2 0 (IntKind.wrap .i64 ((x1.length : Int) - 1))).bind fun r1 => (bif (!r1) then (some 4) else ((idx x1 x2).bind fun v2 => (bif (!v2.Up) then (some 4) else ((JV n x0 x1).bind fun r3 => (bif (r3.2 == x2) then (some 1) else ((idx x1 x2).bind fun v4 => (bif (!v4.Has) then (some 2) else ((J7 n x0 x1 x2).bind fun r5 => ((idx x1 x2).bind fun v6 => ((zAe n r5 v6.Hd).bind fun r7 => (bif r7 then (some 2) else (some 3)))))))))))))
def zPd : Tab := ⟨19,[0,0,3,4,8,16,32,64,64,64,960,64,64,6208,8256,16448,33856,65600,196608],[0,0,3,4,8,16,32,64,64,64,960,64,64,6208,8256,16448,33856,65600,131072],[0,0,3,7,15,31,63,127,127,127,1023,127,127,6271,14463,30847,65535,131071,262143]⟩
theorem JB : zg (rg Tryz.f188 6) zPd = true := kr
theorem zMF (n : Nat) (x0 : Int) (x1 : (List Pt)) (x2 : Int) (r : Int) (H : zBK n x0 x1 x2 = some r) : zJ Tryz.prog 188 [.val false [.lit (.int .i64 x0)],.val false [.sl false 8 (CV.frzEs (x1.map Pt.row))],.val false [.lit (.int .i64 x2)]] [.val false [.lit (.int .i64 r)]] [] := by
 refine cW Tryz.func188 (fun g d => sl [g 0,sl [g 1] (cn 22 (sl [g 2] .ret) .skip),g 3,.block 0 (sl [g 4] (cn 29 (sl [g 5] .ret) (sl [d 6] (cn 33 (sl [g 7] .ret) .skip)))),g 8] .ret) [.tmp 6] fun cx=>?_
 unfold zBK at H
 refine gA 1 7 0<|tS<|rA 2<|kF x1 Pt.row<|lA 1<|bE H fun r1 er1 H=> vA [.rd,.rd,.rd] (qU n x2 0 (wI ((x1.length : Int) - 1)) r1 er1)<|lA 2 ?_
 obtain ⟨h1,H⟩ | ⟨h1,H⟩ := bC H
 ·refine qL 32775 0 [15] h1<|lA 2<|bE H fun v2 ev2 H=> iA Pt.row ev2<|uA 4 4194311 0 ?_
  obtain ⟨h2,H⟩ | ⟨h2,H⟩ := bC H
  ·refine nA h2<|tK<|rA 2<|bE H fun r3 er3 H=> vA [.rd,.rd] (zHF n x0 x1 r3 er3)<|LAt.movT tOk (ty := 135) (t := 26) (d := 23) (g := none) [(true,(Vec.row r3.1)),(false,[cI r3.2])] _ kr (.inl rfl) kr kr kr kr rfl<|uA 5 263 0<|tS<|tB<|gA 4 536870919 0 ?_
   obtain ⟨h3,H⟩ | ⟨h3,H⟩ := bC H
   ·refine nA h3<|bE H fun v4 ev4 H=> sT ⟨52,0,[sB 29 (r3.2 == x2),sI 0 x0,sC 1 (cF 8 x1 Pt.row),sI 2 x2],[]⟩ ?_
    cases h4 : (!v4.Has)
    ·have H := q3 h4 H
     refine bE H fun r5 er5 H=> bE H fun v6 ev6 H=> bE H fun r7 er7 H=> Tr.draws mixed 19 kr ⟨52,0,[sB 33 r7],[]⟩ (fun cx=>?_) ?_
     ·exact mA JB [(0,[]),(1,[])] 17 [] fun cx=>iN JB 2 Pt.row ev4 fun cx=>mA JB [(3,[]),(4,[]),(5,[]),(6,[])] 12 [] fun cx=>qA 1099511627783 0 [40] h4<|mA JB [(7,[]),(8,[]),(9,[]),(11,[]),(12,[])] 7 [] fun cx=>iN JB 13 Pt.row ev6 fun cx=>mA JB [(14,[]),(15,[])] 4 [] fun cx=>mC JB 10<|vA [.rd,.rd,.rd] (zMG n x0 x1 x2 r5 er5)<|fA<|mC JB 16<|vA [.rd,.rd] (zHH n r5 v6.Hd r7 er7)<|fA<|mA JB [(17,[]),(18,[])] 0 [] fun cx=>mE JB [33] []
     cases h5 : r7
     ·have H := q3 h5 H
      exact nB_<|tK<|gA 1 64 0<|te (fJ [(false,[cI 3])] H)
     have H := q7 h5 H
     exact tB_<|gA 1 64 0<|te (fJ [(false,[cI 2])] H)
    have H := q7 h4 H
    refine Tr.draws mixed 19 kr ⟨52,0,[sB 33 true],[]⟩ (fun cx=>?_) ?_
    ·exact mA JB [(0,[]),(1,[])] 17 [] fun cx=>iN JB 2 Pt.row ev4 fun cx=>mA JB [(3,[]),(4,[]),(5,[]),(6,[])] 12 [] fun cx=>qA 1099511627783 0 [40] h4<|mA JB [(7,[]),(8,[]),(9,[]),(10,[]),(11,[]),(12,[]),(13,[]),(14,[]),(15,[]),(16,[]),(17,[]),(18,[])] 0 [] fun cx=>mE JB [33] []
    exact tB_<|gA 1 64 0<|te (fJ [(false,[cI 2])] H)
   exact tA h3<|gA 1 64 0<|te (fJ [(false,[cI 1])] H)
  exact tA h2<|gA 1 64 0<|te (fJ [(false,[cI 4])] H)
 exact qL 32775 0 [15] h1<|uA 7 4194311 0<|tB_<|gA 1 64 0<|te (fJ [(false,[cI 4])] H)
def zCM (n : Nat) (y3 : Int) : Option (Int) :=
  (some y3)
def QG (n : Nat) : Nat → Int → (List Pt) → Int → Int → Option ((Int) ⊕ (Int))
  | 0,_,_,_,_ => none
  | mo4 + 1,x0,x1,y1,y2 => (bif (decide (y1 < (x1.length : Int))) then (bif (decide (y1 < 6)) then ((zBK n x0 x1 y1).bind fun r5 => (bif (r5 == 1) then (bif (decide ((0 : Int) ≤ y1)) then (QG n mo4 x0 x1 (IntKind.wrap .i64 (y1 + 1)) (IntKind.wrap .i64 (BitVec.ofInt (IntKind.bits .i64) y2 ||| BitVec.ofInt (IntKind.bits .i64) (IntKind.wrap .i64 (1 * 2 ^ min ((y1 : Int)).toNat (IntKind.bits .i64)))).toNat)) else none) else (bif (r5 == 2) then (bif (decide ((0 : Int) ≤ y1)) then (QG n mo4 x0 x1 (IntKind.wrap .i64 (y1 + 1)) (IntKind.wrap .i64 (BitVec.ofInt (IntKind.bits .i64) y2 ||| BitVec.ofInt (IntKind.bits .i64) (IntKind.wrap .i64 (1 * 2 ^ min ((y1 : Int)).toNat (IntKind.bits .i64)))).toNat)) else none) else (QG n mo4 x0 x1 (IntKind.wrap .i64 (y1 + 1)) y2)))) else (some (Sum.inl y2))) else (some (Sum.inl y2)))
def zB9 (n : Nat) (x0 : Int) (x1 : (List Pt)) : Option (Int) :=
  ((QG n n x0 x1 0 0).bind fun o => match o with | .inl y3 => (zCM n y3) | .inr r => some r)
theorem zM6 (n : Nat) (x0 : Int) (x1 : (List Pt)) (r : Int) (H : zB9 n x0 x1 = some r) : zJ Tryz.prog 161 [.val false [.lit (.int .i64 x0)],.val false [.sl false 8 (CV.frzEs (x1.map Pt.row))]] [.val false [.lit (.int .i64 r)]] [] := by
 refine cW Tryz.func161 (fun g d => sl [g 0,g 1,sl [g 2] (.block 0 (.loop (sl [sl [g 3] (cn 15 .skip (.exit 0)),.block 1 (sl [g 5,g 6] (cn 27 (g 7) .skip))] (g 4)))),g 8] .ret) [.tmp 4] fun cx=>?_
 unfold zB9 at H
 refine gA 1 3 0<|gA 1 35 0<|tS<|gA 1 99 0 ?_
 obtain ⟨o4,eo4,Ho4⟩ := bs H
 clear H
 refine Tr.mid (ι := Int) (fun v => ⟨33,0,[sI 5 v],[]⟩) (fun v => zCM n v = some r) ?_ ?_
 ·refine tB<|Tr.loop (ι := Nat × (Int × Int)) (fun v => ⟨33,0,[sI 6 v.2.1,sI 5 v.2.2,sI 0 x0,sC 1 (cF 8 x1 Pt.row)],[]⟩) (fun v => QG n v.1 x0 x1 v.2.1 v.2.2 = some o4) (fun v => v.1) (n,(0,0)) eo4 (St.sub_of [6,5,0,1] [] kr) ?_
  rintro ⟨mo4,y1,y2⟩ H
  have H : QG n mo4 x0 x1 y1 y2 = some o4 := H
  obtain _ | mo4 := mo4
  ·exact nN H
  rw [QG] at H
  refine tS<|rA 2<|kF x1 Pt.row<|lA 2 ?_
  obtain ⟨h1,H⟩ | ⟨h1,H⟩ := bC H
  ·refine qL 4195 0 [12] h1<|uA 3 32867 0<|nB_<|Tr.exit<|aJ ?_
   obtain rfl := si H
   have H := Ho4
   dsimp only at H
   exact jA y2 H [5] []
  refine qL 4195 0 [12] h1<|uA 3 32867 0 ?_
  obtain ⟨h2,H⟩ | ⟨h2,H⟩ := bC H
  ·refine nA h2<|Tr.exit<|aJ ?_
   obtain rfl := si H
   have H := Ho4
   dsimp only at H
   exact jA y2 H [5] []
  refine tA h2<|tK<|tS<|tB<|rA 3<|bE H fun r5 er5 H=> vA [.rd,.rd,.rd] (zMF n x0 x1 y1 r5 er5)<|uA 1 227 0<|rA 3 ?_
  obtain ⟨h3,H⟩ | ⟨h3,H⟩ := bC H
  ·refine qL 16777443 0 [24] h3<|uA 3 134217827 0 ?_
   obtain ⟨h4,H⟩ | ⟨h4,H⟩ := bC H
   ·exact nA h4<|tK<|eA 3 99 0<|jB mo4 ((wI (y1 + 1)),y2) H [6,5,0,1] []
   exact tA h4<|Tr.at<|lA 2<|gE H fun hg6 H=> LAt.binC tOk (op := .shl) (t := 3) (ty := 3) (ty' := 3) (x := (.const (.int .i64 1))) (y := (.tmp 29)) (d := 30) (g := none) (.int .i64 1) (.int .i64 y1) (.int .i64 (wI (1 * 2 ^ min ((y1 : Int)).toNat (IntKind.bits .i64)))) _ kr kr kr kr kr (φ := (0 : Int) ≤ y1) kr (of_decide_eq_true hg6) rfl<|uA 2 99 0<|eA 3 99 0<|jB mo4 ((wI (y1 + 1)),(wI (BitVec.ofInt (IntKind.bits .i64) y2 ||| BitVec.ofInt (IntKind.bits .i64) (wI (1 * 2 ^ min ((y1 : Int)).toNat (IntKind.bits .i64)))).toNat)) H [6,5,0,1] []
  exact qL 16777443 0 [24] h3<|uA 3 134217827 0<|tB_<|Tr.at<|lA 2<|gE H fun hg7 H=> LAt.binC tOk (op := .shl) (t := 3) (ty := 3) (ty' := 3) (x := (.const (.int .i64 1))) (y := (.tmp 29)) (d := 30) (g := none) (.int .i64 1) (.int .i64 y1) (.int .i64 (wI (1 * 2 ^ min ((y1 : Int)).toNat (IntKind.bits .i64)))) _ kr kr kr kr kr (φ := (0 : Int) ≤ y1) kr (of_decide_eq_true hg7) rfl<|uA 2 99 0<|eA 3 99 0<|jB mo4 ((wI (y1 + 1)),(wI (BitVec.ofInt (IntKind.bits .i64) y2 ||| BitVec.ofInt (IntKind.bits .i64) (wI (1 * 2 ^ min ((y1 : Int)).toNat (IntKind.bits .i64)))).toNat)) H [6,5,0,1] []
 rintro y3 H
 have H : (zCM n y3) = some r := H
 unfold zCM at H
 exact gA 2 16 0<|te (fJ [(false,[cI y3])] H)
def zAj (n : Nat) (x0 : Int) (x1 : Int) : Option (Bool) :=
  ((qE n x1 0 62).bind fun r1 => (bif r1 then (bif (decide ((0 : Int) ≤ x1)) then (some ((IntKind.wrap .i64 (BitVec.ofInt (IntKind.bits .i64) (Int.fdiv x0 (2 ^ min ((x1 : Int)).toNat (IntKind.bits .i64))) &&& BitVec.ofInt (IntKind.bits .i64) 1).toNat) == 1)) else none) else (some false)))
theorem zLe (n : Nat) (x0 : Int) (x1 : Int) (r : Bool) (H : zAj n x0 x1 = some r) : zJ Tryz.prog 162 [.val false [.lit (.int .i64 x0)],.val false [.lit (.int .i64 x1)]] [.val false [.lit (.bool r)]] [] := by
 refine cW Tryz.func162 (fun g d => sl [g 0,g 1] .ret) [.tmp 4] fun cx=>?_
 unfold zAj at H
 refine gA 1 3 0<|rA 1<|bE H fun r1 er1 H=> vA [.rd,.rd,.rd] (qU n x1 0 62 r1 er1)<|lA 1 ?_
 obtain ⟨h1,H⟩ | ⟨h1,H⟩ := bC H
 ·exact qL 131 0 [7] h1<|uA 7 16 0<|te (fF H)
 exact qL 131 0 [7] h1<|lA 2<|gE H fun hg2 H=> LAt.binC tOk (op := .shr) (t := 3) (ty := 3) (ty' := 3) (x := (.tmp 8)) (y := (.tmp 9)) (d := 10) (g := (some (2,true))) (.int .i64 x0) (.int .i64 x1) (.int .i64 (Int.fdiv x0 (2 ^ min ((x1 : Int)).toNat (IntKind.bits .i64)))) _ kr kr kr kr kr (φ := (0 : Int) ≤ x1) kr (of_decide_eq_true hg2) rfl<|uA 4 16 0<|te (fJ [(false,[cB ((wI (BitVec.ofInt (IntKind.bits .i64) (Int.fdiv x0 (2 ^ min ((x1 : Int)).toNat (IntKind.bits .i64))) &&& BitVec.ofInt (IntKind.bits .i64) 1).toNat) == 1)])] H)
def Yx (n : Nat) (y3 : (List zB)) : Option ((List zB)) :=
  (some y3)
def qt (n : Nat) : Nat → (List zB) → Int → Int → (List zB) → Option (((List zB)) ⊕ ((List zB)))
  | 0,_,_,_,_ => none
  | mo4 + 1,x0,x1,y1,y2 => (bif (decide (y1 < (x0.length : Int))) then ((idx x0 y1).bind fun v5 => (bif v5.Sc then (bif (decide (y2.length + [v5].length ≤ 268435456)) then (qt n mo4 x0 x1 (IntKind.wrap .i64 (y1 + 1)) (y2 ++ [v5])) else none) else (bif (v5.Port != x1) then (bif (decide (y2.length + [v5].length ≤ 268435456)) then (qt n mo4 x0 x1 (IntKind.wrap .i64 (y1 + 1)) (y2 ++ [v5])) else none) else (qt n mo4 x0 x1 (IntKind.wrap .i64 (y1 + 1)) y2)))) else (some (Sum.inl y2)))
def Je (n : Nat) (x0 : (List zB)) (x1 : Int) : Option ((List zB)) :=
  ((qt n n x0 x1 0 ([] : List zB)).bind fun o => match o with | .inl y3 => (Yx n y3) | .inr r => some r)
theorem zJ6 (n : Nat) (x0 : (List zB)) (x1 : Int) (r : (List zB)) (H : Je n x0 x1 = some r) : zJ Tryz.prog 163 [.val false [.sl false 5 (CV.frzEs (x0.map zB.row))],.val false [.lit (.int .i64 x1)]] [.val false [.sl true 5 (r.map zB.row)]] [] := by
 refine cW Tryz.func163 (fun g d => sl [g 0,g 1,sl [g 2] (.block 0 (.loop (sl [g 3,cn 11 .skip (.exit 0),.block 1 (sl [g 4,g 5] (cn 21 (g 6) .skip))] (g 7)))),g 8] .ret) [.tmp 4] fun cx=>?_
 unfold Je at H
 refine gA 1 3 0<|gA 1 35 0<|tS<|rA 1<|kF x0 zB.row<|uA 1 1826 0 ?_
 obtain ⟨o4,eo4,Ho4⟩ := bs H
 clear H
 refine Tr.mid (ι := (List zB)) (fun v => ⟨28,0,[sC 5 (cL 5 v zB.row)],[]⟩) (fun v => Yx n v = some r) ?_ ?_
 ·refine tB<|Tr.loop (ι := Nat × (Int × (List zB))) (fun v => ⟨28,0,[sI 10 v.2.1,sI 9 (x0.length : Int),sC 8 (cF 5 x0 zB.row),sC 5 (cL 5 v.2.2 zB.row),sI 1 x1],[]⟩) (fun v => qt n v.1 x0 x1 v.2.1 v.2.2 = some o4) (fun v => v.1) (n,(0,([] : List zB))) eo4 (St.sub_of [10,9,8,5,1] [] kr) ?_
  rintro ⟨mo4,y1,y2⟩ H
  have H : qt n mo4 x0 x1 y1 y2 = some o4 := H
  obtain _ | mo4 := mo4
  ·exact nN H
  rw [qt] at H
  refine gA 1 3874 0<|tS ?_
  obtain ⟨h1,H⟩ | ⟨h1,H⟩ := bC H
  ·refine nA h1<|Tr.exit<|aJ ?_
   obtain rfl := si H
   have H := Ho4
   dsimp only at H
   exact jA y2 H [5] []
  refine tA h1<|tK<|tS<|tB<|tR<|bE H fun v5 ev5 H=> iA zB.row ev5<|uA 3 1954 128<|tS<|Tr.at<|lA 3 ?_
  obtain ⟨h2,H⟩ | ⟨h2,H⟩ := bC H
  ·refine qL 67490 128 [16] h2<|uA 5 2099106 128 ?_
   obtain ⟨h3,H⟩ | ⟨h3,H⟩ := bC H
   ·exact nA h3<|tK<|eA 2 1826 0<|jB mo4 ((wI (y1 + 1)),y2) H [10,9,8,5,1] []
   exact tA h3<|Tr.at<|lA 3<|gE H fun hg6 H=> LAt.appMU tOk (t := 25) (ty := 25) (e := 103) (x := (.tmp 22)) (y := (.tmp 24)) (d := 25) (g := none) (tI 103) zB.row y2 [v5] kr kr kr kr kr kr kr kr kr kr hg6<|LAt.moveU (T := lk tab) (ty := 25) (x := (.tmp 25)) (d := 5) (g := none) false [cL 5 (y2 ++ [v5]) zB.row] kr kr kr kr kr<|dA 1826 0<|eA 2 1826 0<|jB mo4 ((wI (y1 + 1)),(y2 ++ [v5])) H [10,9,8,5,1] []
  exact qL 67490 128 [16] h2<|uA 5 2099106 128<|tB_<|Tr.at<|lA 3<|gE H fun hg7 H=> LAt.appMU tOk (t := 25) (ty := 25) (e := 103) (x := (.tmp 22)) (y := (.tmp 24)) (d := 25) (g := none) (tI 103) zB.row y2 [v5] kr kr kr kr kr kr kr kr kr kr hg7<|LAt.moveU (T := lk tab) (ty := 25) (x := (.tmp 25)) (d := 5) (g := none) false [cL 5 (y2 ++ [v5]) zB.row] kr kr kr kr kr<|dA 1826 0<|eA 2 1826 0<|jB mo4 ((wI (y1 + 1)),(y2 ++ [v5])) H [10,9,8,5,1] []
 rintro y3 H
 have H : (Yx n y3) = some r := H
 unfold Yx at H
 exact gA 2 48 0<|te (fJ [(false,[cL 5 y3 zB.row])] H)
def JR (n : Nat) (r1 : Int) (x0 : zA) (y5 : (List zB)) : Option (zA) :=
  (some (⟨x0.Id,x0.Name,x0.Ps,y5,x0.V,x0.Tk,x0.Pa,x0.Wo,x0.Dr,r1⟩ : zA))
def ZG (n : Nat) : Nat → Int → zA → Int → (List zB) → Option (((List zB)) ⊕ (zA))
  | 0,_,_,_,_ => none
  | mo6 + 1,r2,x0,y3,y4 => (bif (decide (y3 < (x0.Ps.length : Int))) then ((zAj n r2 y3).bind fun r7 => (bif (!r7) then ((Je n y4 y3).bind fun r8 => (ZG n mo6 r2 x0 (IntKind.wrap .i64 (y3 + 1)) r8)) else (ZG n mo6 r2 x0 (IntKind.wrap .i64 (y3 + 1)) y4))) else (some (Sum.inl y4)))
def ZH (n : Nat) (x0 : zA) : Option (zA) :=
  ((zBj n x0.Ve).bind fun r1 => ((zB9 n x0.Id x0.Ps).bind fun r2 => ((ZG n n r2 x0 0 x0.F).bind fun o => match o with | .inl y5 => (JR n r1 x0 y5) | .inr r => some r)))
noncomputable abbrev G89 (k : Nat) := Rg Tryz.f89 k
noncomputable abbrev D89 (k : Nat) := Rd Tryz.f89 k
theorem zIY (n : Nat) (x0 : zA) (r : zA) (H : ZH n x0 = some r) : zJ Tryz.prog 89 [.ptr (zA.row x0)] [] [(0,(zA.row r))] := by
 refine zJ.of_body tOk Tryz.func89 rfl (c := (.seq (G89 0) (.seq (D89 1) (.seq (G89 2) (.block 0 (.loop (.seq (G89 3) (.seq (.cond (.tmp 27) .skip (.exit 0)) (.seq (.block 1 (.seq (G89 4) (.seq (G89 5) (.cond (.tmp 32) (G89 6) .skip)))) (G89 7)))))))))) kr (Nat.le_of_ble_eq_true kr) 1 (rs := []) rfl [] .nil [] [] [(0,(zA.row r))] fun cx=>?_
 show Tr _ _ _ ⟨43,1,[sA 0 0 11 0],[(0,(zA.row x0))]⟩ _
 unfold ZH at H
 refine rA 5<|bE H fun r1 er1 H=> vA [.rd] (zNi n x0.Ve r1 er1)<|uA 3 1 1<|bE H fun r2 er2 H=> Tr.draws mixed 10 kr ⟨43,1,[sI 2 r2,sA 0 0 11 0],[(0,[cI x0.Id,cS x0.Name,cL 8 x0.Ps Pt.row,cL 5 x0.F zB.row,cL 3 x0.V.Rows zC.row,cL 1 x0.V.Pv intRow,cI x0.Tk,cI x0.Pa,cI x0.Wo,cI x0.Dr,cI r1])]⟩ (fun cx=>?_) ?_
 ·exact aA [(0,[]),(1,[]),(2,[]),(3,[8]),(4,[]),(5,[]),(6,[]),(7,[8])] 2 [⟨[8],24,18,19⟩,⟨[8],3,14,15⟩] fun cx=>bA 8<|vB [.rd,.rd] [.box 0] (zM6 n x0.Id x0.Ps r2 er2) (.inr (zO (zE zM zS) zW))<|fA<|aA [(9,[])] 0 [⟨[8],24,18,19⟩,⟨[8],3,14,15⟩] fun cx=>eE [2,0] [0]
 refine rA 4<|kO x0.Ps Pt.row<|uA 1 100663301 1 ?_
 obtain ⟨o6,eo6,Ho6⟩ := bs H
 clear H
 refine Tr.mid (ι := (List zB)) (fun v => ⟨43,1,[sA 0 0 11 0],[(0,[cI x0.Id,cS x0.Name,cL 8 x0.Ps Pt.row,cL 5 v zB.row,cL 3 x0.V.Rows zC.row,cL 1 x0.V.Pv intRow,cI x0.Tk,cI x0.Pa,cI x0.Wo,cI x0.Dr,cI r1])]⟩) (fun v => JR n r1 x0 v = some r) ?_ ?_
 ·refine tB<|Tr.loop (ι := Nat × (Int × (List zB))) (fun v => ⟨43,1,[sI 26 v.2.1,sI 25 (x0.Ps.length : Int),sI 2 r2,sA 0 0 11 0],[(0,[cI x0.Id,cS x0.Name,cL 8 x0.Ps Pt.row,cL 5 v.2.2 zB.row,cL 3 x0.V.Rows zC.row,cL 1 x0.V.Pv intRow,cI x0.Tk,cI x0.Pa,cI x0.Wo,cI x0.Dr,cI r1])]⟩) (fun v => ZG n v.1 r2 x0 v.2.1 v.2.2 = some o6) (fun v => v.1) (n,(0,x0.F)) eo6 (St.sub_of [26,25,2,0] [0] kr) ?_
  rintro ⟨mo6,y3,y4⟩ H
  have H : ZG n mo6 r2 x0 y3 y4 = some o6 := H
  obtain _ | mo6 := mo6
  ·exact nN H
  rw [ZG] at H
  refine gA 1 234881029 1<|tS ?_
  obtain ⟨h1,H⟩ | ⟨h1,H⟩ := bC H
  ·refine nA h1<|Tr.exit<|aJ ?_
   obtain rfl := si H
   have H := Ho6
   dsimp only at H
   exact jA y4 H [0] [0]
  refine tA h1<|tK<|tS<|tB<|gA 2 100663309 1<|rA 2<|bE H fun r7 er7 H=> vA [.rd,.rd] (zLe n r2 y3 r7 er7)<|uA 1 4395630605 1 ?_
  obtain ⟨h2,H⟩ | ⟨h2,H⟩ := bC H
  ·exact nA h2<|tK<|eA 2 100663301 1<|jB mo6 ((wI (y3 + 1)),y4) H [26,25,2,0] [0]
  exact tA h2<|Tr.at<|lA 6<|bE H fun r8 er8 H=> vB [.rd,.rd] [.box 0] (zJ6 n y4 y3 r8 er8) (.inr (zO (zE (Q0 (Zv zB.row_mine _)) zS) zW))<|uA 3 100663301 1<|eA 2 100663301 1<|jB mo6 ((wI (y3 + 1)),r8) H [26,25,2,0] [0]
 rintro y5 H
 have H : (JR n r1 x0 y5) = some r := H
 unfold JR at H
 exact fY [] [(0,[cI x0.Id,cS x0.Name,cL 8 x0.Ps Pt.row,cL 5 y5 zB.row,cL 3 x0.V.Rows zC.row,cL 1 x0.V.Pv intRow,cI x0.Tk,cI x0.Pa,cI x0.Wo,cI x0.Dr,cI r1])] H
def QE (n : Nat) (x0 : zA) (x1 : Int) (x2 : Bool) : Option (zA) :=
  ((Zi n x0).bind fun r1 => ((zAA n x0 x1).bind fun r2 => (bif r2 then ((idx x0.Ps x1).bind fun v3 => ((idx r1.Ps x1).bind fun v4 => ((ZH n (⟨r1.Id,r1.Name,(r1.Ps.set (x1.toNat) (⟨x2,v3.Co,false,(⟨0,0,0,0,0⟩ : Vec)⟩ : Pt)),r1.F,r1.V,r1.Tk,r1.Pa,r1.Wo,r1.Dr,r1.Ve⟩ : zA)).bind fun r5 => (some r5)))) else (some r1))))
def zP1 : Tab := ⟨13,[0,1,0,0,0,16,0,96,128,256,520,2047,4095],[0,1,0,0,0,16,0,96,128,256,520,6,3072],[0,1,0,0,0,16,0,112,240,496,1016,2047,4095]⟩
theorem zGP : zg (rg Tryz.f19 3) zP1 = true := kr
theorem zLZ (n : Nat) (x0 : zA) (x1 : Int) (x2 : Bool) (r : zA) (H : QE n x0 x1 x2 = some r) : zJ Tryz.prog 19 [.val true (fR (zA.row x0)),.val false [.lit (.int .i64 x1)],.val false [.lit (.bool x2)]] [.val true (zA.row r)] [] := by
 refine cW Tryz.func19 (fun g d => sl [g 0,g 1,sl [g 2] (cn 12 (sl [d 3] (g 4)) .skip),g 5] .ret) [.cell 6 31] fun cx=>?_
 unfold QE at H
 refine gA 2 78 72<|rA 1<|bE H fun r1 er1 H=> vA [.rd] (zJJ n x0 r1 er1)<|uA 2 206 200<|tS<|rA 2<|bE H fun r2 er2 H=> vA [.rd,.rd] (zMJ n x0 x1 r2 er2)<|dA 4302 200 ?_
 cases h1 : r2
 ·have H := q3 h1 H
  exact nB_<|tK<|gA 2 64 64<|te (fJ [(true,(zA.row r1))] H)
 have H := q7 h1 H
 refine tB_<|bE H fun v3 ev3 H=> bE H fun v4 ev4 H=> Tr.draws mixed 13 kr ⟨27,0,[sA 7 7 11 0,sA 6 6 11 0],[(7,[cI r1.Id,cS r1.Name,cL 8 (r1.Ps.set (x1.toNat) (⟨x2,v3.Co,false,(⟨0,0,0,0,0⟩ : Vec)⟩ : Pt)) Pt.row,cL 5 r1.F zB.row,cL 3 r1.V.Rows zC.row,cL 1 r1.V.Pv intRow,cI r1.Tk,cI r1.Pa,cI r1.Wo,cI r1.Dr,cI r1.Ve]),(6,[cI 0,cS (⟨#[]⟩ : ByteArray),cL 8 ([] : List Pt) Pt.row,cL 5 ([] : List zB) zB.row,cL 3 ([] : List zC) zC.row,cL 1 ([] : List Int) intRow,cI 0,cI 0,cI 0,cI 0,cI 0])]⟩ (fun cx=>?_) ?_
 ·exact mA zGP [(0,[]),(1,[12]),(2,[]),(3,[]),(4,[]),(5,[10,12]),(6,[])] 6 [⟨[10,12],24,17,18⟩,⟨[12],24,13,14⟩] fun cx=>iN zGP 7 Pt.row ev3 fun cx=>mA zGP [(8,[]),(9,[])] 3 [⟨[10,12],24,17,18⟩,⟨[12],24,13,14⟩] fun cx=>mC zGP 10<|lA 1<|fA<|oN zGP 11 Pt.row ev4 fun cx=>mC zGP 12<|LAt.storeB tOk (t := 100) (ty := 0) (ad := (.tmp 24)) (x := (.tmp 23)) (g := none) (tI 100) true [cB x2,cI v3.Co,cB false,cI 0,cI 0,cI 0,cI 0,cI 0] 7 2 (x1.toNat) 8 0 8 r1.Ps Pt.row v4 (⟨x2,v3.Co,false,(⟨0,0,0,0,0⟩ : Vec)⟩ : Pt) kr kr kr kr kr kr kr kr (zN ev4).2 kr kr kr kr<|fA<|mE zGP [7,6] [7,6]
 exact Tr.at<|bE H fun r5 er5 H=> vL [.lend] (zIY n (⟨r1.Id,r1.Name,(r1.Ps.set (x1.toNat) (⟨x2,v3.Co,false,(⟨0,0,0,0,0⟩ : Vec)⟩ : Pt)),r1.F,r1.V,r1.Tk,r1.Pa,r1.Wo,r1.Dr,r1.Ve⟩ : zA) r5 er5)<|dA 192 192<|gA 2 64 64<|te (fJ [(true,(zA.row r5))] H)
def zCs (n : Nat) : Option (Bool) :=
  (some false)
def Z9 (n : Nat) : Nat → (List Link) → Int → Int → Int → Option ((Unit) ⊕ (Bool))
  | 0,_,_,_,_ => none
  | mo2 + 1,x0,x1,x2,y1 => (bif (decide (y1 < (x0.length : Int))) then ((idx x0 y1).bind fun v3 => (bif (v3.A == x1) then (bif (v3.P == x2) then (some (Sum.inr true)) else (bif (v3.B == x1) then (bif (v3.Q == x2) then (some (Sum.inr true)) else (Z9 n mo2 x0 x1 x2 (IntKind.wrap .i64 (y1 + 1)))) else (Z9 n mo2 x0 x1 x2 (IntKind.wrap .i64 (y1 + 1))))) else (bif (v3.B == x1) then (bif (v3.Q == x2) then (some (Sum.inr true)) else (Z9 n mo2 x0 x1 x2 (IntKind.wrap .i64 (y1 + 1)))) else (Z9 n mo2 x0 x1 x2 (IntKind.wrap .i64 (y1 + 1)))))) else (some (Sum.inl ())))
def zAV (n : Nat) (x0 : (List Link)) (x1 : Int) (x2 : Int) : Option (Bool) :=
  ((Z9 n n x0 x1 x2 0).bind fun o => match o with | .inl _ => (zCs n) | .inr r => some r)
theorem zFW (n : Nat) (x0 : (List Link)) (x1 : Int) (x2 : Int) (r : Bool) (H : zAV n x0 x1 x2 = some r) : zJ Tryz.prog 123 [.val false [.sl false 4 (CV.frzEs (x0.map Link.row))],.val false [.lit (.int .i64 x1)],.val false [.lit (.int .i64 x2)]] [.val false [.lit (.bool r)]] [] := by
 refine cW Tryz.func123 (fun g d => sl [g 0,sl [g 1] (.block 0 (.loop (sl [g 2,cn 12 .skip (.exit 0),.block 1 (sl [g 3,g 4] (cn 36 (sl [g 5] .ret) .skip))] (g 6)))),g 7] .ret) [.tmp 6] fun cx=>?_
 unfold zAV at H
 refine gA 1 7 0<|tS<|rA 1<|kF x0 Link.row<|uA 1 3590 0 ?_
 obtain ⟨o2,eo2,Ho2⟩ := bs H
 clear H
 refine Tr.mid (ι := Unit) (fun v => ⟨38,0,[],[]⟩) (fun v => zCs n = some r) ?_ ?_
 ·refine tB<|Tr.loop (ι := Nat × (Int)) (fun v => ⟨38,0,[sI 11 v.2,sI 10 (x0.length : Int),sC 9 (cF 4 x0 Link.row),sI 1 x1,sI 2 x2],[]⟩) (fun v => Z9 n v.1 x0 x1 x2 v.2 = some o2) (fun v => v.1) (n,0) eo2 (St.sub_of [11,10,9,1,2] [] kr) ?_
  rintro ⟨mo2,y1⟩ H
  have H : Z9 n mo2 x0 x1 x2 y1 = some o2 := H
  obtain _ | mo2 := mo2
  ·exact nN H
  rw [Z9] at H
  refine gA 1 7686 0<|tS ?_
  obtain ⟨h1,H⟩ | ⟨h1,H⟩ := bC H
  ·refine nA h1<|Tr.exit<|aJ ?_
   obtain rfl := si H
   have H := Ho2
   dsimp only at H
   exact jA () H [] []
  refine tA h1<|tK<|tS<|tB<|tR<|bE H fun v3 ev3 H=> iA Link.row ev3<|uA 3 3846 256<|rA 5 ?_
  obtain ⟨h2,H⟩ | ⟨h2,H⟩ := bC H
  ·refine qL 528134 256 [19] h2<|lA 11 ?_
   obtain ⟨h3,H⟩ | ⟨h3,H⟩ := bC H
   ·exact qL 1107300102 256 [30] h3<|uA 6 68719480326 0<|nB_<|tK<|eA 2 3590 0<|jB mo2 (wI (y1 + 1)) H [11,10,9,1,2] []
   refine qL 1107300102 256 [30] h3<|uA 6 68719480326 0 ?_
   obtain ⟨h4,H⟩ | ⟨h4,H⟩ := bC H
   ·exact nA h4<|tK<|eA 2 3590 0<|jB mo2 (wI (y1 + 1)) H [11,10,9,1,2] []
   refine tA h4<|gA 1 64 0<|te ?_
   obtain rfl := si H
   have H := Ho2
   dsimp only at H
   exact fT H
  refine qL 528134 256 [19] h2<|lA 6 ?_
  obtain ⟨h5,H⟩ | ⟨h5,H⟩ := bC H
  ·refine qL 33558278 256 [25] h5<|lA 5 ?_
   obtain ⟨h6,H⟩ | ⟨h6,H⟩ := bC H
   ·exact qL 1107300102 256 [30] h6<|uA 6 68719480326 0<|nB_<|tK<|eA 2 3590 0<|jB mo2 (wI (y1 + 1)) H [11,10,9,1,2] []
   refine qL 1107300102 256 [30] h6<|uA 6 68719480326 0 ?_
   obtain ⟨h7,H⟩ | ⟨h7,H⟩ := bC H
   ·exact nA h7<|tK<|eA 2 3590 0<|jB mo2 (wI (y1 + 1)) H [11,10,9,1,2] []
   refine tA h7<|gA 1 64 0<|te ?_
   obtain rfl := si H
   have H := Ho2
   dsimp only at H
   exact fT H
  refine qL 33558278 256 [25] h5<|uA 11 68719480326 0<|tB_<|gA 1 64 0<|te ?_
  obtain rfl := si H
  have H := Ho2
  dsimp only at H
  exact fT H
 rintro _ H
 have H : (zCs n) = some r := H
 unfold zCs at H
 exact gA 1 64 0<|te (fF H)
def QZ (n : Nat) (x0 : Net) (x1 : Int) (x2 : Int) : Option (Pt × Bool) :=
  ((qE n x1 0 (IntKind.wrap .i64 ((x0.Bs.length : Int) - 1))).bind fun r1 => (bif (!r1) then (some ((⟨false,0,false,(⟨0,0,0,0,0⟩ : Vec)⟩ : Pt),false)) else ((idx x0.Bs x1).bind fun v2 => ((qE n x2 0 (IntKind.wrap .i64 ((v2.Ps.length : Int) - 1))).bind fun r3 => (bif (!r3) then (some ((⟨false,0,false,(⟨0,0,0,0,0⟩ : Vec)⟩ : Pt),false)) else ((idx x0.Bs x1).bind fun v4 => ((idx v4.Ps x2).bind fun v5 => (some (v5,true)))))))))
theorem zAv (n : Nat) (x0 : Net) (x1 : Int) (x2 : Int) (r : Pt × Bool) (H : QZ n x0 x1 x2 = some r) : zJ Tryz.prog 127 [.val true (fR (Net.row x0)),.val false [.lit (.int .i64 x1)],.val false [.lit (.int .i64 x2)]] [.val true (Pt.row r.1),.val false [.lit (.bool r.2)]] [] := by
 refine cW Tryz.func127 (fun g d => sl [g 0,sl [g 1] (cn 27 (sl [g 2] .ret) .skip),g 3] .ret) [.cell 6 100,.tmp 7] fun cx=>?_
 unfold QZ at H
 refine gA 3 78 72<|tS<|rA 3<|kF x0.Bs zA.row<|lA 1<|bE H fun r1 er1 H=> vA [.rd,.rd,.rd] (qU n x1 0 (wI ((x0.Bs.length : Int) - 1)) r1 er1)<|lA 2 ?_
 obtain ⟨h1,H⟩ | ⟨h1,H⟩ := bC H
 ·refine qL 32846 72 [15] h1<|lA 4<|bE H fun v2 ev2 H=> iA zA.row ev2<|lA 2<|kF v2.Ps Pt.row<|lA 1<|bE H fun r3 er3 H=> vA [.rd,.rd,.rd] (qU n x2 0 (wI ((v2.Ps.length : Int) - 1)) r3 er3)<|uA 2 134217806 72 ?_
  obtain ⟨h2,H⟩ | ⟨h2,H⟩ := bC H
  ·exact nA h2<|tK<|rA 3<|bE H fun v4 ev4 H=> iA zA.row ev4<|lA 3<|bE H fun v5 ev5 H=> iA Pt.row ev5<|uA 3 192 64<|te (fJ [(true,(Pt.row v5)),(false,[cB true])] H)
  exact tA h2<|gA 3 192 64<|te (fJ [(true,[cB false,cI 0,cB false,cI 0,cI 0,cI 0,cI 0,cI 0]),(false,[cB false])] H)
 exact qL 32846 72 [15] h1<|uA 12 134217806 72<|tB_<|gA 3 192 64<|te (fJ [(true,[cB false,cI 0,cB false,cI 0,cI 0,cI 0,cI 0,cI 0]),(false,[cB false])] H)
def zA7 (n : Nat) : Option (Bool) :=
  (some true)
def qo (n : Nat) : Nat → Net → Int → Option ((Unit) ⊕ (Bool))
  | 0,_,_ => none
  | mo2 + 1,x0,y1 => (bif (decide (y1 < (x0.Ls.length : Int))) then ((idx x0.Ls y1).bind fun v3 => ((QZ n x0 v3.A v3.P).bind fun r4 => ((QZ n x0 v3.B v3.Q).bind fun r5 => (bif (decide (y1 ≥ 9)) then (some (Sum.inr false)) else (bif (!r4.2) then (some (Sum.inr false)) else (bif (!r5.2) then (some (Sum.inr false)) else (bif (v3.A == v3.B) then (some (Sum.inr false)) else (bif (!(r4.1.Up == r5.1.Up)) then (some (Sum.inr false)) else (bif (decide ((0 : Int) ≤ 0) && (decide ((0 : Int) ≤ y1) && decide ((y1 : Int) ≤ (x0.Ls.length : Int)))) then ((zAV n ((x0.Ls.drop ((0 : Int)).toNat).take (((y1 : Int)).toNat - ((0 : Int)).toNat)) v3.A v3.P).bind fun r7 => (bif r7 then (some (Sum.inr false)) else (bif (decide ((0 : Int) ≤ 0) && (decide ((0 : Int) ≤ y1) && decide ((y1 : Int) ≤ (x0.Ls.length : Int)))) then ((zAV n ((x0.Ls.drop ((0 : Int)).toNat).take (((y1 : Int)).toNat - ((0 : Int)).toNat)) v3.B v3.Q).bind fun r9 => (bif r9 then (some (Sum.inr false)) else (qo n mo2 x0 (IntKind.wrap .i64 (y1 + 1))))) else none))) else none))))))))) else (some (Sum.inl ())))
def zAk (n : Nat) (x0 : Net) : Option (Bool) :=
  ((qo n n x0 0).bind fun o => match o with | .inl _ => (zA7 n) | .inr r => some r)
def zPK : Tab := ⟨20,[0,1,0,6,0,16,0,64,168,256,512,1536,512,6656,512,16896,512,66048,172544,262656],[0,1,0,6,0,16,0,64,168,256,512,1536,512,6656,512,16896,512,66048,172544,262656],[0,1,0,7,0,16,0,64,255,511,1023,2047,1023,8191,1023,17407,1023,66559,262143,524287]⟩
theorem JA : zg (rg Tryz.f124 8) zPK = true := kr
theorem zLf (n : Nat) (x0 : Net) (r : Bool) (H : zAk n x0 = some r) : zJ Tryz.prog 124 [.val true (fR (Net.row x0))] [.val false [.lit (.bool r)]] [] := by
 refine cW Tryz.func124 (fun g d => sl [g 0,sl [g 1] (.block 0 (.loop (sl [g 2,cn 13 .skip (.exit 0),.block 1 (sl [g 3,g 4,g 5,sl [g 6] (cn 58 (sl [g 7] .ret) .skip),d 8] (cn 78 (sl [g 9] .ret) .skip))] (g 10)))),g 11] .ret) [.tmp 2] fun cx=>?_
 unfold zAk at H
 refine gA 2 2 2<|tS<|rA 2<|kF x0.Ls Link.row<|uA 1 7170 2 ?_
 obtain ⟨o2,eo2,Ho2⟩ := bs H
 clear H
 refine Tr.mid (ι := Unit) (fun v => ⟨80,0,[],[]⟩) (fun v => zA7 n = some r) ?_ ?_
 ·refine tB<|Tr.loop (ι := Nat × (Int)) (fun v => ⟨80,0,[sI 12 v.2,sI 11 (x0.Ls.length : Int),sC 10 (cF 4 x0.Ls Link.row),sA 1 1 3 0],[(1,(fR (Net.row x0)))]⟩) (fun v => qo n v.1 x0 v.2 = some o2) (fun v => v.1) (n,0) eo2 (St.sub_of [12,11,10,1] [1] kr) ?_
  rintro ⟨mo2,y1⟩ H
  have H : qo n mo2 x0 y1 = some o2 := H
  obtain _ | mo2 := mo2
  ·exact nN H
  rw [qo] at H
  refine gA 1 15362 2<|tS ?_
  obtain ⟨h1,H⟩ | ⟨h1,H⟩ := bC H
  ·refine nA h1<|Tr.exit<|aJ ?_
   obtain rfl := si H
   have H := Ho2
   dsimp only at H
   exact jA () H [] []
  refine tA h1<|tK<|tS<|tB<|rA 1<|bE H fun v3 ev3 H=> iA Link.row ev3<|uA 4 7194 18<|rA 5<|bE H fun r4 er4 H=> vA [.rd,.rd,.rd] (zAv n x0 v3.A v3.P r4 er4)<|LAt.movT tOk (ty := 129) (t := 23) (d := 17) (g := none) [(true,(Pt.row r4.1)),(false,[cB r4.2])] _ kr (.inl rfl) kr kr kr kr rfl<|uA 5 7290 50<|rA 5<|bE H fun r5 er5 H=> vA [.rd,.rd,.rd] (zAv n x0 v3.B v3.Q r5 er5)<|LAt.movT tOk (ty := 129) (t := 32) (d := 26) (g := none) [(true,(Pt.row r5.1)),(false,[cB r5.2])] _ kr (.inl rfl) kr kr kr kr rfl<|uA 5 7674 178<|tS<|rA 3 ?_
  obtain ⟨h2,H⟩ | ⟨h2,H⟩ := bC H
  ·refine qL 137438961146 178 [37] h2<|lA 4 ?_
   obtain ⟨h3,H⟩ | ⟨h3,H⟩ := bC H
   ·refine qL 2199023263162 178 [41] h3<|lA 4 ?_
    obtain ⟨h4,H⟩ | ⟨h4,H⟩ := bC H
    ·refine qL 35184372096186 178 [45] h4<|lA 7 ?_
     obtain ⟨h5,H⟩ | ⟨h5,H⟩ := bC H
     ·refine qL 4503599627377850 178 [52] h5<|uA 6 0x400000000001c1a 18 ?_
      obtain ⟨h6,H⟩ | ⟨h6,H⟩ := bC H
      ·refine nA h6<|tK<|gE H fun hg6 H=> bE H fun r7 er7 H=> sT ⟨80,0,[sB 58 (!(r4.1.Up == r5.1.Up)),sI 3 y1,sA 4 4 4 0,sI 12 y1,sI 11 (x0.Ls.length : Int),sC 10 (cF 4 x0.Ls Link.row),sA 1 1 3 0],[(4,(Link.row v3)),(1,(fR (Net.row x0)))]⟩ ?_
       cases h7 : r7
       ·have H := q3 h7 H
        refine gE H fun hg8 H=> bE H fun r9 er9 H=> Tr.draws mixed 20 kr ⟨80,0,[sB 78 r9,sI 12 y1,sI 11 (x0.Ls.length : Int),sC 10 (cF 4 x0.Ls Link.row),sA 1 1 3 0],[(1,(fR (Net.row x0)))]⟩ (fun cx=>?_) ?_
        ·refine mA JA [(0,[]),(1,[3,8,13,18]),(2,[]),(4,[]),(5,[8,13,18]),(6,[]),(7,[8,13,18])] 13 [⟨[8,13,18],3,65,66⟩,⟨[8,13,18],3,63,64⟩,⟨[3,8,13,18],50,59,60⟩] fun cx=>mC JA 3<|LAt.cutG tOk (t := 50) (ty := 50) (e := 78) (x := (.tmp 60)) (lo := none) (hi := (some (.tmp 61))) (d := 62) (g := none) (tI 78) Link.row x0.Ls ⟨(.box 1),[(0,0)],1,false,4,(CV.frzEs (x0.Ls.map Link.row))⟩ 0 y1 kr kr kr kr kr kr rfl kr rfl kr kr hg6<|fA<|mC JA 8<|vA [.rd,.rd,.rd] (zFW n ((x0.Ls.drop ((0 : Int)).toNat).take (((y1 : Int)).toNat - ((0 : Int)).toNat)) v3.A v3.P r7 er7)<|fA<|mA JA [(9,[])] 10 [⟨[8,13,18],3,65,66⟩,⟨[8,13,18],3,63,64⟩,⟨[3,8,13,18],50,59,60⟩] fun cx=>qA 0x179800000000001c1a 18 [68] h7<|mA JA [(10,[]),(11,[13,18]),(12,[]),(14,[]),(15,[18]),(16,[]),(17,[18])] 3 [⟨[18],3,75,76⟩,⟨[18],3,73,74⟩,⟨[13,18],50,69,70⟩,⟨[8,13,18],3,65,66⟩,⟨[8,13,18],3,63,64⟩,⟨[3,8,13,18],50,59,60⟩] fun cx=>mC JA 13<|LAt.cutG tOk (t := 50) (ty := 50) (e := 78) (x := (.tmp 70)) (lo := none) (hi := (some (.tmp 71))) (d := 72) (g := (some (9,false))) (tI 78) Link.row x0.Ls ⟨(.box 1),[(0,0)],1,false,4,(CV.frzEs (x0.Ls.map Link.row))⟩ 0 y1 kr kr kr kr kr kr rfl kr rfl kr kr hg8<|fA<|mC JA 18<|vA [.rd,.rd,.rd] (zFW n ((x0.Ls.drop ((0 : Int)).toNat).take (((y1 : Int)).toNat - ((0 : Int)).toNat)) v3.B v3.Q r9 er9)<|fA<|mA JA [(19,[])] 0 [⟨[18],3,75,76⟩,⟨[18],3,73,74⟩,⟨[13,18],50,69,70⟩,⟨[8,13,18],3,65,66⟩,⟨[8,13,18],3,63,64⟩,⟨[3,8,13,18],50,59,60⟩] fun cx=>?_
         exact mE JA [78,12,11,10,1] [1]
        cases h8 : r9
        ·have H := q3 h8 H
         exact nB_<|tK<|eA 2 7170 2<|jB mo2 (wI (y1 + 1)) H [12,11,10,1] [1]
        have H := q7 h8 H
        refine tB_<|gA 1 4 0<|te ?_
        obtain rfl := si H
        have H := Ho2
        dsimp only at H
        exact fF H
       have H := q7 h7 H
       refine Tr.draws mixed 20 kr ⟨80,0,[sB 78 true,sI 12 y1,sI 11 (x0.Ls.length : Int),sC 10 (cF 4 x0.Ls Link.row),sA 1 1 3 0],[(1,(fR (Net.row x0)))]⟩ (fun cx=>?_) ?_
       ·exact mA JA [(0,[]),(1,[3,8]),(2,[]),(4,[]),(5,[8]),(6,[]),(7,[8])] 13 [⟨[8],3,65,66⟩,⟨[8],3,63,64⟩,⟨[3,8],50,59,60⟩] fun cx=>mC JA 3<|LAt.cutG tOk (t := 50) (ty := 50) (e := 78) (x := (.tmp 60)) (lo := none) (hi := (some (.tmp 61))) (d := 62) (g := none) (tI 78) Link.row x0.Ls ⟨(.box 1),[(0,0)],1,false,4,(CV.frzEs (x0.Ls.map Link.row))⟩ 0 y1 kr kr kr kr kr kr rfl kr rfl kr kr hg6<|fA<|mC JA 8<|vA [.rd,.rd,.rd] (zFW n ((x0.Ls.drop ((0 : Int)).toNat).take (((y1 : Int)).toNat - ((0 : Int)).toNat)) v3.A v3.P r7 er7)<|fA<|mA JA [(9,[])] 10 [⟨[8],3,65,66⟩,⟨[8],3,63,64⟩,⟨[3,8],50,59,60⟩] fun cx=>qA 0x179800000000001c1a 18 [68] h7<|mA JA [(10,[]),(11,[]),(12,[]),(13,[]),(14,[]),(15,[]),(16,[]),(17,[]),(18,[]),(19,[])] 0 [⟨[8],3,65,66⟩,⟨[8],3,63,64⟩,⟨[3,8],50,59,60⟩] fun cx=>mE JA [78,12,11,10,1] [1]
       refine tB_<|gA 1 4 0<|te ?_
       obtain rfl := si H
       have H := Ho2
       dsimp only at H
       exact fF H
      refine tA h6<|gA 1 4 0<|te ?_
      obtain rfl := si H
      have H := Ho2
      dsimp only at H
      exact fF H
     refine qL 4503599627377850 178 [52] h5<|uA 6 0x400000000001c1a 18<|tB_<|gA 1 4 0<|te ?_
     obtain rfl := si H
     have H := Ho2
     dsimp only at H
     exact fF H
    refine qL 35184372096186 178 [45] h4<|uA 13 0x400000000001c1a 18<|tB_<|gA 1 4 0<|te ?_
    obtain rfl := si H
    have H := Ho2
    dsimp only at H
    exact fF H
   refine qL 2199023263162 178 [41] h3<|uA 17 0x400000000001c1a 18<|tB_<|gA 1 4 0<|te ?_
   obtain rfl := si H
   have H := Ho2
   dsimp only at H
   exact fF H
  refine qL 137438961146 178 [37] h2<|uA 21 0x400000000001c1a 18<|tB_<|gA 1 4 0<|te ?_
  obtain rfl := si H
  have H := Ho2
  dsimp only at H
  exact fF H
 rintro _ H
 have H : (zA7 n) = some r := H
 unfold zA7 at H
 exact gA 1 4 0<|te (fT H)
end Go.Proofs.YtajadnlejdpceaaGreat.Tw
