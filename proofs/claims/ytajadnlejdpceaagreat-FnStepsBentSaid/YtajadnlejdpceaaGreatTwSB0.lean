import Derived.Test.YtajadnlejdpceaaGreatProg
import Derived.Test.YtajadnlejdpceaaGreatTlRule
import Derived.Test.YtajadnlejdpceaaGreatTlU15
import Derived.WalkKit
set_option linter.unusedVariables false
set_option linter.unusedSimpArgs false
set_option maxRecDepth 100000
set_option maxHeartbeats 1000000
namespace Go.Proofs.YtajadnlejdpceaaGreat.Tw
open Go Go.TL Go.Proofs
def tab : List (Nat × TI) := [(2,⟨.int .i64,1,8,[.lit (.int .i64 0)]⟩),
  (3,⟨.int .i64,1,8,[.lit (.int .i64 0)]⟩),
  (4,⟨.bool,1,1,[.lit (.bool false)]⟩),
  (5,⟨.int .u8,1,1,[.lit (.int .u8 0)]⟩),
  (6,⟨.int .u8,1,1,[.lit (.int .u8 0)]⟩),
  (7,⟨.st [(0,1,2),(1,1,3),(2,1,4),(3,1,6)],4,24,[.lit (.int .i64 0),.lit (.int .i64 0),.lit (.bool false),.lit (.int .u8 0)]⟩),
  (8,⟨.st [(0,1,2),(1,1,3),(2,1,4),(3,1,6)],4,24,[.lit (.int .i64 0),.lit (.int .i64 0),.lit (.bool false),.lit (.int .u8 0)]⟩),
  (9,⟨.str,1,16,[.lit (.string ⟨#[]⟩)]⟩),
  (11,⟨.str,1,16,[.lit (.string ⟨#[]⟩)]⟩),
  (22,⟨.sl 5,1,24,[.sl true 1 []]⟩),
  (24,⟨.sl 100,1,24,[.sl true 8 []]⟩),
  (25,⟨.sl 103,1,24,[.sl true 5 []]⟩),
  (26,⟨.sl 113,1,24,[.sl true 3 []]⟩),
  (27,⟨.sl 3,1,24,[.sl true 1 []]⟩),
  (29,⟨.st [(0,1,26),(1,1,27)],2,48,[.sl true 3 [],.sl true 1 []]⟩),
  (31,⟨.st [(0,1,3),(1,1,9),(2,1,24),(3,1,25),(4,2,29),(6,1,3),(7,1,3),(8,1,3),(9,1,3),(10,1,3)],11,160,[.lit (.int .i64 0),.lit (.string ⟨#[]⟩),.sl true 8 [],.sl true 5 [],.sl true 3 [],.sl true 1 [],.lit (.int .i64 0),.lit (.int .i64 0),.lit (.int .i64 0),.lit (.int .i64 0),.lit (.int .i64 0)]⟩),
  (33,⟨.st [(0,1,3),(1,1,3),(2,1,3),(3,1,3),(4,1,3)],5,40,[.lit (.int .i64 0),.lit (.int .i64 0),.lit (.int .i64 0),.lit (.int .i64 0),.lit (.int .i64 0)]⟩),
  (49,⟨.sl 31,1,24,[.sl true 11 []]⟩),
  (50,⟨.sl 78,1,24,[.sl true 4 []]⟩),
  (51,⟨.sl 127,1,24,[.sl true 7 []]⟩),
  (53,⟨.st [(0,1,49),(1,1,50),(2,1,51)],3,72,[.sl true 11 [],.sl true 4 [],.sl true 7 []]⟩),
  (54,⟨.sl 84,1,24,[.sl true 2 []]⟩),
  (78,⟨.st [(0,1,3),(1,1,3),(2,1,3),(3,1,3)],4,32,[.lit (.int .i64 0),.lit (.int .i64 0),.lit (.int .i64 0),.lit (.int .i64 0)]⟩),
  (84,⟨.st [(0,1,3),(1,1,3)],2,16,[.lit (.int .i64 0),.lit (.int .i64 0)]⟩),
  (100,⟨.st [(0,1,4),(1,1,3),(2,1,4),(3,5,33)],8,64,[.lit (.bool false),.lit (.int .i64 0),.lit (.bool false),.lit (.int .i64 0),.lit (.int .i64 0),.lit (.int .i64 0),.lit (.int .i64 0),.lit (.int .i64 0)]⟩),
  (103,⟨.st [(0,1,3),(1,1,3),(2,1,3),(3,1,3),(4,1,4)],5,40,[.lit (.int .i64 0),.lit (.int .i64 0),.lit (.int .i64 0),.lit (.int .i64 0),.lit (.bool false)]⟩),
  (113,⟨.st [(0,1,3),(1,1,3),(2,1,3)],3,24,[.lit (.int .i64 0),.lit (.int .i64 0),.lit (.int .i64 0)]⟩),
  (127,⟨.st [(0,1,3),(1,1,4),(2,5,33)],7,56,[.lit (.int .i64 0),.lit (.bool false),.lit (.int .i64 0),.lit (.int .i64 0),.lit (.int .i64 0),.lit (.int .i64 0),.lit (.int .i64 0)]⟩),
  (148,⟨.st [(0,1,22),(1,1,3),(2,1,3)],3,40,[.sl true 1 [],.lit (.int .i64 0),.lit (.int .i64 0)]⟩),
  (150,⟨.sl 9,1,24,[.sl true 1 []]⟩),
  (163,⟨.int .u64,1,8,[.lit (.int .u64 0)]⟩)]
def tI (t : Nat) : TI := (lk tab t).getD ⟨.bool,1,1,[]⟩
theorem mixed : Tryz.prog.follows .mixedOrders = true := by kernel_rfl
theorem tOk : TOk Tryz.prog (lk tab) := zQT (by kernel_rfl)
instance : TC Tryz.prog (lk tab) := ⟨tOk⟩
structure Src where
  b : (List Int)
  i : Int
  h : Int
def Src.row (v : Src) : List CV := [.sl true 1 (v.b.map zZ),.lit (.int .i64 v.i),.lit (.int .i64 v.h)]
def Src.wf (v : Src) : Prop := Q5 zLl v.b ∧ zh v.i ∧ zh v.h ∧ True
theorem Src.enc : Enc Src [.sl 1 [.int .u8],.int .i64,.int .i64] Src.row Src.wf := fun cs h => by
  obtain ⟨c0,r0,rfl,k0,h⟩ := zO h
  obtain ⟨c1,r1,rfl,k1,h⟩ := zO h
  obtain ⟨c2,r2,rfl,k2,h⟩ := zO h
  obtain rfl := Qp h
  obtain ⟨x0,rfl,w0⟩ := Enc.sl zMy k0
  obtain ⟨x1,rfl,w1⟩ := zq k1
  obtain ⟨x2,rfl,w2⟩ := zq k2
  exact ⟨⟨x0,x1,x2⟩,rfl,⟨w0,w1,w2,trivial⟩⟩
theorem Src.row_mine (v : Src) : CV.mineRow (Src.row v) := zJ (Q6 (Zv zLk _)) (zJ zN (zJ zN (zg)))
structure Vec where
  Root : Int
  Co : Int
  Hops : Int
  Bridge : Int
  Port : Int
def Vec.row (v : Vec) : List CV := [.lit (.int .i64 v.Root),.lit (.int .i64 v.Co),.lit (.int .i64 v.Hops),.lit (.int .i64 v.Bridge),.lit (.int .i64 v.Port)]
def Vec.wf (v : Vec) : Prop := zh v.Root ∧ zh v.Co ∧ zh v.Hops ∧ zh v.Bridge ∧ zh v.Port ∧ True
theorem Vec.enc : Enc Vec [.int .i64,.int .i64,.int .i64,.int .i64,.int .i64] Vec.row Vec.wf := fun cs h => by
  obtain ⟨c0,r0,rfl,k0,h⟩ := zO h
  obtain ⟨c1,r1,rfl,k1,h⟩ := zO h
  obtain ⟨c2,r2,rfl,k2,h⟩ := zO h
  obtain ⟨c3,r3,rfl,k3,h⟩ := zO h
  obtain ⟨c4,r4,rfl,k4,h⟩ := zO h
  obtain rfl := Qp h
  obtain ⟨x0,rfl,w0⟩ := zq k0
  obtain ⟨x1,rfl,w1⟩ := zq k1
  obtain ⟨x2,rfl,w2⟩ := zq k2
  obtain ⟨x3,rfl,w3⟩ := zq k3
  obtain ⟨x4,rfl,w4⟩ := zq k4
  exact ⟨⟨x0,x1,x2,x3,x4⟩,rfl,⟨w0,w1,w2,w3,w4,trivial⟩⟩
theorem Vec.row_mine (v : Vec) : CV.mineRow (Vec.row v) := zJ zN (zJ zN (zJ zN (zJ zN (zJ zN (zg)))))
structure Pt where
  Up : Bool
  Co : Int
  Has : Bool
  Hd : Vec
def Pt.row (v : Pt) : List CV := [.lit (.bool v.Up),.lit (.int .i64 v.Co),.lit (.bool v.Has),.lit (.int .i64 v.Hd.Root),.lit (.int .i64 v.Hd.Co),.lit (.int .i64 v.Hd.Hops),.lit (.int .i64 v.Hd.Bridge),.lit (.int .i64 v.Hd.Port)]
def Pt.wf (v : Pt) : Prop := zh v.Co ∧ zh v.Hd.Root ∧ zh v.Hd.Co ∧ zh v.Hd.Hops ∧ zh v.Hd.Bridge ∧ zh v.Hd.Port ∧ True
theorem Pt.enc : Enc Pt [.bool,.int .i64,.bool,.int .i64,.int .i64,.int .i64,.int .i64,.int .i64] Pt.row Pt.wf := fun cs h => by
  obtain ⟨c0,r0,rfl,k0,h⟩ := zO h
  obtain ⟨c1,r1,rfl,k1,h⟩ := zO h
  obtain ⟨c2,r2,rfl,k2,h⟩ := zO h
  obtain ⟨c3,r3,rfl,k3,h⟩ := zO h
  obtain ⟨c4,r4,rfl,k4,h⟩ := zO h
  obtain ⟨c5,r5,rfl,k5,h⟩ := zO h
  obtain ⟨c6,r6,rfl,k6,h⟩ := zO h
  obtain ⟨c7,r7,rfl,k7,h⟩ := zO h
  obtain rfl := Qp h
  obtain ⟨x0,rfl⟩ := zEU k0
  obtain ⟨x1,rfl,w1⟩ := zq k1
  obtain ⟨x2,rfl⟩ := zEU k2
  obtain ⟨x3,rfl,w3⟩ := zq k3
  obtain ⟨x4,rfl,w4⟩ := zq k4
  obtain ⟨x5,rfl,w5⟩ := zq k5
  obtain ⟨x6,rfl,w6⟩ := zq k6
  obtain ⟨x7,rfl,w7⟩ := zq k7
  exact ⟨⟨x0,x1,x2,⟨x3,x4,x5,x6,x7⟩⟩,rfl,⟨w1,w3,w4,w5,w6,w7,trivial⟩⟩
theorem Pt.row_mine (v : Pt) : CV.mineRow (Pt.row v) := zJ zN (zJ zN (zJ zN (zJ zN (zJ zN (zJ zN (zJ zN (zJ zN (zg))))))))
structure zB where
  Tag : Int
  Mac : Int
  Port : Int
  Age : Int
  Sc : Bool
def zB.row (v : zB) : List CV := [.lit (.int .i64 v.Tag),.lit (.int .i64 v.Mac),.lit (.int .i64 v.Port),.lit (.int .i64 v.Age),.lit (.bool v.Sc)]
def zB.wf (v : zB) : Prop := zh v.Tag ∧ zh v.Mac ∧ zh v.Port ∧ zh v.Age ∧ True
theorem zB.enc : Enc zB [.int .i64,.int .i64,.int .i64,.int .i64,.bool] zB.row zB.wf := fun cs h => by
  obtain ⟨c0,r0,rfl,k0,h⟩ := zO h
  obtain ⟨c1,r1,rfl,k1,h⟩ := zO h
  obtain ⟨c2,r2,rfl,k2,h⟩ := zO h
  obtain ⟨c3,r3,rfl,k3,h⟩ := zO h
  obtain ⟨c4,r4,rfl,k4,h⟩ := zO h
  obtain rfl := Qp h
  obtain ⟨x0,rfl,w0⟩ := zq k0
  obtain ⟨x1,rfl,w1⟩ := zq k1
  obtain ⟨x2,rfl,w2⟩ := zq k2
  obtain ⟨x3,rfl,w3⟩ := zq k3
  obtain ⟨x4,rfl⟩ := zEU k4
  exact ⟨⟨x0,x1,x2,x3,x4⟩,rfl,⟨w0,w1,w2,w3,trivial⟩⟩
theorem zB.row_mine (v : zB) : CV.mineRow (zB.row v) := zJ zN (zJ zN (zJ zN (zJ zN (zJ zN (zg)))))
structure zC where
  Id : Int
  Members : Int
  Bare : Int
def zC.row (v : zC) : List CV := [.lit (.int .i64 v.Id),.lit (.int .i64 v.Members),.lit (.int .i64 v.Bare)]
def zC.wf (v : zC) : Prop := zh v.Id ∧ zh v.Members ∧ zh v.Bare ∧ True
theorem zC.enc : Enc zC [.int .i64,.int .i64,.int .i64] zC.row zC.wf := fun cs h => by
  obtain ⟨c0,r0,rfl,k0,h⟩ := zO h
  obtain ⟨c1,r1,rfl,k1,h⟩ := zO h
  obtain ⟨c2,r2,rfl,k2,h⟩ := zO h
  obtain rfl := Qp h
  obtain ⟨x0,rfl,w0⟩ := zq k0
  obtain ⟨x1,rfl,w1⟩ := zq k1
  obtain ⟨x2,rfl,w2⟩ := zq k2
  exact ⟨⟨x0,x1,x2⟩,rfl,⟨w0,w1,w2,trivial⟩⟩
theorem zC.row_mine (v : zC) : CV.mineRow (zC.row v) := zJ zN (zJ zN (zJ zN (zg)))
structure zD where
  Rows : (List zC)
  Pv : (List Int)
def zD.row (v : zD) : List CV := [.sl true 3 (v.Rows.map zC.row),.sl true 1 (v.Pv.map intRow)]
def zD.wf (v : zD) : Prop := Q5 zC.wf v.Rows ∧ Q5 zh v.Pv ∧ True
theorem zD.enc : Enc zD [.sl 3 [.int .i64,.int .i64,.int .i64],.sl 1 [.int .i64]] zD.row zD.wf := fun cs h => by
  obtain ⟨c0,r0,rfl,k0,h⟩ := zO h
  obtain ⟨c1,r1,rfl,k1,h⟩ := zO h
  obtain rfl := Qp h
  obtain ⟨x0,rfl,w0⟩ := Enc.sl zC.enc k0
  obtain ⟨x1,rfl,w1⟩ := Enc.sl zNv k1
  exact ⟨⟨x0,x1⟩,rfl,⟨w0,w1,trivial⟩⟩
theorem zD.row_mine (v : zD) : CV.mineRow (zD.row v) := zJ (Q6 (Zv zC.row_mine _)) (zJ (Q6 (Zv zIj _)) (zg))
structure zA where
  Id : Int
  Name : ByteArray
  Ps : (List Pt)
  F : (List zB)
  V : zD
  Tk : Int
  Pa : Int
  Wo : Int
  Dr : Int
  Ve : Int
def zA.row (v : zA) : List CV := [.lit (.int .i64 v.Id),.lit (.string v.Name),.sl true 8 (v.Ps.map Pt.row),.sl true 5 (v.F.map zB.row),.sl true 3 (v.V.Rows.map zC.row),.sl true 1 (v.V.Pv.map intRow),.lit (.int .i64 v.Tk),.lit (.int .i64 v.Pa),.lit (.int .i64 v.Wo),.lit (.int .i64 v.Dr),.lit (.int .i64 v.Ve)]
def zA.wf (v : zA) : Prop := zh v.Id ∧ v.Name.size ≤ maxLen ∧ Q5 Pt.wf v.Ps ∧ Q5 zB.wf v.F ∧ Q5 zC.wf v.V.Rows ∧ Q5 zh v.V.Pv ∧ zh v.Tk ∧ zh v.Pa ∧ zh v.Wo ∧ zh v.Dr ∧ zh v.Ve ∧ True
theorem zA.enc : Enc zA [.int .i64,.str,.sl 8 [.bool,.int .i64,.bool,.int .i64,.int .i64,.int .i64,.int .i64,.int .i64],.sl 5 [.int .i64,.int .i64,.int .i64,.int .i64,.bool],.sl 3 [.int .i64,.int .i64,.int .i64],.sl 1 [.int .i64],.int .i64,.int .i64,.int .i64,.int .i64,.int .i64] zA.row zA.wf := fun cs h => by
  obtain ⟨c0,r0,rfl,k0,h⟩ := zO h
  obtain ⟨c1,r1,rfl,k1,h⟩ := zO h
  obtain ⟨c2,r2,rfl,k2,h⟩ := zO h
  obtain ⟨c3,r3,rfl,k3,h⟩ := zO h
  obtain ⟨c4,r4,rfl,k4,h⟩ := zO h
  obtain ⟨c5,r5,rfl,k5,h⟩ := zO h
  obtain ⟨c6,r6,rfl,k6,h⟩ := zO h
  obtain ⟨c7,r7,rfl,k7,h⟩ := zO h
  obtain ⟨c8,r8,rfl,k8,h⟩ := zO h
  obtain ⟨c9,r9,rfl,k9,h⟩ := zO h
  obtain ⟨c10,r10,rfl,k10,h⟩ := zO h
  obtain rfl := Qp h
  obtain ⟨x0,rfl,w0⟩ := zq k0
  obtain ⟨x1,rfl,w1⟩ := zOX k1
  obtain ⟨x2,rfl,w2⟩ := Enc.sl Pt.enc k2
  obtain ⟨x3,rfl,w3⟩ := Enc.sl zB.enc k3
  obtain ⟨x4,rfl,w4⟩ := Enc.sl zC.enc k4
  obtain ⟨x5,rfl,w5⟩ := Enc.sl zNv k5
  obtain ⟨x6,rfl,w6⟩ := zq k6
  obtain ⟨x7,rfl,w7⟩ := zq k7
  obtain ⟨x8,rfl,w8⟩ := zq k8
  obtain ⟨x9,rfl,w9⟩ := zq k9
  obtain ⟨x10,rfl,w10⟩ := zq k10
  exact ⟨⟨x0,x1,x2,x3,⟨x4,x5⟩,x6,x7,x8,x9,x10⟩,rfl,⟨w0,w1,w2,w3,w4,w5,w6,w7,w8,w9,w10,trivial⟩⟩
theorem zA.row_mine (v : zA) : CV.mineRow (zA.row v) := zJ zN (zJ zN (zJ (Q6 (Zv Pt.row_mine _)) (zJ (Q6 (Zv zB.row_mine _)) (zJ (Q6 (Zv zC.row_mine _)) (zJ (Q6 (Zv zIj _)) (zJ zN (zJ zN (zJ zN (zJ zN (zJ zN (zg)))))))))))
structure Link where
  A : Int
  P : Int
  B : Int
  Q : Int
def Link.row (v : Link) : List CV := [.lit (.int .i64 v.A),.lit (.int .i64 v.P),.lit (.int .i64 v.B),.lit (.int .i64 v.Q)]
def Link.wf (v : Link) : Prop := zh v.A ∧ zh v.P ∧ zh v.B ∧ zh v.Q ∧ True
theorem Link.enc : Enc Link [.int .i64,.int .i64,.int .i64,.int .i64] Link.row Link.wf := fun cs h => by
  obtain ⟨c0,r0,rfl,k0,h⟩ := zO h
  obtain ⟨c1,r1,rfl,k1,h⟩ := zO h
  obtain ⟨c2,r2,rfl,k2,h⟩ := zO h
  obtain ⟨c3,r3,rfl,k3,h⟩ := zO h
  obtain rfl := Qp h
  obtain ⟨x0,rfl,w0⟩ := zq k0
  obtain ⟨x1,rfl,w1⟩ := zq k1
  obtain ⟨x2,rfl,w2⟩ := zq k2
  obtain ⟨x3,rfl,w3⟩ := zq k3
  exact ⟨⟨x0,x1,x2,x3⟩,rfl,⟨w0,w1,w2,w3,trivial⟩⟩
theorem Link.row_mine (v : Link) : CV.mineRow (Link.row v) := zJ zN (zJ zN (zJ zN (zJ zN (zg))))
structure Say where
  Link : Int
  Back : Bool
  V : Vec
def Say.row (v : Say) : List CV := [.lit (.int .i64 v.Link),.lit (.bool v.Back),.lit (.int .i64 v.V.Root),.lit (.int .i64 v.V.Co),.lit (.int .i64 v.V.Hops),.lit (.int .i64 v.V.Bridge),.lit (.int .i64 v.V.Port)]
def Say.wf (v : Say) : Prop := zh v.Link ∧ zh v.V.Root ∧ zh v.V.Co ∧ zh v.V.Hops ∧ zh v.V.Bridge ∧ zh v.V.Port ∧ True
theorem Say.enc : Enc Say [.int .i64,.bool,.int .i64,.int .i64,.int .i64,.int .i64,.int .i64] Say.row Say.wf := fun cs h => by
  obtain ⟨c0,r0,rfl,k0,h⟩ := zO h
  obtain ⟨c1,r1,rfl,k1,h⟩ := zO h
  obtain ⟨c2,r2,rfl,k2,h⟩ := zO h
  obtain ⟨c3,r3,rfl,k3,h⟩ := zO h
  obtain ⟨c4,r4,rfl,k4,h⟩ := zO h
  obtain ⟨c5,r5,rfl,k5,h⟩ := zO h
  obtain ⟨c6,r6,rfl,k6,h⟩ := zO h
  obtain rfl := Qp h
  obtain ⟨x0,rfl,w0⟩ := zq k0
  obtain ⟨x1,rfl⟩ := zEU k1
  obtain ⟨x2,rfl,w2⟩ := zq k2
  obtain ⟨x3,rfl,w3⟩ := zq k3
  obtain ⟨x4,rfl,w4⟩ := zq k4
  obtain ⟨x5,rfl,w5⟩ := zq k5
  obtain ⟨x6,rfl,w6⟩ := zq k6
  exact ⟨⟨x0,x1,⟨x2,x3,x4,x5,x6⟩⟩,rfl,⟨w0,w2,w3,w4,w5,w6,trivial⟩⟩
theorem Say.row_mine (v : Say) : CV.mineRow (Say.row v) := zJ zN (zJ zN (zJ zN (zJ zN (zJ zN (zJ zN (zJ zN (zg)))))))
structure Net where
  Bs : (List zA)
  Ls : (List Link)
  Said : (List Say)
def Net.row (v : Net) : List CV := [.sl true 11 (v.Bs.map zA.row),.sl true 4 (v.Ls.map Link.row),.sl true 7 (v.Said.map Say.row)]
def Net.wf (v : Net) : Prop := Q5 zA.wf v.Bs ∧ Q5 Link.wf v.Ls ∧ Q5 Say.wf v.Said ∧ True
theorem Net.enc : Enc Net [.sl 11 [.int .i64,.str,.sl 8 [.bool,.int .i64,.bool,.int .i64,.int .i64,.int .i64,.int .i64,.int .i64],.sl 5 [.int .i64,.int .i64,.int .i64,.int .i64,.bool],.sl 3 [.int .i64,.int .i64,.int .i64],.sl 1 [.int .i64],.int .i64,.int .i64,.int .i64,.int .i64,.int .i64],.sl 4 [.int .i64,.int .i64,.int .i64,.int .i64],.sl 7 [.int .i64,.bool,.int .i64,.int .i64,.int .i64,.int .i64,.int .i64]] Net.row Net.wf := fun cs h => by
  obtain ⟨c0,r0,rfl,k0,h⟩ := zO h
  obtain ⟨c1,r1,rfl,k1,h⟩ := zO h
  obtain ⟨c2,r2,rfl,k2,h⟩ := zO h
  obtain rfl := Qp h
  obtain ⟨x0,rfl,w0⟩ := Enc.sl zA.enc k0
  obtain ⟨x1,rfl,w1⟩ := Enc.sl Link.enc k1
  obtain ⟨x2,rfl,w2⟩ := Enc.sl Say.enc k2
  exact ⟨⟨x0,x1,x2⟩,rfl,⟨w0,w1,w2,trivial⟩⟩
theorem Net.row_mine (v : Net) : CV.mineRow (Net.row v) := zJ (Q6 (Zv zA.row_mine _)) (zJ (Q6 (Zv Link.row_mine _)) (zJ (Q6 (Zv Say.row_mine _)) (zg)))
structure Event where
  Ki : Int
  At : Int
def Event.row (v : Event) : List CV := [.lit (.int .i64 v.Ki),.lit (.int .i64 v.At)]
def Event.wf (v : Event) : Prop := zh v.Ki ∧ zh v.At ∧ True
theorem Event.enc : Enc Event [.int .i64,.int .i64] Event.row Event.wf := fun cs h => by
  obtain ⟨c0,r0,rfl,k0,h⟩ := zO h
  obtain ⟨c1,r1,rfl,k1,h⟩ := zO h
  obtain rfl := Qp h
  obtain ⟨x0,rfl,w0⟩ := zq k0
  obtain ⟨x1,rfl,w1⟩ := zq k1
  exact ⟨⟨x0,x1⟩,rfl,⟨w0,w1,trivial⟩⟩
theorem Event.row_mine (v : Event) : CV.mineRow (Event.row v) := zJ zN (zJ zN (zg))
def zF3 (n : Nat) (x0 : (List Int)) : Option (Bool) :=
  (some (decide ((x0.length : Int) > 1048576)))
theorem zOZ (n : Nat) (x0 : (List Int)) (r : Bool) (H : zF3 n x0 = some r) : zE Tryz.prog 8 [.val false [.sl false 1 (CV.frzEs (x0.map zZ))]] [.val false [.lit (.bool r)]] [] := by
 refine cW Tryz.func8 (fun g d => sl [g 0,g 1] .ret) [.tmp 2] fun cx=>?_
 unfold zF3 at H
 exact gA 1 1 0<|rA 1<|kF x0 zZ<|uA 2 4 0<|te (fJ [(false,[cB (decide ((x0.length : Int) > 1048576))])] H)
def zCw (n : Nat) (x0 : (List Int)) (y3 : Int) : Option (Src) :=
  (some (⟨x0,0,y3⟩ : Src))
def YV (n : Nat) : Nat → (List Int) → Int → Int → Option ((Int) ⊕ (Src))
  | 0,_,_,_ => none
  | mo4 + 1,x0,y1,y2 => (bif (decide (y1 < (x0.length : Int))) then (bif (decide (y1 < 4000)) then ((idx x0 y1).bind fun v5 => (YV n mo4 x0 (IntKind.wrap .i64 (y1 + 1)) (IntKind.wrap .i64 (BitVec.ofInt (IntKind.bits .i64) (IntKind.wrap .i64 ((IntKind.wrap .i64 ((IntKind.wrap .i64 (y2 * 137)) + (IntKind.wrap .i64 v5))) + 11)) &&& BitVec.ofInt (IntKind.bits .i64) 1073741823).toNat))) else (some (Sum.inl y2))) else (some (Sum.inl y2)))
def JJ (n : Nat) (x0 : (List Int)) : Option (Src) :=
  ((YV n n x0 0 (IntKind.wrap .i64 (762762 + (x0.length : Int)))).bind fun o => match o with | .inl y3 => (zCw n x0 y3) | .inr r => some r)
noncomputable abbrev G76 (k : Nat) := Rg Tryz.f76 k
theorem zFI (n : Nat) (x0 : (List Int)) (r : Src) (H : JJ n x0 = some r) : zE Tryz.prog 76 [.val false [.sl false 1 (CV.frzEs (x0.map zZ))]] [.ptr (fR (Src.row r))] [] := by
 refine zE.of_body_ptr tOk Tryz.func76 rfl (c := (.seq (G76 0) (.seq (G76 1) (.seq (.seq (G76 2) (.block 0 (.loop (.seq (.seq (G76 3) (.cond (.tmp 15) .skip (.exit 0))) (.seq (.block 1 (G76 5)) (G76 4)))))) (.seq (G76 6) .ret))))) kr (Nat.le_of_ble_eq_true kr) 2 31 rfl (fR (Src.row r)) fun cx=>?_
 show Tr _ _ _ ⟨32,0,[sC 0 (cF 1 x0 zZ)],[]⟩ _
 unfold JJ at H
 refine gA 1 1 0<|rA 1<|kF x0 zZ<|uA 2 9 0<|tS<|gA 1 25 0 ?_
 obtain ⟨o4,eo4,Ho4⟩ := bs H
 clear H
 refine Tr.mid (ι := Int) (fun v => ⟨32,0,[sI 3 v,sC 0 (cF 1 x0 zZ)],[]⟩) (fun v => zCw n x0 v = some r) ?_ ?_
 ·refine tB<|Tr.loop (ι := Nat × (Int × Int)) (fun v => ⟨32,0,[sI 4 v.2.1,sI 3 v.2.2,sC 0 (cF 1 x0 zZ)],[]⟩) (fun v => YV n v.1 x0 v.2.1 v.2.2 = some o4) (fun v => v.1) (n,(0,(wI (762762 + (x0.length : Int))))) eo4 (St.sub_of [4,3,0] [] kr) ?_
  rintro ⟨_ | mo4,y1,y2⟩ H
  ·exact nN H
  have H : YV n (mo4+1) x0 y1 y2 = some o4 := H
  rw [YV] at H
  refine tS<|rA 2<|kF x0 zZ<|lA 2 ?_
  obtain ⟨h1,H⟩ | ⟨h1,H⟩ := bC H
  ·refine qL 4121 0 [12] h1<|uA 3 32793 0<|nB_<|Tr.exit<|aJ ?_
   cases H
   exact jA y2 Ho4 [3,0] []
  refine qL 4121 0 [12] h1<|uA 3 32793 0 ?_
  obtain ⟨h2,H⟩ | ⟨h2,H⟩ := bC H
  ·refine nA h2<|Tr.exit<|aJ ?_
   cases H
   exact jA y2 Ho4 [3,0] []
  exact tA h2<|tK<|tS<|tB<|Tr.at<|lA 4<|bE H fun v5 ev5 H=> iA zZ ev5<|uA 6 25 0<|eA 3 25 0<|jB mo4 ((wI (y1 + 1)),(wI (bO (wI ((wI ((wI (y2 * 137)) + (wI v5))) + 11)) &&& bO 1073741823).toNat)) H [4,3,0] []
 rintro y3 H
 have H : (zCw n x0 y3) = some r := H
 unfold zCw at H
 refine gA 5 4 2147483648<|te ?_
 obtain rfl := si H
 exact And.intro kr kr
def Yw (n : Nat) (x0 : (List Int)) (x1 : Int) : Option (Int) :=
  (bif (decide ((12 : Int) ≠ 0)) then (bif (decide ((IntKind.wrap .i64 (3 + (IntKind.wrap .i64 (Int.tdiv (x0.length : Int) 12)))) > x1)) then (some x1) else (some (IntKind.wrap .i64 (3 + (IntKind.wrap .i64 (Int.tdiv (x0.length : Int) 12)))))) else none)
theorem zEA (n : Nat) (x0 : (List Int)) (x1 : Int) (r : Int) (H : Yw n x0 x1 = some r) : zE Tryz.prog 109 [.val false [.sl false 1 (CV.frzEs (x0.map zZ))],.val false [.lit (.int .i64 x1)]] [.val false [.lit (.int .i64 r)]] [] := by
 refine cW Tryz.func109 (fun g d => sl [g 0,g 1,sl [g 2] (cn 12 (sl [g 3] .ret) .skip),g 4] .ret) [.tmp 4] fun cx=>?_
 unfold Yw at H
 refine gA 1 3 0<|rA 1<|kF x0 zZ<|gE H fun hg1 H=> LAt.binC tOk (op := .quo) (t := 3) (ty := 3) (ty' := 3) (x := (.tmp 7)) (y := (.const (.int .i64 12))) (d := 8) (g := none) (.int .i64 (x0.length : Int)) (.int .i64 12) (.int .i64 (wI (Int.tdiv (x0.length : Int) 12))) _ kr kr kr kr kr (φ := (IntKind.i64 = IntKind.i64 ∧ (12 : Int) ≠ 0)) kr (⟨rfl,of_decide_eq_true hg1⟩) rfl<|uA 2 34 0<|tS<|gA 3 4130 0 ?_
 obtain ⟨h1,H⟩ | ⟨h1,H⟩ := bC H
 ·exact nA h1<|tK<|gA 2 16 0<|te (fJ [(false,[cI (wI (3 + (wI (Int.tdiv (x0.length : Int) 12))))])] H)
 exact tA h1<|gA 2 16 0<|te (fJ [(false,[cI x1])] H)
def Yv (n : Nat) (x0 : Src) : Option (Int × Src) :=
  (bif (decide ((0 : Int) ≤ 33)) then (bif (decide ((0 : Int) ≤ 47)) then (bif (decide (x0.i < (x0.b.length : Int))) then ((idx x0.b x0.i).bind fun v3 => (some ((IntKind.wrap .i64 (BitVec.ofInt (IntKind.bits .i64) (IntKind.wrap .i64 ((IntKind.wrap .i64 (BitVec.ofInt (IntKind.bits .i64) (IntKind.wrap .i64 (BitVec.ofInt (IntKind.bits .i64) (Int.fdiv (IntKind.wrap .i64 ((IntKind.wrap .i64 (x0.h * 6364136223846793005)) + 1442695040888963407)) (2 ^ min ((33 : Int)).toNat (IntKind.bits .i64))) ^^^ BitVec.ofInt (IntKind.bits .i64) (Int.fdiv (IntKind.wrap .i64 ((IntKind.wrap .i64 (x0.h * 6364136223846793005)) + 1442695040888963407)) (2 ^ min ((47 : Int)).toNat (IntKind.bits .i64)))).toNat) &&& BitVec.ofInt (IntKind.bits .i64) 255).toNat) + (IntKind.wrap .i64 v3))) &&& BitVec.ofInt (IntKind.bits .i64) 255).toNat),(⟨x0.b,(IntKind.wrap .i64 (x0.i + 1)),(IntKind.wrap .i64 ((IntKind.wrap .i64 (x0.h * 6364136223846793005)) + 1442695040888963407))⟩ : Src)))) else (some ((IntKind.wrap .i64 (BitVec.ofInt (IntKind.bits .i64) (IntKind.wrap .i64 (BitVec.ofInt (IntKind.bits .i64) (Int.fdiv (IntKind.wrap .i64 ((IntKind.wrap .i64 (x0.h * 6364136223846793005)) + 1442695040888963407)) (2 ^ min ((33 : Int)).toNat (IntKind.bits .i64))) ^^^ BitVec.ofInt (IntKind.bits .i64) (Int.fdiv (IntKind.wrap .i64 ((IntKind.wrap .i64 (x0.h * 6364136223846793005)) + 1442695040888963407)) (2 ^ min ((47 : Int)).toNat (IntKind.bits .i64)))).toNat) &&& BitVec.ofInt (IntKind.bits .i64) 255).toNat),(⟨x0.b,x0.i,(IntKind.wrap .i64 ((IntKind.wrap .i64 (x0.h * 6364136223846793005)) + 1442695040888963407))⟩ : Src)))) else none) else none)
def zP0 : Tab := ⟨13,[0,1,2,4,8,0,32,64,128,256,528,1024,4095],[0,1,2,4,8,0,32,64,128,256,528,1024,2048],[0,1,3,7,15,0,32,96,224,480,1023,2047,4095]⟩
noncomputable abbrev zNF (k : Nat) := Rg Tryz.f174 k
noncomputable abbrev zOM (k : Nat) := Rd Tryz.f174 k
theorem zER : zc (rg Tryz.f174 2) zP0 = true := kr
def zP1 : Tab := ⟨15,[0,0,2,4,8,0,32,64,128,272,512,1024,2049,4096,16383],[0,0,2,4,8,0,32,64,128,272,512,1024,2049,4096,8193],[0,0,2,6,14,0,32,96,224,510,1022,2046,4095,8191,16383]⟩
theorem zJS : zc (rg Tryz.f174 4) zP1 = true := kr
theorem zD9 (n : Nat) (x0 : Src) (r : Int × Src) (H : Yv n x0 = some r) : zE Tryz.prog 174 [.ptr (fR (Src.row x0))] [.val false [.lit (.int .i64 r.1)]] [(0,(fR (Src.row r.2)))] := by
 refine zE.of_body tOk Tryz.func174 rfl (c := (.seq (zNF 0) (.seq (zNF 1) (.seq (zOM 2) (.seq (.seq (zOM 3) (.cond (.tmp 34) (.seq (zOM 4) (zNF 5)) .skip)) (.seq (zNF 6) .ret)))))) kr (Nat.le_of_ble_eq_true kr) 1 (rs := [.tmp 2]) rfl [] .nil [(false,[.lit (.int .i64 r.1)])] [] [(0,(fR (Src.row r.2)))] fun cx=>?_
 show Tr _ _ _ ⟨58,1,[sA 0 0 3 0],[(0,(fR (Src.row x0)))]⟩ _
 unfold Yv at H
 refine gA 1 1 1<|gA 10 1 1<|gE H fun hg1 H=> gE H fun hg2 H=> Tr.draws mixed 13 kr ⟨58,1,[sI 3 (wI (bO (wI (bO (Int.fdiv (wI ((wI (x0.h * 0x5851f42d4c957f2d)) + 0x14057b7ef767814f)) (2 ^ min ((33 : Int)).toNat (IntKind.bits .i64))) ^^^ bO (Int.fdiv (wI ((wI (x0.h * 0x5851f42d4c957f2d)) + 0x14057b7ef767814f)) (2 ^ min ((47 : Int)).toNat (IntKind.bits .i64)))).toNat) &&& bO 255).toNat),sA 0 0 3 0],[(0,[cF 1 x0.b zZ,cI x0.i,cI (wI ((wI (x0.h * 0x5851f42d4c957f2d)) + 0x14057b7ef767814f))])]⟩ (fun cx=>?_) ?_
 ·refine mA zER (zl [0,1,2]++[(3,[4])]++zl [5,6,7]++[(8,[9])]) 5 [⟨[9],3,20,21⟩,⟨[4],3,15,16⟩] fun cx=>mB2 tOk zER 4 9 kr (And.intro kr ?_) (And.intro kr ?_)
  ·exact LAt.binC tOk (op := .shr) (t := 3) (ty := 163) (ty' := 3) (x := (.tmp 16)) (y := (.const (.int .u64 33))) (d := 17) (g := none) (.int .i64 (wI ((wI (x0.h * 0x5851f42d4c957f2d)) + 0x14057b7ef767814f))) (.int .u64 33) (.int .i64 (Int.fdiv (wI ((wI (x0.h * 0x5851f42d4c957f2d)) + 0x14057b7ef767814f)) (2 ^ min ((33 : Int)).toNat (IntKind.bits .i64)))) _ kr kr kr kr kr (φ := (0 : Int) ≤ 33) kr (of_decide_eq_true hg1) rfl<|fA<|mC zER 9<|LAt.binC tOk (op := .shr) (t := 3) (ty := 163) (ty' := 3) (x := (.tmp 21)) (y := (.const (.int .u64 47))) (d := 22) (g := none) (.int .i64 (wI ((wI (x0.h * 0x5851f42d4c957f2d)) + 0x14057b7ef767814f))) (.int .u64 47) (.int .i64 (Int.fdiv (wI ((wI (x0.h * 0x5851f42d4c957f2d)) + 0x14057b7ef767814f)) (2 ^ min ((47 : Int)).toNat (IntKind.bits .i64)))) _ kr kr kr kr kr (φ := (0 : Int) ≤ 47) kr (of_decide_eq_true hg2) rfl<|fA<|mA zER (zl [10,11,12]) 0 [⟨[9],3,20,21⟩,⟨[4],3,15,16⟩] fun cx=>mE zER [3,0] [0]
  ·exact LAt.binC tOk (op := .shr) (t := 3) (ty := 163) (ty' := 3) (x := (.tmp 21)) (y := (.const (.int .u64 47))) (d := 22) (g := none) (.int .i64 (wI ((wI (x0.h * 0x5851f42d4c957f2d)) + 0x14057b7ef767814f))) (.int .u64 47) (.int .i64 (Int.fdiv (wI ((wI (x0.h * 0x5851f42d4c957f2d)) + 0x14057b7ef767814f)) (2 ^ min ((47 : Int)).toNat (IntKind.bits .i64)))) _ kr kr kr kr kr (φ := (0 : Int) ≤ 47) kr (of_decide_eq_true hg2) rfl<|fA<|mC zER 4<|LAt.binC tOk (op := .shr) (t := 3) (ty := 163) (ty' := 3) (x := (.tmp 16)) (y := (.const (.int .u64 33))) (d := 17) (g := none) (.int .i64 (wI ((wI (x0.h * 0x5851f42d4c957f2d)) + 0x14057b7ef767814f))) (.int .u64 33) (.int .i64 (Int.fdiv (wI ((wI (x0.h * 0x5851f42d4c957f2d)) + 0x14057b7ef767814f)) (2 ^ min ((33 : Int)).toNat (IntKind.bits .i64)))) _ kr kr kr kr kr (φ := (0 : Int) ≤ 33) kr (of_decide_eq_true hg1) rfl<|fA<|mA zER (zl [10,11,12]) 0 [⟨[9],3,20,21⟩,⟨[4],3,15,16⟩] fun cx=>mE zER [3,0] [0]
 refine tS<|Tr.draws mixed 10 kr ⟨58,1,[sB 34 (decide (x0.i < (x0.b.length : Int))),sI 3 (wI (bO (wI (bO (Int.fdiv (wI ((wI (x0.h * 0x5851f42d4c957f2d)) + 0x14057b7ef767814f)) (2 ^ min ((33 : Int)).toNat (IntKind.bits .i64))) ^^^ bO (Int.fdiv (wI ((wI (x0.h * 0x5851f42d4c957f2d)) + 0x14057b7ef767814f)) (2 ^ min ((47 : Int)).toNat (IntKind.bits .i64)))).toNat) &&& bO 255).toNat),sA 0 0 3 0],[(0,[cF 1 x0.b zZ,cI x0.i,cI (wI ((wI (x0.h * 0x5851f42d4c957f2d)) + 0x14057b7ef767814f))])]⟩ (fun cx=>?_) ?_
 ·refine aA (zl [0,1,2,3,4,5,6,7]) 2 [⟨[],22,31,32⟩,⟨[],3,27,28⟩] fun cx=>aL tOk 8 22 3 5 32 33 none ⟨(.box 0),[(0,0)],0,false,1,(CV.frzEs (x0.b.map zZ))⟩ (x0.b).length _ kr kr kr kr kr kr kr (zIM _ _) rfl (fun cx=>?_)
  exact aA [(9,[])] 0 [⟨[],22,31,32⟩,⟨[],3,27,28⟩] fun cx=>eE [34,3,0] [0]
 obtain ⟨h1,H⟩ | ⟨h1,H⟩ := bC H
 ·exact qT [34] h1<|nB_<|tK<|gA 2 5 1<|te<|fY [(false,[cI (wI (bO (wI (bO (Int.fdiv (wI ((wI (x0.h * 0x5851f42d4c957f2d)) + 0x14057b7ef767814f)) (2 ^ min ((33 : Int)).toNat (IntKind.bits .i64))) ^^^ bO (Int.fdiv (wI ((wI (x0.h * 0x5851f42d4c957f2d)) + 0x14057b7ef767814f)) (2 ^ min ((47 : Int)).toNat (IntKind.bits .i64)))).toNat) &&& bO 255).toNat)])] [(0,[cF 1 x0.b zZ,cI x0.i,cI (wI ((wI (x0.h * 0x5851f42d4c957f2d)) + 0x14057b7ef767814f))])] H
 refine qT [34] h1<|tB_<|bE H fun v3 ev3 H=> Tr.draws mixed 15 kr ⟨58,1,[sI 3 (wI (bO (wI ((wI (bO (wI (bO (Int.fdiv (wI ((wI (x0.h * 0x5851f42d4c957f2d)) + 0x14057b7ef767814f)) (2 ^ min ((33 : Int)).toNat (IntKind.bits .i64))) ^^^ bO (Int.fdiv (wI ((wI (x0.h * 0x5851f42d4c957f2d)) + 0x14057b7ef767814f)) (2 ^ min ((47 : Int)).toNat (IntKind.bits .i64)))).toNat) &&& bO 255).toNat) + (wI v3))) &&& bO 255).toNat),sA 0 0 3 0],[(0,[cF 1 x0.b zZ,cI x0.i,cI (wI ((wI (x0.h * 0x5851f42d4c957f2d)) + 0x14057b7ef767814f))])]⟩ (fun cx=>?_) ?_
 ·exact mA zJS (zl [0,1,2,3,4,5,6,7,8]) 6 [⟨[],3,42,43⟩,⟨[],22,38,39⟩] fun cx=>iN zJS 9 zZ ev3 fun cx=>mA zJS (zl [10,11,12,13,14]) 0 [⟨[],3,42,43⟩,⟨[],22,38,39⟩] fun cx=>mE zJS [3,0] [0]
 exact eA 9 9 1<|gA 2 5 1<|te<|fY [(false,[cI (wI (bO (wI ((wI (bO (wI (bO (Int.fdiv (wI ((wI (x0.h * 0x5851f42d4c957f2d)) + 0x14057b7ef767814f)) (2 ^ min ((33 : Int)).toNat (IntKind.bits .i64))) ^^^ bO (Int.fdiv (wI ((wI (x0.h * 0x5851f42d4c957f2d)) + 0x14057b7ef767814f)) (2 ^ min ((47 : Int)).toNat (IntKind.bits .i64)))).toNat) &&& bO 255).toNat) + (wI v3))) &&& bO 255).toNat)])] [(0,[cF 1 x0.b zZ,cI (wI (x0.i + 1)),cI (wI ((wI (x0.h * 0x5851f42d4c957f2d)) + 0x14057b7ef767814f))])] H
def zG (n : Nat) (x0 : Src) (x1 : Int) : Option (Int × Src) :=
  (bif (decide (x1 ≤ 0)) then (some (0,x0)) else (bif (decide (x1 ≤ 256)) then ((Yv n x0).bind fun r5 => (bif (decide ((x1 : Int) ≠ 0)) then (some ((Int.tmod r5.1 x1),r5.2)) else none)) else ((Yv n x0).bind fun r1 => ((Yv n r1.2).bind fun r2 => ((Yv n r2.2).bind fun r3 => (bif (decide ((x1 : Int) ≠ 0)) then (some ((Int.tmod (IntKind.wrap .i64 ((IntKind.wrap .i64 ((IntKind.wrap .i64 (r1.1 * 65536)) + (IntKind.wrap .i64 (r2.1 * 256)))) + r3.1)) x1),r3.2)) else none))))))
noncomputable abbrev zGl (k : Nat) := Rg Tryz.f119 k
theorem zL (n : Nat) (x0 : Src) (x1 : Int) (r : Int × Src) (H : zG n x0 x1 = some r) : zE Tryz.prog 119 [.ptr (fR (Src.row x0)),.val false [.lit (.int .i64 x1)]] [.val false [.lit (.int .i64 r.1)]] [(0,(fR (Src.row r.2)))] := by
 refine zE.of_body tOk Tryz.func119 rfl (c := (.seq (zGl 0) (.seq (.seq (zGl 1) (.cond (.tmp 9) (.seq (zGl 2) .ret) .skip)) (.seq (.seq (zGl 3) (.cond (.tmp 11) (.seq (zGl 4) .ret) .skip)) (.seq (zGl 5) (.seq (zGl 6) (.seq (zGl 7) (.seq (zGl 8) .ret)))))))) kr (Nat.le_of_ble_eq_true kr) 1 (rs := [.tmp 4]) rfl [] .nil [(false,[.lit (.int .i64 r.1)])] [] [(0,(fR (Src.row r.2)))] fun cx=>?_
 show Tr _ _ _ ⟨31,1,[sA 0 0 3 0,sI 1 x1],[(0,(fR (Src.row x0)))]⟩ _
 unfold zG at H
 refine gA 1 3 1<|tS<|gA 2 515 1 ?_
 obtain ⟨h1,H⟩ | ⟨h1,H⟩ := bC H
 ·refine nA h1<|tK<|tS<|gA 2 2051 1 ?_
  obtain ⟨h2,H⟩ | ⟨h2,H⟩ := bC H
  ·exact nA h2<|tK<|rA 1<|bE H fun r1 er1 H=> vL [.lend] (zD9 n x0 r1 er1)<|uA 1 35 1<|rA 1<|bE H fun r2 er2 H=> vL [.lend] (zD9 n r1.2 r2 er2)<|uA 1 99 1<|rA 1<|bE H fun r3 er3 H=> vL [.lend] (zD9 n r2.2 r3 er3)<|uA 1 227 1<|rA 8<|gE H fun hg4 H=> LAt.binC tOk (op := .rem) (t := 3) (ty := 3) (ty' := 3) (x := (.tmp 28)) (y := (.tmp 29)) (d := 30) (g := none) (.int .i64 (wI ((wI ((wI (r1.1 * 65536)) + (wI (r2.1 * 256)))) + r3.1))) (.int .i64 x1) (.int .i64 (Int.tmod (wI ((wI ((wI (r1.1 * 65536)) + (wI (r2.1 * 256)))) + r3.1)) x1)) _ kr kr kr kr kr (φ := (IntKind.i64 = IntKind.i64 ∧ (x1 : Int) ≠ 0)) kr (⟨rfl,of_decide_eq_true hg4⟩) rfl<|uA 1 17 1<|te<|fY [(false,[cI (Int.tmod (wI ((wI ((wI (r1.1 * 65536)) + (wI (r2.1 * 256)))) + r3.1)) x1)])] [(0,(fR (Src.row r3.2)))] H
  exact tA h2<|rA 1<|bE H fun r5 er5 H=> vL [.lend] (zD9 n x0 r5 er5)<|lA 1<|gE H fun hg6 H=> LAt.binC tOk (op := .rem) (t := 3) (ty := 3) (ty' := 3) (x := (.tmp 13)) (y := (.tmp 14)) (d := 15) (g := none) (.int .i64 r5.1) (.int .i64 x1) (.int .i64 (Int.tmod r5.1 x1)) _ kr kr kr kr kr (φ := (IntKind.i64 = IntKind.i64 ∧ (x1 : Int) ≠ 0)) kr (⟨rfl,of_decide_eq_true hg6⟩) rfl<|uA 1 17 1<|te<|fY [(false,[cI (Int.tmod r5.1 x1)])] [(0,(fR (Src.row r5.2)))] H
 exact tA h1<|gA 1 17 1<|te<|fY [(false,[cI 0])] [(0,(fR (Src.row x0)))] H
def zCG (n : Nat) (r1 : Int × Src) (y4 : (List Int)) : Option ((List Int) × Src) :=
  (some (y4,r1.2))
def Q8 (n : Nat) : Nat → Int × Src → Int → Int → (List Int) → Option (((List Int)) ⊕ ((List Int) × Src))
  | 0,_,_,_,_ => none
  | mo5 + 1,r1,x1,y2,y3 => (bif (decide (y2 < x1)) then (bif (decide ((7 : Int) ≠ 0)) then (bif (decide (y3.length + [(IntKind.wrap .i64 (1 + (Int.tmod (IntKind.wrap .i64 (r1.1 + (IntKind.wrap .i64 (y2 * 3)))) 7)))].length ≤ 268435456)) then (Q8 n mo5 r1 x1 (IntKind.wrap .i64 (y2 + 1)) (y3 ++ [(IntKind.wrap .i64 (1 + (Int.tmod (IntKind.wrap .i64 (r1.1 + (IntKind.wrap .i64 (y2 * 3)))) 7)))])) else none) else none) else (some (Sum.inl y3)))
def zBt (n : Nat) (x0 : Src) (x1 : Int) : Option ((List Int) × Src) :=
  ((zG n x0 7).bind fun r1 => ((Q8 n n r1 x1 0 ([] : List Int)).bind fun o => match o with | .inl y4 => (zCG n r1 y4) | .inr r => some r))
noncomputable abbrev zHf (k : Nat) := Rg Tryz.f120 k
theorem zMn (n : Nat) (x0 : Src) (x1 : Int) (r : (List Int) × Src) (H : zBt n x0 x1 = some r) : zE Tryz.prog 120 [.ptr (fR (Src.row x0)),.val false [.lit (.int .i64 x1)]] [.val false [.sl true 1 (r.1.map intRow)]] [(0,(fR (Src.row r.2)))] := by
 refine zE.of_body tOk Tryz.func120 rfl (c := (.seq (zHf 0) (.seq (zHf 1) (.seq (zHf 2) (.seq (.seq (zHf 3) (.block 0 (.loop (.seq (.seq (zHf 4) (.cond (.tmp 13) .skip (.exit 0))) (.seq (.block 1 (zHf 6)) (zHf 5)))))) (.seq (zHf 7) .ret)))))) kr (Nat.le_of_ble_eq_true kr) 1 (rs := [.tmp 4]) rfl [] .nil [(false,[.sl true 1 (r.1.map intRow)])] [] [(0,(fR (Src.row r.2)))] fun cx=>?_
 show Tr _ _ _ ⟨26,1,[sA 0 0 3 0,sI 1 x1],[(0,(fR (Src.row x0)))]⟩ _
 unfold zBt at H
 refine gA 1 3 1<|rA 1<|LAt.moveU (T := lk tab) (ty := 27) (x := (.tmp 8)) (d := 5) (g := none) false [cL 1 ([] : List Int) intRow] kr kr kr kr kr<|dA 35 1<|rA 1<|bE H fun r1 er1 H=> vL [.lend,.rd] (zL n x0 7 r1 er1)<|uA 1 99 1<|tS<|gA 1 227 1 ?_
 obtain ⟨o5,eo5,Ho5⟩ := bs H
 clear H
 refine Tr.mid (ι := (List Int)) (fun v => ⟨26,1,[sC 5 (cL 1 v intRow),sA 0 0 3 0],[(0,(fR (Src.row r1.2)))]⟩) (fun v => zCG n r1 v = some r) ?_ ?_
 ·refine tB<|Tr.loop (ι := Nat × (Int × (List Int))) (fun v => ⟨26,1,[sI 7 v.2.1,sI 6 r1.1,sC 5 (cL 1 v.2.2 intRow),sA 0 0 3 0,sI 1 x1],[(0,(fR (Src.row r1.2)))]⟩) (fun v => Q8 n v.1 r1 x1 v.2.1 v.2.2 = some o5) (fun v => v.1) (n,(0,([] : List Int))) eo5 (St.sub_of [7,6,5,0,1] [0] kr) ?_
  rintro ⟨_ | mo5,y2,y3⟩ H
  ·exact nN H
  have H : Q8 n (mo5+1) r1 x1 y2 y3 = some o5 := H
  rw [Q8] at H
  refine tS<|gA 3 8419 1 ?_
  obtain ⟨h1,H⟩ | ⟨h1,H⟩ := bC H
  ·refine nA h1<|Tr.exit<|aJ ?_
   cases H
   exact jA y3 Ho5 [5,0] [0]
  exact tA h1<|tK<|tS<|tB<|Tr.at<|lA 5<|gE H fun hg6 H=> LAt.binC tOk (op := .rem) (t := 3) (ty := 3) (ty' := 3) (x := (.tmp 20)) (y := (.const (.int .i64 7))) (d := 21) (g := none) (.int .i64 (wI (r1.1 + (wI (y2 * 3))))) (.int .i64 7) (.int .i64 (Int.tmod (wI (r1.1 + (wI (y2 * 3)))) 7)) _ kr kr kr kr kr (φ := (IntKind.i64 = IntKind.i64 ∧ (7 : Int) ≠ 0)) kr (⟨rfl,of_decide_eq_true hg6⟩) rfl<|lA 2<|gE H fun hg7 H=> LAt.appMU tOk (t := 27) (ty := 27) (e := 3) (x := (.tmp 16)) (y := (.tmp 23)) (d := 24) (g := none) (tI 3) intRow y3 [(wI (1 + (Int.tmod (wI (r1.1 + (wI (y2 * 3)))) 7)))] kr kr kr kr kr kr kr kr kr kr hg7<|LAt.moveU (T := lk tab) (ty := 27) (x := (.tmp 24)) (d := 5) (g := none) false [cL 1 (y3 ++ [(wI (1 + (Int.tmod (wI (r1.1 + (wI (y2 * 3)))) 7)))]) intRow] kr kr kr kr kr<|dA 227 1<|eA 3 227 1<|jB mo5 ((wI (y2 + 1)),(y3 ++ [(wI (1 + (Int.tmod (wI (r1.1 + (wI (y2 * 3)))) 7)))])) H [7,6,5,0,1] [0]
 rintro y4 H
 have H : (zCG n r1 y4) = some r := H
 unfold zCG at H
 exact gA 2 49 1<|te<|fY [(false,[cL 1 y4 intRow])] [(0,(fR (Src.row r1.2)))] H
def QC (n : Nat) (x0 : Src) (x1 : Int) : Option (Bool × Src) :=
  ((zG n x0 x1).bind fun r1 => (some ((r1.1 == 0),r1.2)))
noncomputable abbrev G80 (k : Nat) := Rg Tryz.f80 k
theorem zCa (n : Nat) (x0 : Src) (x1 : Int) (r : Bool × Src) (H : QC n x0 x1 = some r) : zE Tryz.prog 80 [.ptr (fR (Src.row x0)),.val false [.lit (.int .i64 x1)]] [.val false [.lit (.bool r.1)]] [(0,(fR (Src.row r.2)))] := by
 refine zE.of_body tOk Tryz.func80 rfl (c := (.seq (G80 0) (.seq (G80 1) .ret))) kr (Nat.le_of_ble_eq_true kr) 1 (rs := [.tmp 4]) rfl [] .nil [(false,[.lit (.bool r.1)])] [] [(0,(fR (Src.row r.2)))] fun cx=>?_
 show Tr _ _ _ ⟨9,1,[sA 0 0 3 0,sI 1 x1],[(0,(fR (Src.row x0)))]⟩ _
 unfold QC at H
 exact gA 1 3 1<|rA 2<|bE H fun r1 er1 H=> vL [.lend,.rd] (zL n x0 x1 r1 er1)<|uA 2 17 1<|te<|fY [(false,[cB (r1.1 == 0)])] [(0,(fR (Src.row r1.2)))] H
def zBV (n : Nat) (y3 : Int) : Option (Int) :=
  (some y3)
def YH (n : Nat) (k : (Int × Int → Option ((Int) ⊕ (Int)))) (v5 : Link) (x1 : Int) (x2 : Int) (y1 : Int) (y6 : Int) : Option ((Int) ⊕ (Int)) :=
  (bif (v5.B == x1) then (bif (v5.Q == x2) then (k ((IntKind.wrap .i64 (y1 + 1)),(IntKind.wrap .i64 (y6 + 1)))) else (k ((IntKind.wrap .i64 (y1 + 1)),y6))) else (k ((IntKind.wrap .i64 (y1 + 1)),y6)))
def q7 (n : Nat) : Nat → Net → Int → Int → Int → Int → Option ((Int) ⊕ (Int))
  | 0,_,_,_,_,_ => none
  | mo4 + 1,x0,x1,x2,y1,y2 => (bif (decide (y1 < (x0.Ls.length : Int))) then ((idx x0.Ls y1).bind fun v5 => (bif (v5.A == x1) then (bif (v5.P == x2) then (YH n (fun v => q7 n mo4 x0 x1 x2 v.1 v.2) v5 x1 x2 y1 (IntKind.wrap .i64 (y2 + 1))) else (YH n (fun v => q7 n mo4 x0 x1 x2 v.1 v.2) v5 x1 x2 y1 y2)) else (YH n (fun v => q7 n mo4 x0 x1 x2 v.1 v.2) v5 x1 x2 y1 y2))) else (some (Sum.inl y2)))
def QL (n : Nat) (x0 : Net) (x1 : Int) (x2 : Int) : Option (Int) :=
  ((q7 n n x0 x1 x2 0 0).bind fun o => match o with | .inl y3 => (zBV n y3) | .inr r => some r)
theorem zAW (n : Nat) (x0 : Net) (x1 : Int) (x2 : Int) (r : Int) (H : QL n x0 x1 x2 = some r) : zE Tryz.prog 175 [.val true (fR (Net.row x0)),.val false [.lit (.int .i64 x1)],.val false [.lit (.int .i64 x2)]] [.val false [.lit (.int .i64 r)]] [] := by
 refine cW Tryz.func175 (fun g d => sl [g 0,g 1,sl [g 2] (.block 0 (.loop (sl [sl [g 3] (cn 14 .skip (.exit 0)),.block 1 (sl [g 5,sl [g 6] (cn 31 (g 7) .skip),g 8] (cn 43 (g 9) .skip))] (g 4)))),g 10] .ret) [.tmp 6] fun cx=>?_
 unfold QL at H
 refine gA 2 14 8<|gA 1 142 8<|tS<|gA 1 398 8 ?_
 obtain ⟨o4,eo4,Ho4⟩ := bs H
 clear H
 refine Tr.mid (ι := Int) (fun v => ⟨47,0,[sI 7 v],[]⟩) (fun v => zBV n v = some r) ?_ ?_
 ·refine tB<|Tr.loop (ι := Nat × (Int × Int)) (fun v => ⟨47,0,[sI 8 v.2.1,sI 7 v.2.2,sA 3 3 3 0,sI 1 x1,sI 2 x2],[(3,(fR (Net.row x0)))]⟩) (fun v => q7 n v.1 x0 x1 x2 v.2.1 v.2.2 = some o4) (fun v => v.1) (n,(0,0)) eo4 (St.sub_of [8,7,3,1,2] [3] kr) ?_
  rintro ⟨_ | mo4,y1,y2⟩ H
  ·exact nN H
  have H : q7 n (mo4+1) x0 x1 x2 y1 y2 = some o4 := H
  rw [q7] at H
  refine tS<|rA 3<|kF x0.Ls Link.row<|uA 1 16782 8 ?_
  obtain ⟨h1,H⟩ | ⟨h1,H⟩ := bC H
  ·refine nA h1<|Tr.exit<|aJ ?_
   cases H
   exact jA y2 Ho4 [7] []
  refine tA h1<|tK<|tS<|tB<|rA 3<|bE H fun v5 ev5 H=> iA Link.row ev5<|uA 3 910 520<|tS<|Tr.mid (ι := Int) (fun v => ⟨47,0,[sA 9 9 4 0,sI 8 y1,sI 7 v,sA 3 3 3 0,sI 1 x1,sI 2 x2],[(9,(Link.row v5)),(3,(fR (Net.row x0)))]⟩) (fun v => YH n (fun v => q7 n mo4 x0 x1 x2 v.1 v.2) v5 x1 x2 y1 v = some o4) ?_ ?_
  ·refine rA 5 ?_
   obtain ⟨h4,H⟩ | ⟨h4,H⟩ := bC H
   ·exact qL 67109774 520 [26] h4<|uA 5 2147484558 520<|nB_<|tK<|jA y2 H [9,8,7,3,1,2] [9,3]
   refine qL 67109774 520 [26] h4<|uA 5 2147484558 520 ?_
   obtain ⟨h5,H⟩ | ⟨h5,H⟩ := bC H
   ·exact nA h5<|tK<|jA y2 H [9,8,7,3,1,2] [9,3]
   exact tA h5<|eA 3 910 520<|jA (wI (y2 + 1)) H [9,8,7,3,1,2] [9,3]
  rintro y6 H
  have H : (YH n (fun v => q7 n mo4 x0 x1 x2 v.1 v.2) v5 x1 x2 y1 y6) = some o4 := H
  unfold YH at H
  refine rA 5 ?_
  obtain ⟨h2,H⟩ | ⟨h2,H⟩ := bC H
  ·exact qL 274877907854 520 [38] h2<|uA 5 8796093022606 8<|nB_<|tK<|eA 3 398 8<|jB mo4 ((wI (y1 + 1)),y6) H [8,7,3,1,2] [3]
  refine qL 274877907854 520 [38] h2<|uA 5 8796093022606 8 ?_
  obtain ⟨h3,H⟩ | ⟨h3,H⟩ := bC H
  ·exact nA h3<|tK<|eA 3 398 8<|jB mo4 ((wI (y1 + 1)),y6) H [8,7,3,1,2] [3]
  exact tA h3<|eA 3 398 8<|eA 3 398 8<|jB mo4 ((wI (y1 + 1)),(wI (y6 + 1))) H [8,7,3,1,2] [3]
 rintro y3 H
 have H : (zBV n y3) = some r := H
 unfold zBV at H
 exact gA 2 64 0<|te (fJ [(false,[cI y3])] H)
def zAm (n : Nat) (y6 : (List Int)) (y7 : Int) (y8 : Int) (y9 : (List Link)) : Option ((List Link) × Src) :=
  (some (y9,(⟨y6,y7,y8⟩ : Src)))
def QB (n : Nat) (k : (Int × (List Int) × Int × Int × (List Link) → Option (((List Int) × Int × Int × (List Link)) ⊕ ((List Link) × Src)))) (r21 : Int × Src) (y1 : Int) (y15 : Int) (y16 : Int) (y23 : Int) (y25 : Int) (y5 : (List Link)) (y26 : Bool) : Option (((List Int) × Int × Int × (List Link)) ⊕ ((List Link) × Src)) :=
  (bif y26 then (bif (decide (y5.length + [(⟨y16,y23,y15,y25⟩ : Link)].length ≤ 268435456)) then (k ((IntKind.wrap .i64 (y1 + 1)),r21.2.b,r21.2.i,r21.2.h,(y5 ++ [(⟨y16,y23,y15,y25⟩ : Link)]))) else none) else (k ((IntKind.wrap .i64 (y1 + 1)),r21.2.b,r21.2.i,r21.2.h,y5)))
def Jd (n : Nat) (k : (Int × (List Int) × Int × Int × (List Link) → Option (((List Int) × Int × Int × (List Link)) ⊕ ((List Link) × Src)))) (r21 : Int × Src) (y1 : Int) (y15 : Int) (y16 : Int) (y23 : Int) (y5 : (List Link)) (y25 : Int) : Option (((List Int) × Int × Int × (List Link)) ⊕ ((List Link) × Src)) :=
  (bif (y16 != y15) then ((QL n (⟨([] : List zA),y5,([] : List Say)⟩ : Net) y16 y23).bind fun r28 => (bif (r28 == 0) then ((QL n (⟨([] : List zA),y5,([] : List Say)⟩ : Net) y15 y25).bind fun r29 => (bif (r29 == 0) then (QB n k r21 y1 y15 y16 y23 y25 y5 (decide ((y5.length : Int) < 9))) else (QB n k r21 y1 y15 y16 y23 y25 y5 false))) else (QB n k r21 y1 y15 y16 y23 y25 y5 false))) else (QB n k r21 y1 y15 y16 y23 y25 y5 false))
def Qt (n : Nat) : Nat → Int → Int → (List Link) → Int → Option ((Int) ⊕ ((List Link) × Src))
  | 0,_,_,_,_ => none
  | mo30 + 1,x2,y15,y5,y24 => ((QL n (⟨([] : List zA),y5,([] : List Say)⟩ : Net) y15 y24).bind fun r31 => (bif (decide (r31 > 0)) then (bif (decide ((IntKind.wrap .i64 (y24 + 1)) < x2)) then (Qt n mo30 x2 y15 y5 (IntKind.wrap .i64 (y24 + 1))) else (some (Sum.inl y24))) else (some (Sum.inl y24))))
def Jc (n : Nat) (k : (Int × (List Int) × Int × Int × (List Link) → Option (((List Int) × Int × Int × (List Link)) ⊕ ((List Link) × Src)))) (r21 : Int × Src) (x2 : Int) (y1 : Int) (y15 : Int) (y16 : Int) (y5 : (List Link)) (y23 : Int) : Option (((List Int) × Int × Int × (List Link)) ⊕ ((List Link) × Src)) :=
  ((Qt n n x2 y15 y5 r21.1).bind fun o => match o with | .inl y25 => (Jd n k r21 y1 y15 y16 y23 y5 y25) | .inr r => some (Sum.inr r))
def Qu (n : Nat) : Nat → Int → Int → (List Link) → Int → Option ((Int) ⊕ ((List Link) × Src))
  | 0,_,_,_,_ => none
  | mo32 + 1,x2,y16,y5,y22 => ((QL n (⟨([] : List zA),y5,([] : List Say)⟩ : Net) y16 y22).bind fun r33 => (bif (decide (r33 > 0)) then (bif (decide ((IntKind.wrap .i64 (y22 + 1)) < x2)) then (Qu n mo32 x2 y16 y5 (IntKind.wrap .i64 (y22 + 1))) else (some (Sum.inl y22))) else (some (Sum.inl y22))))
def Zf (n : Nat) (k : (Int × (List Int) × Int × Int × (List Link) → Option (((List Int) × Int × Int × (List Link)) ⊕ ((List Link) × Src)))) (x2 : Int) (y1 : Int) (y5 : (List Link)) (y15 : Int) (y16 : Int) (y17 : (List Int)) (y18 : Int) (y19 : Int) : Option (((List Int) × Int × Int × (List Link)) ⊕ ((List Link) × Src)) :=
  ((zG n (⟨y17,y18,y19⟩ : Src) x2).bind fun r20 => ((zG n r20.2 x2).bind fun r21 => ((Qu n n x2 y16 y5 r20.1).bind fun o => match o with | .inl y23 => (Jc n k r21 x2 y1 y15 y16 y5 y23) | .inr r => some (Sum.inr r))))
def zn (n : Nat) : Nat → Int → Int → Int → (List Int) → Int → Int → (List Link) → Option (((List Int) × Int × Int × (List Link)) ⊕ ((List Link) × Src))
  | 0,_,_,_,_,_,_,_ => none
  | mo10 + 1,x1,x2,y1,y2,y3,y4,y5 => ((zG n (⟨y2,y3,y4⟩ : Src) 4).bind fun r11 => (bif (decide (y1 < (IntKind.wrap .i64 (x1 + r11.1)))) then ((zG n r11.2 x1).bind fun r12 => ((zG n r12.2 2).bind fun r13 => (bif (decide ((x1 : Int) ≠ 0)) then (bif (decide (y1 < (IntKind.wrap .i64 (x1 - 1)))) then ((QC n r13.2 5).bind fun r34 => (bif (!r34.1) then (Zf n (fun v => zn n mo10 x1 x2 v.1 v.2.1 v.2.2.1 v.2.2.2.1 v.2.2.2.2) x2 y1 y5 (IntKind.wrap .i64 (y1 + 1)) y1 r34.2.b r34.2.i r34.2.h) else (Zf n (fun v => zn n mo10 x1 x2 v.1 v.2.1 v.2.2.1 v.2.2.2.1 v.2.2.2.2) x2 y1 y5 (Int.tmod (IntKind.wrap .i64 ((IntKind.wrap .i64 (r12.1 + 1)) + r13.1)) x1) r12.1 r34.2.b r34.2.i r34.2.h))) else (Zf n (fun v => zn n mo10 x1 x2 v.1 v.2.1 v.2.2.1 v.2.2.2.1 v.2.2.2.2) x2 y1 y5 (Int.tmod (IntKind.wrap .i64 ((IntKind.wrap .i64 (r12.1 + 1)) + r13.1)) x1) r12.1 r13.2.b r13.2.i r13.2.h)) else none))) else (some (Sum.inl (r11.2.b,r11.2.i,r11.2.h,y5)))))
def zAV (n : Nat) (x0 : Src) (x1 : Int) (x2 : Int) : Option ((List Link) × Src) :=
  ((zn n n x1 x2 0 x0.b x0.i x0.h ([] : List Link)).bind fun o => match o with | .inl (y6,y7,y8,y9) => (zAm n y6 y7 y8 y9) | .inr r => some r)
noncomputable abbrev zAd (k : Nat) := Rg Tryz.f121 k
theorem zLZ (n : Nat) (x0 : Src) (x1 : Int) (x2 : Int) (r : (List Link) × Src) (H : zAV n x0 x1 x2 = some r) : zE Tryz.prog 121 [.ptr (fR (Src.row x0)),.val false [.lit (.int .i64 x1)],.val false [.lit (.int .i64 x2)]] [.val false [.sl true 4 (r.1.map Link.row)]] [(0,(fR (Src.row r.2)))] := by
 refine zE.of_body tOk Tryz.func121 rfl (c := (.seq (zAd 0) (.seq (zAd 1) (.seq (.seq (zAd 2) (.block 0 (.loop (.seq (.seq (zAd 3) (.cond (.tmp 19) .skip (.exit 0))) (.seq (.block 1 (.seq (zAd 5) (.seq (zAd 6) (.seq (.seq (zAd 7) (.cond (.tmp 40) (.seq (zAd 8) (zAd 9)) .skip)) (.seq (zAd 10) (.seq (zAd 11) (.seq (.block 2 (.loop (.seq (.seq (zAd 12) (.cond (.tmp 60) .skip (.exit 2))) (.block 3 (zAd 13))))) (.seq (.block 4 (.loop (.seq (.seq (zAd 14) (.cond (.tmp 73) .skip (.exit 4))) (.block 5 (zAd 15))))) (.seq (zAd 16) (.cond (.tmp 98) (zAd 17) .skip)))))))))) (zAd 4)))))) (.seq (zAd 18) .ret))))) kr (Nat.le_of_ble_eq_true kr) 1 (rs := [.tmp 6]) rfl [] .nil [(false,[.sl true 4 (r.1.map Link.row)])] [] [(0,(fR (Src.row r.2)))] fun cx=>?_
 show Tr _ _ _ ⟨111,1,[sA 0 0 3 0,sI 1 x1,sI 2 x2],[(0,(fR (Src.row x0)))]⟩ _
 unfold zAV at H
 refine gA 1 7 1<|gA 3 135 129<|tS<|gA 1 391 129 ?_
 obtain ⟨o10,eo10,Ho10⟩ := bs H
 clear H
 refine Tr.mid (ι := (List Int) × Int × Int × (List Link)) (fun v => ⟨111,1,[sA 7 7 3 0,sA 0 0 3 0],[(0,[cF 1 v.1 zZ,cI v.2.1,cI v.2.2.1]),(7,[cL 11 ([] : List zA) zA.row,cL 4 v.2.2.2 Link.row,cL 7 ([] : List Say) Say.row])]⟩) (fun v => zAm n v.1 v.2.1 v.2.2.1 v.2.2.2 = some r) ?_ ?_
 ·refine tB<|Tr.loop (ι := Nat × (Int × (List Int) × Int × Int × (List Link))) (fun v => ⟨111,1,[sI 8 v.2.1,sA 7 7 3 0,sA 0 0 3 0,sI 1 x1,sI 2 x2],[(7,[cL 11 ([] : List zA) zA.row,cL 4 v.2.2.2.2.2 Link.row,cL 7 ([] : List Say) Say.row]),(0,[cF 1 v.2.2.1 zZ,cI v.2.2.2.1,cI v.2.2.2.2.1])]⟩) (fun v => zn n v.1 x1 x2 v.2.1 v.2.2.1 v.2.2.2.1 v.2.2.2.2.1 v.2.2.2.2.2 = some o10) (fun v => v.1) (n,(0,x0.b,x0.i,x0.h,([] : List Link))) eo10 (St.sub_of [8,7,0,1,2] [7,0] kr) ?_
  rintro ⟨_ | mo10,y1,y2,y3,y4,y5⟩ H
  ·exact nN H
  have H : zn n (mo10+1) x1 x2 y1 y2 y3 y4 y5 = some o10 := H
  rw [zn] at H
  refine tS<|rA 3<|bE H fun r11 er11 H=> vL [.lend,.rd] (zL n (⟨y2,y3,y4⟩ : Src) 4 r11 er11)<|uA 2 524679 129 ?_
  obtain ⟨h1,H⟩ | ⟨h1,H⟩ := bC H
  ·refine nA h1<|Tr.exit<|aJ ?_
   cases H
   exact jA (r11.2.b,r11.2.i,r11.2.h,y5) Ho10 [7,0] [0,7]
  refine tA h1<|tK<|tS<|tB<|rA 2<|bE H fun r12 er12 H=> vL [.lend,.rd] (zL n r11.2 x1 r12 er12)<|uA 1 903 129<|rA 3<|bE H fun r13 er13 H=> vL [.lend,.rd] (zL n r12.2 2 r13 er13)<|lA 2<|gE H fun hg14 H=> LAt.binC tOk (op := .rem) (t := 3) (ty := 3) (ty' := 3) (x := (.tmp 29)) (y := (.tmp 30)) (d := 31) (g := none) (.int .i64 (wI ((wI (r12.1 + 1)) + r13.1))) (.int .i64 x1) (.int .i64 (Int.tmod (wI ((wI (r12.1 + 1)) + r13.1)) x1)) _ kr kr kr kr kr (φ := (IntKind.i64 = IntKind.i64 ∧ (x1 : Int) ≠ 0)) kr (⟨rfl,of_decide_eq_true hg14⟩) rfl<|uA 1 1927 129<|tS<|Tr.mid (ι := Int × Int × (List Int) × Int × Int) (fun v => ⟨111,1,[sI 10 v.1,sI 9 v.2.1,sI 8 y1,sA 7 7 3 0,sA 0 0 3 0,sI 1 x1,sI 2 x2],[(0,[cF 1 v.2.2.1 zZ,cI v.2.2.2.1,cI v.2.2.2.2]),(7,[cL 11 ([] : List zA) zA.row,cL 4 y5 Link.row,cL 7 ([] : List Say) Say.row])]⟩) (fun v => Zf n (fun v => zn n mo10 x1 x2 v.1 v.2.1 v.2.2.1 v.2.2.2.1 v.2.2.2.2) x2 y1 y5 v.1 v.2.1 v.2.2.1 v.2.2.2.1 v.2.2.2.2 = some o10) ?_ ?_
  ·refine rA 5 ?_
   obtain ⟨h10,H⟩ | ⟨h10,H⟩ := bC H
   ·exact qL 68719478663 129 [36] h10<|uA 4 1099511629703 129<|nB_<|tK<|jA ((Int.tmod (wI ((wI (r12.1 + 1)) + r13.1)) x1),r12.1,r13.2.b,r13.2.i,r13.2.h) H [10,9,8,7,0,1,2] [0,7]
   refine qL 68719478663 129 [36] h10<|lA 1<|bE H fun r34 er34 H=> vL [.lend,.rd] (zCa n r13.2 5 r34 er34)<|uA 2 1099511629703 129 ?_
   obtain ⟨h11,H⟩ | ⟨h11,H⟩ := bC H
   ·exact nA h11<|tK<|jA ((Int.tmod (wI ((wI (r12.1 + 1)) + r13.1)) x1),r12.1,r34.2.b,r34.2.i,r34.2.h) H [10,9,8,7,0,1,2] [0,7]
   exact tA h11<|gA 2 903 129<|eA 3 1927 129<|jA ((wI (y1 + 1)),y1,r34.2.b,r34.2.i,r34.2.h) H [10,9,8,7,0,1,2] [0,7]
  rintro ⟨y15,y16,y17,y18,y19⟩ H
  have H : (Zf n (fun v => zn n mo10 x1 x2 v.1 v.2.1 v.2.2.1 v.2.2.2.1 v.2.2.2.2) x2 y1 y5 y15 y16 y17 y18 y19) = some o10 := H
  unfold Zf at H
  refine rA 2<|bE H fun r20 er20 H=> vL [.lend,.rd] (zL n (⟨y17,y18,y19⟩ : Src) x2 r20 er20)<|uA 1 3975 129<|rA 2<|bE H fun r21 er21 H=> vL [.lend,.rd] (zL n r20.2 x2 r21 er21)<|uA 1 8071 129<|tS ?_
  obtain ⟨o32,eo32,Ho32⟩ := bs H
  clear H
  refine Tr.mid (ι := Int) (fun v => ⟨111,1,[sI 12 r21.1,sI 11 v,sI 10 y15,sI 9 y16,sI 8 y1,sA 7 7 3 0,sA 0 0 3 0,sI 1 x1,sI 2 x2],[(0,(fR (Src.row r21.2))),(7,[cL 11 ([] : List zA) zA.row,cL 4 y5 Link.row,cL 7 ([] : List Say) Say.row])]⟩) (fun v => Jc n (fun v => zn n mo10 x1 x2 v.1 v.2.1 v.2.2.1 v.2.2.2.1 v.2.2.2.2) r21 x2 y1 y15 y16 y5 v = some o10) ?_ ?_
  ·refine tB<|Tr.loop (ι := Nat × (Int)) (fun v => ⟨111,1,[sI 12 r21.1,sI 11 v.2,sI 10 y15,sI 9 y16,sI 8 y1,sA 7 7 3 0,sA 0 0 3 0,sI 1 x1,sI 2 x2],[(0,(fR (Src.row r21.2))),(7,[cL 11 ([] : List zA) zA.row,cL 4 y5 Link.row,cL 7 ([] : List Say) Say.row])]⟩) (fun v => Qu n v.1 x2 y16 y5 v.2 = some o32) (fun v => v.1) (n,r20.1) eo32 (St.sub_of [12,11,10,9,8,7,0,1,2] [0,7] kr) ?_
   rintro ⟨_ | mo32,y22⟩ H
   ·exact nN H
   have H : Qu n (mo32+1) x2 y16 y5 y22 = some o32 := H
   rw [Qu] at H
   refine tS<|rA 3<|bE H fun r33 er33 H=> vB [.rd,.rd,.rd] [.box 7] (zAW n (⟨([] : List zA),y5,([] : List Say)⟩ : Net) y16 y22 r33 er33) (.inr (zM (zJ zN zg) zT))<|lA 2 ?_
   obtain ⟨h8,H⟩ | ⟨h8,H⟩ := bC H
   ·refine qL 0x80000000001f87 129 [55] h8<|uA 5 0x1000000000001f87 129<|nB_<|Tr.exit<|aJ ?_
    cases H
    exact jA y22 Ho32 [12,11,10,9,8,7,0,1,2] [0,7]
   refine qL 0x80000000001f87 129 [55] h8<|uA 5 0x1000000000001f87 129 ?_
   obtain ⟨h9,H⟩ | ⟨h9,H⟩ := bC H
   ·refine nA h9<|Tr.exit<|aJ ?_
    cases H
    exact jA y22 Ho32 [12,11,10,9,8,7,0,1,2] [0,7]
   exact tA h9<|tK<|tB<|eA 3 8071 129<|jB mo32 (wI (y22 + 1)) H [12,11,10,9,8,7,0,1,2] [0,7]
  rintro y23 H
  have H : (Jc n (fun v => zn n mo10 x1 x2 v.1 v.2.1 v.2.2.1 v.2.2.2.1 v.2.2.2.2) r21 x2 y1 y15 y16 y5 y23) = some o10 := H
  unfold Jc at H
  refine tS ?_
  obtain ⟨o30,eo30,Ho30⟩ := bs H
  clear H
  refine Tr.mid (ι := Int) (fun v => ⟨111,1,[sI 12 v,sI 11 y23,sI 10 y15,sI 9 y16,sI 8 y1,sA 7 7 3 0,sA 0 0 3 0,sI 1 x1,sI 2 x2],[(0,(fR (Src.row r21.2))),(7,[cL 11 ([] : List zA) zA.row,cL 4 y5 Link.row,cL 7 ([] : List Say) Say.row])]⟩) (fun v => Jd n (fun v => zn n mo10 x1 x2 v.1 v.2.1 v.2.2.1 v.2.2.2.1 v.2.2.2.2) r21 y1 y15 y16 y23 y5 v = some o10) ?_ ?_
  ·refine tB<|Tr.loop (ι := Nat × (Int)) (fun v => ⟨111,1,[sI 12 v.2,sI 11 y23,sI 10 y15,sI 9 y16,sI 8 y1,sA 7 7 3 0,sA 0 0 3 0,sI 1 x1,sI 2 x2],[(0,(fR (Src.row r21.2))),(7,[cL 11 ([] : List zA) zA.row,cL 4 y5 Link.row,cL 7 ([] : List Say) Say.row])]⟩) (fun v => Qt n v.1 x2 y15 y5 v.2 = some o30) (fun v => v.1) (n,r21.1) eo30 (St.sub_of [12,11,10,9,8,7,0,1,2] [0,7] kr) ?_
   rintro ⟨_ | mo30,y24⟩ H
   ·exact nN H
   have H : Qt n (mo30+1) x2 y15 y5 y24 = some o30 := H
   rw [Qt] at H
   refine tS<|rA 3<|bE H fun r31 er31 H=> vB [.rd,.rd,.rd] [.box 7] (zAW n (⟨([] : List zA),y5,([] : List Say)⟩ : Net) y15 y24 r31 er31) (.inr (zM (zJ zN zg) zT))<|lA 2 ?_
   obtain ⟨h6,H⟩ | ⟨h6,H⟩ := bC H
   ·refine qL 0x100000000000001f87 129 [68] h6<|uA 5 0x2000000000000001f87 129<|nB_<|Tr.exit<|aJ ?_
    cases H
    exact jA y24 Ho30 [12,11,10,9,8,7,0,1,2] [0,7]
   refine qL 0x100000000000001f87 129 [68] h6<|uA 5 0x2000000000000001f87 129 ?_
   obtain ⟨h7,H⟩ | ⟨h7,H⟩ := bC H
   ·refine nA h7<|Tr.exit<|aJ ?_
    cases H
    exact jA y24 Ho30 [12,11,10,9,8,7,0,1,2] [0,7]
   exact tA h7<|tK<|tB<|eA 3 8071 129<|jB mo30 (wI (y24 + 1)) H [12,11,10,9,8,7,0,1,2] [0,7]
  rintro y25 H
  have H : (Jd n (fun v => zn n mo10 x1 x2 v.1 v.2.1 v.2.2.1 v.2.2.2.1 v.2.2.2.2) r21 y1 y15 y16 y23 y5 y25) = some o10 := H
  unfold Jd at H
  refine tS<|Tr.mid (ι := Bool) (fun v => ⟨111,1,[sB 98 v,sI 12 y25,sI 11 y23,sI 10 y15,sI 9 y16,sI 8 y1,sA 7 7 3 0,sA 0 0 3 0,sI 1 x1,sI 2 x2],[(0,(fR (Src.row r21.2))),(7,[cL 11 ([] : List zA) zA.row,cL 4 y5 Link.row,cL 7 ([] : List Say) Say.row])]⟩) (fun v => QB n (fun v => zn n mo10 x1 x2 v.1 v.2.1 v.2.2.1 v.2.2.2.1 v.2.2.2.2) r21 y1 y15 y16 y23 y25 y5 v = some o10) ?_ ?_
  ·refine Tr.at<|lA 4 ?_
   obtain ⟨h3,H⟩ | ⟨h3,H⟩ := bC H
   ·exact qL 0x80000000000000001f87 129 [79] h3<|uA 19 0x4000000000000000000001f87 129<|jA false H [98,12,11,10,9,8,7,0,1,2] [0,7]
   refine qL 0x80000000000000001f87 129 [79] h3<|lA 3<|bE H fun r28 er28 H=> vB [.rd,.rd,.rd] [.box 7] (zAW n (⟨([] : List zA),y5,([] : List Say)⟩ : Net) y16 y23 r28 er28) (.inr (zM (zJ zN zg) zT))<|lA 3 ?_
   obtain ⟨h4,H⟩ | ⟨h4,H⟩ := bC H
   ·exact qL 0x4000000000000000001f87 129 [86] h4<|uA 12 0x4000000000000000000001f87 129<|jA false H [98,12,11,10,9,8,7,0,1,2] [0,7]
   refine qL 0x4000000000000000001f87 129 [86] h4<|lA 3<|bE H fun r29 er29 H=> vB [.rd,.rd,.rd] [.box 7] (zAW n (⟨([] : List zA),y5,([] : List Say)⟩ : Net) y15 y25 r29 er29) (.inr (zM (zJ zN zg) zT))<|lA 3 ?_
   obtain ⟨h5,H⟩ | ⟨h5,H⟩ := bC H
   ·exact qL 0x200000000000000000001f87 129 [93] h5<|uA 5 0x4000000000000000000001f87 129<|jA false H [98,12,11,10,9,8,7,0,1,2] [0,7]
   exact qL 0x200000000000000000001f87 129 [93] h5<|lA 2<|kO y5 Link.row<|uA 2 0x4000000000000000000001f87 129<|jA (decide ((y5.length : Int) < 9)) H [98,12,11,10,9,8,7,0,1,2] [0,7]
  rintro y26 H
  have H : (QB n (fun v => zn n mo10 x1 x2 v.1 v.2.1 v.2.2.1 v.2.2.2.1 v.2.2.2.2) r21 y1 y15 y16 y23 y25 y5 y26) = some o10 := H
  unfold QB at H
  cases h2 : y26
  ·have H := qe h2 H
   exact nB_<|tK<|eA 3 391 129<|jB mo10 ((wI (y1 + 1)),r21.2.b,r21.2.i,r21.2.h,y5) H [8,7,0,1,2] [7,0]
  have H := qf h2 H
  exact tB_<|Tr.at<|lA 8<|gE H fun hg27 H=> LAt.appMU tOk (t := 50) (ty := 50) (e := 78) (x := (.tmp 100)) (y := (.tmp 106)) (d := 107) (g := none) (tI 78) Link.row y5 [(⟨y16,y23,y15,y25⟩ : Link)] kr kr kr kr kr kr kr kr kr kr hg27<|uA 2 391 129<|eA 3 391 129<|jB mo10 ((wI (y1 + 1)),r21.2.b,r21.2.i,r21.2.h,(y5 ++ [(⟨y16,y23,y15,y25⟩ : Link)])) H [8,7,0,1,2] [7,0]
 rintro ⟨y6,y7,y8,y9⟩ H
 have H : (zAm n y6 y7 y8 y9) = some r := H
 unfold zAm at H
 exact gA 3 65 129<|te<|fY [(false,[cL 4 y9 Link.row])] [(0,[cF 1 y6 zZ,cI y7,cI y8])] H
def zR (n : Nat) (x0 : Int) (x1 : Int) (x2 : Int) : Option (Bool) :=
  (bif (decide (x0 ≥ x1)) then (some (decide (x0 ≤ x2))) else (some false))
theorem zS (n : Nat) (x0 : Int) (x1 : Int) (x2 : Int) (r : Bool) (H : zR n x0 x1 x2 = some r) : zE Tryz.prog 102 [.val false [.lit (.int .i64 x0)],.val false [.lit (.int .i64 x1)],.val false [.lit (.int .i64 x2)]] [.val false [.lit (.bool r)]] [] := by
 refine cW Tryz.func102 (fun g d => sl [g 0,g 1] .ret) [.tmp 6] fun cx=>?_
 unfold zR at H
 refine gA 1 7 0<|rA 4 ?_
 obtain ⟨h1,H⟩ | ⟨h1,H⟩ := bC H
 ·exact qL 1029 0 [10] h1<|uA 5 64 0<|te (fF H)
 exact qL 1029 0 [10] h1<|uA 5 64 0<|te (fJ [(false,[cB (decide (x0 ≤ x2))])] H)
def J0 (n : Nat) (x0 : Int) (y5 : (List Int)) : Option (zD) :=
  (some (⟨[(⟨1,(IntKind.wrap .i64 ((IntKind.wrap .i64 (1 * 2 ^ min (((IntKind.wrap .u64 x0) : Int)).toNat (IntKind.bits .i64))) - 1)),(IntKind.wrap .i64 ((IntKind.wrap .i64 (1 * 2 ^ min (((IntKind.wrap .u64 x0) : Int)).toNat (IntKind.bits .i64))) - 1))⟩ : zC)],y5⟩ : zD))
def QW (n : Nat) : Nat → Int → Int → (List Int) → Option (((List Int)) ⊕ (zD))
  | 0,_,_,_ => none
  | mo6 + 1,x0,y3,y4 => (bif (decide (y3 < x0)) then (bif (decide (y4.length + [1].length ≤ 268435456)) then (QW n mo6 x0 (IntKind.wrap .i64 (y3 + 1)) (y4 ++ [1])) else none) else (some (Sum.inl y4)))
def YS (n : Nat) (x0 : Int) : Option (zD) :=
  ((zR n x0 1 6).bind fun r1 => (bif (!r1) then (some (⟨([] : List zC),([] : List Int)⟩ : zD)) else (bif (decide ((0 : Int) ≤ (IntKind.wrap .u64 x0))) then ((QW n n x0 0 ([] : List Int)).bind fun o => match o with | .inl y5 => (J0 n x0 y5) | .inr r => some r) else none)))
theorem zIA (n : Nat) (x0 : Int) (r : zD) (H : YS n x0 = some r) : zE Tryz.prog 107 [.val false [.lit (.int .i64 x0)]] [.val true (zD.row r)] [] := by
 refine cW Tryz.func107 (fun g d => sl [g 0,sl [g 1] (cn 8 (sl [g 2] .ret) .skip),g 3,g 4,sl [g 5] (.block 0 (.loop (sl [sl [g 6] (cn 21 .skip (.exit 0)),.block 1 (g 8)] (g 7)))),g 9] .ret) [.cell 2 29] fun cx=>?_
 unfold YS at H
 refine gA 1 5 4<|tS<|rA 1<|bE H fun r1 er1 H=> vA [.rd,.rd,.rd] (zS n x0 1 6 r1 er1)<|uA 1 261 4 ?_
 obtain ⟨h1,H⟩ | ⟨h1,H⟩ := bC H
 ·refine nA h1<|tK<|rA 2<|gE H fun hg2 H=> LAt.binC tOk (op := .shl) (t := 3) (ty := 163) (ty' := 3) (x := (.const (.int .i64 1))) (y := (.tmp 11)) (d := 12) (g := none) (.int .i64 1) (.int .u64 (IntKind.wrap .u64 x0)) (.int .i64 (wI (1 * 2 ^ min (((IntKind.wrap .u64 x0) : Int)).toNat (IntKind.bits .i64)))) _ kr kr kr kr kr (φ := (0 : Int) ≤ (IntKind.wrap .u64 x0)) kr (of_decide_eq_true hg2) rfl<|uA 2 13 4<|gA 7 21 20<|tS<|gA 1 53 20 ?_
  obtain ⟨o6,eo6,Ho6⟩ := bs H
  clear H
  refine Tr.mid (ι := (List Int)) (fun v => ⟨30,0,[sA 4 4 2 0,sA 2 2 2 0],[(4,[cL 3 [(⟨1,(wI ((wI (1 * 2 ^ min (((IntKind.wrap .u64 x0) : Int)).toNat (IntKind.bits .i64))) - 1)),(wI ((wI (1 * 2 ^ min (((IntKind.wrap .u64 x0) : Int)).toNat (IntKind.bits .i64))) - 1))⟩ : zC)] zC.row,cL 1 v intRow]),(2,[cL 3 ([] : List zC) zC.row,cL 1 ([] : List Int) intRow])]⟩) (fun v => J0 n x0 v = some r) ?_ ?_
  ·refine tB<|Tr.loop (ι := Nat × (Int × (List Int))) (fun v => ⟨30,0,[sI 5 v.2.1,sA 4 4 2 0,sA 2 2 2 0,sI 0 x0],[(4,[cL 3 [(⟨1,(wI ((wI (1 * 2 ^ min (((IntKind.wrap .u64 x0) : Int)).toNat (IntKind.bits .i64))) - 1)),(wI ((wI (1 * 2 ^ min (((IntKind.wrap .u64 x0) : Int)).toNat (IntKind.bits .i64))) - 1))⟩ : zC)] zC.row,cL 1 v.2.2 intRow]),(2,[cL 3 ([] : List zC) zC.row,cL 1 ([] : List Int) intRow])]⟩) (fun v => QW n v.1 x0 v.2.1 v.2.2 = some o6) (fun v => v.1) (n,(0,([] : List Int))) eo6 (St.sub_of [5,4,2,0] [4,2] kr) ?_
   rintro ⟨_ | mo6,y3,y4⟩ H
   ·exact nN H
   have H : QW n (mo6+1) x0 y3 y4 = some o6 := H
   rw [QW] at H
   refine tS<|gA 3 2097205 20 ?_
   obtain ⟨h2,H⟩ | ⟨h2,H⟩ := bC H
   ·refine nA h2<|Tr.exit<|aJ ?_
    cases H
    exact jA y4 Ho6 [4,2] [4,2]
   exact tA h2<|tK<|tS<|tB<|Tr.at<|lA 3<|gE H fun hg7 H=> LAt.appMU tOk (t := 27) (ty := 27) (e := 3) (x := (.tmp 25)) (y := (.tmp 26)) (d := 27) (g := none) (tI 3) intRow y4 [1] kr kr kr kr kr kr kr kr kr kr hg7<|uA 2 53 20<|eA 3 53 20<|jB mo6 ((wI (y3 + 1)),(y4 ++ [1])) H [5,4,2,0] [4,2]
  rintro y5 H
  have H : (J0 n x0 y5) = some r := H
  unfold J0 at H
  exact gA 2 4 4<|te (fJ [(true,[cL 3 [(⟨1,(wI ((wI (1 * 2 ^ min (((IntKind.wrap .u64 x0) : Int)).toNat (IntKind.bits .i64))) - 1)),(wI ((wI (1 * 2 ^ min (((IntKind.wrap .u64 x0) : Int)).toNat (IntKind.bits .i64))) - 1))⟩ : zC)] zC.row,cL 1 y5 intRow])] H)
 exact tA h1<|gA 2 4 4<|te (fJ [(true,[cL 3 ([] : List zC) zC.row,cL 1 ([] : List Int) intRow])] H)
def zAB (n : Nat) (r3 : zD) (x0 : Int) (y6 : (List Pt)) : Option (zA) :=
  (some (⟨x0,(⟨#[]⟩ : ByteArray),y6,([] : List zB),r3,0,0,0,0,0⟩ : zA))
def YL (n : Nat) : Nat → Int → Int → (List Pt) → Option (((List Pt)) ⊕ (zA))
  | 0,_,_,_ => none
  | mo7 + 1,x1,y4,y5 => (bif (decide (y4 < x1)) then (bif (decide (y5.length + [(⟨false,1,false,(⟨0,0,0,0,0⟩ : Vec)⟩ : Pt)].length ≤ 268435456)) then (YL n mo7 x1 (IntKind.wrap .i64 (y4 + 1)) (y5 ++ [(⟨false,1,false,(⟨0,0,0,0,0⟩ : Vec)⟩ : Pt)])) else none) else (some (Sum.inl y5)))
def qo (n : Nat) (x0 : Int) (x1 : Int) : Option (zA) :=
  ((zR n x0 1 99).bind fun r1 => (bif (!r1) then (some (⟨0,(⟨#[]⟩ : ByteArray),([] : List Pt),([] : List zB),(⟨([] : List zC),([] : List Int)⟩ : zD),0,0,0,0,0⟩ : zA)) else ((zR n x1 1 6).bind fun r2 => (bif (!r2) then (some (⟨0,(⟨#[]⟩ : ByteArray),([] : List Pt),([] : List zB),(⟨([] : List zC),([] : List Int)⟩ : zD),0,0,0,0,0⟩ : zA)) else ((YS n x1).bind fun r3 => ((YL n n x1 0 ([] : List Pt)).bind fun o => match o with | .inl y6 => (zAB n r3 x0 y6) | .inr r => some r))))))
theorem zGd (n : Nat) (x0 : Int) (x1 : Int) (r : zA) (H : qo n x0 x1 = some r) : zE Tryz.prog 26 [.val false [.lit (.int .i64 x0)],.val false [.lit (.int .i64 x1)]] [.val true (zA.row r)] [] := by
 refine cW Tryz.func26 (fun g d => sl [g 0,sl [g 1] (cn 14 (sl [g 2] .ret) .skip),g 3,sl [g 4] (.block 0 (.loop (sl [sl [g 5] (cn 22 .skip (.exit 0)),.block 1 (g 7)] (g 6)))),g 8] .ret) [.cell 4 31] fun cx=>?_
 unfold qo at H
 refine gA 1 19 16<|tS<|rA 1<|bE H fun r1 er1 H=> vA [.rd,.rd,.rd] (zS n x0 1 99 r1 er1)<|lA 2 ?_
 obtain ⟨h1,H⟩ | ⟨h1,H⟩ := bC H
 ·refine qL 1043 16 [10] h1<|lA 1<|bE H fun r2 er2 H=> vA [.rd,.rd,.rd] (zS n x1 1 6 r2 er2)<|uA 2 16403 16 ?_
  obtain ⟨h2,H⟩ | ⟨h2,H⟩ := bC H
  ·refine nA h2<|tK<|rA 2<|bE H fun r3 er3 H=> vA [.rd] (zIA n x1 r3 er3)<|uA 3 50 48<|tS<|gA 1 114 48 ?_
   obtain ⟨o7,eo7,Ho7⟩ := bs H
   clear H
   refine Tr.mid (ι := (List Pt)) (fun v => ⟨32,0,[sA 5 5 11 0,sA 4 4 11 0],[(5,[cI x0,cS (⟨#[]⟩ : ByteArray),cL 8 v Pt.row,cL 5 ([] : List zB) zB.row,cL 3 r3.Rows zC.row,cL 1 r3.Pv intRow,cI 0,cI 0,cI 0,cI 0,cI 0]),(4,[cI 0,cS (⟨#[]⟩ : ByteArray),cL 8 ([] : List Pt) Pt.row,cL 5 ([] : List zB) zB.row,cL 3 ([] : List zC) zC.row,cL 1 ([] : List Int) intRow,cI 0,cI 0,cI 0,cI 0,cI 0])]⟩) (fun v => zAB n r3 x0 v = some r) ?_ ?_
   ·refine tB<|Tr.loop (ι := Nat × (Int × (List Pt))) (fun v => ⟨32,0,[sI 6 v.2.1,sA 5 5 11 0,sA 4 4 11 0,sI 1 x1],[(5,[cI x0,cS (⟨#[]⟩ : ByteArray),cL 8 v.2.2 Pt.row,cL 5 ([] : List zB) zB.row,cL 3 r3.Rows zC.row,cL 1 r3.Pv intRow,cI 0,cI 0,cI 0,cI 0,cI 0]),(4,[cI 0,cS (⟨#[]⟩ : ByteArray),cL 8 ([] : List Pt) Pt.row,cL 5 ([] : List zB) zB.row,cL 3 ([] : List zC) zC.row,cL 1 ([] : List Int) intRow,cI 0,cI 0,cI 0,cI 0,cI 0])]⟩) (fun v => YL n v.1 x1 v.2.1 v.2.2 = some o7) (fun v => v.1) (n,(0,([] : List Pt))) eo7 (St.sub_of [6,5,4,1] [5,4] kr) ?_
    rintro ⟨_ | mo7,y4,y5⟩ H
    ·exact nN H
    have H : YL n (mo7+1) x1 y4 y5 = some o7 := H
    rw [YL] at H
    refine tS<|gA 3 4194418 48 ?_
    obtain ⟨h3,H⟩ | ⟨h3,H⟩ := bC H
    ·refine nA h3<|Tr.exit<|aJ ?_
     cases H
     exact jA y5 Ho7 [5,4] [5,4]
    exact tA h3<|tK<|tS<|tB<|Tr.at<|lA 4<|gE H fun hg8 H=> LAt.appMU tOk (t := 24) (ty := 24) (e := 100) (x := (.tmp 26)) (y := (.tmp 28)) (d := 29) (g := none) (tI 100) Pt.row y5 [(⟨false,1,false,(⟨0,0,0,0,0⟩ : Vec)⟩ : Pt)] kr kr kr kr kr kr kr kr kr kr hg8<|uA 2 114 48<|eA 3 114 48<|jB mo7 ((wI (y4 + 1)),(y5 ++ [(⟨false,1,false,(⟨0,0,0,0,0⟩ : Vec)⟩ : Pt)])) H [6,5,4,1] [5,4]
   rintro y6 H
   have H : (zAB n r3 x0 y6) = some r := H
   unfold zAB at H
   exact gA 2 16 16<|te (fJ [(true,[cI x0,cS (⟨#[]⟩ : ByteArray),cL 8 y6 Pt.row,cL 5 ([] : List zB) zB.row,cL 3 r3.Rows zC.row,cL 1 r3.Pv intRow,cI 0,cI 0,cI 0,cI 0,cI 0])] H)
  exact tA h2<|gA 2 16 16<|te (fJ [(true,[cI 0,cS (⟨#[]⟩ : ByteArray),cL 8 ([] : List Pt) Pt.row,cL 5 ([] : List zB) zB.row,cL 3 ([] : List zC) zC.row,cL 1 ([] : List Int) intRow,cI 0,cI 0,cI 0,cI 0,cI 0])] H)
 exact qL 1043 16 [10] h1<|uA 4 16403 16<|tB_<|gA 2 16 16<|te (fJ [(true,[cI 0,cS (⟨#[]⟩ : ByteArray),cL 8 ([] : List Pt) Pt.row,cL 5 ([] : List zB) zB.row,cL 3 ([] : List zC) zC.row,cL 1 ([] : List Int) intRow,cI 0,cI 0,cI 0,cI 0,cI 0])] H)
def zo (n : Nat) (x0 : Vec) : Option (Bool) :=
  ((zR n x0.Root 1 99).bind fun r1 => (bif r1 then ((zR n x0.Co 0 100000).bind fun r2 => (bif r2 then ((zR n x0.Hops 0 10).bind fun r3 => (bif r3 then ((zR n x0.Bridge 1 99).bind fun r4 => (bif r4 then ((zR n x0.Port 0 7).bind fun r5 => (some r5)) else (some false))) else (some false))) else (some false))) else (some false)))
theorem zDS (n : Nat) (x0 : Vec) (r : Bool) (H : zo n x0 = some r) : zE Tryz.prog 91 [.val true (fR (Vec.row x0))] [.val false [.lit (.bool r)]] [] := by
 refine cW Tryz.func91 (fun g d => sl [g 0,g 1] .ret) [.tmp 2] fun cx=>?_
 unfold zo at H
 refine gA 2 2 2<|rA 2<|bE H fun r1 er1 H=> vA [.rd,.rd,.rd] (zS n x0.Root 1 99 r1 er1)<|lA 1 ?_
 obtain ⟨h1,H⟩ | ⟨h1,H⟩ := bC H
 ·exact qL 66 2 [6] h1<|uA 20 4 0<|te (fF H)
 refine qL 66 2 [6] h1<|lA 2<|bE H fun r2 er2 H=> vA [.rd,.rd,.rd] (zS n x0.Co 0 100000 r2 er2)<|lA 2 ?_
 obtain ⟨h2,H⟩ | ⟨h2,H⟩ := bC H
 ·exact qL 2050 2 [11] h2<|uA 15 4 0<|te (fF H)
 refine qL 2050 2 [11] h2<|lA 2<|bE H fun r3 er3 H=> vA [.rd,.rd,.rd] (zS n x0.Hops 0 10 r3 er3)<|lA 2 ?_
 obtain ⟨h3,H⟩ | ⟨h3,H⟩ := bC H
 ·exact qL 65538 2 [16] h3<|uA 10 4 0<|te (fF H)
 refine qL 65538 2 [16] h3<|lA 2<|bE H fun r4 er4 H=> vA [.rd,.rd,.rd] (zS n x0.Bridge 1 99 r4 er4)<|lA 2 ?_
 obtain ⟨h4,H⟩ | ⟨h4,H⟩ := bC H
 ·exact qL 2097154 2 [21] h4<|uA 5 4 0<|te (fF H)
 exact qL 2097154 2 [21] h4<|lA 2<|bE H fun r5 er5 H=> vA [.rd,.rd,.rd] (zS n x0.Port 0 7 r5 er5)<|uA 2 4 0<|te (fJ [(false,[cB r5])] H)
def qC (n : Nat) (x0 : Pt) : Option (Bool) :=
  ((zR n x0.Co 1 1000).bind fun r1 => (bif (!r1) then (some false) else (bif (!x0.Up) then (bif x0.Has then (some false) else (some ((x0.Hd.Root == 0) && ((x0.Hd.Co == 0) && ((x0.Hd.Hops == 0) && ((x0.Hd.Bridge == 0) && ((x0.Hd.Port == 0) && true))))))) else (bif (!x0.Has) then (some ((x0.Hd.Root == 0) && ((x0.Hd.Co == 0) && ((x0.Hd.Hops == 0) && ((x0.Hd.Bridge == 0) && ((x0.Hd.Port == 0) && true)))))) else ((zo n x0.Hd).bind fun r2 => (some r2))))))
theorem zOF (n : Nat) (x0 : Pt) (r : Bool) (H : qC n x0 = some r) : zE Tryz.prog 101 [.val true (fR (Pt.row x0))] [.val false [.lit (.bool r)]] [] := by
 refine cW Tryz.func101 (fun g d => sl [g 0,sl [g 1] (cn 15 (sl [g 2] .ret) .skip),sl [g 3] (cn 18 (sl [g 4] .ret) .skip),g 5] .ret) [.tmp 2] fun cx=>?_
 unfold qC at H
 refine gA 2 2 2<|tS<|rA 2<|bE H fun r1 er1 H=> vA [.rd,.rd,.rd] (zS n x0.Co 1 1000 r1 er1)<|lA 2 ?_
 obtain ⟨h1,H⟩ | ⟨h1,H⟩ := bC H
 ·refine qL 130 2 [7] h1<|lA 4 ?_
  obtain ⟨h2,H⟩ | ⟨h2,H⟩ := bC H
  ·refine qL 2178 2 [11] h2<|uA 4 32770 2<|nB_<|tK<|tS<|gA 3 262146 2 ?_
   obtain ⟨h3,H⟩ | ⟨h3,H⟩ := bC H
   ·exact nA h3<|tK<|rA 2<|bE H fun r2 er2 H=> vA [.rd] (zDS n x0.Hd r2 er2)<|uA 1 4 0<|te (fJ [(false,[cB r2])] H)
   exact tA h3<|rA 3<|LAt.eqSG false (t := 33) (ty := 33) (ty' := 4) (x := (.tmp 20)) (y := (.tmp 21)) (d := 22) (g := none) ((x0.Hd.Root == 0) && ((x0.Hd.Co == 0) && ((x0.Hd.Hops == 0) && ((x0.Hd.Bridge == 0) && ((x0.Hd.Port == 0) && true))))) _ kr kr kr kr rfl<|uA 1 4 0<|te (fJ [(false,[cB ((x0.Hd.Root == 0) && ((x0.Hd.Co == 0) && ((x0.Hd.Hops == 0) && ((x0.Hd.Bridge == 0) && ((x0.Hd.Port == 0) && true)))))])] H)
  refine qL 2178 2 [11] h2<|uA 4 32770 2 ?_
  obtain ⟨h4,H⟩ | ⟨h4,H⟩ := bC H
  ·exact qT [15] h4<|nB_<|tK<|tS<|gA 3 262146 2<|qT [18] (congrArg not h4)<|tB_<|rA 3<|LAt.eqSG false (t := 33) (ty := 33) (ty' := 4) (x := (.tmp 20)) (y := (.tmp 21)) (d := 22) (g := none) ((x0.Hd.Root == 0) && ((x0.Hd.Co == 0) && ((x0.Hd.Hops == 0) && ((x0.Hd.Bridge == 0) && ((x0.Hd.Port == 0) && true))))) _ kr kr kr kr rfl<|uA 1 4 0<|te (fJ [(false,[cB ((x0.Hd.Root == 0) && ((x0.Hd.Co == 0) && ((x0.Hd.Hops == 0) && ((x0.Hd.Bridge == 0) && ((x0.Hd.Port == 0) && true)))))])] H)
  exact qT [15] h4<|tB_<|gA 1 4 0<|te (fF H)
 exact qL 130 2 [7] h1<|uA 8 32770 2<|tB_<|gA 1 4 0<|te (fF H)
def ZR (n : Nat) (x0 : zB) : Option (Bool) :=
  ((zR n x0.Tag 1 99).bind fun r1 => (bif r1 then ((zR n x0.Mac 1 9999).bind fun r2 => (bif r2 then ((zR n x0.Port 0 7).bind fun r3 => (bif r3 then ((zR n x0.Age 0 4).bind fun r4 => (bif r4 then (bif (!x0.Sc) then (some true) else (some (x0.Age == 0))) else (some false))) else (some false))) else (some false))) else (some false)))
theorem zDX (n : Nat) (x0 : zB) (r : Bool) (H : ZR n x0 = some r) : zE Tryz.prog 170 [.val true (fR (zB.row x0))] [.val false [.lit (.bool r)]] [] := by
 refine cW Tryz.func170 (fun g d => sl [g 0,g 1] .ret) [.tmp 2] fun cx=>?_
 unfold ZR at H
 refine gA 2 2 2<|rA 2<|bE H fun r1 er1 H=> vA [.rd,.rd,.rd] (zS n x0.Tag 1 99 r1 er1)<|lA 1 ?_
 obtain ⟨h1,H⟩ | ⟨h1,H⟩ := bC H
 ·exact qL 66 2 [6] h1<|uA 25 4 0<|te (fF H)
 refine qL 66 2 [6] h1<|lA 2<|bE H fun r2 er2 H=> vA [.rd,.rd,.rd] (zS n x0.Mac 1 9999 r2 er2)<|lA 2 ?_
 obtain ⟨h2,H⟩ | ⟨h2,H⟩ := bC H
 ·exact qL 2050 2 [11] h2<|uA 20 4 0<|te (fF H)
 refine qL 2050 2 [11] h2<|lA 2<|bE H fun r3 er3 H=> vA [.rd,.rd,.rd] (zS n x0.Port 0 7 r3 er3)<|lA 2 ?_
 obtain ⟨h3,H⟩ | ⟨h3,H⟩ := bC H
 ·exact qL 65538 2 [16] h3<|uA 15 4 0<|te (fF H)
 refine qL 65538 2 [16] h3<|lA 2<|bE H fun r4 er4 H=> vA [.rd,.rd,.rd] (zS n x0.Age 0 4 r4 er4)<|lA 2 ?_
 obtain ⟨h4,H⟩ | ⟨h4,H⟩ := bC H
 ·exact qL 2097154 2 [21] h4<|uA 10 4 0<|te (fF H)
 refine qL 2097154 2 [21] h4<|lA 4 ?_
 obtain ⟨h5,H⟩ | ⟨h5,H⟩ := bC H
 ·exact qL 35651586 2 [25] h5<|uA 6 4 0<|te (fJ [(false,[cB (x0.Age == 0)])] H)
 exact qL 35651586 2 [25] h5<|uA 6 4 0<|te (fT H)
def Zm (n : Nat) (x0 : zB) (x1 : Int) (x2 : Int) : Option (Bool) :=
  (bif (x0.Tag != x1) then (some (decide (x0.Tag < x1))) else (some (decide (x0.Mac < x2))))
theorem zIC (n : Nat) (x0 : zB) (x1 : Int) (x2 : Int) (r : Bool) (H : Zm n x0 x1 x2 = some r) : zE Tryz.prog 171 [.val true (fR (zB.row x0)),.val false [.lit (.int .i64 x1)],.val false [.lit (.int .i64 x2)]] [.val false [.lit (.bool r)]] [] := by
 refine cW Tryz.func171 (fun g d => sl [g 0,sl [g 1] (cn 10 (sl [g 2] .ret) .skip),g 3] .ret) [.tmp 6] fun cx=>?_
 unfold Zm at H
 refine gA 2 14 8<|tS<|gA 4 1038 8 ?_
 obtain ⟨h1,H⟩ | ⟨h1,H⟩ := bC H
 ·exact nA h1<|tK<|gA 5 64 0<|te (fJ [(false,[cB (decide (x0.Mac < x2))])] H)
 exact tA h1<|gA 5 64 0<|te (fJ [(false,[cB (decide (x0.Tag < x1))])] H)
def zAy (n : Nat) (x0 : (List zB)) : Option (Bool) :=
  (some (decide ((x0.length : Int) ≤ 12)))
def qY (n : Nat) : Nat → (List zB) → Int → Option ((Unit) ⊕ (Bool))
  | 0,_,_ => none
  | mo2 + 1,x0,y1 => (bif (decide (y1 < (x0.length : Int))) then ((idx x0 y1).bind fun v3 => ((ZR n v3).bind fun r4 => (bif (!r4) then (some (Sum.inr false)) else (bif (decide (y1 > 0)) then ((idx x0 (IntKind.wrap .i64 (y1 - 1))).bind fun v5 => ((idx x0 y1).bind fun v6 => ((idx x0 y1).bind fun v7 => ((Zm n v5 v6.Tag v7.Mac).bind fun r8 => (bif (!r8) then (some (Sum.inr false)) else (qY n mo2 x0 (IntKind.wrap .i64 (y1 + 1)))))))) else (qY n mo2 x0 (IntKind.wrap .i64 (y1 + 1))))))) else (some (Sum.inl ())))
def ZQ (n : Nat) (x0 : (List zB)) : Option (Bool) :=
  ((qY n n x0 0).bind fun o => match o with | .inl _ => (zAy n x0) | .inr r => some r)
def zPb : Tab := ⟨29,[0,0,3,4,8,16,48,64,192,320,512,512,2560,5632,8704,512,512,98816,131584,262656,512,512,3146240,4194816,8389120,17318400,33554944,67109440,134217792],[0,0,3,4,8,16,32,64,192,320,512,512,2560,5632,8704,512,512,98816,131584,262656,512,512,3146240,4194816,8389120,17318400,33554944,67109440,134217792],[0,0,3,7,15,31,63,127,255,511,1023,1023,3071,8191,16383,1023,1023,99327,230399,492543,1023,1023,3146751,7341055,15729663,33554431,67108863,134217727,268435455]⟩
theorem q9 : zc (rg Tryz.f103 4) zPb = true := kr
theorem zHF (n : Nat) (x0 : (List zB)) (r : Bool) (H : ZQ n x0 = some r) : zE Tryz.prog 103 [.val false [.sl false 5 (CV.frzEs (x0.map zB.row))]] [.val false [.lit (.bool r)]] [] := by
 refine cW Tryz.func103 (fun g d => sl [g 0,sl [g 1] (.block 0 (.loop (sl [sl [g 2] (cn 7 .skip (.exit 0)),.block 1 (sl [d 4] (cn 38 (sl [g 5] .ret) .skip))] (g 3)))),g 6] .ret) [.tmp 2] fun cx=>?_
 unfold ZQ at H
 refine gA 1 1 0<|tS<|gA 1 9 0 ?_
 obtain ⟨o2,eo2,Ho2⟩ := bs H
 clear H
 refine Tr.mid (ι := Unit) (fun v => ⟨42,0,[sC 0 (cF 5 x0 zB.row)],[]⟩) (fun v => zAy n x0 = some r) ?_ ?_
 ·refine tB<|Tr.loop (ι := Nat × (Int)) (fun v => ⟨42,0,[sI 3 v.2,sC 0 (cF 5 x0 zB.row)],[]⟩) (fun v => qY n v.1 x0 v.2 = some o2) (fun v => v.1) (n,0) eo2 (St.sub_of [3,0] [] kr) ?_
  rintro ⟨_ | mo2,y1⟩ H
  ·exact nN H
  have H : qY n (mo2+1) x0 y1 = some o2 := H
  rw [qY] at H
  refine tS<|rA 2<|kF x0 zB.row<|uA 1 137 0 ?_
  obtain ⟨h1,H⟩ | ⟨h1,H⟩ := bC H
  ·refine nA h1<|Tr.exit<|aJ ?_
   cases H
   exact jA () Ho2 [0] []
  refine tA h1<|tK<|tS<|tB<|bE H fun v3 ev3 H=> bE H fun r4 er4 H=> sT ⟨42,0,[sB 7 (decide (y1 < (x0.length : Int))),sI 3 y1,sC 0 (cF 5 x0 zB.row)],[]⟩ ?_
  cases h2 : (!r4)
  ·have H := qe h2 H
   refine sT ⟨42,0,[sB 7 (decide (y1 < (x0.length : Int))),sI 3 y1,sC 0 (cF 5 x0 zB.row)],[]⟩ ?_
   cases h3 : (decide (y1 > 0))
   ·have H := qe h3 H
    refine Tr.draws mixed 29 kr ⟨42,0,[sB 38 false,sI 3 y1,sC 0 (cF 5 x0 zB.row)],[]⟩ (fun cx=>?_) ?_
    ·exact mA q9 [(0,[]),(1,[])] 27 [] fun cx=>iN q9 2 zB.row ev3 fun cx=>mA q9 [(3,[])] 25 [] fun cx=>mC q9 4<|vA [.rd] (zDX n v3 r4 er4)<|fA<|mA q9 [(5,[]),(6,[])] 22 [] fun cx=>qA 65545 0 [16] h2<|mA q9 (zl [7,8,9]) 19 [] fun cx=>qA 589833 0 [19] h3<|mA q9 (zl [10,11,12,13,14,15,16,17,18,19,20,21,22,23,24,25,26,27,28]) 0 [] fun cx=>mE q9 [38,3,0] []
    exact nB_<|tK<|eA 3 9 0<|jB mo2 (wI (y1 + 1)) H [3,0] []
   have H := qf h3 H
   refine bE H fun v5 ev5 H=> bE H fun v6 ev6 H=> bE H fun v7 ev7 H=> bE H fun r8 er8 H=> Tr.draws mixed 29 kr ⟨42,0,[sB 38 (!r8),sI 3 y1,sC 0 (cF 5 x0 zB.row)],[]⟩ (fun cx=>?_) ?_
   ·exact mA q9 [(0,[]),(1,[])] 27 [] fun cx=>iN q9 2 zB.row ev3 fun cx=>mA q9 [(3,[])] 25 [] fun cx=>mC q9 4<|vA [.rd] (zDX n v3 r4 er4)<|fA<|mA q9 [(5,[]),(6,[])] 22 [] fun cx=>qA 65545 0 [16] h2<|mA q9 (zl [7,8,9]) 19 [] fun cx=>qA 589833 0 [19] h3<|mA q9 (zl [10,11,12]) 16 [] fun cx=>iN q9 13 zB.row ev5 fun cx=>mA q9 (zl [14,15,16]) 12 [] fun cx=>iN q9 17 zB.row ev6 fun cx=>mA q9 (zl [18,19,20,21]) 7 [] fun cx=>iN q9 22 zB.row ev7 fun cx=>mA q9 [(23,[]),(24,[])] 4 [] fun cx=>mC q9 25<|vA [.rd,.rd,.rd] (zIC n v5 v6.Tag v7.Mac r8 er8)<|fA<|mA q9 (zl [26,27,28]) 0 [] fun cx=>mE q9 [38,3,0] []
   obtain ⟨h4,H⟩ | ⟨h4,H⟩ := bC H
   ·exact qT [38] h4<|nB_<|tK<|eA 3 9 0<|jB mo2 (wI (y1 + 1)) H [3,0] []
   refine qT [38] h4<|tB_<|gA 1 4 0<|te ?_
   cases H
   exact fF Ho2
  have H := qf h2 H
  refine Tr.draws mixed 29 kr ⟨42,0,[sB 38 true,sI 3 y1,sC 0 (cF 5 x0 zB.row)],[]⟩ (fun cx=>?_) ?_
  ·exact mA q9 [(0,[]),(1,[])] 27 [] fun cx=>iN q9 2 zB.row ev3 fun cx=>mA q9 [(3,[])] 25 [] fun cx=>mC q9 4<|vA [.rd] (zDX n v3 r4 er4)<|fA<|mA q9 [(5,[]),(6,[])] 22 [] fun cx=>qA 65545 0 [16] h2<|mA q9 (zl [7,8,9,10,11,12,13,14,15,16,17,18,19,20,21,22,23,24,25,26,27,28]) 0 [] fun cx=>mE q9 [38,3,0] []
  refine tB_<|gA 1 4 0<|te ?_
  cases H
  exact fF Ho2
 rintro _ H
 have H : (zAy n x0) = some r := H
 unfold zAy at H
 exact rA 1<|kF x0 zB.row<|uA 2 4 0<|te (fJ [(false,[cB (decide ((x0.length : Int) ≤ 12))])] H)
def zCt (n : Nat) : Option (Int) :=
  (some (-1))
def QI (n : Nat) : Nat → zD → Int → Int → Option ((Unit) ⊕ (Int))
  | 0,_,_,_ => none
  | mo2 + 1,x0,x1,y1 => (bif (decide (y1 < (x0.Rows.length : Int))) then ((idx x0.Rows y1).bind fun v3 => (bif (v3.Id == x1) then (some (Sum.inr y1)) else (QI n mo2 x0 x1 (IntKind.wrap .i64 (y1 + 1))))) else (some (Sum.inl ())))
def JG (n : Nat) (x0 : zD) (x1 : Int) : Option (Int) :=
  ((QI n n x0 x1 0).bind fun o => match o with | .inl _ => (zCt n) | .inr r => some r)
theorem zJ4 (n : Nat) (x0 : zD) (x1 : Int) (r : Int) (H : JG n x0 x1 = some r) : zE Tryz.prog 172 [.val true (fR (zD.row x0)),.val false [.lit (.int .i64 x1)]] [.val false [.lit (.int .i64 r)]] [] := by
 refine cW Tryz.func172 (fun g d => sl [g 0,sl [g 1] (.block 0 (.loop (sl [sl [g 2] (cn 10 .skip (.exit 0)),.block 1 (sl [g 4] (cn 20 (sl [g 5] .ret) .skip))] (g 3)))),g 6] .ret) [.tmp 4] fun cx=>?_
 unfold JG at H
 refine gA 2 6 4<|tS<|gA 1 38 4 ?_
 obtain ⟨o2,eo2,Ho2⟩ := bs H
 clear H
 refine Tr.mid (ι := Unit) (fun v => ⟨22,0,[],[]⟩) (fun v => zCt n = some r) ?_ ?_
 ·refine tB<|Tr.loop (ι := Nat × (Int)) (fun v => ⟨22,0,[sI 5 v.2,sA 2 2 2 0,sI 1 x1],[(2,(fR (zD.row x0)))]⟩) (fun v => QI n v.1 x0 x1 v.2 = some o2) (fun v => v.1) (n,0) eo2 (St.sub_of [5,2,1] [2] kr) ?_
  rintro ⟨_ | mo2,y1⟩ H
  ·exact nN H
  have H : QI n (mo2+1) x0 x1 y1 = some o2 := H
  rw [QI] at H
  refine tS<|rA 3<|kF x0.Rows zC.row<|uA 1 1062 4 ?_
  obtain ⟨h1,H⟩ | ⟨h1,H⟩ := bC H
  ·refine nA h1<|Tr.exit<|aJ ?_
   cases H
   exact jA () Ho2 [] []
  refine tA h1<|tK<|tS<|tB<|rA 3<|bE H fun v3 ev3 H=> iA zC.row ev3<|uA 4 1048614 4 ?_
  obtain ⟨h2,H⟩ | ⟨h2,H⟩ := bC H
  ·exact nA h2<|tK<|eA 3 38 4<|jB mo2 (wI (y1 + 1)) H [5,2,1] [2]
  refine tA h2<|gA 2 16 0<|te ?_
  cases H
  exact fJ [(false,[cI y1])] Ho2
 rintro _ H
 have H : (zCt n) = some r := H
 unfold zCt at H
 exact gA 1 16 0<|te (fJ [(false,[cI (-1)])] H)
def zCF (n : Nat) : Option (Bool) :=
  (some true)
def ZX (n : Nat) : Nat → zD → Int → Option ((Unit) ⊕ (Bool))
  | 0,_,_ => none
  | mo5 + 1,x0,y4 => (bif (decide (y4 < (x0.Pv.length : Int))) then ((idx x0.Pv y4).bind fun v6 => ((JG n x0 v6).bind fun r7 => (bif (decide (r7 < 0)) then (some (Sum.inr false)) else (ZX n mo5 x0 (IntKind.wrap .i64 (y4 + 1)))))) else (some (Sum.inl ())))
def Yc (n : Nat) (x0 : zD) : Option (Bool) :=
  ((ZX n n x0 0).bind fun o => match o with | .inl _ => (zCF n) | .inr r => some r)
def ZH (n : Nat) : Nat → zD → Int → Int → Option ((Unit) ⊕ (Bool))
  | 0,_,_,_ => none
  | mo8 + 1,x0,x1,y3 => (bif (decide (y3 < (x0.Rows.length : Int))) then ((idx x0.Rows y3).bind fun v9 => ((zR n v9.Id 1 99).bind fun r10 => (bif (!r10) then (some (Sum.inr false)) else ((zR n v9.Members 0 (IntKind.wrap .i64 ((IntKind.wrap .i64 (1 * 2 ^ min (((IntKind.wrap .u64 x1) : Int)).toNat (IntKind.bits .i64))) - 1))).bind fun r11 => (bif (!r11) then (some (Sum.inr false)) else ((zR n v9.Bare 0 (IntKind.wrap .i64 ((IntKind.wrap .i64 (1 * 2 ^ min (((IntKind.wrap .u64 x1) : Int)).toNat (IntKind.bits .i64))) - 1))).bind fun r12 => (bif (!r12) then (some (Sum.inr false)) else (bif ((IntKind.wrap .i64 (BitVec.ofInt (IntKind.bits .i64) v9.Bare &&& BitVec.ofInt (IntKind.bits .i64) v9.Members).toNat) != v9.Bare) then (some (Sum.inr false)) else (bif (decide (y3 > 0)) then ((idx x0.Rows (IntKind.wrap .i64 (y3 - 1))).bind fun v13 => (bif (decide (v13.Id ≥ v9.Id)) then (some (Sum.inr false)) else (ZH n mo8 x0 x1 (IntKind.wrap .i64 (y3 + 1))))) else (ZH n mo8 x0 x1 (IntKind.wrap .i64 (y3 + 1)))))))))))) else (some (Sum.inl ())))
def zy (n : Nat) (x0 : zD) (x1 : Int) : Option (Bool) :=
  ((zR n x1 1 6).bind fun r1 => (bif (!r1) then (some false) else (bif ((x0.Pv.length : Int) != x1) then (some false) else (bif (decide ((x0.Rows.length : Int) > 6)) then (some false) else (bif (decide ((0 : Int) ≤ (IntKind.wrap .u64 x1))) then ((ZH n n x0 x1 0).bind fun o => match o with | .inl _ => (Yc n x0) | .inr r => some r) else none)))))
def zPc : Tab := ⟨44,[0,1,2,4,12,16,48,16,208,272,528,1280,2048,6144,2048,26624,34816,67584,163840,262144,786432,262144,2359296,5505024,262144,17039360,42205184,67371008,134479872,268435456,805306368,1342177280,2147483648,6442450944,2147483648,19327352832,45097156608,70866960384,139586437120,2147483648,551903297536,1376537018368,2201439174656,4398314946560],[0,1,2,4,8,16,48,16,208,272,528,1024,2048,6144,2048,26624,34816,67584,131072,262144,786432,262144,2359296,5505024,262144,17039360,42205184,67371008,134217728,268435456,805306368,1342177280,2147483648,6442450944,2147483648,19327352832,45097156608,70866960384,139586437120,2147483648,551903297536,1376537018368,2201439174656,4398314946560],[0,1,3,7,15,31,63,31,255,511,1023,2047,4095,8191,4095,32767,65535,131071,262143,524287,1048575,524287,2621439,8388607,524287,17301503,67108863,134217727,268435455,536870911,1073741823,2147483647,4294967295,8589934591,4294967295,21474836479,68719476735,137438953471,274877906943,4294967295,554050781183,2199023255551,4398046511103,8796093022207]⟩
theorem zd : zc (rg Tryz.f104 8) zPc = true := kr
theorem zKl (n : Nat) (y3 : Int) (v9 : zC) (x1 : Int) (x0 : zD) (h11 : (decide (y3 > 0)) = false) (cx : Cx) : AT Tryz.prog cx (rg Tryz.f104 8) [⟨[],3,65,66⟩,⟨[],3,62,63⟩,⟨[],3,60,61⟩,⟨[15],3,53,54⟩,⟨[8,15],3,46,47⟩,⟨[2,8,15],3,41,42⟩] 15 [28,27,26,25,24,23,22,21,20,19,18,17,16,15,14,13,12,11,10,9,8,7,6,5,4,3,2,1,0] ⟨100,0,[sB 69 false,sI 66 v9.Bare,sA 65 7 3 2,sI 63 v9.Members,sA 62 7 3 1,sI 61 v9.Bare,sA 60 7 3 2,sI 54 v9.Bare,sA 53 7 3 2,sI 47 v9.Members,sA 46 7 3 1,sI 42 v9.Id,sA 41 7 3 0,sA 7 7 3 0,sI 6 y3,sI 5 (wI ((wI (1 * 2 ^ min (((IntKind.wrap .u64 x1) : Int)).toNat (IntKind.bits .i64))) - 1)),sA 2 2 2 0],[(7,(zC.row v9)),(2,(fR (zD.row x0)))]⟩ (fun s => s = ⟨100,0,[sB 84 false,sI 6 y3,sI 5 (wI ((wI (1 * 2 ^ min (((IntKind.wrap .u64 x1) : Int)).toNat (IntKind.bits .i64))) - 1)),sA 2 2 2 0],[(2,(fR (zD.row x0)))]⟩) := by
 exact mA zd (zl [29,30,31]) 12 [⟨[],3,65,66⟩,⟨[],3,62,63⟩,⟨[],3,60,61⟩,⟨[15],3,53,54⟩,⟨[8,15],3,46,47⟩,⟨[2,8,15],3,41,42⟩] fun cx=>qA 0x126f060c600000000e4 132 [72] h11<|mA zd (zl [32,33,34,35,36,37,38,39,40,41,42,43]) 0 [⟨[],3,65,66⟩,⟨[],3,62,63⟩,⟨[],3,60,61⟩,⟨[15],3,53,54⟩,⟨[8,15],3,46,47⟩,⟨[2,8,15],3,41,42⟩] fun cx=>mE zd [84,6,5,2] [2]
theorem zKm (n : Nat) (y3 : Int) (v9 : zC) (x1 : Int) (x0 : zD) (v13 : zC) (h11 : (decide (y3 > 0)) = true) (ev13 : (idx x0.Rows (wI (y3 - 1))) = some v13) (cx : Cx) : AT Tryz.prog cx (rg Tryz.f104 8) [⟨[],3,65,66⟩,⟨[],3,62,63⟩,⟨[],3,60,61⟩,⟨[15],3,53,54⟩,⟨[8,15],3,46,47⟩,⟨[2,8,15],3,41,42⟩] 15 [28,27,26,25,24,23,22,21,20,19,18,17,16,15,14,13,12,11,10,9,8,7,6,5,4,3,2,1,0] ⟨100,0,[sB 69 false,sI 66 v9.Bare,sA 65 7 3 2,sI 63 v9.Members,sA 62 7 3 1,sI 61 v9.Bare,sA 60 7 3 2,sI 54 v9.Bare,sA 53 7 3 2,sI 47 v9.Members,sA 46 7 3 1,sI 42 v9.Id,sA 41 7 3 0,sA 7 7 3 0,sI 6 y3,sI 5 (wI ((wI (1 * 2 ^ min (((IntKind.wrap .u64 x1) : Int)).toNat (IntKind.bits .i64))) - 1)),sA 2 2 2 0],[(7,(zC.row v9)),(2,(fR (zD.row x0)))]⟩ (fun s => s = ⟨100,0,[sB 84 (decide (v13.Id ≥ v9.Id)),sI 6 y3,sI 5 (wI ((wI (1 * 2 ^ min (((IntKind.wrap .u64 x1) : Int)).toNat (IntKind.bits .i64))) - 1)),sA 2 2 2 0],[(2,(fR (zD.row x0)))]⟩) := by
 exact mA zd (zl [29,30,31]) 12 [⟨[],3,65,66⟩,⟨[],3,62,63⟩,⟨[],3,60,61⟩,⟨[15],3,53,54⟩,⟨[8,15],3,46,47⟩,⟨[2,8,15],3,41,42⟩] fun cx=>qA 0x126f060c600000000e4 132 [72] h11<|mA zd (zl [32,33,34,35]) 8 [⟨[],26,73,74⟩,⟨[],3,65,66⟩,⟨[],3,62,63⟩,⟨[],3,60,61⟩,⟨[15],3,53,54⟩,⟨[8,15],3,46,47⟩,⟨[2,8,15],3,41,42⟩] fun cx=>iN zd 36 zC.row ev13 fun cx=>mA zd (zl [37,38,39,40,41,42,43]) 0 [⟨[],3,80,81⟩,⟨[],26,73,74⟩,⟨[],3,65,66⟩,⟨[],3,62,63⟩,⟨[],3,60,61⟩,⟨[15],3,53,54⟩,⟨[8,15],3,46,47⟩,⟨[2,8,15],3,41,42⟩] fun cx=>mE zd [84,6,5,2] [2]
theorem zKn (n : Nat) (v9 : zC) (y3 : Int) (x1 : Int) (x0 : zD) (cx : Cx) : AT Tryz.prog cx (rg Tryz.f104 8) [⟨[],3,65,66⟩,⟨[],3,62,63⟩,⟨[],3,60,61⟩,⟨[15],3,53,54⟩,⟨[8,15],3,46,47⟩,⟨[2,8,15],3,41,42⟩] 15 [28,27,26,25,24,23,22,21,20,19,18,17,16,15,14,13,12,11,10,9,8,7,6,5,4,3,2,1,0] ⟨100,0,[sB 69 true,sI 66 v9.Bare,sA 65 7 3 2,sI 63 v9.Members,sA 62 7 3 1,sI 61 v9.Bare,sA 60 7 3 2,sI 54 v9.Bare,sA 53 7 3 2,sI 47 v9.Members,sA 46 7 3 1,sI 42 v9.Id,sA 41 7 3 0,sA 7 7 3 0,sI 6 y3,sI 5 (wI ((wI (1 * 2 ^ min (((IntKind.wrap .u64 x1) : Int)).toNat (IntKind.bits .i64))) - 1)),sA 2 2 2 0],[(7,(zC.row v9)),(2,(fR (zD.row x0)))]⟩ (fun s => s = ⟨100,0,[sB 84 true,sI 6 y3,sI 5 (wI ((wI (1 * 2 ^ min (((IntKind.wrap .u64 x1) : Int)).toNat (IntKind.bits .i64))) - 1)),sA 2 2 2 0],[(2,(fR (zD.row x0)))]⟩) := by
 exact mA zd (zl [29,30,31,32,33,34,35,36,37,38,39,40,41,42,43]) 0 [⟨[],3,65,66⟩,⟨[],3,62,63⟩,⟨[],3,60,61⟩,⟨[15],3,53,54⟩,⟨[8,15],3,46,47⟩,⟨[2,8,15],3,41,42⟩] fun cx=>mE zd [84,6,5,2] [2]
theorem zCY (n : Nat) (x0 : zD) (x1 : Int) (r : Bool) (H : zy n x0 x1 = some r) : zE Tryz.prog 104 [.val true (fR (zD.row x0)),.val false [.lit (.int .i64 x1)]] [.val false [.lit (.bool r)]] [] := by
 refine cW Tryz.func104 (fun g d => sl [g 0,sl [g 1] (cn 24 (sl [g 2] .ret) .skip),g 3,sl [g 4] (.block 0 (.loop (sl [sl [g 5] (cn 33 .skip (.exit 0)),.block 1 (sl [g 7,d 8] (cn 84 (sl [g 9] .ret) .skip))] (g 6)))),sl [g 10] (.block 2 (.loop (sl [sl [g 11] (cn 89 .skip (.exit 2)),.block 3 (sl [d 13] (cn 99 (sl [g 14] .ret) .skip))] (g 12)))),g 15] .ret) [.tmp 4] fun cx=>?_
 unfold zy at H
 refine gA 2 6 4<|tS<|rA 1<|bE H fun r1 er1 H=> vA [.rd,.rd,.rd] (zS n x1 1 6 r1 er1)<|lA 2 ?_
 obtain ⟨h1,H⟩ | ⟨h1,H⟩ := bC H
 ·refine qL 4102 4 [12] h1<|lA 2<|kF x0.Pv intRow<|lA 4 ?_
  obtain ⟨h2,H⟩ | ⟨h2,H⟩ := bC H
  ·refine qL 524294 4 [19] h2<|lA 2<|kF x0.Rows zC.row<|uA 2 16777222 4 ?_
   obtain ⟨h3,H⟩ | ⟨h3,H⟩ := bC H
   ·refine nA h3<|tK<|rA 2<|gE H fun hg2 H=> LAt.binC tOk (op := .shl) (t := 3) (ty := 163) (ty' := 3) (x := (.const (.int .i64 1))) (y := (.tmp 26)) (d := 27) (g := none) (.int .i64 1) (.int .u64 (IntKind.wrap .u64 x1)) (.int .i64 (wI (1 * 2 ^ min (((IntKind.wrap .u64 x1) : Int)).toNat (IntKind.bits .i64)))) _ kr kr kr kr kr (φ := (0 : Int) ≤ (IntKind.wrap .u64 x1)) kr (of_decide_eq_true hg2) rfl<|uA 2 36 4<|tS<|gA 1 100 4 ?_
    obtain ⟨o8,eo8,Ho8⟩ := bs H
    clear H
    refine Tr.mid (ι := Unit) (fun v => ⟨100,0,[sA 2 2 2 0],[(2,(fR (zD.row x0)))]⟩) (fun v => Yc n x0 = some r) ?_ ?_
    ·refine tB<|Tr.loop (ι := Nat × (Int)) (fun v => ⟨100,0,[sI 6 v.2,sI 5 (wI ((wI (1 * 2 ^ min (((IntKind.wrap .u64 x1) : Int)).toNat (IntKind.bits .i64))) - 1)),sA 2 2 2 0],[(2,(fR (zD.row x0)))]⟩) (fun v => ZH n v.1 x0 x1 v.2 = some o8) (fun v => v.1) (n,0) eo8 (St.sub_of [6,5,2] [2] kr) ?_
     rintro ⟨_ | mo8,y3⟩ H
     ·exact nN H
     have H : ZH n (mo8+1) x0 x1 y3 = some o8 := H
     rw [ZH] at H
     refine tS<|rA 3<|kF x0.Rows zC.row<|uA 1 8589934692 4 ?_
     obtain ⟨h6,H⟩ | ⟨h6,H⟩ := bC H
     ·refine nA h6<|Tr.exit<|aJ ?_
      cases H
      exact jA () Ho8 [2] [2]
     refine tA h6<|tK<|tS<|tB<|rA 3<|bE H fun v9 ev9 H=> iA zC.row ev9<|uA 3 228 132<|bE H fun r10 er10 H=> sT ⟨100,0,[sA 7 7 3 0,sI 6 y3,sI 5 (wI ((wI (1 * 2 ^ min (((IntKind.wrap .u64 x1) : Int)).toNat (IntKind.bits .i64))) - 1)),sA 2 2 2 0],[(7,(zC.row v9)),(2,(fR (zD.row x0)))]⟩ ?_
     cases h7 : (!r10)
     ·have H := qe h7 H
      refine bE H fun r11 er11 H=> sT ⟨100,0,[sA 7 7 3 0,sI 6 y3,sI 5 (wI ((wI (1 * 2 ^ min (((IntKind.wrap .u64 x1) : Int)).toNat (IntKind.bits .i64))) - 1)),sA 2 2 2 0],[(7,(zC.row v9)),(2,(fR (zD.row x0)))]⟩ ?_
      cases h8 : (!r11)
      ·have H := qe h8 H
       refine bE H fun r12 er12 H=> sT ⟨100,0,[sA 7 7 3 0,sI 6 y3,sI 5 (wI ((wI (1 * 2 ^ min (((IntKind.wrap .u64 x1) : Int)).toNat (IntKind.bits .i64))) - 1)),sA 2 2 2 0],[(7,(zC.row v9)),(2,(fR (zD.row x0)))]⟩ ?_
       cases h9 : (!r12)
       ·have H := qe h9 H
        refine sT ⟨100,0,[sA 7 7 3 0,sI 6 y3,sI 5 (wI ((wI (1 * 2 ^ min (((IntKind.wrap .u64 x1) : Int)).toNat (IntKind.bits .i64))) - 1)),sA 2 2 2 0],[(7,(zC.row v9)),(2,(fR (zD.row x0)))]⟩ ?_
        cases h10 : ((wI (bO v9.Bare &&& bO v9.Members).toNat) != v9.Bare)
        ·have H := qe h10 H
         refine sT ⟨100,0,[sA 7 7 3 0,sI 6 y3,sI 5 (wI ((wI (1 * 2 ^ min (((IntKind.wrap .u64 x1) : Int)).toNat (IntKind.bits .i64))) - 1)),sA 2 2 2 0],[(7,(zC.row v9)),(2,(fR (zD.row x0)))]⟩ ?_
         cases h11 : (decide (y3 > 0))
         ·have H := qe h11 H
          refine Tr.draws mixed 44 kr ⟨100,0,[sB 84 false,sI 6 y3,sI 5 (wI ((wI (1 * 2 ^ min (((IntKind.wrap .u64 x1) : Int)).toNat (IntKind.bits .i64))) - 1)),sA 2 2 2 0],[(2,(fR (zD.row x0)))]⟩ (fun cx=>?_) ?_
          ·refine mA zd [(0,[]),(1,[2,8,15])] 42 [⟨[2,8,15],3,41,42⟩] fun cx=>mC zd 2<|vA [.rd,.rd,.rd] (zS n v9.Id 1 99 r10 er10)<|fA<|mA zd [(3,[]),(4,[])] 39 [⟨[2,8,15],3,41,42⟩] fun cx=>qA 41781441855716 132 [45] h7<|mA zd [(5,[]),(6,[8,15]),(7,[])] 36 [⟨[8,15],3,46,47⟩,⟨[2,8,15],3,41,42⟩] fun cx=>mC zd 8<|vA [.rd,.rd,.rd] (zS n v9.Members 0 (wI ((wI (1 * 2 ^ min (((IntKind.wrap .u64 x1) : Int)).toNat (IntKind.bits .i64))) - 1)) r11 er11)<|fA<|mA zd (zl [9,10,11]) 32 [⟨[8,15],3,46,47⟩,⟨[2,8,15],3,41,42⟩] fun cx=>qA 4721302929670372 132 [52] h8<|mA zd [(12,[]),(13,[15]),(14,[])] 29 [⟨[15],3,53,54⟩,⟨[8,15],3,46,47⟩,⟨[2,8,15],3,41,42⟩] fun cx=>mC zd 15<|vA [.rd,.rd,.rd] (zS n v9.Bare 0 (wI ((wI (1 * 2 ^ min (((IntKind.wrap .u64 x1) : Int)).toNat (IntKind.bits .i64))) - 1)) r12 er12)<|fA<|mA zd (zl [16,17,18]) 25 [⟨[15],3,53,54⟩,⟨[8,15],3,46,47⟩,⟨[2,8,15],3,41,42⟩] fun cx=>qA 0x860c600000000e4 132 [59] h9<|mA zd (zl [19,20,21,22,23,24,25,26,27,28]) 15 [⟨[],3,65,66⟩,⟨[],3,62,63⟩,⟨[],3,60,61⟩,⟨[15],3,53,54⟩,⟨[8,15],3,46,47⟩,⟨[2,8,15],3,41,42⟩] fun cx=>sA_ 0x26f060c600000000e4 132 ⟨100,0,[sB 69 ((wI (bO v9.Bare &&& bO v9.Members).toNat) != v9.Bare),sI 66 v9.Bare,sA 65 7 3 2,sI 63 v9.Members,sA 62 7 3 1,sI 61 v9.Bare,sA 60 7 3 2,sI 54 v9.Bare,sA 53 7 3 2,sI 47 v9.Members,sA 46 7 3 1,sI 42 v9.Id,sA 41 7 3 0,sA 7 7 3 0,sI 6 y3,sI 5 (wI ((wI (1 * 2 ^ min (((IntKind.wrap .u64 x1) : Int)).toNat (IntKind.bits .i64))) - 1)),sA 2 2 2 0],[(7,(zC.row v9)),(2,(fR (zD.row x0)))]⟩ ?_
           rw [h10]
           exact zKl n y3 v9 x1 x0 h11 cx
          exact nB_<|tK<|eA 3 100 4<|jB mo8 (wI (y3 + 1)) H [6,5,2] [2]
         have H := qf h11 H
         refine bE H fun v13 ev13 H=> Tr.draws mixed 44 kr ⟨100,0,[sB 84 (decide (v13.Id ≥ v9.Id)),sI 6 y3,sI 5 (wI ((wI (1 * 2 ^ min (((IntKind.wrap .u64 x1) : Int)).toNat (IntKind.bits .i64))) - 1)),sA 2 2 2 0],[(2,(fR (zD.row x0)))]⟩ (fun cx=>?_) ?_
         ·refine mA zd [(0,[]),(1,[2,8,15])] 42 [⟨[2,8,15],3,41,42⟩] fun cx=>mC zd 2<|vA [.rd,.rd,.rd] (zS n v9.Id 1 99 r10 er10)<|fA<|mA zd [(3,[]),(4,[])] 39 [⟨[2,8,15],3,41,42⟩] fun cx=>qA 41781441855716 132 [45] h7<|mA zd [(5,[]),(6,[8,15]),(7,[])] 36 [⟨[8,15],3,46,47⟩,⟨[2,8,15],3,41,42⟩] fun cx=>mC zd 8<|vA [.rd,.rd,.rd] (zS n v9.Members 0 (wI ((wI (1 * 2 ^ min (((IntKind.wrap .u64 x1) : Int)).toNat (IntKind.bits .i64))) - 1)) r11 er11)<|fA<|mA zd (zl [9,10,11]) 32 [⟨[8,15],3,46,47⟩,⟨[2,8,15],3,41,42⟩] fun cx=>qA 4721302929670372 132 [52] h8<|mA zd [(12,[]),(13,[15]),(14,[])] 29 [⟨[15],3,53,54⟩,⟨[8,15],3,46,47⟩,⟨[2,8,15],3,41,42⟩] fun cx=>mC zd 15<|vA [.rd,.rd,.rd] (zS n v9.Bare 0 (wI ((wI (1 * 2 ^ min (((IntKind.wrap .u64 x1) : Int)).toNat (IntKind.bits .i64))) - 1)) r12 er12)<|fA<|mA zd (zl [16,17,18]) 25 [⟨[15],3,53,54⟩,⟨[8,15],3,46,47⟩,⟨[2,8,15],3,41,42⟩] fun cx=>qA 0x860c600000000e4 132 [59] h9<|mA zd (zl [19,20,21,22,23,24,25,26,27,28]) 15 [⟨[],3,65,66⟩,⟨[],3,62,63⟩,⟨[],3,60,61⟩,⟨[15],3,53,54⟩,⟨[8,15],3,46,47⟩,⟨[2,8,15],3,41,42⟩] fun cx=>sA_ 0x26f060c600000000e4 132 ⟨100,0,[sB 69 ((wI (bO v9.Bare &&& bO v9.Members).toNat) != v9.Bare),sI 66 v9.Bare,sA 65 7 3 2,sI 63 v9.Members,sA 62 7 3 1,sI 61 v9.Bare,sA 60 7 3 2,sI 54 v9.Bare,sA 53 7 3 2,sI 47 v9.Members,sA 46 7 3 1,sI 42 v9.Id,sA 41 7 3 0,sA 7 7 3 0,sI 6 y3,sI 5 (wI ((wI (1 * 2 ^ min (((IntKind.wrap .u64 x1) : Int)).toNat (IntKind.bits .i64))) - 1)),sA 2 2 2 0],[(7,(zC.row v9)),(2,(fR (zD.row x0)))]⟩ ?_
          rw [h10]
          exact zKm n y3 v9 x1 x0 v13 h11 ev13 cx
         obtain ⟨h12,H⟩ | ⟨h12,H⟩ := bC H
         ·exact qT [84] h12<|nB_<|tK<|eA 3 100 4<|jB mo8 (wI (y3 + 1)) H [6,5,2] [2]
         refine qT [84] h12<|tB_<|gA 1 16 0<|te ?_
         cases H
         exact fF Ho8
        have H := qf h10 H
        refine Tr.draws mixed 44 kr ⟨100,0,[sB 84 true,sI 6 y3,sI 5 (wI ((wI (1 * 2 ^ min (((IntKind.wrap .u64 x1) : Int)).toNat (IntKind.bits .i64))) - 1)),sA 2 2 2 0],[(2,(fR (zD.row x0)))]⟩ (fun cx=>?_) ?_
        ·refine mA zd [(0,[]),(1,[2,8,15])] 42 [⟨[2,8,15],3,41,42⟩] fun cx=>mC zd 2<|vA [.rd,.rd,.rd] (zS n v9.Id 1 99 r10 er10)<|fA<|mA zd [(3,[]),(4,[])] 39 [⟨[2,8,15],3,41,42⟩] fun cx=>qA 41781441855716 132 [45] h7<|mA zd [(5,[]),(6,[8,15]),(7,[])] 36 [⟨[8,15],3,46,47⟩,⟨[2,8,15],3,41,42⟩] fun cx=>mC zd 8<|vA [.rd,.rd,.rd] (zS n v9.Members 0 (wI ((wI (1 * 2 ^ min (((IntKind.wrap .u64 x1) : Int)).toNat (IntKind.bits .i64))) - 1)) r11 er11)<|fA<|mA zd (zl [9,10,11]) 32 [⟨[8,15],3,46,47⟩,⟨[2,8,15],3,41,42⟩] fun cx=>qA 4721302929670372 132 [52] h8<|mA zd [(12,[]),(13,[15]),(14,[])] 29 [⟨[15],3,53,54⟩,⟨[8,15],3,46,47⟩,⟨[2,8,15],3,41,42⟩] fun cx=>mC zd 15<|vA [.rd,.rd,.rd] (zS n v9.Bare 0 (wI ((wI (1 * 2 ^ min (((IntKind.wrap .u64 x1) : Int)).toNat (IntKind.bits .i64))) - 1)) r12 er12)<|fA<|mA zd (zl [16,17,18]) 25 [⟨[15],3,53,54⟩,⟨[8,15],3,46,47⟩,⟨[2,8,15],3,41,42⟩] fun cx=>qA 0x860c600000000e4 132 [59] h9<|mA zd (zl [19,20,21,22,23,24,25,26,27,28]) 15 [⟨[],3,65,66⟩,⟨[],3,62,63⟩,⟨[],3,60,61⟩,⟨[15],3,53,54⟩,⟨[8,15],3,46,47⟩,⟨[2,8,15],3,41,42⟩] fun cx=>sA_ 0x26f060c600000000e4 132 ⟨100,0,[sB 69 ((wI (bO v9.Bare &&& bO v9.Members).toNat) != v9.Bare),sI 66 v9.Bare,sA 65 7 3 2,sI 63 v9.Members,sA 62 7 3 1,sI 61 v9.Bare,sA 60 7 3 2,sI 54 v9.Bare,sA 53 7 3 2,sI 47 v9.Members,sA 46 7 3 1,sI 42 v9.Id,sA 41 7 3 0,sA 7 7 3 0,sI 6 y3,sI 5 (wI ((wI (1 * 2 ^ min (((IntKind.wrap .u64 x1) : Int)).toNat (IntKind.bits .i64))) - 1)),sA 2 2 2 0],[(7,(zC.row v9)),(2,(fR (zD.row x0)))]⟩ ?_
         rw [h10]
         exact zKn n v9 y3 x1 x0 cx
        refine tB_<|gA 1 16 0<|te ?_
        cases H
        exact fF Ho8
       have H := qf h9 H
       refine Tr.draws mixed 44 kr ⟨100,0,[sB 84 true,sI 6 y3,sI 5 (wI ((wI (1 * 2 ^ min (((IntKind.wrap .u64 x1) : Int)).toNat (IntKind.bits .i64))) - 1)),sA 2 2 2 0],[(2,(fR (zD.row x0)))]⟩ (fun cx=>?_) ?_
       ·exact mA zd [(0,[]),(1,[2,8,15])] 42 [⟨[2,8,15],3,41,42⟩] fun cx=>mC zd 2<|vA [.rd,.rd,.rd] (zS n v9.Id 1 99 r10 er10)<|fA<|mA zd [(3,[]),(4,[])] 39 [⟨[2,8,15],3,41,42⟩] fun cx=>qA 41781441855716 132 [45] h7<|mA zd [(5,[]),(6,[8,15]),(7,[])] 36 [⟨[8,15],3,46,47⟩,⟨[2,8,15],3,41,42⟩] fun cx=>mC zd 8<|vA [.rd,.rd,.rd] (zS n v9.Members 0 (wI ((wI (1 * 2 ^ min (((IntKind.wrap .u64 x1) : Int)).toNat (IntKind.bits .i64))) - 1)) r11 er11)<|fA<|mA zd (zl [9,10,11]) 32 [⟨[8,15],3,46,47⟩,⟨[2,8,15],3,41,42⟩] fun cx=>qA 4721302929670372 132 [52] h8<|mA zd [(12,[]),(13,[15]),(14,[])] 29 [⟨[15],3,53,54⟩,⟨[8,15],3,46,47⟩,⟨[2,8,15],3,41,42⟩] fun cx=>mC zd 15<|vA [.rd,.rd,.rd] (zS n v9.Bare 0 (wI ((wI (1 * 2 ^ min (((IntKind.wrap .u64 x1) : Int)).toNat (IntKind.bits .i64))) - 1)) r12 er12)<|fA<|mA zd (zl [16,17,18]) 25 [⟨[15],3,53,54⟩,⟨[8,15],3,46,47⟩,⟨[2,8,15],3,41,42⟩] fun cx=>qA 0x860c600000000e4 132 [59] h9<|mA zd (zl [19,20,21,22,23,24,25,26,27,28,29,30,31,32,33,34,35,36,37,38,39,40,41,42,43]) 0 [⟨[15],3,53,54⟩,⟨[8,15],3,46,47⟩,⟨[2,8,15],3,41,42⟩] fun cx=>mE zd [84,6,5,2] [2]
       refine tB_<|gA 1 16 0<|te ?_
       cases H
       exact fF Ho8
      have H := qf h8 H
      refine Tr.draws mixed 44 kr ⟨100,0,[sB 84 true,sI 6 y3,sI 5 (wI ((wI (1 * 2 ^ min (((IntKind.wrap .u64 x1) : Int)).toNat (IntKind.bits .i64))) - 1)),sA 2 2 2 0],[(2,(fR (zD.row x0)))]⟩ (fun cx=>?_) ?_
      ·exact mA zd [(0,[]),(1,[2,8])] 42 [⟨[2,8],3,41,42⟩] fun cx=>mC zd 2<|vA [.rd,.rd,.rd] (zS n v9.Id 1 99 r10 er10)<|fA<|mA zd [(3,[]),(4,[])] 39 [⟨[2,8],3,41,42⟩] fun cx=>qA 41781441855716 132 [45] h7<|mA zd [(5,[]),(6,[8]),(7,[])] 36 [⟨[8],3,46,47⟩,⟨[2,8],3,41,42⟩] fun cx=>mC zd 8<|vA [.rd,.rd,.rd] (zS n v9.Members 0 (wI ((wI (1 * 2 ^ min (((IntKind.wrap .u64 x1) : Int)).toNat (IntKind.bits .i64))) - 1)) r11 er11)<|fA<|mA zd (zl [9,10,11]) 32 [⟨[8],3,46,47⟩,⟨[2,8],3,41,42⟩] fun cx=>qA 4721302929670372 132 [52] h8<|mA zd (zl [12,13,14,15,16,17,18,19,20,21,22,23,24,25,26,27,28,29,30,31,32,33,34,35,36,37,38,39,40,41,42,43]) 0 [⟨[8],3,46,47⟩,⟨[2,8],3,41,42⟩] fun cx=>mE zd [84,6,5,2] [2]
      refine tB_<|gA 1 16 0<|te ?_
      cases H
      exact fF Ho8
     have H := qf h7 H
     refine Tr.draws mixed 44 kr ⟨100,0,[sB 84 true,sI 6 y3,sI 5 (wI ((wI (1 * 2 ^ min (((IntKind.wrap .u64 x1) : Int)).toNat (IntKind.bits .i64))) - 1)),sA 2 2 2 0],[(2,(fR (zD.row x0)))]⟩ (fun cx=>?_) ?_
     ·exact mA zd [(0,[]),(1,[2])] 42 [⟨[2],3,41,42⟩] fun cx=>mC zd 2<|vA [.rd,.rd,.rd] (zS n v9.Id 1 99 r10 er10)<|fA<|mA zd [(3,[]),(4,[])] 39 [⟨[2],3,41,42⟩] fun cx=>qA 41781441855716 132 [45] h7<|mA zd (zl [5,6,7,8,9,10,11,12,13,14,15,16,17,18,19,20,21,22,23,24,25,26,27,28,29,30,31,32,33,34,35,36,37,38,39,40,41,42,43]) 0 [⟨[2],3,41,42⟩] fun cx=>mE zd [84,6,5,2] [2]
     refine tB_<|gA 1 16 0<|te ?_
     cases H
     exact fF Ho8
    rintro _ H
    have H : (Yc n x0) = some r := H
    unfold Yc at H
    refine tS<|gA 1 260 4 ?_
    obtain ⟨o5,eo5,Ho5⟩ := bs H
    clear H
    refine Tr.mid (ι := Unit) (fun v => ⟨100,0,[],[]⟩) (fun v => zCF n = some r) ?_ ?_
    ·refine tB<|Tr.loop (ι := Nat × (Int)) (fun v => ⟨100,0,[sI 8 v.2,sA 2 2 2 0],[(2,(fR (zD.row x0)))]⟩) (fun v => ZX n v.1 x0 v.2 = some o5) (fun v => v.1) (n,0) eo5 (St.sub_of [8,2] [2] kr) ?_
     rintro ⟨_ | mo5,y4⟩ H
     ·exact nN H
     have H : ZX n (mo5+1) x0 y4 = some o5 := H
     rw [ZX] at H
     refine tS<|rA 3<|kF x0.Pv intRow<|uA 1 0x20000000000000000000104 4 ?_
     obtain ⟨h4,H⟩ | ⟨h4,H⟩ := bC H
     ·refine nA h4<|Tr.exit<|aJ ?_
      cases H
      exact jA () Ho5 [] []
     refine tA h4<|tK<|tS<|tB<|bE H fun v6 ev6 H=> bE H fun r7 er7 H=> Tr.draws mixed 8 kr ⟨100,0,[sB 99 (decide (r7 < 0)),sI 8 y4,sA 2 2 2 0],[(2,(fR (zD.row x0)))]⟩ (fun cx=>?_) ?_
     ·refine aA [(0,[6]),(1,[]),(2,[6]),(3,[])] 4 [⟨[6],27,93,94⟩,⟨[6],29,2,92⟩] fun cx=>aI tOk 4 27 0 94 95 96 none ⟨(.box 2),[(0,0)],1,false,1,(CV.frzEs (x0.Pv.map intRow))⟩ y4 [cI v6] _ kr kr kr kr kr kr rfl (Qb ev6) rfl (fun cx=>?_)
      exact aA [(5,[])] 2 [⟨[6],27,93,94⟩,⟨[6],29,2,92⟩] fun cx=>bA 6<|vA [.rd,.rd] (zJ4 n x0 v6 r7 er7)<|fA<|aA [(7,[])] 0 [⟨[6],27,93,94⟩,⟨[6],29,2,92⟩] fun cx=>eE [99,8,2] [2]
     obtain ⟨h5,H⟩ | ⟨h5,H⟩ := bC H
     ·exact qT [99] h5<|nB_<|tK<|eA 3 260 4<|jB mo5 (wI (y4 + 1)) H [8,2] [2]
     refine qT [99] h5<|tB_<|gA 1 16 0<|te ?_
     cases H
     exact fF Ho5
    rintro _ H
    have H : (zCF n) = some r := H
    unfold zCF at H
    exact gA 1 16 0<|te (fT H)
   exact tA h3<|gA 1 16 0<|te (fF H)
  exact qL 524294 4 [19] h2<|uA 5 16777222 4<|tB_<|gA 1 16 0<|te (fF H)
 exact qL 4102 4 [12] h1<|uA 12 16777222 4<|tB_<|gA 1 16 0<|te (fF H)
def Y2 (n : Nat) (x0 : zA) : Option (Bool) :=
  ((zR n x0.Tk 0 1000000).bind fun r1 => (bif r1 then ((zR n x0.Pa 0 1000000).bind fun r2 => (bif r2 then ((zR n x0.Wo 0 1000000).bind fun r3 => (bif r3 then ((zR n x0.Dr 0 1000000).bind fun r4 => (bif r4 then ((zR n x0.Ve 0 1000000).bind fun r5 => (some r5)) else (some false))) else (some false))) else (some false))) else (some false)))
theorem zKo (n : Nat) (x0 : zA) (r : Bool) (H : Y2 n x0 = some r) : zE Tryz.prog 105 [.val true (fR (zA.row x0))] [.val false [.lit (.bool r)]] [] := by
 refine cW Tryz.func105 (fun g d => sl [g 0,g 1] .ret) [.tmp 2] fun cx=>?_
 unfold Y2 at H
 refine gA 2 2 2<|rA 2<|bE H fun r1 er1 H=> vA [.rd,.rd,.rd] (zS n x0.Tk 0 1000000 r1 er1)<|lA 1 ?_
 obtain ⟨h1,H⟩ | ⟨h1,H⟩ := bC H
 ·exact qL 66 2 [6] h1<|uA 20 4 0<|te (fF H)
 refine qL 66 2 [6] h1<|lA 2<|bE H fun r2 er2 H=> vA [.rd,.rd,.rd] (zS n x0.Pa 0 1000000 r2 er2)<|lA 2 ?_
 obtain ⟨h2,H⟩ | ⟨h2,H⟩ := bC H
 ·exact qL 2050 2 [11] h2<|uA 15 4 0<|te (fF H)
 refine qL 2050 2 [11] h2<|lA 2<|bE H fun r3 er3 H=> vA [.rd,.rd,.rd] (zS n x0.Wo 0 1000000 r3 er3)<|lA 2 ?_
 obtain ⟨h3,H⟩ | ⟨h3,H⟩ := bC H
 ·exact qL 65538 2 [16] h3<|uA 10 4 0<|te (fF H)
 refine qL 65538 2 [16] h3<|lA 2<|bE H fun r4 er4 H=> vA [.rd,.rd,.rd] (zS n x0.Dr 0 1000000 r4 er4)<|lA 2 ?_
 obtain ⟨h4,H⟩ | ⟨h4,H⟩ := bC H
 ·exact qL 2097154 2 [21] h4<|uA 5 4 0<|te (fF H)
 exact qL 2097154 2 [21] h4<|lA 2<|bE H fun r5 er5 H=> vA [.rd,.rd,.rd] (zS n x0.Ve 0 1000000 r5 er5)<|uA 2 4 0<|te (fJ [(false,[cB r5])] H)
def Qs (n : Nat) (x0 : zA) : Option (Bool) :=
  ((zR n x0.Id 1 99).bind fun r2 => (bif r2 then (bif (decide ((x0.Name.size : Int) ≤ 10)) then ((zR n (x0.Ps.length : Int) 1 6).bind fun r3 => (bif r3 then ((ZQ n x0.F).bind fun r4 => (bif r4 then ((zy n x0.V (x0.Ps.length : Int)).bind fun r5 => (bif r5 then ((Y2 n x0).bind fun r6 => (some r6)) else (some false))) else (some false))) else (some false))) else (some false)) else (some false)))
def z6 (n : Nat) : Nat → zA → Int → Option ((Unit) ⊕ (Bool))
  | 0,_,_ => none
  | mo7 + 1,x0,y1 => (bif (decide (y1 < (x0.Ps.length : Int))) then ((idx x0.Ps y1).bind fun v8 => ((qC n v8).bind fun r9 => (bif (!r9) then (some (Sum.inr false)) else (z6 n mo7 x0 (IntKind.wrap .i64 (y1 + 1)))))) else (some (Sum.inl ())))
def zU (n : Nat) (x0 : zA) : Option (Bool) :=
  ((z6 n n x0 0).bind fun o => match o with | .inl _ => (Qs n x0) | .inr r => some r)
theorem zEt (n : Nat) (x0 : zA) (r : Bool) (H : zU n x0 = some r) : zE Tryz.prog 24 [.val true (fR (zA.row x0))] [.val false [.lit (.bool r)]] [] := by
 refine cW Tryz.func24 (fun g d => sl [g 0,sl [g 1] (.block 0 (.loop (sl [sl [g 2] (cn 8 .skip (.exit 0)),.block 1 (sl [g 4] (cn 17 (sl [g 5] .ret) .skip))] (g 3)))),g 6] .ret) [.tmp 2] fun cx=>?_
 unfold zU at H
 refine gA 2 2 2<|tS<|gA 1 10 2 ?_
 obtain ⟨o7,eo7,Ho7⟩ := bs H
 clear H
 refine Tr.mid (ι := Unit) (fun v => ⟨50,0,[sA 1 1 11 0],[(1,(fR (zA.row x0)))]⟩) (fun v => Qs n x0 = some r) ?_ ?_
 ·refine tB<|Tr.loop (ι := Nat × (Int)) (fun v => ⟨50,0,[sI 3 v.2,sA 1 1 11 0],[(1,(fR (zA.row x0)))]⟩) (fun v => z6 n v.1 x0 v.2 = some o7) (fun v => v.1) (n,0) eo7 (St.sub_of [3,1] [1] kr) ?_
  rintro ⟨_ | mo7,y1⟩ H
  ·exact nN H
  have H : z6 n (mo7+1) x0 y1 = some o7 := H
  rw [z6] at H
  refine tS<|rA 3<|kF x0.Ps Pt.row<|uA 1 266 2 ?_
  obtain ⟨h6,H⟩ | ⟨h6,H⟩ := bC H
  ·refine nA h6<|Tr.exit<|aJ ?_
   cases H
   exact jA () Ho7 [1] [1]
  refine tA h6<|tK<|tS<|tB<|rA 3<|bE H fun v8 ev8 H=> iA Pt.row ev8<|lA 1<|bE H fun r9 er9 H=> vA [.rd] (zOF n v8 r9 er9)<|uA 1 131082 2 ?_
  obtain ⟨h7,H⟩ | ⟨h7,H⟩ := bC H
  ·exact nA h7<|tK<|eA 3 10 2<|jB mo7 (wI (y1 + 1)) H [3,1] [1]
  refine tA h7<|gA 1 4 0<|te ?_
  cases H
  exact fF Ho7
 rintro _ H
 have H : (Qs n x0) = some r := H
 unfold Qs at H
 refine rA 2<|bE H fun r2 er2 H=> vA [.rd,.rd,.rd] (zS n x0.Id 1 99 r2 er2)<|lA 1 ?_
 obtain ⟨h1,H⟩ | ⟨h1,H⟩ := bC H
 ·exact qL 2097154 2 [21] h1<|uA 29 4 0<|te (fF H)
 refine qL 2097154 2 [21] h1<|lA 6 ?_
 obtain ⟨h2,H⟩ | ⟨h2,H⟩ := bC H
 ·exact qL 134217730 2 [27] h2<|uA 23 4 0<|te (fF H)
 refine qL 134217730 2 [27] h2<|lA 2<|kF x0.Ps Pt.row<|bE H fun r3 er3 H=> vA [.rd,.rd,.rd] (zS n (x0.Ps.length : Int) 1 6 r3 er3)<|lA 2 ?_
 obtain ⟨h3,H⟩ | ⟨h3,H⟩ := bC H
 ·exact qL 8589934594 2 [33] h3<|uA 17 4 0<|te (fF H)
 refine qL 8589934594 2 [33] h3<|lA 2<|bE H fun r4 er4 H=> vA [.rd] (zHF n x0.F r4 er4)<|lA 2 ?_
 obtain ⟨h4,H⟩ | ⟨h4,H⟩ := bC H
 ·exact qL 274877906946 2 [38] h4<|uA 12 4 0<|te (fF H)
 refine qL 274877906946 2 [38] h4<|lA 4<|kF x0.Ps Pt.row<|bE H fun r5 er5 H=> vA [.rd,.rd] (zCY n x0.V (x0.Ps.length : Int) r5 er5)<|lA 2 ?_
 obtain ⟨h5,H⟩ | ⟨h5,H⟩ := bC H
 ·exact qL 70368744177666 2 [46] h5<|uA 4 4 0<|te (fF H)
 exact qL 70368744177666 2 [46] h5<|lA 1<|bE H fun r6 er6 H=> vA [.rd] (zKo n x0 r6 er6)<|uA 2 4 0<|te (fJ [(false,[cB r6])] H)
def Ys (n : Nat) (x0 : Net) : Option (Bool) :=
  ((zR n (x0.Bs.length : Int) 1 6).bind fun r2 => (some r2))
def Yu (n : Nat) (k : (Int → Option ((Unit) ⊕ (Bool)))) (y1 : Int) : Option ((Unit) ⊕ (Bool)) :=
  (k (IntKind.wrap .i64 (y1 + 1)))
def qj (n : Nat) : Nat → Net → Int → Int → Option ((Unit) ⊕ (Bool))
  | 0,_,_,_ => none
  | mo8 + 1,x0,y1,y7 => ((idx x0.Bs y1).bind fun v9 => (bif (decide (y7 < (v9.Ps.length : Int))) then ((idx x0.Bs y1).bind fun v10 => ((idx v10.Ps y7).bind fun v11 => (bif v11.Has then ((QL n x0 y1 y7).bind fun r12 => (bif (r12 == 0) then (some (Sum.inr false)) else (qj n mo8 x0 y1 (IntKind.wrap .i64 (y7 + 1))))) else (qj n mo8 x0 y1 (IntKind.wrap .i64 (y7 + 1)))))) else (some (Sum.inl ()))))
def Yt (n : Nat) (k : (Int → Option ((Unit) ⊕ (Bool)))) (x0 : Net) (y1 : Int) : Option ((Unit) ⊕ (Bool)) :=
  ((qj n n x0 y1 0).bind fun o => match o with | .inl _ => (Yu n k y1) | .inr r => some (Sum.inr r))
def qx (n : Nat) : Nat → Net → Int → Int → Option ((Unit) ⊕ (Bool))
  | 0,_,_,_ => none
  | mo13 + 1,x0,y1,y6 => (bif (decide (y6 < y1)) then ((idx x0.Bs y6).bind fun v14 => ((idx x0.Bs y1).bind fun v15 => (bif (v14.Id == v15.Id) then (some (Sum.inr false)) else (qx n mo13 x0 y1 (IntKind.wrap .i64 (y6 + 1)))))) else (some (Sum.inl ())))
def zr (n : Nat) : Nat → Net → Int → Option ((Unit) ⊕ (Bool))
  | 0,_,_ => none
  | mo3 + 1,x0,y1 => (bif (decide (y1 < (x0.Bs.length : Int))) then ((idx x0.Bs y1).bind fun v4 => ((zU n v4).bind fun r5 => (bif (!r5) then (some (Sum.inr false)) else ((qx n n x0 y1 0).bind fun o => match o with | .inl _ => (Yt n (fun v => zr n mo3 x0 v) x0 y1) | .inr r => some (Sum.inr r))))) else (some (Sum.inl ())))
def Ja (n : Nat) (x0 : Net) : Option (Bool) :=
  ((zr n n x0 0).bind fun o => match o with | .inl _ => (Ys n x0) | .inr r => some r)
def zPg : Tab := ⟨13,[0,1,0,6,8,16,0,64,0,384,512,1024,2080],[0,1,0,6,8,16,0,64,0,384,512,1024,2080],[0,1,0,7,15,31,0,64,0,448,960,1984,4095]⟩
theorem zGT : zc (rg Tryz.f125 9) zPg = true := kr
theorem zJ8 (n : Nat) (x0 : Net) (r : Bool) (H : Ja n x0 = some r) : zE Tryz.prog 125 [.val true (fR (Net.row x0))] [.val false [.lit (.bool r)]] [] := by
 refine cW Tryz.func125 (fun g d => sl [g 0,sl [g 1] (.block 0 (.loop (sl [sl [g 2] (cn 10 .skip (.exit 0)),.block 1 (sl [sl [g 4] (cn 19 (sl [g 5] .ret) .skip),sl [g 6] (.block 2 (.loop (sl [sl [g 7] (cn 22 .skip (.exit 2)),.block 3 (sl [d 9] (cn 37 (sl [g 10] .ret) .skip))] (g 8)))),g 11] (.block 4 (.loop (sl [sl [g 12] (cn 46 .skip (.exit 4)),.block 5 (sl [g 14] (cn 65 (sl [g 15] .ret) .skip))] (g 13)))))] (g 3)))),g 16] .ret) [.tmp 2] fun cx=>?_
 unfold Ja at H
 refine gA 2 2 2<|tS<|gA 1 10 2 ?_
 obtain ⟨o3,eo3,Ho3⟩ := bs H
 clear H
 refine Tr.mid (ι := Unit) (fun v => ⟨70,0,[sA 1 1 3 0],[(1,(fR (Net.row x0)))]⟩) (fun v => Ys n x0 = some r) ?_ ?_
 ·refine tB<|Tr.loop (ι := Nat × (Int)) (fun v => ⟨70,0,[sI 3 v.2,sA 1 1 3 0],[(1,(fR (Net.row x0)))]⟩) (fun v => zr n v.1 x0 v.2 = some o3) (fun v => v.1) (n,0) eo3 (St.sub_of [3,1] [1] kr) ?_
  rintro ⟨_ | mo3,y1⟩ H
  ·exact nN H
  have H : zr n (mo3+1) x0 y1 = some o3 := H
  rw [zr] at H
  refine tS<|rA 3<|kF x0.Bs zA.row<|uA 1 1034 2 ?_
  obtain ⟨h1,H⟩ | ⟨h1,H⟩ := bC H
  ·refine nA h1<|Tr.exit<|aJ ?_
   cases H
   exact jA () Ho3 [1] [1]
  refine tA h1<|tK<|tS<|tB<|tS<|rA 3<|bE H fun v4 ev4 H=> iA zA.row ev4<|lA 1<|bE H fun r5 er5 H=> vA [.rd] (zEt n v4 r5 er5)<|uA 1 524298 2 ?_
  obtain ⟨h2,H⟩ | ⟨h2,H⟩ := bC H
  ·refine nA h2<|tK<|tS<|gA 1 26 2 ?_
   obtain ⟨o13,eo13,Ho13⟩ := bs H
   clear H
   refine Tr.mid (ι := Unit) (fun v => ⟨70,0,[sI 3 y1,sA 1 1 3 0],[(1,(fR (Net.row x0)))]⟩) (fun v => Yt n (fun v => zr n mo3 x0 v) x0 y1 = some o3) ?_ ?_
   ·refine tB<|Tr.loop (ι := Nat × (Int)) (fun v => ⟨70,0,[sI 4 v.2,sI 3 y1,sA 1 1 3 0],[(1,(fR (Net.row x0)))]⟩) (fun v => qx n v.1 x0 y1 v.2 = some o13) (fun v => v.1) (n,0) eo13 (St.sub_of [4,3,1] [1] kr) ?_
    rintro ⟨_ | mo13,y6⟩ H
    ·exact nN H
    have H : qx n (mo13+1) x0 y1 y6 = some o13 := H
    rw [qx] at H
    refine tS<|gA 3 4194330 2 ?_
    obtain ⟨h6,H⟩ | ⟨h6,H⟩ := bC H
    ·refine nA h6<|Tr.exit<|aJ ?_
     cases H
     exact jA () Ho13 [3,1] [1]
    refine tA h6<|tK<|tS<|tB<|bE H fun v14 ev14 H=> bE H fun v15 ev15 H=> Tr.draws mixed 13 kr ⟨70,0,[sB 37 (v14.Id == v15.Id),sI 4 y6,sI 3 y1,sA 1 1 3 0],[(1,(fR (Net.row x0)))]⟩ (fun cx=>?_) ?_
    ·exact mA zGT (zl [0,1,2]) 10 [⟨[],49,25,26⟩] fun cx=>iN zGT 3 zA.row ev14 fun cx=>mA zGT (zl [4,5,6,7,8]) 4 [⟨[],49,31,32⟩,⟨[],49,25,26⟩] fun cx=>iN zGT 9 zA.row ev15 fun cx=>mA zGT (zl [10,11,12]) 0 [⟨[],49,31,32⟩,⟨[],49,25,26⟩] fun cx=>mE zGT [37,4,3,1] [1]
    obtain ⟨h7,H⟩ | ⟨h7,H⟩ := bC H
    ·exact qT [37] h7<|nB_<|tK<|eA 3 26 2<|jB mo13 (wI (y6 + 1)) H [4,3,1] [1]
    refine qT [37] h7<|tB_<|gA 1 4 0<|te ?_
    obtain rfl := si H
    have H := Ho13
    dsimp only at H
    cases H
    exact fF Ho3
   rintro _ H
   have H : (Yt n (fun v => zr n mo3 x0 v) x0 y1) = some o3 := H
   unfold Yt at H
   refine gA 1 42 2 ?_
   obtain ⟨o8,eo8,Ho8⟩ := bs H
   clear H
   refine Tr.mid (ι := Unit) (fun v => ⟨70,0,[sI 3 y1,sA 1 1 3 0],[(1,(fR (Net.row x0)))]⟩) (fun v => Yu n (fun v => zr n mo3 x0 v) y1 = some o3) ?_ ?_
   ·refine tB<|Tr.loop (ι := Nat × (Int)) (fun v => ⟨70,0,[sI 5 v.2,sI 3 y1,sA 1 1 3 0],[(1,(fR (Net.row x0)))]⟩) (fun v => qj n v.1 x0 y1 v.2 = some o8) (fun v => v.1) (n,0) eo8 (St.sub_of [5,3,1] [1] kr) ?_
    rintro ⟨_ | mo8,y7⟩ H
    ·exact nN H
    have H : qj n (mo8+1) x0 y1 y7 = some o8 := H
    rw [qj] at H
    refine tS<|rA 4<|bE H fun v9 ev9 H=> iA zA.row ev9<|lA 2<|kF v9.Ps Pt.row<|uA 1 70368744177706 2 ?_
    obtain ⟨h3,H⟩ | ⟨h3,H⟩ := bC H
    ·refine nA h3<|Tr.exit<|aJ ?_
     cases H
     exact jA () Ho8 [3,1] [1]
    refine tA h3<|tK<|tS<|tB<|rA 3<|bE H fun v10 ev10 H=> iA zA.row ev10<|lA 3<|bE H fun v11 ev11 H=> iA Pt.row ev11<|lA 3 ?_
    obtain ⟨h4,H⟩ | ⟨h4,H⟩ := bC H
    ·exact qL 0x80000000000002a 2 [59] h4<|uA 6 0x2000000000000002a 2<|nB_<|tK<|eA 3 42 2<|jB mo8 (wI (y7 + 1)) H [5,3,1] [1]
    refine qL 0x80000000000002a 2 [59] h4<|lA 3<|bE H fun r12 er12 H=> vA [.rd,.rd,.rd] (zAW n x0 y1 y7 r12 er12)<|uA 2 0x2000000000000002a 2 ?_
    obtain ⟨h5,H⟩ | ⟨h5,H⟩ := bC H
    ·exact nA h5<|tK<|eA 3 42 2<|jB mo8 (wI (y7 + 1)) H [5,3,1] [1]
    refine tA h5<|gA 1 4 0<|te ?_
    obtain rfl := si H
    have H := Ho8
    dsimp only at H
    cases H
    exact fF Ho3
   rintro _ H
   have H : (Yu n (fun v => zr n mo3 x0 v) y1) = some o3 := H
   unfold Yu at H
   exact eA 3 10 2<|jB mo3 (wI (y1 + 1)) H [3,1] [1]
  refine tA h2<|gA 1 4 0<|te ?_
  cases H
  exact fF Ho3
 rintro _ H
 have H : (Ys n x0) = some r := H
 unfold Ys at H
 exact rA 2<|kF x0.Bs zA.row<|bE H fun r2 er2 H=> vA [.rd,.rd,.rd] (zS n (x0.Bs.length : Int) 1 6 r2 er2)<|uA 1 4 0<|te (fJ [(false,[cB r2])] H)
def zAU (n : Nat) (x0 : Net) (x1 : Int) (x2 : Int) : Option (Bool) :=
  ((zR n x1 0 (IntKind.wrap .i64 ((x0.Bs.length : Int) - 1))).bind fun r1 => (bif r1 then ((idx x0.Bs x1).bind fun v2 => ((zR n x2 0 (IntKind.wrap .i64 ((v2.Ps.length : Int) - 1))).bind fun r3 => (bif r3 then ((QL n x0 x1 x2).bind fun r4 => (some (r4 == 1))) else (some false)))) else (some false)))
theorem zCZ (n : Nat) (x0 : Net) (x1 : Int) (x2 : Int) (r : Bool) (H : zAU n x0 x1 x2 = some r) : zE Tryz.prog 126 [.val true (fR (Net.row x0)),.val false [.lit (.int .i64 x1)],.val false [.lit (.int .i64 x2)]] [.val false [.lit (.bool r)]] [] := by
 refine cW Tryz.func126 (fun g d => sl [g 0,g 1] .ret) [.tmp 6] fun cx=>?_
 unfold zAU at H
 refine gA 2 14 8<|rA 3<|kF x0.Bs zA.row<|lA 1<|bE H fun r1 er1 H=> vA [.rd,.rd,.rd] (zS n x1 0 (wI ((x0.Bs.length : Int) - 1)) r1 er1)<|lA 1 ?_
 obtain ⟨h1,H⟩ | ⟨h1,H⟩ := bC H
 ·exact qL 8206 8 [13] h1<|uA 19 64 0<|te (fF H)
 refine qL 8206 8 [13] h1<|lA 4<|bE H fun v2 ev2 H=> iA zA.row ev2<|lA 2<|kF v2.Ps Pt.row<|lA 1<|bE H fun r3 er3 H=> vA [.rd,.rd,.rd] (zS n x2 0 (wI ((v2.Ps.length : Int) - 1)) r3 er3)<|lA 2 ?_
 obtain ⟨h2,H⟩ | ⟨h2,H⟩ := bC H
 ·exact qL 33554446 8 [25] h2<|uA 7 64 0<|te (fF H)
 exact qL 33554446 8 [25] h2<|lA 3<|bE H fun r4 er4 H=> vA [.rd,.rd,.rd] (zAW n x0 x1 x2 r4 er4)<|uA 3 64 0<|te (fJ [(false,[cB (r4 == 1)])] H)
def zCr (n : Nat) : Option (Bool) :=
  (some true)
def ZV (n : Nat) : Nat → Net → Int → Option ((Unit) ⊕ (Bool))
  | 0,_,_ => none
  | mo4 + 1,x0,y3 => (bif (decide (y3 < (x0.Said.length : Int))) then ((idx x0.Said y3).bind fun v5 => ((zR n v5.Link 0 (IntKind.wrap .i64 ((x0.Ls.length : Int) - 1))).bind fun r6 => (bif (!r6) then (some (Sum.inr false)) else ((idx x0.Said y3).bind fun v7 => ((zo n v7.V).bind fun r8 => (bif (!r8) then (some (Sum.inr false)) else (ZV n mo4 x0 (IntKind.wrap .i64 (y3 + 1))))))))) else (some (Sum.inl ())))
def Jm (n : Nat) (x0 : Net) : Option (Bool) :=
  ((ZV n n x0 0).bind fun o => match o with | .inl _ => (zCr n) | .inr r => some r)
def ZG (n : Nat) : Nat → Net → Int → Option ((Unit) ⊕ (Bool))
  | 0,_,_ => none
  | mo9 + 1,x0,y2 => (bif (decide (y2 < (x0.Ls.length : Int))) then ((idx x0.Ls y2).bind fun v10 => (bif (v10.A == v10.B) then (some (Sum.inr false)) else ((zAU n x0 v10.A v10.P).bind fun r11 => (bif (!r11) then (some (Sum.inr false)) else ((zAU n x0 v10.B v10.Q).bind fun r12 => (bif (!r12) then (some (Sum.inr false)) else ((idx x0.Bs v10.A).bind fun v13 => ((idx v13.Ps v10.P).bind fun v14 => ((idx x0.Bs v10.B).bind fun v15 => ((idx v15.Ps v10.Q).bind fun v16 => (bif (!(v14.Up == v16.Up)) then (some (Sum.inr false)) else (ZG n mo9 x0 (IntKind.wrap .i64 (y2 + 1)))))))))))))) else (some (Sum.inl ())))
def QH (n : Nat) (x0 : Net) : Option (Bool) :=
  ((Ja n x0).bind fun r1 => (bif (!r1) then (some false) else (bif (decide ((x0.Ls.length : Int) > 9)) then (some false) else (bif (decide ((x0.Said.length : Int) > 40)) then (some false) else ((ZG n n x0 0).bind fun o => match o with | .inl _ => (Jm n x0) | .inr r => some r)))))
def zQZ : Tab := ⟨50,[0,1,0,4,10,16,32,32,160,32,544,1376,2080,4128,10240,16384,16384,81920,16384,278528,704512,1064960,2113536,5242880,8388608,25165824,8388608,75497472,176160768,276824064,545259520,8388608,2155872256,5377097728,8598323200,17188257792,8388608,68727865344,8388608,274886295552,687203155968,1099520016384,2199031644160,8388608,8796101410816,21990240944128,35184380477440,70368752566272,0x800800800000,281474985099264],[0,1,0,4,10,16,32,32,160,32,544,1376,2080,4128,8192,16384,16384,81920,16384,278528,704512,1064960,2113536,4194304,8388608,25165824,8388608,75497472,176160768,276824064,545259520,8388608,2155872256,5377097728,8598323200,17188257792,8388608,68727865344,8388608,274886295552,687203155968,1099520016384,2199031644160,8388608,8796101410816,21990240944128,35184380477440,70368752566272,0x800800800000,281474985099264],[0,1,0,4,15,31,63,63,191,63,575,2047,4095,8191,16383,32767,32767,98303,32767,294911,1048575,2097151,4194303,8388607,16777215,33554431,16777215,83886079,268435455,536870911,1073741823,16777215,2164260863,8589934591,17179869183,34359738367,16777215,68736253951,16777215,274894684159,0xf000ffffff,2130320556031,4329343811583,16777215,8796109799423,35115669389311,70300041478143,0x7ff000ffffff,0xffffffffffff,562949953421311]⟩
theorem ZJ : zc (rg Tryz.f48 7) zQZ = true := kr
def zQA : Tab := ⟨22,[0,1,0,6,8,16,0,64,128,256,544,1024,3072,4096,12288,4096,53248,69632,135168,266240,528384,1052672],[0,1,0,6,8,16,0,64,128,256,544,1024,2048,4096,12288,4096,53248,69632,135168,266240,528384,1052672],[0,1,0,7,15,31,0,64,192,448,1023,2047,4095,8191,16383,8191,65535,131071,262143,524287,1048575,2097151]⟩
theorem QP : zc (rg Tryz.f48 12) zQA = true := kr
theorem zHG (n : Nat) (x0 : Net) (r : Bool) (H : QH n x0 = some r) : zE Tryz.prog 48 [.val true (fR (Net.row x0))] [.val false [.lit (.bool r)]] [] := by
 refine cW Tryz.func48 (fun g d => sl [g 0,sl [g 1] (cn 20 (sl [g 2] .ret) .skip),sl [g 3] (.block 0 (.loop (sl [sl [g 4] (cn 25 .skip (.exit 0)),.block 1 (sl [g 6,d 7] (cn 82 (sl [g 8] .ret) .skip))] (g 5)))),sl [g 9] (.block 2 (.loop (sl [sl [g 10] (cn 87 .skip (.exit 2)),.block 3 (sl [d 12] (cn 111 (sl [g 13] .ret) .skip))] (g 11)))),g 14] .ret) [.tmp 2] fun cx=>?_
 unfold QH at H
 refine gA 2 2 2<|tS<|rA 1<|bE H fun r1 er1 H=> vA [.rd] (zJ8 n x0 r1 er1)<|lA 2 ?_
 obtain ⟨h1,H⟩ | ⟨h1,H⟩ := bC H
 ·refine qL 514 2 [9] h1<|lA 2<|kF x0.Ls Link.row<|lA 3 ?_
  obtain ⟨h2,H⟩ | ⟨h2,H⟩ := bC H
  ·refine qL 32770 2 [15] h2<|lA 2<|kF x0.Said Say.row<|uA 2 1048578 2 ?_
   obtain ⟨h3,H⟩ | ⟨h3,H⟩ := bC H
   ·refine nA h3<|tK<|tS<|gA 1 10 2 ?_
    obtain ⟨o9,eo9,Ho9⟩ := bs H
    clear H
    refine Tr.mid (ι := Unit) (fun v => ⟨112,0,[sA 1 1 3 0],[(1,(fR (Net.row x0)))]⟩) (fun v => Jm n x0 = some r) ?_ ?_
    ·refine tB<|Tr.loop (ι := Nat × (Int)) (fun v => ⟨112,0,[sI 3 v.2,sA 1 1 3 0],[(1,(fR (Net.row x0)))]⟩) (fun v => ZG n v.1 x0 v.2 = some o9) (fun v => v.1) (n,0) eo9 (St.sub_of [3,1] [1] kr) ?_
     rintro ⟨_ | mo9,y2⟩ H
     ·exact nN H
     have H : ZG n (mo9+1) x0 y2 = some o9 := H
     rw [ZG] at H
     refine tS<|rA 3<|kF x0.Ls Link.row<|uA 1 33554442 2 ?_
     obtain ⟨h7,H⟩ | ⟨h7,H⟩ := bC H
     ·refine nA h7<|Tr.exit<|aJ ?_
      cases H
      exact jA () Ho9 [1] [1]
     refine tA h7<|tK<|tS<|tB<|rA 3<|bE H fun v10 ev10 H=> iA Link.row ev10<|uA 3 26 18<|sT ⟨112,0,[sA 4 4 4 0,sI 3 y2,sA 1 1 3 0],[(4,(Link.row v10)),(1,(fR (Net.row x0)))]⟩ ?_
     cases h8 : (v10.A == v10.B)
     ·have H := qe h8 H
      refine bE H fun r11 er11 H=> sT ⟨112,0,[sA 4 4 4 0,sI 3 y2,sA 1 1 3 0],[(4,(Link.row v10)),(1,(fR (Net.row x0)))]⟩ ?_
      cases h9 : (!r11)
      ·have H := qe h9 H
       refine bE H fun r12 er12 H=> sT ⟨112,0,[sA 4 4 4 0,sI 3 y2,sA 1 1 3 0],[(4,(Link.row v10)),(1,(fR (Net.row x0)))]⟩ ?_
       cases h10 : (!r12)
       ·have H := qe h10 H
        refine bE H fun v13 ev13 H=> bE H fun v14 ev14 H=> bE H fun v15 ev15 H=> bE H fun v16 ev16 H=> Tr.draws mixed 50 kr ⟨112,0,[sB 82 (!(v14.Up == v16.Up)),sI 3 y2,sA 1 1 3 0],[(1,(fR (Net.row x0)))]⟩ (fun cx=>?_) ?_
        ·refine mA ZJ [(0,[]),(1,[11,20]),(2,[]),(3,[11,20]),(4,[]),(5,[])] 44 [⟨[11,20],3,35,36⟩,⟨[11,20],3,33,34⟩] fun cx=>qA 403726925850 18 [38] h8<|mA ZJ [(6,[11,20]),(7,[]),(8,[11,20]),(9,[]),(10,[11,20])] 39 [⟨[11,20],3,42,43⟩,⟨[11,20],3,40,41⟩,⟨[11,20],53,1,39⟩,⟨[11,20],3,35,36⟩,⟨[11,20],3,33,34⟩] fun cx=>mC ZJ 11<|vA [.rd,.rd,.rd] (zCZ n x0 v10.A v10.P r11 er11)<|fA<|mA ZJ (zl [12,13,14]) 35 [⟨[11,20],3,42,43⟩,⟨[11,20],3,40,41⟩,⟨[11,20],53,1,39⟩,⟨[11,20],3,35,36⟩,⟨[11,20],3,33,34⟩] fun cx=>qA 0x8f9e0000001a 18 [47] h9<|mA ZJ [(15,[20]),(16,[]),(17,[20]),(18,[]),(19,[20])] 30 [⟨[20],3,51,52⟩,⟨[20],3,49,50⟩,⟨[20],53,1,48⟩,⟨[11,20],3,42,43⟩,⟨[11,20],3,40,41⟩,⟨[11,20],53,1,39⟩,⟨[11,20],3,35,36⟩,⟨[11,20],3,33,34⟩] fun cx=>mC ZJ 20<|vA [.rd,.rd,.rd] (zCZ n x0 v10.B v10.Q r12 er12)<|fA<|mA ZJ (zl [21,22,23]) 26 [⟨[20],3,51,52⟩,⟨[20],3,49,50⟩,⟨[20],53,1,48⟩,⟨[11,20],3,42,43⟩,⟨[11,20],3,40,41⟩,⟨[11,20],53,1,39⟩,⟨[11,20],3,35,36⟩,⟨[11,20],3,33,34⟩] fun cx=>qA 80800489595207706 18 [56] h10<|mA ZJ (zl [24,25,26,27]) 22 [⟨[],3,59,60⟩,⟨[],49,57,58⟩,⟨[20],3,51,52⟩,⟨[20],3,49,50⟩,⟨[20],53,1,48⟩,⟨[11,20],3,42,43⟩,⟨[11,20],3,40,41⟩,⟨[11,20],53,1,39⟩,⟨[11,20],3,35,36⟩,⟨[11,20],3,33,34⟩] fun cx=>iN ZJ 28 zA.row ev13 fun cx=>mA ZJ (zl [29,30,31,32]) 17 [⟨[],3,64,65⟩,⟨[],3,59,60⟩,⟨[],49,57,58⟩,⟨[20],3,51,52⟩,⟨[20],3,49,50⟩,⟨[20],53,1,48⟩,⟨[11,20],3,42,43⟩,⟨[11,20],3,40,41⟩,⟨[11,20],53,1,39⟩,⟨[11,20],3,35,36⟩,⟨[11,20],3,33,34⟩] fun cx=>?_
         exact iN ZJ 33 Pt.row ev14 fun cx=>mA ZJ (zl [34,35,36,37,38,39]) 10 [⟨[],3,71,72⟩,⟨[],49,69,70⟩,⟨[],3,64,65⟩,⟨[],3,59,60⟩,⟨[],49,57,58⟩,⟨[20],3,51,52⟩,⟨[20],3,49,50⟩,⟨[20],53,1,48⟩,⟨[11,20],3,42,43⟩,⟨[11,20],3,40,41⟩,⟨[11,20],53,1,39⟩,⟨[11,20],3,35,36⟩,⟨[11,20],3,33,34⟩] fun cx=>iN ZJ 40 zA.row ev15 fun cx=>mA ZJ (zl [41,42,43,44]) 5 [⟨[],3,76,77⟩,⟨[],3,71,72⟩,⟨[],49,69,70⟩,⟨[],3,64,65⟩,⟨[],3,59,60⟩,⟨[],49,57,58⟩,⟨[20],3,51,52⟩,⟨[20],3,49,50⟩,⟨[20],53,1,48⟩,⟨[11,20],3,42,43⟩,⟨[11,20],3,40,41⟩,⟨[11,20],53,1,39⟩,⟨[11,20],3,35,36⟩,⟨[11,20],3,33,34⟩] fun cx=>iN ZJ 45 Pt.row ev16 fun cx=>mA ZJ (zl [46,47,48,49]) 0 [⟨[],3,76,77⟩,⟨[],3,71,72⟩,⟨[],49,69,70⟩,⟨[],3,64,65⟩,⟨[],3,59,60⟩,⟨[],49,57,58⟩,⟨[20],3,51,52⟩,⟨[20],3,49,50⟩,⟨[20],53,1,48⟩,⟨[11,20],3,42,43⟩,⟨[11,20],3,40,41⟩,⟨[11,20],53,1,39⟩,⟨[11,20],3,35,36⟩,⟨[11,20],3,33,34⟩] fun cx=>mE ZJ [82,3,1] [1]
        obtain ⟨h11,H⟩ | ⟨h11,H⟩ := bC H
        ·exact qT [82] h11<|nB_<|tK<|eA 3 10 2<|jB mo9 (wI (y2 + 1)) H [3,1] [1]
        refine qT [82] h11<|tB_<|gA 1 4 0<|te ?_
        cases H
        exact fF Ho9
       have H := qf h10 H
       refine Tr.draws mixed 50 kr ⟨112,0,[sB 82 true,sI 3 y2,sA 1 1 3 0],[(1,(fR (Net.row x0)))]⟩ (fun cx=>?_) ?_
       ·exact mA ZJ [(0,[]),(1,[11,20]),(2,[]),(3,[11,20]),(4,[]),(5,[])] 44 [⟨[11,20],3,35,36⟩,⟨[11,20],3,33,34⟩] fun cx=>qA 403726925850 18 [38] h8<|mA ZJ [(6,[11,20]),(7,[]),(8,[11,20]),(9,[]),(10,[11,20])] 39 [⟨[11,20],3,42,43⟩,⟨[11,20],3,40,41⟩,⟨[11,20],53,1,39⟩,⟨[11,20],3,35,36⟩,⟨[11,20],3,33,34⟩] fun cx=>mC ZJ 11<|vA [.rd,.rd,.rd] (zCZ n x0 v10.A v10.P r11 er11)<|fA<|mA ZJ (zl [12,13,14]) 35 [⟨[11,20],3,42,43⟩,⟨[11,20],3,40,41⟩,⟨[11,20],53,1,39⟩,⟨[11,20],3,35,36⟩,⟨[11,20],3,33,34⟩] fun cx=>qA 0x8f9e0000001a 18 [47] h9<|mA ZJ [(15,[20]),(16,[]),(17,[20]),(18,[]),(19,[20])] 30 [⟨[20],3,51,52⟩,⟨[20],3,49,50⟩,⟨[20],53,1,48⟩,⟨[11,20],3,42,43⟩,⟨[11,20],3,40,41⟩,⟨[11,20],53,1,39⟩,⟨[11,20],3,35,36⟩,⟨[11,20],3,33,34⟩] fun cx=>mC ZJ 20<|vA [.rd,.rd,.rd] (zCZ n x0 v10.B v10.Q r12 er12)<|fA<|mA ZJ (zl [21,22,23]) 26 [⟨[20],3,51,52⟩,⟨[20],3,49,50⟩,⟨[20],53,1,48⟩,⟨[11,20],3,42,43⟩,⟨[11,20],3,40,41⟩,⟨[11,20],53,1,39⟩,⟨[11,20],3,35,36⟩,⟨[11,20],3,33,34⟩] fun cx=>qA 80800489595207706 18 [56] h10<|mA ZJ (zl [24,25,26,27,28,29,30,31,32,33,34,35,36,37,38,39,40,41,42,43,44,45,46,47,48,49]) 0 [⟨[20],3,51,52⟩,⟨[20],3,49,50⟩,⟨[20],53,1,48⟩,⟨[11,20],3,42,43⟩,⟨[11,20],3,40,41⟩,⟨[11,20],53,1,39⟩,⟨[11,20],3,35,36⟩,⟨[11,20],3,33,34⟩] fun cx=>mE ZJ [82,3,1] [1]
       refine tB_<|gA 1 4 0<|te ?_
       cases H
       exact fF Ho9
      have H := qf h9 H
      refine Tr.draws mixed 50 kr ⟨112,0,[sB 82 true,sI 3 y2,sA 1 1 3 0],[(1,(fR (Net.row x0)))]⟩ (fun cx=>?_) ?_
      ·exact mA ZJ [(0,[]),(1,[11]),(2,[]),(3,[11]),(4,[]),(5,[])] 44 [⟨[11],3,35,36⟩,⟨[11],3,33,34⟩] fun cx=>qA 403726925850 18 [38] h8<|mA ZJ [(6,[11]),(7,[]),(8,[11]),(9,[]),(10,[11])] 39 [⟨[11],3,42,43⟩,⟨[11],3,40,41⟩,⟨[11],53,1,39⟩,⟨[11],3,35,36⟩,⟨[11],3,33,34⟩] fun cx=>mC ZJ 11<|vA [.rd,.rd,.rd] (zCZ n x0 v10.A v10.P r11 er11)<|fA<|mA ZJ (zl [12,13,14]) 35 [⟨[11],3,42,43⟩,⟨[11],3,40,41⟩,⟨[11],53,1,39⟩,⟨[11],3,35,36⟩,⟨[11],3,33,34⟩] fun cx=>qA 0x8f9e0000001a 18 [47] h9<|mA ZJ (zl [15,16,17,18,19,20,21,22,23,24,25,26,27,28,29,30,31,32,33,34,35,36,37,38,39,40,41,42,43,44,45,46,47,48,49]) 0 [⟨[11],3,42,43⟩,⟨[11],3,40,41⟩,⟨[11],53,1,39⟩,⟨[11],3,35,36⟩,⟨[11],3,33,34⟩] fun cx=>mE ZJ [82,3,1] [1]
      refine tB_<|gA 1 4 0<|te ?_
      cases H
      exact fF Ho9
     have H := qf h8 H
     refine Tr.draws mixed 50 kr ⟨112,0,[sB 82 true,sI 3 y2,sA 1 1 3 0],[(1,(fR (Net.row x0)))]⟩ (fun cx=>?_) ?_
     ·exact mA ZJ (zl [0,1,2,3,4,5]) 44 [⟨[],3,35,36⟩,⟨[],3,33,34⟩] fun cx=>qA 403726925850 18 [38] h8<|mA ZJ (zl [6,7,8,9,10,11,12,13,14,15,16,17,18,19,20,21,22,23,24,25,26,27,28,29,30,31,32,33,34,35,36,37,38,39,40,41,42,43,44,45,46,47,48,49]) 0 [⟨[],3,35,36⟩,⟨[],3,33,34⟩] fun cx=>mE ZJ [82,3,1] [1]
     refine tB_<|gA 1 4 0<|te ?_
     cases H
     exact fF Ho9
    rintro _ H
    have H : (Jm n x0) = some r := H
    unfold Jm at H
    refine tS<|gA 1 34 2 ?_
    obtain ⟨o4,eo4,Ho4⟩ := bs H
    clear H
    refine Tr.mid (ι := Unit) (fun v => ⟨112,0,[],[]⟩) (fun v => zCr n = some r) ?_ ?_
    ·refine tB<|Tr.loop (ι := Nat × (Int)) (fun v => ⟨112,0,[sI 5 v.2,sA 1 1 3 0],[(1,(fR (Net.row x0)))]⟩) (fun v => ZV n v.1 x0 v.2 = some o4) (fun v => v.1) (n,0) eo4 (St.sub_of [5,1] [1] kr) ?_
     rintro ⟨_ | mo4,y3⟩ H
     ·exact nN H
     have H : ZV n (mo4+1) x0 y3 = some o4 := H
     rw [ZV] at H
     refine tS<|rA 3<|kF x0.Said Say.row<|uA 1 0x8000000000000000000022 2 ?_
     obtain ⟨h4,H⟩ | ⟨h4,H⟩ := bC H
     ·refine nA h4<|Tr.exit<|aJ ?_
      cases H
      exact jA () Ho4 [] []
     refine tA h4<|tK<|tS<|tB<|bE H fun v5 ev5 H=> bE H fun r6 er6 H=> sT ⟨112,0,[sB 87 (decide (y3 < (x0.Said.length : Int))),sI 5 y3,sA 1 1 3 0],[(1,(fR (Net.row x0)))]⟩ ?_
     cases h5 : (!r6)
     ·have H := qe h5 H
      refine bE H fun v7 ev7 H=> bE H fun r8 er8 H=> Tr.draws mixed 22 kr ⟨112,0,[sB 111 (!r8),sI 5 y3,sA 1 1 3 0],[(1,(fR (Net.row x0)))]⟩ (fun cx=>?_) ?_
      ·exact mA QP [(0,[]),(1,[10,19]),(2,[])] 19 [⟨[10,19],51,90,91⟩] fun cx=>iN QP 3 Say.row ev5 fun cx=>mA QP (zl [4,5,6]++[(7,[10,19])]) 14 [⟨[10,19],50,96,97⟩,⟨[10,19],51,90,91⟩] fun cx=>kFN QP 8 x0.Ls Link.row fun cx=>mA QP [(9,[])] 12 [⟨[10,19],50,96,97⟩,⟨[10,19],51,90,91⟩] fun cx=>mC QP 10<|vA [.rd,.rd,.rd] (zS n v5.Link 0 (wI ((x0.Ls.length : Int) - 1)) r6 er6)<|fA<|mA QP [(11,[]),(12,[])] 9 [⟨[10,19],50,96,97⟩,⟨[10,19],51,90,91⟩] fun cx=>qA 0x430c0000000000000000000022 2 [102] h5<|mA QP [(13,[]),(14,[19]),(15,[])] 6 [⟨[19],51,103,104⟩,⟨[10,19],50,96,97⟩,⟨[10,19],51,90,91⟩] fun cx=>iN QP 16 Say.row ev7 fun cx=>mA QP [(17,[]),(18,[])] 3 [⟨[19],51,103,104⟩,⟨[10,19],50,96,97⟩,⟨[10,19],51,90,91⟩] fun cx=>mC QP 19<|vA [.rd] (zDS n v7.V r8 er8)<|fA<|mA QP [(20,[]),(21,[])] 0 [⟨[19],51,103,104⟩,⟨[10,19],50,96,97⟩,⟨[10,19],51,90,91⟩] fun cx=>mE QP [111,5,1] [1]
      obtain ⟨h6,H⟩ | ⟨h6,H⟩ := bC H
      ·exact qT [111] h6<|nB_<|tK<|eA 3 34 2<|jB mo4 (wI (y3 + 1)) H [5,1] [1]
      refine qT [111] h6<|tB_<|gA 1 4 0<|te ?_
      cases H
      exact fF Ho4
     have H := qf h5 H
     refine Tr.draws mixed 22 kr ⟨112,0,[sB 111 true,sI 5 y3,sA 1 1 3 0],[(1,(fR (Net.row x0)))]⟩ (fun cx=>?_) ?_
     ·exact mA QP [(0,[]),(1,[10]),(2,[])] 19 [⟨[10],51,90,91⟩] fun cx=>iN QP 3 Say.row ev5 fun cx=>mA QP (zl [4,5,6]++[(7,[10])]) 14 [⟨[10],50,96,97⟩,⟨[10],51,90,91⟩] fun cx=>kFN QP 8 x0.Ls Link.row fun cx=>mA QP [(9,[])] 12 [⟨[10],50,96,97⟩,⟨[10],51,90,91⟩] fun cx=>mC QP 10<|vA [.rd,.rd,.rd] (zS n v5.Link 0 (wI ((x0.Ls.length : Int) - 1)) r6 er6)<|fA<|mA QP [(11,[]),(12,[])] 9 [⟨[10],50,96,97⟩,⟨[10],51,90,91⟩] fun cx=>qA 0x430c0000000000000000000022 2 [102] h5<|mA QP (zl [13,14,15,16,17,18,19,20,21]) 0 [⟨[10],50,96,97⟩,⟨[10],51,90,91⟩] fun cx=>mE QP [111,5,1] [1]
     refine tB_<|gA 1 4 0<|te ?_
     cases H
     exact fF Ho4
    rintro _ H
    have H : (zCr n) = some r := H
    unfold zCr at H
    exact gA 1 4 0<|te (fT H)
   exact tA h3<|gA 1 4 0<|te (fF H)
  exact qL 32770 2 [15] h2<|uA 5 1048578 2<|tB_<|gA 1 4 0<|te (fF H)
 exact qL 514 2 [9] h1<|uA 11 1048578 2<|tB_<|gA 1 4 0<|te (fF H)
def qu (n : Nat) (x0 : (List zB)) : Option ((List zB)) :=
  (bif (decide (([] : List zB).length + x0.length ≤ 268435456)) then (some (([] : List zB) ++ x0)) else none)
theorem Yg (n : Nat) (x0 : (List zB)) (r : (List zB)) (H : qu n x0 = some r) : zE Tryz.prog 156 [.val false [.sl false 5 (CV.frzEs (x0.map zB.row))]] [.val false [.sl true 5 (r.map zB.row)]] [] := by
 refine cW Tryz.func156 (fun g d => sl [g 0,g 1] .ret) [.tmp 2] fun cx=>?_
 unfold qu at H
 exact gA 1 1 0<|rA 2<|gE H fun hg1 H=> pD zB.row hg1<|LAt.moveU (T := lk tab) (ty := 25) (x := (.tmp 5)) (d := 2) (g := none) false [cL 5 (([] : List zB) ++ x0) zB.row] kr kr kr kr kr<|dA 4 0<|te (fJ [(false,[cL 5 (([] : List zB) ++ x0) zB.row])] H)
def ZY (n : Nat) (x0 : zD) : Option (zD) :=
  (bif (decide (([] : List zC).length + x0.Rows.length ≤ 268435456)) then (bif (decide (([] : List Int).length + x0.Pv.length ≤ 268435456)) then (some (⟨(([] : List zC) ++ x0.Rows),(([] : List Int) ++ x0.Pv)⟩ : zD)) else none) else none)
theorem Yh (n : Nat) (x0 : zD) (r : zD) (H : ZY n x0 = some r) : zE Tryz.prog 157 [.val true (fR (zD.row x0))] [.val true (zD.row r)] [] := by
 refine cW Tryz.func157 (fun g d => sl [g 0,d 1] .ret) [.cell 2 29] fun cx=>?_
 unfold ZY at H
 refine gA 2 6 6<|gE H fun hg1 H=> gE H fun hg2 H=> Tr.draws mixed 10 kr ⟨12,0,[sA 2 2 2 0],[(2,[cL 3 (([] : List zC) ++ x0.Rows) zC.row,cL 1 (([] : List Int) ++ x0.Pv) intRow])]⟩ (fun cx=>?_) ?_
 ·refine aA [(1,[]),(2,[3,7,8,9]),(5,[]),(6,[7,8,9])] 6 [⟨[7,8,9],27,8,9⟩,⟨[3,7,8,9],26,4,5⟩] fun cx=>AT.big2 tOk 0 4 kr (And.intro kr ?_) (And.intro kr ?_)
  ·refine lA 1<|fA<|AT.big2 tOk 3 4 kr (And.intro kr ?_) (And.intro kr ?_)
   ·exact pD zC.row hg1<|fA<|bA 4<|lA 1<|fA<|bA 7<|pD intRow hg2<|fA<|bA 8<|lA 1<|fA<|bA 9<|lA 1<|fA<|eE [2] [2]
   ·exact lA 1<|fA<|bA 3<|pD zC.row hg1<|fA<|bA 7<|pD intRow hg2<|fA<|bA 8<|lA 1<|fA<|bA 9<|lA 1<|fA<|eE [2] [2]
  ·exact lA 1<|fA<|bA 0<|lA 1<|fA<|bA 3<|pD zC.row hg1<|fA<|bA 7<|pD intRow hg2<|fA<|bA 8<|lA 1<|fA<|bA 9<|lA 1<|fA<|eE [2] [2]
 exact te (fJ [(true,[cL 3 (([] : List zC) ++ x0.Rows) zC.row,cL 1 (([] : List Int) ++ x0.Pv) intRow])] H)
def Ql (n : Nat) (x0 : zA) : Option (zA) :=
  (bif (decide (([] : List Pt).length + x0.Ps.length ≤ 268435456)) then ((qu n x0.F).bind fun r2 => ((ZY n x0.V).bind fun r3 => (some (⟨x0.Id,x0.Name,(([] : List Pt) ++ x0.Ps),r2,r3,x0.Tk,x0.Pa,x0.Wo,x0.Dr,x0.Ve⟩ : zA)))) else none)
theorem zDT (n : Nat) (x0 : zA) (r : zA) (H : Ql n x0 = some r) : zE Tryz.prog 81 [.val true (fR (zA.row x0))] [.val true (zA.row r)] [] := by
 refine cW Tryz.func81 (fun g d => sl [g 0,g 1,g 2,g 3,g 4,g 5] .ret) [.cell 2 31] fun cx=>?_
 unfold Ql at H
 exact gA 2 6 6<|gA 3 14 14<|rA 3<|gE H fun hg1 H=> pD Pt.row hg1<|uA 2 14 14<|rA 2<|bE H fun r2 er2 H=> vA [.rd] (Yg n x0.F r2 er2)<|uA 2 14 14<|rA 2<|bE H fun r3 er3 H=> vA [.rd] (Yh n x0.V r3 er3)<|uA 2 12 12<|gA 2 4 4<|te (fJ [(true,[cI x0.Id,cS x0.Name,cL 8 (([] : List Pt) ++ x0.Ps) Pt.row,cL 5 r2 zB.row,cL 3 r3.Rows zC.row,cL 1 r3.Pv intRow,cI x0.Tk,cI x0.Pa,cI x0.Wo,cI x0.Dr,cI x0.Ve])] H)
def JN (n : Nat) (x0 : zA) (x1 : Int) : Option (Bool) :=
  ((zU n x0).bind fun r1 => (bif r1 then ((zR n x1 0 (IntKind.wrap .i64 ((x0.Ps.length : Int) - 1))).bind fun r2 => (some r2)) else (some false)))
theorem zHR (n : Nat) (x0 : zA) (x1 : Int) (r : Bool) (H : JN n x0 x1 = some r) : zE Tryz.prog 90 [.val true (fR (zA.row x0)),.val false [.lit (.int .i64 x1)]] [.val false [.lit (.bool r)]] [] := by
 refine cW Tryz.func90 (fun g d => sl [g 0,g 1] .ret) [.tmp 4] fun cx=>?_
 unfold JN at H
 refine gA 2 6 4<|rA 1<|bE H fun r1 er1 H=> vA [.rd] (zEt n x0 r1 er1)<|lA 1 ?_
 obtain ⟨h1,H⟩ | ⟨h1,H⟩ := bC H
 ·exact qL 134 4 [7] h1<|uA 8 16 0<|te (fF H)
 exact qL 134 4 [7] h1<|lA 3<|kF x0.Ps Pt.row<|lA 1<|bE H fun r2 er2 H=> vA [.rd,.rd,.rd] (zS n x1 0 (wI ((x0.Ps.length : Int) - 1)) r2 er2)<|uA 2 16 0<|te (fJ [(false,[cB r2])] H)
def JZ (n : Nat) (x0 : Int) : Option (Int) :=
  (bif (decide (x0 ≥ 1000000)) then (some x0) else (some (IntKind.wrap .i64 (x0 + 1))))
theorem zIs (n : Nat) (x0 : Int) (r : Int) (H : JZ n x0 = some r) : zE Tryz.prog 95 [.val false [.lit (.int .i64 x0)]] [.val false [.lit (.int .i64 r)]] [] := by
 refine cW Tryz.func95 (fun g d => sl [g 0,sl [g 1] (cn 4 (sl [g 2] .ret) .skip),g 3] .ret) [.tmp 2] fun cx=>?_
 unfold JZ at H
 refine gA 1 1 0<|tS<|gA 2 17 0 ?_
 obtain ⟨h1,H⟩ | ⟨h1,H⟩ := bC H
 ·exact nA h1<|tK<|gA 3 4 0<|te (fJ [(false,[cI (wI (x0 + 1))])] H)
 exact tA h1<|gA 2 4 0<|te (fJ [(false,[cI x0])] H)
def YQ (n : Nat) (x0 : Vec) (x1 : Int) : Option (Vec × Bool) :=
  ((zo n x0).bind fun r1 => (bif (!r1) then (some (x0,false)) else ((zR n x1 1 1000).bind fun r2 => (bif (!r2) then (some (x0,false)) else ((zo n (⟨x0.Root,(IntKind.wrap .i64 (x0.Co + x1)),(IntKind.wrap .i64 (x0.Hops + 1)),x0.Bridge,x0.Port⟩ : Vec)).bind fun r3 => (bif (!r3) then (some (x0,false)) else (some ((⟨x0.Root,(IntKind.wrap .i64 (x0.Co + x1)),(IntKind.wrap .i64 (x0.Hops + 1)),x0.Bridge,x0.Port⟩ : Vec),true))))))))
theorem zH9 (n : Nat) (x0 : Vec) (x1 : Int) (r : Vec × Bool) (H : YQ n x0 x1 = some r) : zE Tryz.prog 178 [.val true (fR (Vec.row x0)),.val false [.lit (.int .i64 x1)]] [.val true (Vec.row r.1),.val false [.lit (.bool r.2)]] [] := by
 refine cW Tryz.func178 (fun g d => sl [g 0,sl [g 1] (cn 14 (sl [g 2] .ret) .skip),g 3,g 4,g 5,sl [g 6] (cn 28 (sl [g 7] .ret) .skip),g 8] .ret) [.cell 4 33,.tmp 5] fun cx=>?_
 unfold YQ at H
 refine gA 3 22 20<|tS<|rA 1<|bE H fun r1 er1 H=> vA [.rd] (zDS n x0 r1 er1)<|lA 2 ?_
 obtain ⟨h1,H⟩ | ⟨h1,H⟩ := bC H
 ·refine qL 1046 20 [10] h1<|lA 1<|bE H fun r2 er2 H=> vA [.rd,.rd,.rd] (zS n x1 1 1000 r2 er2)<|uA 2 16406 20 ?_
  obtain ⟨h2,H⟩ | ⟨h2,H⟩ := bC H
  ·refine nA h2<|tK<|gA 3 86 84<|gA 6 84 84<|gA 5 84 84<|tS<|rA 1<|bE H fun r3 er3 H=> vA [.rd] (zDS n (⟨x0.Root,(wI (x0.Co + x1)),(wI (x0.Hops + 1)),x0.Bridge,x0.Port⟩ : Vec) r3 er3)<|uA 1 268435540 84 ?_
   obtain ⟨h3,H⟩ | ⟨h3,H⟩ := bC H
   ·exact nA h3<|tK<|gA 3 48 16<|te (fJ [(true,[cI x0.Root,cI (wI (x0.Co + x1)),cI (wI (x0.Hops + 1)),cI x0.Bridge,cI x0.Port]),(false,[cB true])] H)
   exact tA h3<|gA 3 48 16<|te (fJ [(true,(Vec.row x0)),(false,[cB false])] H)
  exact tA h2<|gA 3 48 16<|te (fJ [(true,(Vec.row x0)),(false,[cB false])] H)
 exact qL 1046 20 [10] h1<|uA 4 16406 20<|tB_<|gA 3 48 16<|te (fJ [(true,(Vec.row x0)),(false,[cB false])] H)
def Y5 (n : Nat) (x0 : Vec) (x1 : Vec) : Option (Bool) :=
  (bif (x0.Root != x1.Root) then (some (decide (x0.Root < x1.Root))) else (bif (x0.Co != x1.Co) then (some (decide (x0.Co < x1.Co))) else (bif (x0.Bridge != x1.Bridge) then (some (decide (x0.Bridge < x1.Bridge))) else (some (decide (x0.Port < x1.Port))))))
theorem zH7 (n : Nat) (x0 : Vec) (x1 : Vec) (r : Bool) (H : Y5 n x0 x1 = some r) : zE Tryz.prog 179 [.val true (fR (Vec.row x0)),.val true (fR (Vec.row x1))] [.val false [.lit (.bool r)]] [] := by
 refine cW Tryz.func179 (fun g d => sl [g 0,.block 0 (sl [g 1] (cn 5 (sl [g 2] .ret) (sl [g 3] (cn 16 (sl [g 4] .ret) (sl [g 5] (cn 27 (sl [g 6] .ret) .skip)))))),g 7] .ret) [.tmp 4] fun cx=>?_
 unfold Y5 at H
 refine gA 3 12 12<|tS<|tB<|gA 6 44 12 ?_
 obtain ⟨h1,H⟩ | ⟨h1,H⟩ := bC H
 ·refine nA h1<|gA 6 65548 12 ?_
  obtain ⟨h2,H⟩ | ⟨h2,H⟩ := bC H
  ·refine nA h2<|gA 6 134217740 12 ?_
   obtain ⟨h3,H⟩ | ⟨h3,H⟩ := bC H
   ·exact nA h3<|tK<|gA 6 16 0<|te (fJ [(false,[cB (decide (x0.Port < x1.Port))])] H)
   exact tA h3<|gA 6 16 0<|te (fJ [(false,[cB (decide (x0.Bridge < x1.Bridge))])] H)
  exact tA h2<|gA 6 16 0<|te (fJ [(false,[cB (decide (x0.Co < x1.Co))])] H)
 exact tA h1<|gA 6 16 0<|te (fJ [(false,[cB (decide (x0.Root < x1.Root))])] H)
def zBO (n : Nat) (x0 : Int) (y11 : Int) (y12 : Int) (y13 : Int) (y14 : Int) : Option (Vec × Int) :=
  (some ((⟨y12,y13,y14,x0,0⟩ : Vec),y11))
def Z6 (n : Nat) (k : (Int × Int × Int × Int × Int × Int × Int × Int × Int × Int → Option ((Int × Int × Int × Int) ⊕ (Vec × Int)))) (r20 : Vec × Bool) (y1 : Int) (y10 : Int) (y2 : Int) (y3 : Int) (y4 : Int) (y5 : Int) (y6 : Int) (y7 : Int) (y8 : Int) (y9 : Int) (y21 : Bool) (y22 : Bool) (y23 : Bool) (y24 : Bool) (y25 : Bool) (y26 : Bool) (y27 : Bool) : Option ((Int × Int × Int × Int) ⊕ (Vec × Int)) :=
  (bif y21 then (k ((IntKind.wrap .i64 (y1 + 1)),y1,r20.1.Root,r20.1.Co,r20.1.Hops,r20.1.Bridge,r20.1.Port,r20.1.Root,r20.1.Co,r20.1.Hops)) else (k ((IntKind.wrap .i64 (y1 + 1)),y2,y3,y4,y5,y6,y7,y8,y9,y10)))
def qE (n : Nat) : Nat → Int → (List Pt) → Int → Int → Int → Int → Int → Int → Int → Int → Int → Int → Option ((Int × Int × Int × Int) ⊕ (Vec × Int))
  | 0,_,_,_,_,_,_,_,_,_,_,_,_ => none
  | mo15 + 1,x0,x1,y1,y2,y3,y4,y5,y6,y7,y8,y9,y10 => (bif (decide (y1 < (x1.length : Int))) then ((idx x1 y1).bind fun v16 => (bif (!v16.Up) then (qE n mo15 x0 x1 (IntKind.wrap .i64 (y1 + 1)) y2 y3 y4 y5 y6 y7 y8 y9 y10) else ((idx x1 y1).bind fun v17 => (bif (!v17.Has) then (qE n mo15 x0 x1 (IntKind.wrap .i64 (y1 + 1)) y2 y3 y4 y5 y6 y7 y8 y9 y10) else ((idx x1 y1).bind fun v18 => ((idx x1 y1).bind fun v19 => ((YQ n v18.Hd v19.Co).bind fun r20 => (bif r20.2 then (bif (decide (r20.1.Root < x0)) then (bif (decide (y2 < 0)) then (Z6 n (fun v => qE n mo15 x0 x1 v.1 v.2.1 v.2.2.1 v.2.2.2.1 v.2.2.2.2.1 v.2.2.2.2.2.1 v.2.2.2.2.2.2.1 v.2.2.2.2.2.2.2.1 v.2.2.2.2.2.2.2.2.1 v.2.2.2.2.2.2.2.2.2) r20 y1 y10 y2 y3 y4 y5 y6 y7 y8 y9 true true true true true true true) else ((Y5 n r20.1 (⟨y3,y4,y5,y6,y7⟩ : Vec)).bind fun r28 => (Z6 n (fun v => qE n mo15 x0 x1 v.1 v.2.1 v.2.2.1 v.2.2.2.1 v.2.2.2.2.1 v.2.2.2.2.2.1 v.2.2.2.2.2.2.1 v.2.2.2.2.2.2.2.1 v.2.2.2.2.2.2.2.2.1 v.2.2.2.2.2.2.2.2.2) r20 y1 y10 y2 y3 y4 y5 y6 y7 y8 y9 r28 true true true true true true))) else (Z6 n (fun v => qE n mo15 x0 x1 v.1 v.2.1 v.2.2.1 v.2.2.2.1 v.2.2.2.2.1 v.2.2.2.2.2.1 v.2.2.2.2.2.2.1 v.2.2.2.2.2.2.2.1 v.2.2.2.2.2.2.2.2.1 v.2.2.2.2.2.2.2.2.2) r20 y1 y10 y2 y3 y4 y5 y6 y7 y8 y9 false false false true true true true)) else (Z6 n (fun v => qE n mo15 x0 x1 v.1 v.2.1 v.2.2.1 v.2.2.2.1 v.2.2.2.2.1 v.2.2.2.2.2.1 v.2.2.2.2.2.2.1 v.2.2.2.2.2.2.2.1 v.2.2.2.2.2.2.2.2.1 v.2.2.2.2.2.2.2.2.2) r20 y1 y10 y2 y3 y4 y5 y6 y7 y8 y9 false false false false false false false))))))))) else (some (Sum.inl (y2,y8,y9,y10))))
def Qi (n : Nat) (x0 : Int) (x1 : (List Pt)) : Option (Vec × Int) :=
  ((qE n n x0 x1 0 (-1) 0 0 0 0 0 x0 0 0).bind fun o => match o with | .inl (y11,y12,y13,y14) => (zBO n x0 y11 y12 y13 y14) | .inr r => some r)
def zPh : Tab := ⟨17,[0,0,3,4,8,0,0,96,128,256,528,1024,2048,2048,0,24575,65535],[0,0,3,4,8,0,0,96,128,256,528,1024,2048,2048,0,20480,8192],[0,0,3,7,15,0,0,96,224,480,1023,2047,4095,4095,0,24575,65535]⟩
theorem Qx : zc (rg Tryz.f138 8) zPh = true := kr
theorem zH4 (n : Nat) (x0 : Int) (x1 : (List Pt)) (r : Vec × Int) (H : Qi n x0 x1 = some r) : zE Tryz.prog 138 [.val false [.lit (.int .i64 x0)],.val false [.sl false 8 (CV.frzEs (x1.map Pt.row))]] [.val true (Vec.row r.1),.val false [.lit (.int .i64 r.2)]] [] := by
 refine cW Tryz.func138 (fun g d => sl [g 0,g 1,g 2,g 3,sl [g 4] (.block 0 (.loop (sl [sl [g 5] (cn 19 .skip (.exit 0)),.block 1 (sl [sl [g 7] (cn 35 (.exit 1) .skip),d 8,g 9] (cn 65 (sl [g 10,g 11] (g 12)) .skip))] (g 6)))),g 13] .ret) [.cell 4 33,.tmp 5] fun cx=>?_
 unfold Qi at H
 refine gA 2 51 16<|gA 5 115 80<|gA 3 243 208<|gA 1 499 208<|tS<|gA 1 1011 208 ?_
 obtain ⟨o15,eo15,Ho15⟩ := bs H
 clear H
 refine Tr.mid (ι := Int × Int × Int × Int) (fun v => ⟨78,0,[sI 8 v.1,sA 6 6 5 0,sI 5 0,sA 4 4 5 0],[(6,[cI v.2.1,cI v.2.2.1,cI v.2.2.2,cI x0,cI 0]),(4,[cI 0,cI 0,cI 0,cI 0,cI 0])]⟩) (fun v => zBO n x0 v.1 v.2.1 v.2.2.1 v.2.2.2 = some r) ?_ ?_
 ·refine tB<|Tr.loop (ι := Nat × (Int × Int × Int × Int × Int × Int × Int × Int × Int × Int)) (fun v => ⟨78,0,[sI 9 v.2.1,sI 8 v.2.2.1,sA 7 7 5 0,sA 6 6 5 0,sI 5 0,sA 4 4 5 0,sI 0 x0,sC 1 (cF 8 x1 Pt.row)],[(7,[cI v.2.2.2.1,cI v.2.2.2.2.1,cI v.2.2.2.2.2.1,cI v.2.2.2.2.2.2.1,cI v.2.2.2.2.2.2.2.1]),(6,[cI v.2.2.2.2.2.2.2.2.1,cI v.2.2.2.2.2.2.2.2.2.1,cI v.2.2.2.2.2.2.2.2.2.2,cI x0,cI 0]),(4,[cI 0,cI 0,cI 0,cI 0,cI 0])]⟩) (fun v => qE n v.1 x0 x1 v.2.1 v.2.2.1 v.2.2.2.1 v.2.2.2.2.1 v.2.2.2.2.2.1 v.2.2.2.2.2.2.1 v.2.2.2.2.2.2.2.1 v.2.2.2.2.2.2.2.2.1 v.2.2.2.2.2.2.2.2.2.1 v.2.2.2.2.2.2.2.2.2.2 = some o15) (fun v => v.1) (n,(0,(-1),0,0,0,0,0,x0,0,0)) eo15 (St.sub_of [9,8,7,6,5,4,0,1] [7,6,4] kr) ?_
  rintro ⟨_ | mo15,y1,y2,y3,y4,y5,y6,y7,y8,y9,y10⟩ H
  ·exact nN H
  have H : qE n (mo15+1) x0 x1 y1 y2 y3 y4 y5 y6 y7 y8 y9 y10 = some o15 := H
  rw [qE] at H
  refine tS<|rA 2<|kF x1 Pt.row<|uA 1 984051 208 ?_
  obtain ⟨h1,H⟩ | ⟨h1,H⟩ := bC H
  ·refine nA h1<|Tr.exit<|aJ ?_
   cases H
   exact jA (y2,y8,y9,y10) Ho15 [8,6,5,4] [6,4]
  refine tA h1<|tK<|tS<|tB<|tS<|rA 2<|bE H fun v16 ev16 H=> iA Pt.row ev16<|lA 4 ?_
  obtain ⟨h2,H⟩ | ⟨h2,H⟩ := bC H
  ·refine qL 533660659 208 [28,27] h2<|lA 2<|bE H fun v17 ev17 H=> iA Pt.row ev17<|uA 4 68716266483 208 ?_
   obtain ⟨h3,H⟩ | ⟨h3,H⟩ := bC H
   ·refine nA h3<|tK<|bE H fun v18 ev18 H=> bE H fun v19 ev19 H=> bE H fun r20 er20 H=> Tr.draws mixed 17 kr ⟨78,0,[sB 11 r20.2,sA 10 10 5 0,sB 49 r20.2,(36,.tup [(true,[.dead,.dead,.dead,.dead,.dead]),(false,[.dead])]),sV 48 (Vec.row r20.1),sI 46 v19.Co,(45,.fad (((Pt.row v19).drop 1))),(44,.fad ((Pt.row v19))),sI 43 y1,sC 42 (cF 8 x1 Pt.row),sV 41 ((Pt.row v18).drop 3),(40,.fad (((Pt.row v18).drop 3))),(39,.fad ((Pt.row v18))),sI 38 y1,sC 37 (cF 8 x1 Pt.row),sB 35 (!v17.Has),sB 34 (!v17.Has),sB 33 v17.Has,(32,.fad (((Pt.row v17).drop 2))),(31,.fad ((Pt.row v17))),sI 30 y1,sC 29 (cF 8 x1 Pt.row),sB 28 false,sB 27 false,sB 26 v16.Up,(25,.fad ((Pt.row v16))),(24,.fad ((Pt.row v16))),sI 23 y1,sC 22 (cF 8 x1 Pt.row),sB 19 (decide (y1 < (x1.length : Int))),sI 18 (x1.length : Int),sC 17 (cF 8 x1 Pt.row),sI 16 y1,sI 9 y1,sI 8 y2,sA 7 7 5 0,sA 6 6 5 0,sI 5 0,sA 4 4 5 0,sI 0 x0,sC 1 (cF 8 x1 Pt.row)],[(10,(Vec.row r20.1)),(7,[cI y3,cI y4,cI y5,cI y6,cI y7]),(6,[cI y8,cI y9,cI y10,cI x0,cI 0]),(4,[cI 0,cI 0,cI 0,cI 0,cI 0])]⟩ (fun cx=>?_) ?_
    ·refine mA Qx [(0,[]),(1,[])] 15 [] fun cx=>iN Qx 2 Pt.row ev18 fun cx=>mA Qx (zl [3,4,5,6]) 10 [] fun cx=>iN Qx 7 Pt.row ev19 fun cx=>mA Qx [(8,[]),(9,[])] 7 [] fun cx=>mB2 tOk Qx 10 14 kr (And.intro kr ?_) (And.intro kr ?_)
     ·refine vA [.rd,.rd] (zH9 n v18.Hd v19.Co r20 er20)<|fA<|AT.movT tOk 11 (ty := 167) (t := 47) (d := 36) (g := none) [(true,(Vec.row r20.1)),(false,[cB r20.2])] _ kr (oM Qx kr) (dM Qx kr) (.inl rfl) kr kr kr kr rfl (fun cx=>?_)
      exact mA Qx [(12,[]),(13,[])] 3 [] fun cx=>mC Qx 14<|lA 1<|fA<|mC Qx 15<|lA 1<|fA<|mA Qx [(16,[])] 0 [] fun cx=>mE Qx [11,10,49,36,48,46,45,44,43,42,41,40,39,38,37,35,34,33,32,31,30,29,28,27,26,25,24,23,22,19,18,17,16,9,8,7,6,5,4,0,1] [10,7,6,4]
     ·refine lA 1<|fA<|mC Qx 10<|vA [.rd,.rd] (zH9 n v18.Hd v19.Co r20 er20)<|fA<|AT.movT tOk 11 (ty := 167) (t := 47) (d := 36) (g := none) [(true,(Vec.row r20.1)),(false,[cB r20.2])] _ kr (oM Qx kr) (dM Qx kr) (.inl rfl) kr kr kr kr rfl (fun cx=>?_)
      exact mA Qx [(12,[]),(13,[])] 2 [] fun cx=>mC Qx 15<|lA 1<|fA<|mA Qx [(16,[])] 0 [] fun cx=>mE Qx [11,10,49,36,48,46,45,44,43,42,41,40,39,38,37,35,34,33,32,31,30,29,28,27,26,25,24,23,22,19,18,17,16,9,8,7,6,5,4,0,1] [10,7,6,4]
    refine tS<|Tr.mid (ι := Bool × Bool × Bool × Bool × Bool × Bool × Bool) (fun v => ⟨78,0,[sB 65 v.1,sB 57 v.2.1,sB 56 v.2.2.1,sB 51 v.2.2.2.1,sB 50 v.2.2.2.2.1,sB 11 v.2.2.2.2.2.1,sA 10 10 5 0,sB 49 v.2.2.2.2.2.2,(36,.tup [(true,[.dead,.dead,.dead,.dead,.dead]),(false,[.dead])]),sV 48 (Vec.row r20.1),sI 46 v19.Co,(45,.fad (((Pt.row v19).drop 1))),(44,.fad ((Pt.row v19))),sI 43 y1,sC 42 (cF 8 x1 Pt.row),sV 41 ((Pt.row v18).drop 3),(40,.fad (((Pt.row v18).drop 3))),(39,.fad ((Pt.row v18))),sI 38 y1,sC 37 (cF 8 x1 Pt.row),sB 35 false,sB 34 false,sB 33 v17.Has,(32,.fad (((Pt.row v17).drop 2))),(31,.fad ((Pt.row v17))),sI 30 y1,sC 29 (cF 8 x1 Pt.row),sB 28 false,sB 27 false,sB 26 v16.Up,(25,.fad ((Pt.row v16))),(24,.fad ((Pt.row v16))),sI 23 y1,sC 22 (cF 8 x1 Pt.row),sB 19 true,sI 18 (x1.length : Int),sC 17 (cF 8 x1 Pt.row),sI 16 y1,sI 9 y1,sI 8 y2,sA 7 7 5 0,sA 6 6 5 0,sI 5 0,sA 4 4 5 0,sI 0 x0,sC 1 (cF 8 x1 Pt.row)],[(10,(Vec.row r20.1)),(7,[cI y3,cI y4,cI y5,cI y6,cI y7]),(6,[cI y8,cI y9,cI y10,cI x0,cI 0]),(4,[cI 0,cI 0,cI 0,cI 0,cI 0])]⟩) (fun v => Z6 n (fun v => qE n mo15 x0 x1 v.1 v.2.1 v.2.2.1 v.2.2.2.1 v.2.2.2.2.1 v.2.2.2.2.2.1 v.2.2.2.2.2.2.1 v.2.2.2.2.2.2.2.1 v.2.2.2.2.2.2.2.2.1 v.2.2.2.2.2.2.2.2.2) r20 y1 y10 y2 y3 y4 y5 y6 y7 y8 y9 v.1 v.2.1 v.2.2.1 v.2.2.2.1 v.2.2.2.2.1 v.2.2.2.2.2.1 v.2.2.2.2.2.2 = some o15) ?_ ?_
    ·refine Tr.at<|lA 2 ?_
     obtain ⟨h5,H⟩ | ⟨h5,H⟩ := bC H
     ·refine qL 0xf7fffffcf0ff3 1232 [51,50,11,49] h5<|uA 14 0x3ffff7fffffcf0ff3 1232<|sB' 0x3ffff7fffffcf0ff3 1232 ⟨78,0,[sB 65 false,(64,.tup []),(63,.tup []),(62,.tup []),(61,.tup []),(60,.tup []),(59,.tup []),(58,.tup []),sB 57 false,sB 56 false,(55,.tup []),(54,.tup []),(53,.tup []),(52,.tup []),sB 51 false,sB 50 false,sB 11 false,sA 10 10 5 0,sB 49 false,(36,.tup [(true,[.dead,.dead,.dead,.dead,.dead]),(false,[.dead])]),sV 48 (Vec.row r20.1),sI 46 v19.Co,(45,.fad (((Pt.row v19).drop 1))),(44,.fad ((Pt.row v19))),sI 43 y1,sC 42 (cF 8 x1 Pt.row),sV 41 ((Pt.row v18).drop 3),(40,.fad (((Pt.row v18).drop 3))),(39,.fad ((Pt.row v18))),sI 38 y1,sC 37 (cF 8 x1 Pt.row),sB 35 (!v17.Has),sB 34 (!v17.Has),sB 33 v17.Has,(32,.fad (((Pt.row v17).drop 2))),(31,.fad ((Pt.row v17))),sI 30 y1,sC 29 (cF 8 x1 Pt.row),sB 28 false,sB 27 false,sB 26 v16.Up,(25,.fad ((Pt.row v16))),(24,.fad ((Pt.row v16))),sI 23 y1,sC 22 (cF 8 x1 Pt.row),sB 19 (decide (y1 < (x1.length : Int))),sI 18 (x1.length : Int),sC 17 (cF 8 x1 Pt.row),sI 16 y1,sI 9 y1,sI 8 y2,sA 7 7 5 0,sA 6 6 5 0,sI 5 0,sA 4 4 5 0,sI 0 x0,sC 1 (cF 8 x1 Pt.row)],[(10,(Vec.row r20.1)),(7,[cI y3,cI y4,cI y5,cI y6,cI y7]),(6,[cI y8,cI y9,cI y10,cI x0,cI 0]),(4,[cI 0,cI 0,cI 0,cI 0,cI 0])]⟩ ?_
      rw [h1]
      rw [h3]
      exact jA (false,false,false,false,false,false,false) H [65,57,56,51,50,11,10,49,36,48,46,45,44,43,42,41,40,39,38,37,35,34,33,32,31,30,29,28,27,26,25,24,23,22,19,18,17,16,9,8,7,6,5,4,0,1] [10,7,6,4]
     refine qL 0xf7fffffcf0ff3 1232 [51,50,11,49] h5<|lA 6 ?_
     obtain ⟨h6,H⟩ | ⟨h6,H⟩ := bC H
     ·refine qL 0x3ff7fffffcf0ff3 1232 [57,56,55] h6<|uA 8 0x3ffff7fffffcf0ff3 1232<|sB' 0x3ffff7fffffcf0ff3 1232 ⟨78,0,[sB 65 false,(64,.tup []),(63,.tup []),(62,.tup []),(61,.tup []),(60,.tup []),(59,.tup []),(58,.tup []),sB 57 false,sB 56 false,sB 55 false,sI 54 x0,sI 53 r20.1.Root,sA 52 10 5 0,sB 51 true,sB 50 true,sB 11 true,sA 10 10 5 0,sB 49 true,(36,.tup [(true,[.dead,.dead,.dead,.dead,.dead]),(false,[.dead])]),sV 48 (Vec.row r20.1),sI 46 v19.Co,(45,.fad (((Pt.row v19).drop 1))),(44,.fad ((Pt.row v19))),sI 43 y1,sC 42 (cF 8 x1 Pt.row),sV 41 ((Pt.row v18).drop 3),(40,.fad (((Pt.row v18).drop 3))),(39,.fad ((Pt.row v18))),sI 38 y1,sC 37 (cF 8 x1 Pt.row),sB 35 (!v17.Has),sB 34 (!v17.Has),sB 33 v17.Has,(32,.fad (((Pt.row v17).drop 2))),(31,.fad ((Pt.row v17))),sI 30 y1,sC 29 (cF 8 x1 Pt.row),sB 28 false,sB 27 false,sB 26 v16.Up,(25,.fad ((Pt.row v16))),(24,.fad ((Pt.row v16))),sI 23 y1,sC 22 (cF 8 x1 Pt.row),sB 19 (decide (y1 < (x1.length : Int))),sI 18 (x1.length : Int),sC 17 (cF 8 x1 Pt.row),sI 16 y1,sI 9 y1,sI 8 y2,sA 7 7 5 0,sA 6 6 5 0,sI 5 0,sA 4 4 5 0,sI 0 x0,sC 1 (cF 8 x1 Pt.row)],[(10,(Vec.row r20.1)),(7,[cI y3,cI y4,cI y5,cI y6,cI y7]),(6,[cI y8,cI y9,cI y10,cI x0,cI 0]),(4,[cI 0,cI 0,cI 0,cI 0,cI 0])]⟩ ?_
      rw [h1]
      rw [h3]
      exact jA (false,false,false,true,true,true,true) H [65,57,56,51,50,11,10,49,36,48,46,45,44,43,42,41,40,39,38,37,35,34,33,32,31,30,29,28,27,26,25,24,23,22,19,18,17,16,9,8,7,6,5,4,0,1] [10,7,6,4]
     refine qL 0x3ff7fffffcf0ff3 1232 [57,56,55] h6<|lA 3 ?_
     obtain ⟨h7,H⟩ | ⟨h7,H⟩ := bC H
     ·refine qL 0x1fff7fffffcf0ff3 1232 [60,59] h7<|lA 2<|bE H fun r28 er28 H=> vA [.rd,.rd] (zH7 n r20.1 (⟨y3,y4,y5,y6,y7⟩ : Vec) r28 er28)<|uA 2 0x3ffff7fffffcf0ff3 1232<|sB' 0x3ffff7fffffcf0ff3 1232 ⟨78,0,[sB 65 r28,sB 64 r28,sB 63 r28,sV 62 [cI y3,cI y4,cI y5,cI y6,cI y7],sV 61 (Vec.row r20.1),sB 60 false,sB 59 false,sI 58 y2,sB 57 true,sB 56 true,sB 55 true,sI 54 x0,sI 53 r20.1.Root,sA 52 10 5 0,sB 51 true,sB 50 true,sB 11 true,sA 10 10 5 0,sB 49 true,(36,.tup [(true,[.dead,.dead,.dead,.dead,.dead]),(false,[.dead])]),sV 48 (Vec.row r20.1),sI 46 v19.Co,(45,.fad (((Pt.row v19).drop 1))),(44,.fad ((Pt.row v19))),sI 43 y1,sC 42 (cF 8 x1 Pt.row),sV 41 ((Pt.row v18).drop 3),(40,.fad (((Pt.row v18).drop 3))),(39,.fad ((Pt.row v18))),sI 38 y1,sC 37 (cF 8 x1 Pt.row),sB 35 (!v17.Has),sB 34 (!v17.Has),sB 33 v17.Has,(32,.fad (((Pt.row v17).drop 2))),(31,.fad ((Pt.row v17))),sI 30 y1,sC 29 (cF 8 x1 Pt.row),sB 28 false,sB 27 false,sB 26 v16.Up,(25,.fad ((Pt.row v16))),(24,.fad ((Pt.row v16))),sI 23 y1,sC 22 (cF 8 x1 Pt.row),sB 19 (decide (y1 < (x1.length : Int))),sI 18 (x1.length : Int),sC 17 (cF 8 x1 Pt.row),sI 16 y1,sI 9 y1,sI 8 y2,sA 7 7 5 0,sA 6 6 5 0,sI 5 0,sA 4 4 5 0,sI 0 x0,sC 1 (cF 8 x1 Pt.row)],[(10,(Vec.row r20.1)),(7,[cI y3,cI y4,cI y5,cI y6,cI y7]),(6,[cI y8,cI y9,cI y10,cI x0,cI 0]),(4,[cI 0,cI 0,cI 0,cI 0,cI 0])]⟩ ?_
      rw [h1]
      rw [h3]
      exact jA (r28,true,true,true,true,true,true) H [65,57,56,51,50,11,10,49,36,48,46,45,44,43,42,41,40,39,38,37,35,34,33,32,31,30,29,28,27,26,25,24,23,22,19,18,17,16,9,8,7,6,5,4,0,1] [10,7,6,4]
     refine qL 0x1fff7fffffcf0ff3 1232 [60,59] h7<|uA 5 0x3ffff7fffffcf0ff3 1232<|sB' 0x3ffff7fffffcf0ff3 1232 ⟨78,0,[sB 65 true,sB 64 true,(63,.tup []),(62,.tup []),(61,.tup []),sB 60 true,sB 59 true,sI 58 y2,sB 57 true,sB 56 true,sB 55 true,sI 54 x0,sI 53 r20.1.Root,sA 52 10 5 0,sB 51 true,sB 50 true,sB 11 true,sA 10 10 5 0,sB 49 true,(36,.tup [(true,[.dead,.dead,.dead,.dead,.dead]),(false,[.dead])]),sV 48 (Vec.row r20.1),sI 46 v19.Co,(45,.fad (((Pt.row v19).drop 1))),(44,.fad ((Pt.row v19))),sI 43 y1,sC 42 (cF 8 x1 Pt.row),sV 41 ((Pt.row v18).drop 3),(40,.fad (((Pt.row v18).drop 3))),(39,.fad ((Pt.row v18))),sI 38 y1,sC 37 (cF 8 x1 Pt.row),sB 35 (!v17.Has),sB 34 (!v17.Has),sB 33 v17.Has,(32,.fad (((Pt.row v17).drop 2))),(31,.fad ((Pt.row v17))),sI 30 y1,sC 29 (cF 8 x1 Pt.row),sB 28 false,sB 27 false,sB 26 v16.Up,(25,.fad ((Pt.row v16))),(24,.fad ((Pt.row v16))),sI 23 y1,sC 22 (cF 8 x1 Pt.row),sB 19 (decide (y1 < (x1.length : Int))),sI 18 (x1.length : Int),sC 17 (cF 8 x1 Pt.row),sI 16 y1,sI 9 y1,sI 8 y2,sA 7 7 5 0,sA 6 6 5 0,sI 5 0,sA 4 4 5 0,sI 0 x0,sC 1 (cF 8 x1 Pt.row)],[(10,(Vec.row r20.1)),(7,[cI y3,cI y4,cI y5,cI y6,cI y7]),(6,[cI y8,cI y9,cI y10,cI x0,cI 0]),(4,[cI 0,cI 0,cI 0,cI 0,cI 0])]⟩ ?_
     rw [h1]
     rw [h3]
     exact jA (true,true,true,true,true,true,true) H [65,57,56,51,50,11,10,49,36,48,46,45,44,43,42,41,40,39,38,37,35,34,33,32,31,30,29,28,27,26,25,24,23,22,19,18,17,16,9,8,7,6,5,4,0,1] [10,7,6,4]
    rintro ⟨y21,y22,y23,y24,y25,y26,y27⟩ H
    have H : (Z6 n (fun v => qE n mo15 x0 x1 v.1 v.2.1 v.2.2.1 v.2.2.2.1 v.2.2.2.2.1 v.2.2.2.2.2.1 v.2.2.2.2.2.2.1 v.2.2.2.2.2.2.2.1 v.2.2.2.2.2.2.2.2.1 v.2.2.2.2.2.2.2.2.2) r20 y1 y10 y2 y3 y4 y5 y6 y7 y8 y9 y21 y22 y23 y24 y25 y26 y27) = some o15 := H
    unfold Z6 at H
    cases h4 : y21
    ·have H := qe h4 H
     exact nB_<|tK<|eA 3 0x2030f7fffffff0ff3 1232<|jB mo15 ((wI (y1 + 1)),y2,y3,y4,y5,y6,y7,y8,y9,y10) H [9,8,7,6,5,4,0,1] [7,6,4]
    have H := qf h4 H
    exact tB_<|gA 2 0x6030f7fffffcf0ff3 1232<|gA 2 0xe030f7fffffcf0ff3 1232<|eA 9 0xffe030f7fffffcf0ff3 1232<|eA 3 0xffe030f7fffffff0ff3 1232<|jB mo15 ((wI (y1 + 1)),y1,r20.1.Root,r20.1.Co,r20.1.Hops,r20.1.Bridge,r20.1.Port,r20.1.Root,r20.1.Co,r20.1.Hops) H [9,8,7,6,5,4,0,1] [7,6,4]
   exact tA h3<|Tr.exit<|aJ<|eA 3 68719412211 208<|jB mo15 ((wI (y1 + 1)),y2,y3,y4,y5,y6,y7,y8,y9,y10) H [9,8,7,6,5,4,0,1] [7,6,4]
  exact qL 533660659 208 [28,27] h2<|uA 7 68716266483 208<|tB_<|Tr.exit<|aJ<|eA 3 68719412211 208<|jB mo15 ((wI (y1 + 1)),y2,y3,y4,y5,y6,y7,y8,y9,y10) H [9,8,7,6,5,4,0,1] [7,6,4]
 rintro ⟨y11,y12,y13,y14⟩ H
 have H : (zBO n x0 y11 y12 y13 y14) = some r := H
 unfold zBO at H
 exact gA 4 48 16<|te (fJ [(true,[cI y12,cI y13,cI y14,cI x0,cI 0]),(false,[cI y11])] H)
def qi (n : Nat) (x0 : Int) (x1 : (List Pt)) (x2 : Int) : Option (Vec) :=
  ((Qi n x0 x1).bind fun r1 => (some (⟨r1.1.Root,r1.1.Co,r1.1.Hops,r1.1.Bridge,x2⟩ : Vec)))
theorem zGQ (n : Nat) (x0 : Int) (x1 : (List Pt)) (x2 : Int) (r : Vec) (H : qi n x0 x1 x2 = some r) : zE Tryz.prog 180 [.val false [.lit (.int .i64 x0)],.val false [.sl false 8 (CV.frzEs (x1.map Pt.row))],.val false [.lit (.int .i64 x2)]] [.val true (Vec.row r)] [] := by
 refine cW Tryz.func180 (fun g d => sl [g 0,g 1,g 2,g 3] .ret) [.cell 6 33] fun cx=>?_
 unfold qi at H
 exact gA 1 71 64<|rA 2<|bE H fun r1 er1 H=> vA [.rd,.rd] (zH4 n x0 x1 r1 er1)<|LAt.movT tOk (ty := 135) (t := 12) (d := 9) (g := none) [(true,(Vec.row r1.1)),(false,[cI r1.2])] _ kr (.inl rfl) kr kr kr kr rfl<|uA 5 196 192<|gA 3 192 192<|gA 2 64 64<|te (fJ [(true,[cI r1.1.Root,cI r1.1.Co,cI r1.1.Hops,cI r1.1.Bridge,cI x2])] H)
def JY (n : Nat) (x0 : Int) (x1 : (List Pt)) (x2 : Int) : Option (Int) :=
  ((zR n x2 0 (IntKind.wrap .i64 ((x1.length : Int) - 1))).bind fun r1 => (bif (!r1) then (some 4) else ((idx x1 x2).bind fun v2 => (bif (!v2.Up) then (some 4) else ((Qi n x0 x1).bind fun r3 => (bif (r3.2 == x2) then (some 1) else ((idx x1 x2).bind fun v4 => (bif (!v4.Has) then (some 2) else ((qi n x0 x1 x2).bind fun r5 => ((idx x1 x2).bind fun v6 => ((Y5 n r5 v6.Hd).bind fun r7 => (bif r7 then (some 2) else (some 3)))))))))))))
def zP5 : Tab := ⟨19,[0,0,3,4,8,16,32,64,64,64,960,64,64,6208,8256,16448,33856,65600,196608],[0,0,3,4,8,16,32,64,64,64,960,64,64,6208,8256,16448,33856,65600,131072],[0,0,3,7,15,31,63,127,127,127,1023,127,127,6271,14463,30847,65535,131071,262143]⟩
theorem JR : zc (rg Tryz.f189 6) zP5 = true := kr
theorem zMj (n : Nat) (x0 : Int) (x1 : (List Pt)) (x2 : Int) (r : Int) (H : JY n x0 x1 x2 = some r) : zE Tryz.prog 189 [.val false [.lit (.int .i64 x0)],.val false [.sl false 8 (CV.frzEs (x1.map Pt.row))],.val false [.lit (.int .i64 x2)]] [.val false [.lit (.int .i64 r)]] [] := by
 refine cW Tryz.func189 (fun g d => sl [g 0,sl [g 1] (cn 22 (sl [g 2] .ret) .skip),g 3,.block 0 (sl [g 4] (cn 29 (sl [g 5] .ret) (sl [d 6] (cn 33 (sl [g 7] .ret) .skip)))),g 8] .ret) [.tmp 6] fun cx=>?_
 unfold JY at H
 refine gA 1 7 0<|tS<|rA 2<|kF x1 Pt.row<|lA 1<|bE H fun r1 er1 H=> vA [.rd,.rd,.rd] (zS n x2 0 (wI ((x1.length : Int) - 1)) r1 er1)<|lA 2 ?_
 obtain ⟨h1,H⟩ | ⟨h1,H⟩ := bC H
 ·refine qL 32775 0 [15] h1<|lA 2<|bE H fun v2 ev2 H=> iA Pt.row ev2<|uA 4 4194311 0 ?_
  obtain ⟨h2,H⟩ | ⟨h2,H⟩ := bC H
  ·refine nA h2<|tK<|rA 2<|bE H fun r3 er3 H=> vA [.rd,.rd] (zH4 n x0 x1 r3 er3)<|LAt.movT tOk (ty := 135) (t := 26) (d := 23) (g := none) [(true,(Vec.row r3.1)),(false,[cI r3.2])] _ kr (.inl rfl) kr kr kr kr rfl<|uA 5 263 0<|tS<|tB<|gA 4 536870919 0 ?_
   obtain ⟨h3,H⟩ | ⟨h3,H⟩ := bC H
   ·refine nA h3<|bE H fun v4 ev4 H=> sT ⟨52,0,[sB 29 (r3.2 == x2),sI 0 x0,sC 1 (cF 8 x1 Pt.row),sI 2 x2],[]⟩ ?_
    cases h4 : (!v4.Has)
    ·have H := qe h4 H
     refine bE H fun r5 er5 H=> bE H fun v6 ev6 H=> bE H fun r7 er7 H=> Tr.draws mixed 19 kr ⟨52,0,[sB 33 r7],[]⟩ (fun cx=>?_) ?_
     ·exact mA JR [(0,[]),(1,[])] 17 [] fun cx=>iN JR 2 Pt.row ev4 fun cx=>mA JR (zl [3,4,5,6]) 12 [] fun cx=>qA 1099511627783 0 [40] h4<|mA JR (zl [7,8,9,11,12]) 7 [] fun cx=>iN JR 13 Pt.row ev6 fun cx=>mA JR [(14,[]),(15,[])] 4 [] fun cx=>mC JR 10<|vA [.rd,.rd,.rd] (zGQ n x0 x1 x2 r5 er5)<|fA<|mC JR 16<|vA [.rd,.rd] (zH7 n r5 v6.Hd r7 er7)<|fA<|mA JR [(17,[]),(18,[])] 0 [] fun cx=>mE JR [33] []
     cases h5 : r7
     ·have H := qe h5 H
      exact nB_<|tK<|gA 1 64 0<|te (fJ [(false,[cI 3])] H)
     have H := qf h5 H
     exact tB_<|gA 1 64 0<|te (fJ [(false,[cI 2])] H)
    have H := qf h4 H
    refine Tr.draws mixed 19 kr ⟨52,0,[sB 33 true],[]⟩ (fun cx=>?_) ?_
    ·exact mA JR [(0,[]),(1,[])] 17 [] fun cx=>iN JR 2 Pt.row ev4 fun cx=>mA JR (zl [3,4,5,6]) 12 [] fun cx=>qA 1099511627783 0 [40] h4<|mA JR (zl [7,8,9,10,11,12,13,14,15,16,17,18]) 0 [] fun cx=>mE JR [33] []
    exact tB_<|gA 1 64 0<|te (fJ [(false,[cI 2])] H)
   exact tA h3<|gA 1 64 0<|te (fJ [(false,[cI 1])] H)
  exact tA h2<|gA 1 64 0<|te (fJ [(false,[cI 4])] H)
 exact qL 32775 0 [15] h1<|uA 7 4194311 0<|tB_<|gA 1 64 0<|te (fJ [(false,[cI 4])] H)
def zCu (n : Nat) (y3 : Int) : Option (Int) :=
  (some y3)
def QK (n : Nat) : Nat → Int → (List Pt) → Int → Int → Option ((Int) ⊕ (Int))
  | 0,_,_,_,_ => none
  | mo4 + 1,x0,x1,y1,y2 => (bif (decide (y1 < (x1.length : Int))) then (bif (decide (y1 < 6)) then ((JY n x0 x1 y1).bind fun r5 => (bif (decide (r5 ≤ 2)) then (bif (decide ((0 : Int) ≤ (IntKind.wrap .u64 y1))) then (QK n mo4 x0 x1 (IntKind.wrap .i64 (y1 + 1)) (IntKind.wrap .i64 (BitVec.ofInt (IntKind.bits .i64) y2 ||| BitVec.ofInt (IntKind.bits .i64) (IntKind.wrap .i64 (1 * 2 ^ min (((IntKind.wrap .u64 y1) : Int)).toNat (IntKind.bits .i64)))).toNat)) else none) else (QK n mo4 x0 x1 (IntKind.wrap .i64 (y1 + 1)) y2))) else (some (Sum.inl y2))) else (some (Sum.inl y2)))
def QJ (n : Nat) (x0 : Int) (x1 : (List Pt)) : Option (Int) :=
  ((QK n n x0 x1 0 0).bind fun o => match o with | .inl y3 => (zCu n y3) | .inr r => some r)
theorem zNb (n : Nat) (x0 : Int) (x1 : (List Pt)) (r : Int) (H : QJ n x0 x1 = some r) : zE Tryz.prog 164 [.val false [.lit (.int .i64 x0)],.val false [.sl false 8 (CV.frzEs (x1.map Pt.row))]] [.val false [.lit (.int .i64 r)]] [] := by
 refine cW Tryz.func164 (fun g d => sl [g 0,g 1,sl [g 2] (.block 0 (.loop (sl [sl [g 3] (cn 14 .skip (.exit 0)),.block 1 (sl [g 5] (cn 21 (g 6) .skip))] (g 4)))),g 7] .ret) [.tmp 4] fun cx=>?_
 unfold QJ at H
 refine gA 1 3 0<|gA 1 35 0<|tS<|gA 1 99 0 ?_
 obtain ⟨o4,eo4,Ho4⟩ := bs H
 clear H
 refine Tr.mid (ι := Int) (fun v => ⟨28,0,[sI 5 v],[]⟩) (fun v => zCu n v = some r) ?_ ?_
 ·refine tB<|Tr.loop (ι := Nat × (Int × Int)) (fun v => ⟨28,0,[sI 6 v.2.1,sI 5 v.2.2,sI 0 x0,sC 1 (cF 8 x1 Pt.row)],[]⟩) (fun v => QK n v.1 x0 x1 v.2.1 v.2.2 = some o4) (fun v => v.1) (n,(0,0)) eo4 (St.sub_of [6,5,0,1] [] kr) ?_
  rintro ⟨_ | mo4,y1,y2⟩ H
  ·exact nN H
  have H : QK n (mo4+1) x0 x1 y1 y2 = some o4 := H
  rw [QK] at H
  refine tS<|rA 2<|kF x1 Pt.row<|lA 2 ?_
  obtain ⟨h1,H⟩ | ⟨h1,H⟩ := bC H
  ·refine qL 2147 0 [11] h1<|uA 3 16483 0<|nB_<|Tr.exit<|aJ ?_
   cases H
   exact jA y2 Ho4 [5] []
  refine qL 2147 0 [11] h1<|uA 3 16483 0 ?_
  obtain ⟨h2,H⟩ | ⟨h2,H⟩ := bC H
  ·refine nA h2<|Tr.exit<|aJ ?_
   cases H
   exact jA y2 Ho4 [5] []
  refine tA h2<|tK<|tS<|tB<|rA 3<|bE H fun r5 er5 H=> vA [.rd,.rd,.rd] (zMj n x0 x1 y1 r5 er5)<|uA 1 2097251 0 ?_
  obtain ⟨h3,H⟩ | ⟨h3,H⟩ := bC H
  ·exact nA h3<|tK<|eA 3 99 0<|jB mo4 ((wI (y1 + 1)),y2) H [6,5,0,1] []
  exact tA h3<|Tr.at<|lA 3<|gE H fun hg6 H=> LAt.binC tOk (op := .shl) (t := 3) (ty := 163) (ty' := 3) (x := (.const (.int .i64 1))) (y := (.tmp 24)) (d := 25) (g := none) (.int .i64 1) (.int .u64 (IntKind.wrap .u64 y1)) (.int .i64 (wI (1 * 2 ^ min (((IntKind.wrap .u64 y1) : Int)).toNat (IntKind.bits .i64)))) _ kr kr kr kr kr (φ := (0 : Int) ≤ (IntKind.wrap .u64 y1)) kr (of_decide_eq_true hg6) rfl<|uA 2 99 0<|eA 3 99 0<|jB mo4 ((wI (y1 + 1)),(wI (bO y2 ||| bO (wI (1 * 2 ^ min (((IntKind.wrap .u64 y1) : Int)).toNat (IntKind.bits .i64)))).toNat)) H [6,5,0,1] []
 rintro y3 H
 have H : (zCu n y3) = some r := H
 unfold zCu at H
 exact gA 2 16 0<|te (fJ [(false,[cI y3])] H)
def zCd (n : Nat) (x0 : Int) (x1 : Int) : Option (Bool) :=
  ((zR n x1 0 7).bind fun r1 => (bif r1 then (bif (decide ((0 : Int) ≤ (IntKind.wrap .u64 x1))) then (some ((IntKind.wrap .i64 (BitVec.ofInt (IntKind.bits .i64) (Int.fdiv x0 (2 ^ min (((IntKind.wrap .u64 x1) : Int)).toNat (IntKind.bits .i64))) &&& BitVec.ofInt (IntKind.bits .i64) 1).toNat) == 1)) else none) else (some false)))
theorem zNe (n : Nat) (x0 : Int) (x1 : Int) (r : Bool) (H : zCd n x0 x1 = some r) : zE Tryz.prog 165 [.val false [.lit (.int .i64 x0)],.val false [.lit (.int .i64 x1)]] [.val false [.lit (.bool r)]] [] := by
 refine cW Tryz.func165 (fun g d => sl [g 0,g 1] .ret) [.tmp 4] fun cx=>?_
 unfold zCd at H
 refine gA 1 3 0<|rA 1<|bE H fun r1 er1 H=> vA [.rd,.rd,.rd] (zS n x1 0 7 r1 er1)<|lA 1 ?_
 obtain ⟨h1,H⟩ | ⟨h1,H⟩ := bC H
 ·exact qL 131 0 [7] h1<|uA 8 16 0<|te (fF H)
 exact qL 131 0 [7] h1<|lA 3<|gE H fun hg2 H=> LAt.binC tOk (op := .shr) (t := 3) (ty := 163) (ty' := 3) (x := (.tmp 8)) (y := (.tmp 10)) (d := 11) (g := (some (2,true))) (.int .i64 x0) (.int .u64 (IntKind.wrap .u64 x1)) (.int .i64 (Int.fdiv x0 (2 ^ min (((IntKind.wrap .u64 x1) : Int)).toNat (IntKind.bits .i64)))) _ kr kr kr kr kr (φ := (0 : Int) ≤ (IntKind.wrap .u64 x1)) kr (of_decide_eq_true hg2) rfl<|uA 4 16 0<|te (fJ [(false,[cB ((wI (bO (Int.fdiv x0 (2 ^ min (((IntKind.wrap .u64 x1) : Int)).toNat (IntKind.bits .i64))) &&& bO 1).toNat) == 1)])] H)
def Y7 (n : Nat) (y3 : (List zB)) : Option ((List zB)) :=
  (some y3)
def qt (n : Nat) : Nat → (List zB) → Int → Int → (List zB) → Option (((List zB)) ⊕ ((List zB)))
  | 0,_,_,_,_ => none
  | mo4 + 1,x0,x1,y1,y2 => (bif (decide (y1 < (x0.length : Int))) then ((idx x0 y1).bind fun v5 => (bif v5.Sc then ((idx x0 y1).bind fun v9 => (bif (decide (y2.length + [v9].length ≤ 268435456)) then (qt n mo4 x0 x1 (IntKind.wrap .i64 (y1 + 1)) (y2 ++ [v9])) else none)) else ((idx x0 y1).bind fun v6 => (bif (v6.Port != x1) then ((idx x0 y1).bind fun v7 => (bif (decide (y2.length + [v7].length ≤ 268435456)) then (qt n mo4 x0 x1 (IntKind.wrap .i64 (y1 + 1)) (y2 ++ [v7])) else none)) else (qt n mo4 x0 x1 (IntKind.wrap .i64 (y1 + 1)) y2))))) else (some (Sum.inl y2)))
def Jz (n : Nat) (x0 : (List zB)) (x1 : Int) : Option ((List zB)) :=
  ((qt n n x0 x1 0 ([] : List zB)).bind fun o => match o with | .inl y3 => (Y7 n y3) | .inr r => some r)
theorem zKj (n : Nat) (x0 : (List zB)) (x1 : Int) (r : (List zB)) (H : Jz n x0 x1 = some r) : zE Tryz.prog 166 [.val false [.sl false 5 (CV.frzEs (x0.map zB.row))],.val false [.lit (.int .i64 x1)]] [.val false [.sl true 5 (r.map zB.row)]] [] := by
 refine cW Tryz.func166 (fun g d => sl [g 0,g 1,sl [g 2] (.block 0 (.loop (sl [sl [g 3] (cn 11 .skip (.exit 0)),.block 1 (sl [g 5] (cn 27 (g 6) .skip))] (g 4)))),g 7] .ret) [.tmp 4] fun cx=>?_
 unfold Jz at H
 refine gA 1 3 0<|rA 1<|LAt.moveU (T := lk tab) (ty := 25) (x := (.tmp 7)) (d := 5) (g := none) false [cL 5 ([] : List zB) zB.row] kr kr kr kr kr<|dA 35 0<|tS<|gA 1 99 0 ?_
 obtain ⟨o4,eo4,Ho4⟩ := bs H
 clear H
 refine Tr.mid (ι := (List zB)) (fun v => ⟨36,0,[sC 5 (cL 5 v zB.row)],[]⟩) (fun v => Y7 n v = some r) ?_ ?_
 ·refine tB<|Tr.loop (ι := Nat × (Int × (List zB))) (fun v => ⟨36,0,[sI 6 v.2.1,sC 5 (cL 5 v.2.2 zB.row),sC 0 (cF 5 x0 zB.row),sI 1 x1],[]⟩) (fun v => qt n v.1 x0 x1 v.2.1 v.2.2 = some o4) (fun v => v.1) (n,(0,([] : List zB))) eo4 (St.sub_of [6,5,0,1] [] kr) ?_
  rintro ⟨_ | mo4,y1,y2⟩ H
  ·exact nN H
  have H : qt n (mo4+1) x0 x1 y1 y2 = some o4 := H
  rw [qt] at H
  refine tS<|rA 2<|kF x0 zB.row<|uA 1 2147 0 ?_
  obtain ⟨h1,H⟩ | ⟨h1,H⟩ := bC H
  ·refine nA h1<|Tr.exit<|aJ ?_
   cases H
   exact jA y2 Ho4 [5] []
  refine tA h1<|tK<|tS<|tB<|tS<|Tr.at<|lA 2<|bE H fun v5 ev5 H=> iA zB.row ev5<|lA 3 ?_
  obtain ⟨h2,H⟩ | ⟨h2,H⟩ := bC H
  ·refine qL 524387 0 [19] h2<|lA 2<|bE H fun v6 ev6 H=> iA zB.row ev6<|uA 5 134217827 0 ?_
   obtain ⟨h3,H⟩ | ⟨h3,H⟩ := bC H
   ·exact nA h3<|tK<|eA 3 99 0<|jB mo4 ((wI (y1 + 1)),y2) H [6,5,0,1] []
   exact tA h3<|Tr.at<|lA 3<|bE H fun v7 ev7 H=> iA zB.row ev7<|lA 2<|gE H fun hg8 H=> LAt.appMU tOk (t := 25) (ty := 25) (e := 103) (x := (.tmp 28)) (y := (.tmp 33)) (d := 34) (g := none) (tI 103) zB.row y2 [v7] kr kr kr kr kr kr kr kr kr kr hg8<|LAt.moveU (T := lk tab) (ty := 25) (x := (.tmp 34)) (d := 5) (g := none) false [cL 5 (y2 ++ [v7]) zB.row] kr kr kr kr kr<|dA 99 0<|eA 3 99 0<|jB mo4 ((wI (y1 + 1)),(y2 ++ [v7])) H [6,5,0,1] []
  exact qL 524387 0 [19] h2<|uA 8 134217827 0<|tB_<|Tr.at<|lA 3<|bE H fun v9 ev9 H=> iA zB.row ev9<|lA 2<|gE H fun hg10 H=> LAt.appMU tOk (t := 25) (ty := 25) (e := 103) (x := (.tmp 28)) (y := (.tmp 33)) (d := 34) (g := none) (tI 103) zB.row y2 [v9] kr kr kr kr kr kr kr kr kr kr hg10<|LAt.moveU (T := lk tab) (ty := 25) (x := (.tmp 34)) (d := 5) (g := none) false [cL 5 (y2 ++ [v9]) zB.row] kr kr kr kr kr<|dA 99 0<|eA 3 99 0<|jB mo4 ((wI (y1 + 1)),(y2 ++ [v9])) H [6,5,0,1] []
 rintro y3 H
 have H : (Y7 n y3) = some r := H
 unfold Y7 at H
 exact gA 2 48 0<|te (fJ [(false,[cL 5 y3 zB.row])] H)
def zAD (n : Nat) (r1 : Int) (x0 : zA) (y5 : (List zB)) : Option (zA) :=
  (some (⟨x0.Id,x0.Name,x0.Ps,y5,x0.V,x0.Tk,x0.Pa,x0.Wo,x0.Dr,r1⟩ : zA))
def qV (n : Nat) : Nat → Int → zA → Int → (List zB) → Option (((List zB)) ⊕ (zA))
  | 0,_,_,_,_ => none
  | mo6 + 1,r2,x0,y3,y4 => (bif (decide (y3 < (x0.Ps.length : Int))) then ((zCd n r2 y3).bind fun r7 => (bif (!r7) then ((Jz n y4 y3).bind fun r8 => (qV n mo6 r2 x0 (IntKind.wrap .i64 (y3 + 1)) r8)) else (qV n mo6 r2 x0 (IntKind.wrap .i64 (y3 + 1)) y4))) else (some (Sum.inl y4)))
def qz (n : Nat) (x0 : zA) : Option (zA) :=
  ((JZ n x0.Ve).bind fun r1 => ((QJ n x0.Id x0.Ps).bind fun r2 => ((qV n n r2 x0 0 x0.F).bind fun o => match o with | .inl y5 => (zAD n r1 x0 y5) | .inr r => some r)))
theorem zDx (n : Nat) (x0 : zA) (r : zA) (H : qz n x0 = some r) : zE Tryz.prog 92 [.own true (zA.row x0)] [.val true (zA.row r)] [] := by
 refine cW Tryz.func92 (fun g d => sl [g 0,g 1,g 2,sl [g 3] (.block 0 (.loop (sl [sl [g 4] (cn 18 .skip (.exit 0)),.block 1 (sl [g 6] (cn 24 (g 7) .skip))] (g 5)))),g 8] .ret) [.cell 2 31] fun cx=>?_
 unfold qz at H
 refine gA 2 6 6<|rA 2<|bE H fun r1 er1 H=> vA [.rd] (zIs n x0.Ve r1 er1)<|uA 2 6 6<|rA 4<|bE H fun r2 er2 H=> vB [.rd,.rd] [.box 1] (zNb n x0.Id x0.Ps r2 er2) (.inr (zM (zJ zN zg) zT))<|uA 1 14 6<|tS<|gA 1 30 6 ?_
 obtain ⟨o6,eo6,Ho6⟩ := bs H
 clear H
 refine Tr.mid (ι := (List zB)) (fun v => ⟨31,0,[sA 2 2 11 0,sA 1 1 11 0],[(1,[cI x0.Id,cS x0.Name,cL 8 x0.Ps Pt.row,cL 5 v zB.row,cL 3 x0.V.Rows zC.row,cL 1 x0.V.Pv intRow,cI x0.Tk,cI x0.Pa,cI x0.Wo,cI x0.Dr,cI r1]),(2,[cI 0,cS (⟨#[]⟩ : ByteArray),cL 8 ([] : List Pt) Pt.row,cL 5 ([] : List zB) zB.row,cL 3 ([] : List zC) zC.row,cL 1 ([] : List Int) intRow,cI 0,cI 0,cI 0,cI 0,cI 0])]⟩) (fun v => zAD n r1 x0 v = some r) ?_ ?_
 ·refine tB<|Tr.loop (ι := Nat × (Int × (List zB))) (fun v => ⟨31,0,[sI 4 v.2.1,sI 3 r2,sA 2 2 11 0,sA 1 1 11 0],[(1,[cI x0.Id,cS x0.Name,cL 8 x0.Ps Pt.row,cL 5 v.2.2 zB.row,cL 3 x0.V.Rows zC.row,cL 1 x0.V.Pv intRow,cI x0.Tk,cI x0.Pa,cI x0.Wo,cI x0.Dr,cI r1]),(2,[cI 0,cS (⟨#[]⟩ : ByteArray),cL 8 ([] : List Pt) Pt.row,cL 5 ([] : List zB) zB.row,cL 3 ([] : List zC) zC.row,cL 1 ([] : List Int) intRow,cI 0,cI 0,cI 0,cI 0,cI 0])]⟩) (fun v => qV n v.1 r2 x0 v.2.1 v.2.2 = some o6) (fun v => v.1) (n,(0,x0.F)) eo6 (St.sub_of [4,3,2,1] [1,2] kr) ?_
  rintro ⟨_ | mo6,y3,y4⟩ H
  ·exact nN H
  have H : qV n (mo6+1) r2 x0 y3 y4 = some o6 := H
  rw [qV] at H
  refine tS<|rA 3<|kO x0.Ps Pt.row<|uA 1 262174 6 ?_
  obtain ⟨h1,H⟩ | ⟨h1,H⟩ := bC H
  ·refine nA h1<|Tr.exit<|aJ ?_
   cases H
   exact jA y4 Ho6 [2,1] [1,2]
  refine tA h1<|tK<|tS<|tB<|rA 2<|bE H fun r7 er7 H=> vA [.rd,.rd] (zNe n r2 y3 r7 er7)<|uA 1 16777246 6 ?_
  obtain ⟨h2,H⟩ | ⟨h2,H⟩ := bC H
  ·exact nA h2<|tK<|eA 3 30 6<|jB mo6 ((wI (y3 + 1)),y4) H [4,3,2,1] [1,2]
  exact tA h2<|Tr.at<|lA 3<|bE H fun r8 er8 H=> vB [.rd,.rd] [.box 1] (zKj n y4 y3 r8 er8) (.inr (zM (zJ (Q6 (Zv zB.row_mine _)) zg) zT))<|uA 2 30 6<|eA 3 30 6<|jB mo6 ((wI (y3 + 1)),r8) H [4,3,2,1] [1,2]
 rintro y5 H
 have H : (zAD n r1 x0 y5) = some r := H
 unfold zAD at H
 exact gA 2 4 4<|te (fJ [(true,[cI x0.Id,cS x0.Name,cL 8 x0.Ps Pt.row,cL 5 y5 zB.row,cL 3 x0.V.Rows zC.row,cL 1 x0.V.Pv intRow,cI x0.Tk,cI x0.Pa,cI x0.Wo,cI x0.Dr,cI r1])] H)
end Go.Proofs.YtajadnlejdpceaaGreat.Tw
