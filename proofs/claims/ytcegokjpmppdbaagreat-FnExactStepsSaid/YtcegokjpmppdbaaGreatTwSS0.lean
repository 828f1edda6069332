import Derived.Test.YtcegokjpmppdbaaGreatProg
import Derived.Test.YtcegokjpmppdbaaGreatTlRule
import Derived.Test.YtcegokjpmppdbaaGreatTlU12
import Derived.WalkKit
set_option linter.unusedVariables false
set_option linter.unusedSimpArgs false
set_option maxRecDepth 100000
set_option maxHeartbeats 1000000
namespace Go.Proofs.YtcegokjpmppdbaaGreat.Tw
open Go Go.TL Go.Proofs
def tab : List (Nat × TI) := [(2,⟨.int .i64,1,8,[.lit (.int .i64 0)]⟩),
  (3,⟨.int .i64,1,8,[.lit (.int .i64 0)]⟩),
  (4,⟨.bool,1,1,[.lit (.bool false)]⟩),
  (5,⟨.int .u8,1,1,[.lit (.int .u8 0)]⟩),
  (6,⟨.int .u8,1,1,[.lit (.int .u8 0)]⟩),
  (7,⟨.st [(0,1,2),(1,1,3),(2,1,4),(3,1,6)],4,24,[.lit (.int .i64 0),.lit (.int .i64 0),.lit (.bool false),.lit (.int .u8 0)]⟩),
  (8,⟨.st [(0,1,2),(1,1,3),(2,1,4),(3,1,6)],4,24,[.lit (.int .i64 0),.lit (.int .i64 0),.lit (.bool false),.lit (.int .u8 0)]⟩),
  (9,⟨.str,1,16,[.lit (.string ⟨#[]⟩)]⟩),
  (22,⟨.sl 200,1,24,[.sl true 8 []]⟩),
  (23,⟨.sl 202,1,24,[.sl true 5 []]⟩),
  (24,⟨.sl 244,1,24,[.sl true 3 []]⟩),
  (25,⟨.sl 3,1,24,[.sl true 1 []]⟩),
  (27,⟨.st [(0,1,24),(1,1,25)],2,48,[.sl true 3 [],.sl true 1 []]⟩),
  (29,⟨.st [(0,1,3),(1,1,9),(2,1,22),(3,1,23),(4,2,27),(6,1,3),(7,1,3),(8,1,3),(9,1,3),(10,1,3)],11,160,[.lit (.int .i64 0),.lit (.string ⟨#[]⟩),.sl true 8 [],.sl true 5 [],.sl true 3 [],.sl true 1 [],.lit (.int .i64 0),.lit (.int .i64 0),.lit (.int .i64 0),.lit (.int .i64 0),.lit (.int .i64 0)]⟩),
  (30,⟨.sl 5,1,24,[.sl true 1 []]⟩),
  (35,⟨.sl 167,1,24,[.sl true 8 []]⟩),
  (36,⟨.sl 169,1,24,[.sl true 5 []]⟩),
  (37,⟨.sl 175,1,24,[.sl true 3 []]⟩),
  (39,⟨.st [(0,1,37),(1,1,25)],2,48,[.sl true 3 [],.sl true 1 []]⟩),
  (41,⟨.st [(0,1,3),(1,1,9),(2,1,35),(3,1,36),(4,2,39),(6,1,3),(7,1,3),(8,1,3),(9,1,3),(10,1,3)],11,160,[.lit (.int .i64 0),.lit (.string ⟨#[]⟩),.sl true 8 [],.sl true 5 [],.sl true 3 [],.sl true 1 [],.lit (.int .i64 0),.lit (.int .i64 0),.lit (.int .i64 0),.lit (.int .i64 0),.lit (.int .i64 0)]⟩),
  (55,⟨.sl 29,1,24,[.sl true 11 []]⟩),
  (56,⟨.sl 213,1,24,[.sl true 4 []]⟩),
  (57,⟨.sl 216,1,24,[.sl true 7 []]⟩),
  (59,⟨.st [(0,1,55),(1,1,56),(2,1,57)],3,72,[.sl true 11 [],.sl true 4 [],.sl true 7 []]⟩),
  (61,⟨.st [(0,1,3),(1,1,3)],2,16,[.lit (.int .i64 0),.lit (.int .i64 0)]⟩),
  (63,⟨.sl 41,1,24,[.sl true 11 []]⟩),
  (64,⟨.sl 114,1,24,[.sl true 4 []]⟩),
  (65,⟨.sl 180,1,24,[.sl true 7 []]⟩),
  (67,⟨.st [(0,1,63),(1,1,64),(2,1,65)],3,72,[.sl true 11 [],.sl true 4 [],.sl true 7 []]⟩),
  (71,⟨.st [(0,1,3),(1,1,3)],2,16,[.lit (.int .i64 0),.lit (.int .i64 0)]⟩),
  (76,⟨.sl 61,1,24,[.sl true 2 []]⟩),
  (79,⟨.sl 71,1,24,[.sl true 2 []]⟩),
  (114,⟨.st [(0,1,3),(1,1,3),(2,1,3),(3,1,3)],4,32,[.lit (.int .i64 0),.lit (.int .i64 0),.lit (.int .i64 0),.lit (.int .i64 0)]⟩),
  (124,⟨.int .u64,1,8,[.lit (.int .u64 0)]⟩),
  (165,⟨.st [(0,1,3),(1,1,3),(2,1,3),(3,1,3),(4,1,3)],5,40,[.lit (.int .i64 0),.lit (.int .i64 0),.lit (.int .i64 0),.lit (.int .i64 0),.lit (.int .i64 0)]⟩),
  (167,⟨.st [(0,1,4),(1,1,3),(2,1,4),(3,5,165)],8,64,[.lit (.bool false),.lit (.int .i64 0),.lit (.bool false),.lit (.int .i64 0),.lit (.int .i64 0),.lit (.int .i64 0),.lit (.int .i64 0),.lit (.int .i64 0)]⟩),
  (169,⟨.st [(0,1,3),(1,1,3),(2,1,3),(3,1,3),(4,1,4)],5,40,[.lit (.int .i64 0),.lit (.int .i64 0),.lit (.int .i64 0),.lit (.int .i64 0),.lit (.bool false)]⟩),
  (175,⟨.st [(0,1,3),(1,1,3),(2,1,3)],3,24,[.lit (.int .i64 0),.lit (.int .i64 0),.lit (.int .i64 0)]⟩),
  (180,⟨.st [(0,1,3),(1,1,4),(2,5,165)],7,56,[.lit (.int .i64 0),.lit (.bool false),.lit (.int .i64 0),.lit (.int .i64 0),.lit (.int .i64 0),.lit (.int .i64 0),.lit (.int .i64 0)]⟩),
  (198,⟨.st [(0,1,3),(1,1,3),(2,1,3),(3,1,3),(4,1,3)],5,40,[.lit (.int .i64 0),.lit (.int .i64 0),.lit (.int .i64 0),.lit (.int .i64 0),.lit (.int .i64 0)]⟩),
  (200,⟨.st [(0,1,4),(1,1,3),(2,1,4),(3,5,198)],8,64,[.lit (.bool false),.lit (.int .i64 0),.lit (.bool false),.lit (.int .i64 0),.lit (.int .i64 0),.lit (.int .i64 0),.lit (.int .i64 0),.lit (.int .i64 0)]⟩),
  (202,⟨.st [(0,1,3),(1,1,3),(2,1,3),(3,1,3),(4,1,4)],5,40,[.lit (.int .i64 0),.lit (.int .i64 0),.lit (.int .i64 0),.lit (.int .i64 0),.lit (.bool false)]⟩),
  (213,⟨.st [(0,1,3),(1,1,3),(2,1,3),(3,1,3)],4,32,[.lit (.int .i64 0),.lit (.int .i64 0),.lit (.int .i64 0),.lit (.int .i64 0)]⟩),
  (216,⟨.st [(0,1,3),(1,1,4),(2,5,198)],7,56,[.lit (.int .i64 0),.lit (.bool false),.lit (.int .i64 0),.lit (.int .i64 0),.lit (.int .i64 0),.lit (.int .i64 0),.lit (.int .i64 0)]⟩),
  (244,⟨.st [(0,1,3),(1,1,3),(2,1,3)],3,24,[.lit (.int .i64 0),.lit (.int .i64 0),.lit (.int .i64 0)]⟩)]
def tI (t : Nat) : TI := (lk tab t).getD ⟨.bool,1,1,[]⟩
theorem mixed : Tryz.prog.follows .mixedOrders = true := by kernel_rfl
theorem tOk : TOk Tryz.prog (lk tab) := zO1 (by kernel_rfl)
instance : TC Tryz.prog (lk tab) := ⟨tOk⟩
structure Vec where
  Root : Int
  Co : Int
  Hops : Int
  Bridge : Int
  Port : Int
def Vec.row (v : Vec) : List CV := [.lit (.int .i64 v.Root),.lit (.int .i64 v.Co),.lit (.int .i64 v.Hops),.lit (.int .i64 v.Bridge),.lit (.int .i64 v.Port)]
def Vec.wf (v : Vec) : Prop := z6 v.Root ∧ z6 v.Co ∧ z6 v.Hops ∧ z6 v.Bridge ∧ z6 v.Port ∧ True
theorem Vec.enc : Enc Vec [.int .i64,.int .i64,.int .i64,.int .i64,.int .i64] Vec.row Vec.wf := fun cs h => by
  obtain ⟨c0,r0,rfl,k0,h⟩ := zL h
  obtain ⟨c1,r1,rfl,k1,h⟩ := zL h
  obtain ⟨c2,r2,rfl,k2,h⟩ := zL h
  obtain ⟨c3,r3,rfl,k3,h⟩ := zL h
  obtain ⟨c4,r4,rfl,k4,h⟩ := zL h
  obtain rfl := QZ h
  obtain ⟨x0,rfl,w0⟩ := zm k0
  obtain ⟨x1,rfl,w1⟩ := zm k1
  obtain ⟨x2,rfl,w2⟩ := zm k2
  obtain ⟨x3,rfl,w3⟩ := zm k3
  obtain ⟨x4,rfl,w4⟩ := zm k4
  exact ⟨⟨x0,x1,x2,x3,x4⟩,rfl,⟨w0,w1,w2,w3,w4,trivial⟩⟩
theorem Vec.row_mine (v : Vec) : CV.mineRow (Vec.row v) := zJ zM (zJ zM (zJ zM (zJ zM (zJ zM (zz)))))
structure Pt where
  Up : Bool
  Co : Int
  Has : Bool
  Hd : Vec
def Pt.row (v : Pt) : List CV := [.lit (.bool v.Up),.lit (.int .i64 v.Co),.lit (.bool v.Has),.lit (.int .i64 v.Hd.Root),.lit (.int .i64 v.Hd.Co),.lit (.int .i64 v.Hd.Hops),.lit (.int .i64 v.Hd.Bridge),.lit (.int .i64 v.Hd.Port)]
def Pt.wf (v : Pt) : Prop := z6 v.Co ∧ z6 v.Hd.Root ∧ z6 v.Hd.Co ∧ z6 v.Hd.Hops ∧ z6 v.Hd.Bridge ∧ z6 v.Hd.Port ∧ True
theorem Pt.enc : Enc Pt [.bool,.int .i64,.bool,.int .i64,.int .i64,.int .i64,.int .i64,.int .i64] Pt.row Pt.wf := fun cs h => by
  obtain ⟨c0,r0,rfl,k0,h⟩ := zL h
  obtain ⟨c1,r1,rfl,k1,h⟩ := zL h
  obtain ⟨c2,r2,rfl,k2,h⟩ := zL h
  obtain ⟨c3,r3,rfl,k3,h⟩ := zL h
  obtain ⟨c4,r4,rfl,k4,h⟩ := zL h
  obtain ⟨c5,r5,rfl,k5,h⟩ := zL h
  obtain ⟨c6,r6,rfl,k6,h⟩ := zL h
  obtain ⟨c7,r7,rfl,k7,h⟩ := zL h
  obtain rfl := QZ h
  obtain ⟨x0,rfl⟩ := zDE k0
  obtain ⟨x1,rfl,w1⟩ := zm k1
  obtain ⟨x2,rfl⟩ := zDE k2
  obtain ⟨x3,rfl,w3⟩ := zm k3
  obtain ⟨x4,rfl,w4⟩ := zm k4
  obtain ⟨x5,rfl,w5⟩ := zm k5
  obtain ⟨x6,rfl,w6⟩ := zm k6
  obtain ⟨x7,rfl,w7⟩ := zm k7
  exact ⟨⟨x0,x1,x2,⟨x3,x4,x5,x6,x7⟩⟩,rfl,⟨w1,w3,w4,w5,w6,w7,trivial⟩⟩
theorem Pt.row_mine (v : Pt) : CV.mineRow (Pt.row v) := zJ zM (zJ zM (zJ zM (zJ zM (zJ zM (zJ zM (zJ zM (zJ zM (zz))))))))
structure zB where
  Tag : Int
  Mac : Int
  Port : Int
  Age : Int
  Sc : Bool
def zB.row (v : zB) : List CV := [.lit (.int .i64 v.Tag),.lit (.int .i64 v.Mac),.lit (.int .i64 v.Port),.lit (.int .i64 v.Age),.lit (.bool v.Sc)]
def zB.wf (v : zB) : Prop := z6 v.Tag ∧ z6 v.Mac ∧ z6 v.Port ∧ z6 v.Age ∧ True
theorem zB.enc : Enc zB [.int .i64,.int .i64,.int .i64,.int .i64,.bool] zB.row zB.wf := fun cs h => by
  obtain ⟨c0,r0,rfl,k0,h⟩ := zL h
  obtain ⟨c1,r1,rfl,k1,h⟩ := zL h
  obtain ⟨c2,r2,rfl,k2,h⟩ := zL h
  obtain ⟨c3,r3,rfl,k3,h⟩ := zL h
  obtain ⟨c4,r4,rfl,k4,h⟩ := zL h
  obtain rfl := QZ h
  obtain ⟨x0,rfl,w0⟩ := zm k0
  obtain ⟨x1,rfl,w1⟩ := zm k1
  obtain ⟨x2,rfl,w2⟩ := zm k2
  obtain ⟨x3,rfl,w3⟩ := zm k3
  obtain ⟨x4,rfl⟩ := zDE k4
  exact ⟨⟨x0,x1,x2,x3,x4⟩,rfl,⟨w0,w1,w2,w3,trivial⟩⟩
theorem zB.row_mine (v : zB) : CV.mineRow (zB.row v) := zJ zM (zJ zM (zJ zM (zJ zM (zJ zM (zz)))))
structure zC where
  Id : Int
  Members : Int
  Bare : Int
def zC.row (v : zC) : List CV := [.lit (.int .i64 v.Id),.lit (.int .i64 v.Members),.lit (.int .i64 v.Bare)]
def zC.wf (v : zC) : Prop := z6 v.Id ∧ z6 v.Members ∧ z6 v.Bare ∧ True
theorem zC.enc : Enc zC [.int .i64,.int .i64,.int .i64] zC.row zC.wf := fun cs h => by
  obtain ⟨c0,r0,rfl,k0,h⟩ := zL h
  obtain ⟨c1,r1,rfl,k1,h⟩ := zL h
  obtain ⟨c2,r2,rfl,k2,h⟩ := zL h
  obtain rfl := QZ h
  obtain ⟨x0,rfl,w0⟩ := zm k0
  obtain ⟨x1,rfl,w1⟩ := zm k1
  obtain ⟨x2,rfl,w2⟩ := zm k2
  exact ⟨⟨x0,x1,x2⟩,rfl,⟨w0,w1,w2,trivial⟩⟩
theorem zC.row_mine (v : zC) : CV.mineRow (zC.row v) := zJ zM (zJ zM (zJ zM (zz)))
structure zF where
  Rows : (List zC)
  Pv : (List Int)
def zF.row (v : zF) : List CV := [.sl true 3 (v.Rows.map zC.row),.sl true 1 (v.Pv.map intRow)]
def zF.wf (v : zF) : Prop := YP zC.wf v.Rows ∧ YP z6 v.Pv ∧ True
theorem zF.enc : Enc zF [.sl 3 [.int .i64,.int .i64,.int .i64],.sl 1 [.int .i64]] zF.row zF.wf := fun cs h => by
  obtain ⟨c0,r0,rfl,k0,h⟩ := zL h
  obtain ⟨c1,r1,rfl,k1,h⟩ := zL h
  obtain rfl := QZ h
  obtain ⟨x0,rfl,w0⟩ := Enc.sl zC.enc k0
  obtain ⟨x1,rfl,w1⟩ := Enc.sl zMr k1
  exact ⟨⟨x0,x1⟩,rfl,⟨w0,w1,trivial⟩⟩
theorem zF.row_mine (v : zF) : CV.mineRow (zF.row v) := zJ (Jd (Qv zC.row_mine _)) (zJ (Jd (Qv zG9 _)) (zz))
structure zA where
  Id : Int
  Name : ByteArray
  Ps : (List Pt)
  F : (List zB)
  V : zF
  Tk : Int
  Pa : Int
  Wo : Int
  Dr : Int
  Ve : Int
def zA.row (v : zA) : List CV := [.lit (.int .i64 v.Id),.lit (.string v.Name),.sl true 8 (v.Ps.map Pt.row),.sl true 5 (v.F.map zB.row),.sl true 3 (v.V.Rows.map zC.row),.sl true 1 (v.V.Pv.map intRow),.lit (.int .i64 v.Tk),.lit (.int .i64 v.Pa),.lit (.int .i64 v.Wo),.lit (.int .i64 v.Dr),.lit (.int .i64 v.Ve)]
def zA.wf (v : zA) : Prop := z6 v.Id ∧ v.Name.size ≤ maxLen ∧ YP Pt.wf v.Ps ∧ YP zB.wf v.F ∧ YP zC.wf v.V.Rows ∧ YP z6 v.V.Pv ∧ z6 v.Tk ∧ z6 v.Pa ∧ z6 v.Wo ∧ z6 v.Dr ∧ z6 v.Ve ∧ True
theorem zA.enc : Enc zA [.int .i64,.str,.sl 8 [.bool,.int .i64,.bool,.int .i64,.int .i64,.int .i64,.int .i64,.int .i64],.sl 5 [.int .i64,.int .i64,.int .i64,.int .i64,.bool],.sl 3 [.int .i64,.int .i64,.int .i64],.sl 1 [.int .i64],.int .i64,.int .i64,.int .i64,.int .i64,.int .i64] zA.row zA.wf := fun cs h => by
  obtain ⟨c0,r0,rfl,k0,h⟩ := zL h
  obtain ⟨c1,r1,rfl,k1,h⟩ := zL h
  obtain ⟨c2,r2,rfl,k2,h⟩ := zL h
  obtain ⟨c3,r3,rfl,k3,h⟩ := zL h
  obtain ⟨c4,r4,rfl,k4,h⟩ := zL h
  obtain ⟨c5,r5,rfl,k5,h⟩ := zL h
  obtain ⟨c6,r6,rfl,k6,h⟩ := zL h
  obtain ⟨c7,r7,rfl,k7,h⟩ := zL h
  obtain ⟨c8,r8,rfl,k8,h⟩ := zL h
  obtain ⟨c9,r9,rfl,k9,h⟩ := zL h
  obtain ⟨c10,r10,rfl,k10,h⟩ := zL h
  obtain rfl := QZ h
  obtain ⟨x0,rfl,w0⟩ := zm k0
  obtain ⟨x1,rfl,w1⟩ := zNQ k1
  obtain ⟨x2,rfl,w2⟩ := Enc.sl Pt.enc k2
  obtain ⟨x3,rfl,w3⟩ := Enc.sl zB.enc k3
  obtain ⟨x4,rfl,w4⟩ := Enc.sl zC.enc k4
  obtain ⟨x5,rfl,w5⟩ := Enc.sl zMr k5
  obtain ⟨x6,rfl,w6⟩ := zm k6
  obtain ⟨x7,rfl,w7⟩ := zm k7
  obtain ⟨x8,rfl,w8⟩ := zm k8
  obtain ⟨x9,rfl,w9⟩ := zm k9
  obtain ⟨x10,rfl,w10⟩ := zm k10
  exact ⟨⟨x0,x1,x2,x3,⟨x4,x5⟩,x6,x7,x8,x9,x10⟩,rfl,⟨w0,w1,w2,w3,w4,w5,w6,w7,w8,w9,w10,trivial⟩⟩
theorem zA.row_mine (v : zA) : CV.mineRow (zA.row v) := zJ zM (zJ zM (zJ (Jd (Qv Pt.row_mine _)) (zJ (Jd (Qv zB.row_mine _)) (zJ (Jd (Qv zC.row_mine _)) (zJ (Jd (Qv zG9 _)) (zJ zM (zJ zM (zJ zM (zJ zM (zJ zM (zz)))))))))))
structure Link where
  A : Int
  P : Int
  B : Int
  Q : Int
def Link.row (v : Link) : List CV := [.lit (.int .i64 v.A),.lit (.int .i64 v.P),.lit (.int .i64 v.B),.lit (.int .i64 v.Q)]
def Link.wf (v : Link) : Prop := z6 v.A ∧ z6 v.P ∧ z6 v.B ∧ z6 v.Q ∧ True
theorem Link.enc : Enc Link [.int .i64,.int .i64,.int .i64,.int .i64] Link.row Link.wf := fun cs h => by
  obtain ⟨c0,r0,rfl,k0,h⟩ := zL h
  obtain ⟨c1,r1,rfl,k1,h⟩ := zL h
  obtain ⟨c2,r2,rfl,k2,h⟩ := zL h
  obtain ⟨c3,r3,rfl,k3,h⟩ := zL h
  obtain rfl := QZ h
  obtain ⟨x0,rfl,w0⟩ := zm k0
  obtain ⟨x1,rfl,w1⟩ := zm k1
  obtain ⟨x2,rfl,w2⟩ := zm k2
  obtain ⟨x3,rfl,w3⟩ := zm k3
  exact ⟨⟨x0,x1,x2,x3⟩,rfl,⟨w0,w1,w2,w3,trivial⟩⟩
theorem Link.row_mine (v : Link) : CV.mineRow (Link.row v) := zJ zM (zJ zM (zJ zM (zJ zM (zz))))
structure Say where
  Link : Int
  Back : Bool
  V : Vec
def Say.row (v : Say) : List CV := [.lit (.int .i64 v.Link),.lit (.bool v.Back),.lit (.int .i64 v.V.Root),.lit (.int .i64 v.V.Co),.lit (.int .i64 v.V.Hops),.lit (.int .i64 v.V.Bridge),.lit (.int .i64 v.V.Port)]
def Say.wf (v : Say) : Prop := z6 v.Link ∧ z6 v.V.Root ∧ z6 v.V.Co ∧ z6 v.V.Hops ∧ z6 v.V.Bridge ∧ z6 v.V.Port ∧ True
theorem Say.enc : Enc Say [.int .i64,.bool,.int .i64,.int .i64,.int .i64,.int .i64,.int .i64] Say.row Say.wf := fun cs h => by
  obtain ⟨c0,r0,rfl,k0,h⟩ := zL h
  obtain ⟨c1,r1,rfl,k1,h⟩ := zL h
  obtain ⟨c2,r2,rfl,k2,h⟩ := zL h
  obtain ⟨c3,r3,rfl,k3,h⟩ := zL h
  obtain ⟨c4,r4,rfl,k4,h⟩ := zL h
  obtain ⟨c5,r5,rfl,k5,h⟩ := zL h
  obtain ⟨c6,r6,rfl,k6,h⟩ := zL h
  obtain rfl := QZ h
  obtain ⟨x0,rfl,w0⟩ := zm k0
  obtain ⟨x1,rfl⟩ := zDE k1
  obtain ⟨x2,rfl,w2⟩ := zm k2
  obtain ⟨x3,rfl,w3⟩ := zm k3
  obtain ⟨x4,rfl,w4⟩ := zm k4
  obtain ⟨x5,rfl,w5⟩ := zm k5
  obtain ⟨x6,rfl,w6⟩ := zm k6
  exact ⟨⟨x0,x1,⟨x2,x3,x4,x5,x6⟩⟩,rfl,⟨w0,w2,w3,w4,w5,w6,trivial⟩⟩
theorem Say.row_mine (v : Say) : CV.mineRow (Say.row v) := zJ zM (zJ zM (zJ zM (zJ zM (zJ zM (zJ zM (zJ zM (zz)))))))
structure Net where
  Bs : (List zA)
  Ls : (List Link)
  Said : (List Say)
def Net.row (v : Net) : List CV := [.sl true 11 (v.Bs.map zA.row),.sl true 4 (v.Ls.map Link.row),.sl true 7 (v.Said.map Say.row)]
def Net.wf (v : Net) : Prop := YP zA.wf v.Bs ∧ YP Link.wf v.Ls ∧ YP Say.wf v.Said ∧ True
theorem Net.enc : Enc Net [.sl 11 [.int .i64,.str,.sl 8 [.bool,.int .i64,.bool,.int .i64,.int .i64,.int .i64,.int .i64,.int .i64],.sl 5 [.int .i64,.int .i64,.int .i64,.int .i64,.bool],.sl 3 [.int .i64,.int .i64,.int .i64],.sl 1 [.int .i64],.int .i64,.int .i64,.int .i64,.int .i64,.int .i64],.sl 4 [.int .i64,.int .i64,.int .i64,.int .i64],.sl 7 [.int .i64,.bool,.int .i64,.int .i64,.int .i64,.int .i64,.int .i64]] Net.row Net.wf := fun cs h => by
  obtain ⟨c0,r0,rfl,k0,h⟩ := zL h
  obtain ⟨c1,r1,rfl,k1,h⟩ := zL h
  obtain ⟨c2,r2,rfl,k2,h⟩ := zL h
  obtain rfl := QZ h
  obtain ⟨x0,rfl,w0⟩ := Enc.sl zA.enc k0
  obtain ⟨x1,rfl,w1⟩ := Enc.sl Link.enc k1
  obtain ⟨x2,rfl,w2⟩ := Enc.sl Say.enc k2
  exact ⟨⟨x0,x1,x2⟩,rfl,⟨w0,w1,w2,trivial⟩⟩
theorem Net.row_mine (v : Net) : CV.mineRow (Net.row v) := zJ (Jd (Qv zA.row_mine _)) (zJ (Jd (Qv Link.row_mine _)) (zJ (Jd (Qv Say.row_mine _)) (zz)))
structure Event where
  Ki : Int
  At : Int
def Event.row (v : Event) : List CV := [.lit (.int .i64 v.Ki),.lit (.int .i64 v.At)]
def Event.wf (v : Event) : Prop := z6 v.Ki ∧ z6 v.At ∧ True
theorem Event.enc : Enc Event [.int .i64,.int .i64] Event.row Event.wf := fun cs h => by
  obtain ⟨c0,r0,rfl,k0,h⟩ := zL h
  obtain ⟨c1,r1,rfl,k1,h⟩ := zL h
  obtain rfl := QZ h
  obtain ⟨x0,rfl,w0⟩ := zm k0
  obtain ⟨x1,rfl,w1⟩ := zm k1
  exact ⟨⟨x0,x1⟩,rfl,⟨w0,w1,trivial⟩⟩
theorem Event.row_mine (v : Event) : CV.mineRow (Event.row v) := zJ zM (zJ zM (zz))
def zCs (n : Nat) (x0 : (List Pt)) (x1 : Int) : Option (Int) :=
  (bif (decide ((IntKind.wrap .i64 (x1 - (x0.length : Int))) < 0)) then (some (-1)) else (some (IntKind.wrap .i64 (x1 - (x0.length : Int)))))
theorem zMO (n : Nat) (x0 : (List Pt)) (x1 : Int) (r : Int) (H : zCs n x0 x1 = some r) : zD Tryz.prog 64 [.val false [.sl false 8 (CV.frzEs (x0.map Pt.row))],.val false [.lit (.int .i64 x1)]] [.val false [.lit (.int .i64 r)]] [] := by
 refine cW Tryz.func64 (fun g d => sl [g 0,g 1,sl [g 2] (cn 10 (sl [g 3] .ret) .skip),g 4] .ret) [.tmp 4] fun cx => ?_
 unfold zCs at H
 refine gA 1 3 0 ?_
 refine rA 2 ?_
 refine kF x0 Pt.row ?_
 refine uA 2 2 0 ?_
 refine tS ?_
 refine gA 2 1026 0 ?_
 obtain ⟨h1,H⟩ | ⟨h1,H⟩ := bC H
 ·refine nA h1 ?_
  refine tK ?_
  refine gA 2 16 0 ?_
  exact te (fJ [(false,[cI (IntKind.wrap .i64 (x1 - (x0.length : Int)))])] H)
 refine tA h1 ?_
 refine gA 1 16 0 ?_
 exact te (fJ [(false,[cI (-1)])] H)
def zBq (n : Nat) (x0 : (List zB)) (x1 : Int) : Option (Int) :=
  (bif (decide ((IntKind.wrap .i64 (x1 - (x0.length : Int))) < 0)) then (some (-1)) else (some (IntKind.wrap .i64 (x1 - (x0.length : Int)))))
theorem zKi (n : Nat) (x0 : (List zB)) (x1 : Int) (r : Int) (H : zBq n x0 x1 = some r) : zD Tryz.prog 65 [.val false [.sl false 5 (CV.frzEs (x0.map zB.row))],.val false [.lit (.int .i64 x1)]] [.val false [.lit (.int .i64 r)]] [] := by
 refine cW Tryz.func65 (fun g d => sl [g 0,g 1,sl [g 2] (cn 10 (sl [g 3] .ret) .skip),g 4] .ret) [.tmp 4] fun cx => ?_
 unfold zBq at H
 refine gA 1 3 0 ?_
 refine rA 2 ?_
 refine kF x0 zB.row ?_
 refine uA 2 2 0 ?_
 refine tS ?_
 refine gA 2 1026 0 ?_
 obtain ⟨h1,H⟩ | ⟨h1,H⟩ := bC H
 ·refine nA h1 ?_
  refine tK ?_
  refine gA 2 16 0 ?_
  exact te (fJ [(false,[cI (IntKind.wrap .i64 (x1 - (x0.length : Int)))])] H)
 refine tA h1 ?_
 refine gA 1 16 0 ?_
 exact te (fJ [(false,[cI (-1)])] H)
def zBs (n : Nat) (x0 : (List zC)) (x1 : Int) : Option (Int) :=
  (bif (decide ((IntKind.wrap .i64 (x1 - (x0.length : Int))) < 0)) then (some (-1)) else (some (IntKind.wrap .i64 (x1 - (x0.length : Int)))))
theorem zKk (n : Nat) (x0 : (List zC)) (x1 : Int) (r : Int) (H : zBs n x0 x1 = some r) : zD Tryz.prog 164 [.val false [.sl false 3 (CV.frzEs (x0.map zC.row))],.val false [.lit (.int .i64 x1)]] [.val false [.lit (.int .i64 r)]] [] := by
 refine cW Tryz.func164 (fun g d => sl [g 0,g 1,sl [g 2] (cn 10 (sl [g 3] .ret) .skip),g 4] .ret) [.tmp 4] fun cx => ?_
 unfold zBs at H
 refine gA 1 3 0 ?_
 refine rA 2 ?_
 refine kF x0 zC.row ?_
 refine uA 2 2 0 ?_
 refine tS ?_
 refine gA 2 1026 0 ?_
 obtain ⟨h1,H⟩ | ⟨h1,H⟩ := bC H
 ·refine nA h1 ?_
  refine tK ?_
  refine gA 2 16 0 ?_
  exact te (fJ [(false,[cI (IntKind.wrap .i64 (x1 - (x0.length : Int)))])] H)
 refine tA h1 ?_
 refine gA 1 16 0 ?_
 exact te (fJ [(false,[cI (-1)])] H)
def zCN (n : Nat) (x0 : (List Int)) (x1 : Int) : Option (Int) :=
  (bif (decide ((IntKind.wrap .i64 (x1 - (x0.length : Int))) < 0)) then (some (-1)) else (some (IntKind.wrap .i64 (x1 - (x0.length : Int)))))
theorem zLP (n : Nat) (x0 : (List Int)) (x1 : Int) (r : Int) (H : zCN n x0 x1 = some r) : zD Tryz.prog 165 [.val false [.sl false 1 (CV.frzEs (x0.map intRow))],.val false [.lit (.int .i64 x1)]] [.val false [.lit (.int .i64 r)]] [] := by
 refine cW Tryz.func165 (fun g d => sl [g 0,g 1,sl [g 2] (cn 10 (sl [g 3] .ret) .skip),g 4] .ret) [.tmp 4] fun cx => ?_
 unfold zCN at H
 refine gA 1 3 0 ?_
 refine rA 2 ?_
 refine kF x0 intRow ?_
 refine uA 2 2 0 ?_
 refine tS ?_
 refine gA 2 1026 0 ?_
 obtain ⟨h1,H⟩ | ⟨h1,H⟩ := bC H
 ·refine nA h1 ?_
  refine tK ?_
  refine gA 2 16 0 ?_
  exact te (fJ [(false,[cI (IntKind.wrap .i64 (x1 - (x0.length : Int)))])] H)
 refine tA h1 ?_
 refine gA 1 16 0 ?_
 exact te (fJ [(false,[cI (-1)])] H)
def zAu (n : Nat) (x0 : zF) (x1 : Int) : Option (Int) :=
  ((zBs n x0.Rows x1).bind fun r1 => (bif (decide (r1 < 0)) then (some (-1)) else ((zCN n x0.Pv r1).bind fun r2 => (bif (decide (r2 < 0)) then (some (-1)) else (some r2)))))
theorem zLR (n : Nat) (x0 : zF) (x1 : Int) (r : Int) (H : zAu n x0 x1 = some r) : zD Tryz.prog 66 [.val true (CV.frzRow (zF.row x0)),.val false [.lit (.int .i64 x1)]] [.val false [.lit (.int .i64 r)]] [] := by
 refine cW Tryz.func66 (fun g d => sl [g 0,g 1,sl [g 2] (cn 10 (sl [g 3] .ret) .skip),g 4,sl [g 5] (cn 16 (sl [g 6] .ret) .skip),g 7] .ret) [.tmp 4] fun cx => ?_
 unfold zAu at H
 refine gA 2 6 4 ?_
 refine rA 3 ?_
 obtain ⟨r1,er1,H⟩ := bs H
 refine vA [.rd,.rd] (zKk n x0.Rows x1 r1 er1) ?_
 refine uA 1 6 4 ?_
 refine tS ?_
 refine gA 2 1030 4 ?_
 obtain ⟨h1,H⟩ | ⟨h1,H⟩ := bC H
 ·refine nA h1 ?_
  refine tK ?_
  refine rA 3 ?_
  obtain ⟨r2,er2,H⟩ := bs H
  refine vA [.rd,.rd] (zLP n x0.Pv r1 r2 er2) ?_
  refine uA 1 2 0 ?_
  refine tS ?_
  refine gA 2 65538 0 ?_
  obtain ⟨h2,H⟩ | ⟨h2,H⟩ := bC H
  ·refine nA h2 ?_
   refine tK ?_
   refine gA 2 16 0 ?_
   exact te (fJ [(false,[cI r2])] H)
  refine tA h2 ?_
  refine gA 1 16 0 ?_
  exact te (fJ [(false,[cI (-1)])] H)
 refine tA h1 ?_
 refine gA 1 16 0 ?_
 exact te (fJ [(false,[cI (-1)])] H)
def YD (n : Nat) (x0 : zA) (x1 : Int) : Option (Int) :=
  (bif (decide ((IntKind.wrap .i64 (x1 - (x0.Name.size : Int))) < 0)) then (some (-1)) else ((zCs n x0.Ps (IntKind.wrap .i64 (x1 - (x0.Name.size : Int)))).bind fun r1 => (bif (decide (r1 < 0)) then (some (-1)) else ((zBq n x0.F r1).bind fun r2 => (bif (decide (r2 < 0)) then (some (-1)) else ((zAu n x0.V r2).bind fun r3 => (bif (decide (r3 < 0)) then (some (-1)) else (some r3))))))))
theorem zJ3 (n : Nat) (x0 : zA) (x1 : Int) (r : Int) (H : YD n x0 x1 = some r) : zD Tryz.prog 9 [.val true (CV.frzRow (zA.row x0)),.val false [.lit (.int .i64 x1)]] [.val false [.lit (.int .i64 r)]] [] := by
 refine cW Tryz.func9 (fun g d => sl [g 0,g 1,sl [g 2] (cn 11 (sl [g 3] .ret) .skip),g 4,sl [g 5] (cn 17 (sl [g 6] .ret) .skip),g 7,sl [g 8] (cn 23 (sl [g 9] .ret) .skip),g 10,sl [g 11] (cn 29 (sl [g 12] .ret) .skip),g 13] .ret) [.tmp 4] fun cx => ?_
 unfold YD at H
 refine gA 2 6 4 ?_
 refine gA 6 6 4 ?_
 refine tS ?_
 refine gA 2 2054 4 ?_
 obtain ⟨h1,H⟩ | ⟨h1,H⟩ := bC H
 ·refine nA h1 ?_
  refine tK ?_
  refine rA 3 ?_
  obtain ⟨r1,er1,H⟩ := bs H
  refine vA [.rd,.rd] (zMO n x0.Ps (IntKind.wrap .i64 (x1 - (x0.Name.size : Int))) r1 er1) ?_
  refine uA 1 6 4 ?_
  refine tS ?_
  refine gA 2 131078 4 ?_
  obtain ⟨h2,H⟩ | ⟨h2,H⟩ := bC H
  ·refine nA h2 ?_
   refine tK ?_
   refine rA 3 ?_
   obtain ⟨r2,er2,H⟩ := bs H
   refine vA [.rd,.rd] (zKi n x0.F r1 r2 er2) ?_
   refine uA 1 6 4 ?_
   refine tS ?_
   refine gA 2 8388614 4 ?_
   obtain ⟨h3,H⟩ | ⟨h3,H⟩ := bC H
   ·refine nA h3 ?_
    refine tK ?_
    refine rA 3 ?_
    obtain ⟨r3,er3,H⟩ := bs H
    refine vA [.rd,.rd] (zLR n x0.V r2 r3 er3) ?_
    refine uA 1 2 0 ?_
    refine tS ?_
    refine gA 2 536870914 0 ?_
    obtain ⟨h4,H⟩ | ⟨h4,H⟩ := bC H
    ·refine nA h4 ?_
     refine tK ?_
     refine gA 2 16 0 ?_
     exact te (fJ [(false,[cI r3])] H)
    refine tA h4 ?_
    refine gA 1 16 0 ?_
    exact te (fJ [(false,[cI (-1)])] H)
   refine tA h3 ?_
   refine gA 1 16 0 ?_
   exact te (fJ [(false,[cI (-1)])] H)
  refine tA h2 ?_
  refine gA 1 16 0 ?_
  exact te (fJ [(false,[cI (-1)])] H)
 refine tA h1 ?_
 refine gA 1 16 0 ?_
 exact te (fJ [(false,[cI (-1)])] H)
def JJ (n : Nat) (y3 : Int) : Option (Int) :=
  (some y3)
def Zm (n : Nat) : Nat → (List zA) → Int → Int → Option ((Int) ⊕ (Int))
  | 0,_,_,_ => none
  | mo4 + 1,x0,y1,y2 => (bif (decide (y1 < (x0.length : Int))) then ((idx x0 y1).bind fun v5 => ((YD n v5 y2).bind fun r6 => (bif (decide (r6 < 0)) then (some (Sum.inr (-1))) else (Zm n mo4 x0 (IntKind.wrap .i64 (y1 + 1)) r6)))) else (some (Sum.inl y2)))
def Y1 (n : Nat) (x0 : (List zA)) (x1 : Int) : Option (Int) :=
  (bif (decide ((IntKind.wrap .i64 (x1 - (x0.length : Int))) < 0)) then (some (-1)) else ((Zm n n x0 0 (IntKind.wrap .i64 (x1 - (x0.length : Int)))).bind fun o => match o with | .inl y3 => (JJ n y3) | .inr r => some r))
theorem zI5 (n : Nat) (x0 : (List zA)) (x1 : Int) (r : Int) (H : Y1 n x0 x1 = some r) : zD Tryz.prog 103 [.val false [.sl false 11 (CV.frzEs (x0.map zA.row))],.val false [.lit (.int .i64 x1)]] [.val false [.lit (.int .i64 r)]] [] := by
 refine cW Tryz.func103 (fun g d => sl [g 0,g 1,sl [g 2] (cn 11 (sl [g 3] .ret) .skip),sl [g 4] (.block 0 (.loop (sl [sl [g 5] (cn 15 .skip (.exit 0)),.block 1 (sl [g 7,g 8] (cn 25 (sl [g 9] .ret) .skip))] (g 6)))),g 10] .ret) [.tmp 4] fun cx => ?_
 unfold Y1 at H
 refine gA 1 3 0 ?_
 refine rA 2 ?_
 refine kF x0 zA.row ?_
 refine uA 2 3 0 ?_
 refine tS ?_
 refine gA 2 2051 0 ?_
 obtain ⟨h1,H⟩ | ⟨h1,H⟩ := bC H
 ·refine nA h1 ?_
  refine tK ?_
  refine tS ?_
  refine gA 1 35 0 ?_
  obtain ⟨o4,eo4,Ho4⟩ := bs H
  clear H
  refine Tr.mid (ι := Int) (fun v => ⟨27,0,[sI 1 v],[]⟩) (fun v => JJ n v = some r) ?_ ?_
  ·refine tB ?_
   refine Tr.loop (ι := Nat × (Int × Int)) (fun v => ⟨27,0,[sI 5 v.2.1,sI 1 v.2.2,sC 0 (cF 11 x0 zA.row)],[]⟩) (fun v => Zm n v.1 x0 v.2.1 v.2.2 = some o4) (fun v => v.1) (n,(0,(IntKind.wrap .i64 (x1 - (x0.length : Int))))) eo4 (St.sub_of [5,1,0] [] kr) ?_
   rintro ⟨mo4,y1,y2⟩ H
   have H : Zm n mo4 x0 y1 y2 = some o4 := H
   obtain _ | mo4 := mo4
   ·exact nN H
   rw [Zm] at H
   refine tS ?_
   refine rA 2 ?_
   refine kF x0 zA.row ?_
   refine uA 1 32803 0 ?_
   obtain ⟨h2,H⟩ | ⟨h2,H⟩ := bC H
   ·refine nA h2 ?_
    refine Tr.exit ?_
    refine aJ ?_
    obtain rfl := si H
    have H := Ho4
    dsimp only at H
    exact jA y2 H [1] []
   refine tA h2 ?_
   refine tK ?_
   refine tS ?_
   refine tB ?_
   refine rA 2 ?_
   obtain ⟨v5,ev5,H⟩ := bs H
   refine iA zA.row ev5 ?_
   refine lA 2 ?_
   obtain ⟨r6,er6,H⟩ := bs H
   refine vA [.rd,.rd] (zJ3 n v5 y2 r6 er6) ?_
   refine uA 1 35 0 ?_
   refine gA 2 33554467 0 ?_
   obtain ⟨h3,H⟩ | ⟨h3,H⟩ := bC H
   ·refine nA h3 ?_
    refine tK ?_
    refine eA 3 35 0 ?_
    exact jB mo4 ((IntKind.wrap .i64 (y1 + 1)),r6) H [5,1,0] []
   refine tA h3 ?_
   refine gA 1 16 0 ?_
   refine te ?_
   obtain rfl := si H
   have H := Ho4
   dsimp only at H
   exact fJ [(false,[cI (-1)])] H
  rintro y3 H
  have H : (JJ n y3) = some r := H
  unfold JJ at H
  refine gA 2 16 0 ?_
  exact te (fJ [(false,[cI y3])] H)
 refine tA h1 ?_
 refine gA 1 16 0 ?_
 exact te (fJ [(false,[cI (-1)])] H)
def zBr (n : Nat) (x0 : (List Link)) (x1 : Int) : Option (Int) :=
  (bif (decide ((IntKind.wrap .i64 (x1 - (x0.length : Int))) < 0)) then (some (-1)) else (some (IntKind.wrap .i64 (x1 - (x0.length : Int)))))
theorem zKj (n : Nat) (x0 : (List Link)) (x1 : Int) (r : Int) (H : zBr n x0 x1 = some r) : zD Tryz.prog 104 [.val false [.sl false 4 (CV.frzEs (x0.map Link.row))],.val false [.lit (.int .i64 x1)]] [.val false [.lit (.int .i64 r)]] [] := by
 refine cW Tryz.func104 (fun g d => sl [g 0,g 1,sl [g 2] (cn 10 (sl [g 3] .ret) .skip),g 4] .ret) [.tmp 4] fun cx => ?_
 unfold zBr at H
 refine gA 1 3 0 ?_
 refine rA 2 ?_
 refine kF x0 Link.row ?_
 refine uA 2 2 0 ?_
 refine tS ?_
 refine gA 2 1026 0 ?_
 obtain ⟨h1,H⟩ | ⟨h1,H⟩ := bC H
 ·refine nA h1 ?_
  refine tK ?_
  refine gA 2 16 0 ?_
  exact te (fJ [(false,[cI (IntKind.wrap .i64 (x1 - (x0.length : Int)))])] H)
 refine tA h1 ?_
 refine gA 1 16 0 ?_
 exact te (fJ [(false,[cI (-1)])] H)
def zCO (n : Nat) (x0 : (List Say)) (x1 : Int) : Option (Int) :=
  (bif (decide ((IntKind.wrap .i64 (x1 - (x0.length : Int))) < 0)) then (some (-1)) else (some (IntKind.wrap .i64 (x1 - (x0.length : Int)))))
theorem zLQ (n : Nat) (x0 : (List Say)) (x1 : Int) (r : Int) (H : zCO n x0 x1 = some r) : zD Tryz.prog 105 [.val false [.sl false 7 (CV.frzEs (x0.map Say.row))],.val false [.lit (.int .i64 x1)]] [.val false [.lit (.int .i64 r)]] [] := by
 refine cW Tryz.func105 (fun g d => sl [g 0,g 1,sl [g 2] (cn 10 (sl [g 3] .ret) .skip),g 4] .ret) [.tmp 4] fun cx => ?_
 unfold zCO at H
 refine gA 1 3 0 ?_
 refine rA 2 ?_
 refine kF x0 Say.row ?_
 refine uA 2 2 0 ?_
 refine tS ?_
 refine gA 2 1026 0 ?_
 obtain ⟨h1,H⟩ | ⟨h1,H⟩ := bC H
 ·refine nA h1 ?_
  refine tK ?_
  refine gA 2 16 0 ?_
  exact te (fJ [(false,[cI (IntKind.wrap .i64 (x1 - (x0.length : Int)))])] H)
 refine tA h1 ?_
 refine gA 1 16 0 ?_
 exact te (fJ [(false,[cI (-1)])] H)
def zBY (n : Nat) (x0 : Net) (x1 : Int) : Option (Int) :=
  ((Y1 n x0.Bs x1).bind fun r1 => (bif (decide (r1 < 0)) then (some (-1)) else ((zBr n x0.Ls r1).bind fun r2 => (bif (decide (r2 < 0)) then (some (-1)) else ((zCO n x0.Said r2).bind fun r3 => (bif (decide (r3 < 0)) then (some (-1)) else (some r3)))))))
theorem zMN (n : Nat) (x0 : Net) (x1 : Int) (r : Int) (H : zBY n x0 x1 = some r) : zD Tryz.prog 23 [.val true (CV.frzRow (Net.row x0)),.val false [.lit (.int .i64 x1)]] [.val false [.lit (.int .i64 r)]] [] := by
 refine cW Tryz.func23 (fun g d => sl [g 0,g 1,sl [g 2] (cn 10 (sl [g 3] .ret) .skip),g 4,sl [g 5] (cn 16 (sl [g 6] .ret) .skip),g 7,sl [g 8] (cn 22 (sl [g 9] .ret) .skip),g 10] .ret) [.tmp 4] fun cx => ?_
 unfold zBY at H
 refine gA 2 6 4 ?_
 refine rA 3 ?_
 obtain ⟨r1,er1,H⟩ := bs H
 refine vA [.rd,.rd] (zI5 n x0.Bs x1 r1 er1) ?_
 refine uA 1 6 4 ?_
 refine tS ?_
 refine gA 2 1030 4 ?_
 obtain ⟨h1,H⟩ | ⟨h1,H⟩ := bC H
 ·refine nA h1 ?_
  refine tK ?_
  refine rA 3 ?_
  obtain ⟨r2,er2,H⟩ := bs H
  refine vA [.rd,.rd] (zKj n x0.Ls r1 r2 er2) ?_
  refine uA 1 6 4 ?_
  refine tS ?_
  refine gA 2 65542 4 ?_
  obtain ⟨h2,H⟩ | ⟨h2,H⟩ := bC H
  ·refine nA h2 ?_
   refine tK ?_
   refine rA 3 ?_
   obtain ⟨r3,er3,H⟩ := bs H
   refine vA [.rd,.rd] (zLQ n x0.Said r2 r3 er3) ?_
   refine uA 1 2 0 ?_
   refine tS ?_
   refine gA 2 4194306 0 ?_
   obtain ⟨h3,H⟩ | ⟨h3,H⟩ := bC H
   ·refine nA h3 ?_
    refine tK ?_
    refine gA 2 16 0 ?_
    exact te (fJ [(false,[cI r3])] H)
   refine tA h3 ?_
   refine gA 1 16 0 ?_
   exact te (fJ [(false,[cI (-1)])] H)
  refine tA h2 ?_
  refine gA 1 16 0 ?_
  exact te (fJ [(false,[cI (-1)])] H)
 refine tA h1 ?_
 refine gA 1 16 0 ?_
 exact te (fJ [(false,[cI (-1)])] H)
def zBG (n : Nat) (x0 : (List Event)) (x1 : Int) : Option (Int) :=
  (bif (decide ((IntKind.wrap .i64 (x1 - (x0.length : Int))) < 0)) then (some (-1)) else (some (IntKind.wrap .i64 (x1 - (x0.length : Int)))))
theorem zJ4 (n : Nat) (x0 : (List Event)) (x1 : Int) (r : Int) (H : zBG n x0 x1 = some r) : zD Tryz.prog 31 [.val false [.sl false 2 (CV.frzEs (x0.map Event.row))],.val false [.lit (.int .i64 x1)]] [.val false [.lit (.int .i64 r)]] [] := by
 refine cW Tryz.func31 (fun g d => sl [g 0,g 1,sl [g 2] (cn 10 (sl [g 3] .ret) .skip),g 4] .ret) [.tmp 4] fun cx => ?_
 unfold zBG at H
 refine gA 1 3 0 ?_
 refine rA 2 ?_
 refine kF x0 Event.row ?_
 refine uA 2 2 0 ?_
 refine tS ?_
 refine gA 2 1026 0 ?_
 obtain ⟨h1,H⟩ | ⟨h1,H⟩ := bC H
 ·refine nA h1 ?_
  refine tK ?_
  refine gA 2 16 0 ?_
  exact te (fJ [(false,[cI (IntKind.wrap .i64 (x1 - (x0.length : Int)))])] H)
 refine tA h1 ?_
 refine gA 1 16 0 ?_
 exact te (fJ [(false,[cI (-1)])] H)
def zCu (n : Nat) (x0 : Vec) : Option (Vec) :=
  (some x0)
theorem zIN (n : Nat) (x0 : Vec) (r : Vec) (H : zCu n x0 = some r) : zD Tryz.prog 234 [.val true (CV.frzRow (Vec.row x0))] [.val true (Vec.row r)] [] := by
 refine cW Tryz.func234 (fun g d => sl [g 0,g 1,g 2,g 3,g 4,g 5,g 6,g 7] .ret) [.cell 2 165] fun cx => ?_
 unfold zCu at H
 refine gA 2 6 6 ?_
 refine gA 1 14 14 ?_
 refine gA 4 14 14 ?_
 refine gA 4 14 14 ?_
 refine gA 4 14 14 ?_
 refine gA 4 14 14 ?_
 refine gA 4 12 12 ?_
 refine gA 2 4 4 ?_
 exact te (fJ [(true,(Vec.row x0))] H)
def zFF (n : Nat) (x0 : Pt) : Option (Pt) :=
  ((zCu n x0.Hd).bind fun r1 => (some (⟨x0.Up,x0.Co,x0.Has,r1⟩ : Pt)))
theorem zM1 (n : Nat) (x0 : Pt) (r : Pt) (H : zFF n x0 = some r) : zD Tryz.prog 177 [.val true (CV.frzRow (Pt.row x0))] [.val true (Pt.row r)] [] := by
 refine cW Tryz.func177 (fun g d => sl [g 0,g 1,g 2,g 3,g 4,g 5,g 6] .ret) [.cell 2 167] fun cx => ?_
 unfold zFF at H
 refine gA 2 6 6 ?_
 refine gA 1 14 14 ?_
 refine gA 4 14 14 ?_
 refine gA 4 14 14 ?_
 refine gA 4 14 14 ?_
 refine rA 2 ?_
 obtain ⟨r1,er1,H⟩ := bs H
 refine vA [.rd] (zIN n x0.Hd r1 er1) ?_
 refine uA 2 12 12 ?_
 refine gA 2 4 4 ?_
 exact te (fJ [(true,[cB x0.Up,cI x0.Co,cB x0.Has,cI r1.Root,cI r1.Co,cI r1.Hops,cI r1.Bridge,cI r1.Port])] H)
def zBv (n : Nat) (y4 : (List Pt)) : Option ((List Pt)) :=
  (some y4)
def Qu (n : Nat) : Nat → (List Pt) → Int → (List Pt) → Option (((List Pt)) ⊕ ((List Pt)))
  | 0,_,_,_ => none
  | mo5 + 1,x0,y2,y3 => (bif (decide (y2 < (x0.length : Int))) then ((idx x0 y2).bind fun v6 => ((zFF n v6).bind fun r7 => ((idx y3 y2).bind fun v8 => (Qu n mo5 x0 (IntKind.wrap .i64 (y2 + 1)) (y3.set (y2.toNat) r7))))) else (some (Sum.inl y3)))
def zBZ (n : Nat) (x0 : (List Pt)) : Option ((List Pt)) :=
  (bif (decide (0 ≤ (x0.length : Int)) && decide ((x0.length : Int) ≤ 268435456)) then ((Qu n n x0 0 (List.replicate ((x0.length : Int)).toNat (⟨false,0,false,(⟨0,0,0,0,0⟩ : Vec)⟩ : Pt))).bind fun o => match o with | .inl y4 => (zBv n y4) | .inr r => some r) else none)
theorem zMP (n : Nat) (x0 : (List Pt)) (r : (List Pt)) (H : zBZ n x0 = some r) : zD Tryz.prog 79 [.val false [.sl false 8 (CV.frzEs (x0.map Pt.row))]] [.val false [.sl true 8 (r.map Pt.row)]] [] := by
 refine cW Tryz.func79 (fun g d => sl [g 0,g 1,sl [g 2] (.block 0 (.loop (sl [sl [g 3] (cn 11 .skip (.exit 0)),.block 1 (g 5)] (g 4)))),g 6] .ret) [.tmp 2] fun cx => ?_
 unfold zBZ at H
 refine gA 1 1 0 ?_
 refine rA 1 ?_
 refine kF x0 Pt.row ?_
 obtain ⟨hg1,H⟩ := gs H
 refine LAt.makeG tOk (t := 35) (ty := 35) (e := 167) (x := (.tmp 6)) (d := 7) (g := none) (tI 167) (x0.length : Int) ((List.replicate ((x0.length : Int)).toNat (⟨false,0,false,(⟨0,0,0,0,0⟩ : Vec)⟩ : Pt)).map Pt.row) _ kr kr kr kr kr kr hg1 kr (zCC _ rfl) rfl ?_
 refine LAt.moveU (T := lk tab) (ty := 35) (x := (.tmp 7)) (d := 3) (g := none) false [cL 8 (List.replicate ((x0.length : Int)).toNat (⟨false,0,false,(⟨0,0,0,0,0⟩ : Vec)⟩ : Pt)) Pt.row] kr kr kr kr kr ?_
 refine dA 9 0 ?_
 refine tS ?_
 refine gA 1 25 0 ?_
 obtain ⟨o5,eo5,Ho5⟩ := bs H
 clear H
 refine Tr.mid (ι := (List Pt)) (fun v => ⟨23,0,[sC 3 (cL 8 v Pt.row)],[]⟩) (fun v => zBv n v = some r) ?_ ?_
 ·refine tB ?_
  refine Tr.loop (ι := Nat × (Int × (List Pt))) (fun v => ⟨23,0,[sI 4 v.2.1,sC 3 (cL 8 v.2.2 Pt.row),sC 0 (cF 8 x0 Pt.row)],[]⟩) (fun v => Qu n v.1 x0 v.2.1 v.2.2 = some o5) (fun v => v.1) (n,(0,(List.replicate ((x0.length : Int)).toNat (⟨false,0,false,(⟨0,0,0,0,0⟩ : Vec)⟩ : Pt)))) eo5 (St.sub_of [4,3,0] [] kr) ?_
  rintro ⟨mo5,y2,y3⟩ H
  have H : Qu n mo5 x0 y2 y3 = some o5 := H
  obtain _ | mo5 := mo5
  ·exact nN H
  rw [Qu] at H
  refine tS ?_
  refine rA 2 ?_
  refine kF x0 Pt.row ?_
  refine uA 1 2073 0 ?_
  obtain ⟨h1,H⟩ | ⟨h1,H⟩ := bC H
  ·refine nA h1 ?_
   refine Tr.exit ?_
   refine aJ ?_
   obtain rfl := si H
   have H := Ho5
   dsimp only at H
   exact jA y3 H [3] []
  refine tA h1 ?_
  refine tK ?_
  refine tS ?_
  refine tB ?_
  refine Tr.at ?_
  refine lA 4 ?_
  obtain ⟨v6,ev6,H⟩ := bs H
  refine iA Pt.row ev6 ?_
  refine lA 1 ?_
  obtain ⟨r7,er7,H⟩ := bs H
  refine vA [.rd] (zM1 n v6 r7 er7) ?_
  obtain ⟨v8,ev8,H⟩ := bs H
  refine oA Pt.row ev8 ?_
  refine sS (tI 167) true (Pt.row r7) 3 0 (y2.toNat) 8 0 8 Pt.row r7 (zI ev8).2 ?_
  refine dA 25 0 ?_
  refine eA 3 25 0 ?_
  exact jB mo5 ((IntKind.wrap .i64 (y2 + 1)),(y3.set (y2.toNat) r7)) H [4,3,0] []
 rintro y4 H
 have H : (zBv n y4) = some r := H
 unfold zBv at H
 refine gA 2 12 0 ?_
 exact te (fJ [(false,[cL 8 y4 Pt.row])] H)
def zD9 (n : Nat) (x0 : zB) : Option (zB) :=
  (some x0)
theorem zLS (n : Nat) (x0 : zB) (r : zB) (H : zD9 n x0 = some r) : zD Tryz.prog 178 [.val true (CV.frzRow (zB.row x0))] [.val true (zB.row r)] [] := by
 refine cW Tryz.func178 (fun g d => sl [g 0,g 1,g 2,g 3,g 4,g 5,g 6,g 7] .ret) [.cell 2 169] fun cx => ?_
 unfold zD9 at H
 refine gA 2 6 6 ?_
 refine gA 1 14 14 ?_
 refine gA 4 14 14 ?_
 refine gA 4 14 14 ?_
 refine gA 4 14 14 ?_
 refine gA 4 14 14 ?_
 refine gA 4 12 12 ?_
 refine gA 2 4 4 ?_
 exact te (fJ [(true,(zB.row x0))] H)
def zAa (n : Nat) (y4 : (List zB)) : Option ((List zB)) :=
  (some y4)
def QP (n : Nat) : Nat → (List zB) → Int → (List zB) → Option (((List zB)) ⊕ ((List zB)))
  | 0,_,_,_ => none
  | mo5 + 1,x0,y2,y3 => (bif (decide (y2 < (x0.length : Int))) then ((idx x0 y2).bind fun v6 => ((zD9 n v6).bind fun r7 => ((idx y3 y2).bind fun v8 => (QP n mo5 x0 (IntKind.wrap .i64 (y2 + 1)) (y3.set (y2.toNat) r7))))) else (some (Sum.inl y3)))
def zAE (n : Nat) (x0 : (List zB)) : Option ((List zB)) :=
  (bif (decide (0 ≤ (x0.length : Int)) && decide ((x0.length : Int) ≤ 268435456)) then ((QP n n x0 0 (List.replicate ((x0.length : Int)).toNat (⟨0,0,0,0,false⟩ : zB))).bind fun o => match o with | .inl y4 => (zAa n y4) | .inr r => some r) else none)
theorem zKm (n : Nat) (x0 : (List zB)) (r : (List zB)) (H : zAE n x0 = some r) : zD Tryz.prog 80 [.val false [.sl false 5 (CV.frzEs (x0.map zB.row))]] [.val false [.sl true 5 (r.map zB.row)]] [] := by
 refine cW Tryz.func80 (fun g d => sl [g 0,g 1,sl [g 2] (.block 0 (.loop (sl [sl [g 3] (cn 11 .skip (.exit 0)),.block 1 (g 5)] (g 4)))),g 6] .ret) [.tmp 2] fun cx => ?_
 unfold zAE at H
 refine gA 1 1 0 ?_
 refine rA 1 ?_
 refine kF x0 zB.row ?_
 obtain ⟨hg1,H⟩ := gs H
 refine LAt.makeG tOk (t := 36) (ty := 36) (e := 169) (x := (.tmp 6)) (d := 7) (g := none) (tI 169) (x0.length : Int) ((List.replicate ((x0.length : Int)).toNat (⟨0,0,0,0,false⟩ : zB)).map zB.row) _ kr kr kr kr kr kr hg1 kr (zCC _ rfl) rfl ?_
 refine LAt.moveU (T := lk tab) (ty := 36) (x := (.tmp 7)) (d := 3) (g := none) false [cL 5 (List.replicate ((x0.length : Int)).toNat (⟨0,0,0,0,false⟩ : zB)) zB.row] kr kr kr kr kr ?_
 refine dA 9 0 ?_
 refine tS ?_
 refine gA 1 25 0 ?_
 obtain ⟨o5,eo5,Ho5⟩ := bs H
 clear H
 refine Tr.mid (ι := (List zB)) (fun v => ⟨23,0,[sC 3 (cL 5 v zB.row)],[]⟩) (fun v => zAa n v = some r) ?_ ?_
 ·refine tB ?_
  refine Tr.loop (ι := Nat × (Int × (List zB))) (fun v => ⟨23,0,[sI 4 v.2.1,sC 3 (cL 5 v.2.2 zB.row),sC 0 (cF 5 x0 zB.row)],[]⟩) (fun v => QP n v.1 x0 v.2.1 v.2.2 = some o5) (fun v => v.1) (n,(0,(List.replicate ((x0.length : Int)).toNat (⟨0,0,0,0,false⟩ : zB)))) eo5 (St.sub_of [4,3,0] [] kr) ?_
  rintro ⟨mo5,y2,y3⟩ H
  have H : QP n mo5 x0 y2 y3 = some o5 := H
  obtain _ | mo5 := mo5
  ·exact nN H
  rw [QP] at H
  refine tS ?_
  refine rA 2 ?_
  refine kF x0 zB.row ?_
  refine uA 1 2073 0 ?_
  obtain ⟨h1,H⟩ | ⟨h1,H⟩ := bC H
  ·refine nA h1 ?_
   refine Tr.exit ?_
   refine aJ ?_
   obtain rfl := si H
   have H := Ho5
   dsimp only at H
   exact jA y3 H [3] []
  refine tA h1 ?_
  refine tK ?_
  refine tS ?_
  refine tB ?_
  refine Tr.at ?_
  refine lA 4 ?_
  obtain ⟨v6,ev6,H⟩ := bs H
  refine iA zB.row ev6 ?_
  refine lA 1 ?_
  obtain ⟨r7,er7,H⟩ := bs H
  refine vA [.rd] (zLS n v6 r7 er7) ?_
  obtain ⟨v8,ev8,H⟩ := bs H
  refine oA zB.row ev8 ?_
  refine sS (tI 169) true (zB.row r7) 3 0 (y2.toNat) 5 0 5 zB.row r7 (zI ev8).2 ?_
  refine dA 25 0 ?_
  refine eA 3 25 0 ?_
  exact jB mo5 ((IntKind.wrap .i64 (y2 + 1)),(y3.set (y2.toNat) r7)) H [4,3,0] []
 rintro y4 H
 have H : (zAa n y4) = some r := H
 unfold zAa at H
 refine gA 2 12 0 ?_
 exact te (fJ [(false,[cL 5 y4 zB.row])] H)
def zEA (n : Nat) (x0 : zC) : Option (zC) :=
  (some x0)
theorem zLW (n : Nat) (x0 : zC) (r : zC) (H : zEA n x0 = some r) : zD Tryz.prog 235 [.val true (CV.frzRow (zC.row x0))] [.val true (zC.row r)] [] := by
 refine cW Tryz.func235 (fun g d => sl [g 0,g 1,g 2,g 3,g 4,g 5] .ret) [.cell 2 175] fun cx => ?_
 unfold zEA at H
 refine gA 2 6 6 ?_
 refine gA 1 14 14 ?_
 refine gA 4 14 14 ?_
 refine gA 4 14 14 ?_
 refine gA 4 12 12 ?_
 refine gA 2 4 4 ?_
 exact te (fJ [(true,(zC.row x0))] H)
def zAc (n : Nat) (y4 : (List zC)) : Option ((List zC)) :=
  (some y4)
def QR (n : Nat) : Nat → (List zC) → Int → (List zC) → Option (((List zC)) ⊕ ((List zC)))
  | 0,_,_,_ => none
  | mo5 + 1,x0,y2,y3 => (bif (decide (y2 < (x0.length : Int))) then ((idx x0 y2).bind fun v6 => ((zEA n v6).bind fun r7 => ((idx y3 y2).bind fun v8 => (QR n mo5 x0 (IntKind.wrap .i64 (y2 + 1)) (y3.set (y2.toNat) r7))))) else (some (Sum.inl y3)))
def zAG (n : Nat) (x0 : (List zC)) : Option ((List zC)) :=
  (bif (decide (0 ≤ (x0.length : Int)) && decide ((x0.length : Int) ≤ 268435456)) then ((QR n n x0 0 (List.replicate ((x0.length : Int)).toNat (⟨0,0,0⟩ : zC))).bind fun o => match o with | .inl y4 => (zAc n y4) | .inr r => some r) else none)
theorem zKo (n : Nat) (x0 : (List zC)) (r : (List zC)) (H : zAG n x0 = some r) : zD Tryz.prog 179 [.val false [.sl false 3 (CV.frzEs (x0.map zC.row))]] [.val false [.sl true 3 (r.map zC.row)]] [] := by
 refine cW Tryz.func179 (fun g d => sl [g 0,g 1,sl [g 2] (.block 0 (.loop (sl [sl [g 3] (cn 11 .skip (.exit 0)),.block 1 (g 5)] (g 4)))),g 6] .ret) [.tmp 2] fun cx => ?_
 unfold zAG at H
 refine gA 1 1 0 ?_
 refine rA 1 ?_
 refine kF x0 zC.row ?_
 obtain ⟨hg1,H⟩ := gs H
 refine LAt.makeG tOk (t := 37) (ty := 37) (e := 175) (x := (.tmp 6)) (d := 7) (g := none) (tI 175) (x0.length : Int) ((List.replicate ((x0.length : Int)).toNat (⟨0,0,0⟩ : zC)).map zC.row) _ kr kr kr kr kr kr hg1 kr (zCC _ rfl) rfl ?_
 refine LAt.moveU (T := lk tab) (ty := 37) (x := (.tmp 7)) (d := 3) (g := none) false [cL 3 (List.replicate ((x0.length : Int)).toNat (⟨0,0,0⟩ : zC)) zC.row] kr kr kr kr kr ?_
 refine dA 9 0 ?_
 refine tS ?_
 refine gA 1 25 0 ?_
 obtain ⟨o5,eo5,Ho5⟩ := bs H
 clear H
 refine Tr.mid (ι := (List zC)) (fun v => ⟨23,0,[sC 3 (cL 3 v zC.row)],[]⟩) (fun v => zAc n v = some r) ?_ ?_
 ·refine tB ?_
  refine Tr.loop (ι := Nat × (Int × (List zC))) (fun v => ⟨23,0,[sI 4 v.2.1,sC 3 (cL 3 v.2.2 zC.row),sC 0 (cF 3 x0 zC.row)],[]⟩) (fun v => QR n v.1 x0 v.2.1 v.2.2 = some o5) (fun v => v.1) (n,(0,(List.replicate ((x0.length : Int)).toNat (⟨0,0,0⟩ : zC)))) eo5 (St.sub_of [4,3,0] [] kr) ?_
  rintro ⟨mo5,y2,y3⟩ H
  have H : QR n mo5 x0 y2 y3 = some o5 := H
  obtain _ | mo5 := mo5
  ·exact nN H
  rw [QR] at H
  refine tS ?_
  refine rA 2 ?_
  refine kF x0 zC.row ?_
  refine uA 1 2073 0 ?_
  obtain ⟨h1,H⟩ | ⟨h1,H⟩ := bC H
  ·refine nA h1 ?_
   refine Tr.exit ?_
   refine aJ ?_
   obtain rfl := si H
   have H := Ho5
   dsimp only at H
   exact jA y3 H [3] []
  refine tA h1 ?_
  refine tK ?_
  refine tS ?_
  refine tB ?_
  refine Tr.at ?_
  refine lA 4 ?_
  obtain ⟨v6,ev6,H⟩ := bs H
  refine iA zC.row ev6 ?_
  refine lA 1 ?_
  obtain ⟨r7,er7,H⟩ := bs H
  refine vA [.rd] (zLW n v6 r7 er7) ?_
  obtain ⟨v8,ev8,H⟩ := bs H
  refine oA zC.row ev8 ?_
  refine sS (tI 175) true (zC.row r7) 3 0 (y2.toNat) 3 0 3 zC.row r7 (zI ev8).2 ?_
  refine dA 25 0 ?_
  refine eA 3 25 0 ?_
  exact jB mo5 ((IntKind.wrap .i64 (y2 + 1)),(y3.set (y2.toNat) r7)) H [4,3,0] []
 rintro y4 H
 have H : (zAc n y4) = some r := H
 unfold zAc at H
 refine gA 2 12 0 ?_
 exact te (fJ [(false,[cL 3 y4 zC.row])] H)
def zBH (n : Nat) (y4 : (List Int)) : Option ((List Int)) :=
  (some y4)
def Qd (n : Nat) : Nat → (List Int) → Int → (List Int) → Option (((List Int)) ⊕ ((List Int)))
  | 0,_,_,_ => none
  | mo5 + 1,x0,y2,y3 => (bif (decide (y2 < (x0.length : Int))) then ((idx x0 y2).bind fun v6 => ((idx y3 y2).bind fun v7 => (Qd n mo5 x0 (IntKind.wrap .i64 (y2 + 1)) (y3.set (y2.toNat) v6)))) else (some (Sum.inl y3)))
def zAv (n : Nat) (x0 : (List Int)) : Option ((List Int)) :=
  (bif (decide (0 ≤ (x0.length : Int)) && decide ((x0.length : Int) ≤ 268435456)) then ((Qd n n x0 0 (List.replicate ((x0.length : Int)).toNat 0)).bind fun o => match o with | .inl y4 => (zBH n y4) | .inr r => some r) else none)
theorem zLT (n : Nat) (x0 : (List Int)) (r : (List Int)) (H : zAv n x0 = some r) : zD Tryz.prog 180 [.val false [.sl false 1 (CV.frzEs (x0.map intRow))]] [.val false [.sl true 1 (r.map intRow)]] [] := by
 refine cW Tryz.func180 (fun g d => sl [g 0,g 1,sl [g 2] (.block 0 (.loop (sl [sl [g 3] (cn 11 .skip (.exit 0)),.block 1 (g 5)] (g 4)))),g 6] .ret) [.tmp 2] fun cx => ?_
 unfold zAv at H
 refine gA 1 1 0 ?_
 refine rA 1 ?_
 refine kF x0 intRow ?_
 obtain ⟨hg1,H⟩ := gs H
 refine LAt.makeG tOk (t := 25) (ty := 25) (e := 3) (x := (.tmp 6)) (d := 7) (g := none) (tI 3) (x0.length : Int) ((List.replicate ((x0.length : Int)).toNat 0).map intRow) _ kr kr kr kr kr kr hg1 kr (zCC _ rfl) rfl ?_
 refine LAt.moveU (T := lk tab) (ty := 25) (x := (.tmp 7)) (d := 3) (g := none) false [cL 1 (List.replicate ((x0.length : Int)).toNat 0) intRow] kr kr kr kr kr ?_
 refine dA 9 0 ?_
 refine tS ?_
 refine gA 1 25 0 ?_
 obtain ⟨o5,eo5,Ho5⟩ := bs H
 clear H
 refine Tr.mid (ι := (List Int)) (fun v => ⟨22,0,[sC 3 (cL 1 v intRow)],[]⟩) (fun v => zBH n v = some r) ?_ ?_
 ·refine tB ?_
  refine Tr.loop (ι := Nat × (Int × (List Int))) (fun v => ⟨22,0,[sI 4 v.2.1,sC 3 (cL 1 v.2.2 intRow),sC 0 (cF 1 x0 intRow)],[]⟩) (fun v => Qd n v.1 x0 v.2.1 v.2.2 = some o5) (fun v => v.1) (n,(0,(List.replicate ((x0.length : Int)).toNat 0))) eo5 (St.sub_of [4,3,0] [] kr) ?_
  rintro ⟨mo5,y2,y3⟩ H
  have H : Qd n mo5 x0 y2 y3 = some o5 := H
  obtain _ | mo5 := mo5
  ·exact nN H
  rw [Qd] at H
  refine tS ?_
  refine rA 2 ?_
  refine kF x0 intRow ?_
  refine uA 1 2073 0 ?_
  obtain ⟨h1,H⟩ | ⟨h1,H⟩ := bC H
  ·refine nA h1 ?_
   refine Tr.exit ?_
   refine aJ ?_
   obtain rfl := si H
   have H := Ho5
   dsimp only at H
   exact jA y3 H [3] []
  refine tA h1 ?_
  refine tK ?_
  refine tS ?_
  refine tB ?_
  refine Tr.at ?_
  refine lA 4 ?_
  obtain ⟨v6,ev6,H⟩ := bs H
  refine iA intRow ev6 ?_
  refine lA 1 ?_
  obtain ⟨v7,ev7,H⟩ := bs H
  refine oA intRow ev7 ?_
  refine sS (tI 3) false [cI v6] 3 0 (y2.toNat) 1 0 1 intRow v6 (zI ev7).2 ?_
  refine dA 25 0 ?_
  refine eA 3 25 0 ?_
  exact jB mo5 ((IntKind.wrap .i64 (y2 + 1)),(y3.set (y2.toNat) v6)) H [4,3,0] []
 rintro y4 H
 have H : (zBH n y4) = some r := H
 unfold zBH at H
 refine gA 2 12 0 ?_
 exact te (fJ [(false,[cL 1 y4 intRow])] H)
def zAx (n : Nat) (x0 : zF) : Option (zF) :=
  ((zAG n x0.Rows).bind fun r1 => ((zAv n x0.Pv).bind fun r2 => (some (⟨r1,r2⟩ : zF))))
theorem zLX (n : Nat) (x0 : zF) (r : zF) (H : zAx n x0 = some r) : zD Tryz.prog 81 [.val true (CV.frzRow (zF.row x0))] [.val true (zF.row r)] [] := by
 refine cW Tryz.func81 (fun g d => sl [g 0,g 1,g 2,g 3,g 4] .ret) [.cell 2 39] fun cx => ?_
 unfold zAx at H
 refine gA 2 6 6 ?_
 refine gA 1 14 14 ?_
 refine rA 2 ?_
 obtain ⟨r1,er1,H⟩ := bs H
 refine vA [.rd] (zKo n x0.Rows r1 er1) ?_
 refine uA 2 14 14 ?_
 refine rA 2 ?_
 obtain ⟨r2,er2,H⟩ := bs H
 refine vA [.rd] (zLT n x0.Pv r2 er2) ?_
 refine uA 2 12 12 ?_
 refine gA 2 4 4 ?_
 exact te (fJ [(true,[cL 3 r1 zC.row,cL 1 r2 intRow])] H)
def YE (n : Nat) (x0 : zA) : Option (zA) :=
  ((zBZ n x0.Ps).bind fun r1 => ((zAE n x0.F).bind fun r2 => ((zAx n x0.V).bind fun r3 => (some (⟨x0.Id,x0.Name,r1,r2,r3,x0.Tk,x0.Pa,x0.Wo,x0.Dr,x0.Ve⟩ : zA)))))
theorem zJ5 (n : Nat) (x0 : zA) (r : zA) (H : YE n x0 = some r) : zD Tryz.prog 12 [.val true (CV.frzRow (zA.row x0))] [.val true (zA.row r)] [] := by
 refine cW Tryz.func12 (fun g d => sl [g 0,g 1,g 2,g 3,g 4,g 5,g 6,g 7,g 8,g 9,g 10,g 11,g 12] .ret) [.cell 2 41] fun cx => ?_
 unfold YE at H
 refine gA 2 6 6 ?_
 refine gA 1 14 14 ?_
 refine gA 4 14 14 ?_
 refine gA 4 14 14 ?_
 refine rA 2 ?_
 obtain ⟨r1,er1,H⟩ := bs H
 refine vA [.rd] (zMP n x0.Ps r1 er1) ?_
 refine uA 2 14 14 ?_
 refine rA 2 ?_
 obtain ⟨r2,er2,H⟩ := bs H
 refine vA [.rd] (zKm n x0.F r2 er2) ?_
 refine uA 2 14 14 ?_
 refine rA 2 ?_
 obtain ⟨r3,er3,H⟩ := bs H
 refine vA [.rd] (zLX n x0.V r3 er3) ?_
 refine uA 2 14 14 ?_
 refine gA 4 14 14 ?_
 refine gA 4 14 14 ?_
 refine gA 4 14 14 ?_
 refine gA 4 14 14 ?_
 refine gA 4 12 12 ?_
 refine gA 2 4 4 ?_
 exact te (fJ [(true,[cI x0.Id,cS x0.Name,cL 8 r1 Pt.row,cL 5 r2 zB.row,cL 3 r3.Rows zC.row,cL 1 r3.Pv intRow,cI x0.Tk,cI x0.Pa,cI x0.Wo,cI x0.Dr,cI x0.Ve])] H)
def JK (n : Nat) (y4 : (List zA)) : Option ((List zA)) :=
  (some y4)
def Zo (n : Nat) : Nat → (List zA) → Int → (List zA) → Option (((List zA)) ⊕ ((List zA)))
  | 0,_,_,_ => none
  | mo5 + 1,x0,y2,y3 => (bif (decide (y2 < (x0.length : Int))) then ((idx x0 y2).bind fun v6 => ((YE n v6).bind fun r7 => ((idx y3 y2).bind fun v8 => (Zo n mo5 x0 (IntKind.wrap .i64 (y2 + 1)) (y3.set (y2.toNat) r7))))) else (some (Sum.inl y3)))
def Y2 (n : Nat) (x0 : (List zA)) : Option ((List zA)) :=
  (bif (decide (0 ≤ (x0.length : Int)) && decide ((x0.length : Int) ≤ 268435456)) then ((Zo n n x0 0 (List.replicate ((x0.length : Int)).toNat (⟨0,(⟨#[]⟩ : ByteArray),([] : List Pt),([] : List zB),(⟨([] : List zC),([] : List Int)⟩ : zF),0,0,0,0,0⟩ : zA))).bind fun o => match o with | .inl y4 => (JK n y4) | .inr r => some r) else none)
theorem zI8 (n : Nat) (x0 : (List zA)) (r : (List zA)) (H : Y2 n x0 = some r) : zD Tryz.prog 112 [.val false [.sl false 11 (CV.frzEs (x0.map zA.row))]] [.val false [.sl true 11 (r.map zA.row)]] [] := by
 refine cW Tryz.func112 (fun g d => sl [g 0,g 1,sl [g 2] (.block 0 (.loop (sl [sl [g 3] (cn 11 .skip (.exit 0)),.block 1 (g 5)] (g 4)))),g 6] .ret) [.tmp 2] fun cx => ?_
 unfold Y2 at H
 refine gA 1 1 0 ?_
 refine rA 1 ?_
 refine kF x0 zA.row ?_
 obtain ⟨hg1,H⟩ := gs H
 refine LAt.makeG tOk (t := 63) (ty := 63) (e := 41) (x := (.tmp 6)) (d := 7) (g := none) (tI 41) (x0.length : Int) ((List.replicate ((x0.length : Int)).toNat (⟨0,(⟨#[]⟩ : ByteArray),([] : List Pt),([] : List zB),(⟨([] : List zC),([] : List Int)⟩ : zF),0,0,0,0,0⟩ : zA)).map zA.row) _ kr kr kr kr kr kr hg1 kr (zCC _ rfl) rfl ?_
 refine LAt.moveU (T := lk tab) (ty := 63) (x := (.tmp 7)) (d := 3) (g := none) false [cL 11 (List.replicate ((x0.length : Int)).toNat (⟨0,(⟨#[]⟩ : ByteArray),([] : List Pt),([] : List zB),(⟨([] : List zC),([] : List Int)⟩ : zF),0,0,0,0,0⟩ : zA)) zA.row] kr kr kr kr kr ?_
 refine dA 9 0 ?_
 refine tS ?_
 refine gA 1 25 0 ?_
 obtain ⟨o5,eo5,Ho5⟩ := bs H
 clear H
 refine Tr.mid (ι := (List zA)) (fun v => ⟨23,0,[sC 3 (cL 11 v zA.row)],[]⟩) (fun v => JK n v = some r) ?_ ?_
 ·refine tB ?_
  refine Tr.loop (ι := Nat × (Int × (List zA))) (fun v => ⟨23,0,[sI 4 v.2.1,sC 3 (cL 11 v.2.2 zA.row),sC 0 (cF 11 x0 zA.row)],[]⟩) (fun v => Zo n v.1 x0 v.2.1 v.2.2 = some o5) (fun v => v.1) (n,(0,(List.replicate ((x0.length : Int)).toNat (⟨0,(⟨#[]⟩ : ByteArray),([] : List Pt),([] : List zB),(⟨([] : List zC),([] : List Int)⟩ : zF),0,0,0,0,0⟩ : zA)))) eo5 (St.sub_of [4,3,0] [] kr) ?_
  rintro ⟨mo5,y2,y3⟩ H
  have H : Zo n mo5 x0 y2 y3 = some o5 := H
  obtain _ | mo5 := mo5
  ·exact nN H
  rw [Zo] at H
  refine tS ?_
  refine rA 2 ?_
  refine kF x0 zA.row ?_
  refine uA 1 2073 0 ?_
  obtain ⟨h1,H⟩ | ⟨h1,H⟩ := bC H
  ·refine nA h1 ?_
   refine Tr.exit ?_
   refine aJ ?_
   obtain rfl := si H
   have H := Ho5
   dsimp only at H
   exact jA y3 H [3] []
  refine tA h1 ?_
  refine tK ?_
  refine tS ?_
  refine tB ?_
  refine Tr.at ?_
  refine lA 4 ?_
  obtain ⟨v6,ev6,H⟩ := bs H
  refine iA zA.row ev6 ?_
  refine lA 1 ?_
  obtain ⟨r7,er7,H⟩ := bs H
  refine vA [.rd] (zJ5 n v6 r7 er7) ?_
  obtain ⟨v8,ev8,H⟩ := bs H
  refine oA zA.row ev8 ?_
  refine sS (tI 41) true (zA.row r7) 3 0 (y2.toNat) 11 0 11 zA.row r7 (zI ev8).2 ?_
  refine dA 25 0 ?_
  refine eA 3 25 0 ?_
  exact jB mo5 ((IntKind.wrap .i64 (y2 + 1)),(y3.set (y2.toNat) r7)) H [4,3,0] []
 rintro y4 H
 have H : (JK n y4) = some r := H
 unfold JK at H
 refine gA 2 12 0 ?_
 exact te (fJ [(false,[cL 11 y4 zA.row])] H)
def zCP (n : Nat) (x0 : Link) : Option (Link) :=
  (some x0)
theorem zLU (n : Nat) (x0 : Link) (r : Link) (H : zCP n x0 = some r) : zD Tryz.prog 198 [.val true (CV.frzRow (Link.row x0))] [.val true (Link.row r)] [] := by
 refine cW Tryz.func198 (fun g d => sl [g 0,g 1,g 2,g 3,g 4,g 5,g 6] .ret) [.cell 2 114] fun cx => ?_
 unfold zCP at H
 refine gA 2 6 6 ?_
 refine gA 1 14 14 ?_
 refine gA 4 14 14 ?_
 refine gA 4 14 14 ?_
 refine gA 4 14 14 ?_
 refine gA 4 12 12 ?_
 refine gA 2 4 4 ?_
 exact te (fJ [(true,(Link.row x0))] H)
def zAb (n : Nat) (y4 : (List Link)) : Option ((List Link)) :=
  (some y4)
def QQ (n : Nat) : Nat → (List Link) → Int → (List Link) → Option (((List Link)) ⊕ ((List Link)))
  | 0,_,_,_ => none
  | mo5 + 1,x0,y2,y3 => (bif (decide (y2 < (x0.length : Int))) then ((idx x0 y2).bind fun v6 => ((zCP n v6).bind fun r7 => ((idx y3 y2).bind fun v8 => (QQ n mo5 x0 (IntKind.wrap .i64 (y2 + 1)) (y3.set (y2.toNat) r7))))) else (some (Sum.inl y3)))
def zAF (n : Nat) (x0 : (List Link)) : Option ((List Link)) :=
  (bif (decide (0 ≤ (x0.length : Int)) && decide ((x0.length : Int) ≤ 268435456)) then ((QQ n n x0 0 (List.replicate ((x0.length : Int)).toNat (⟨0,0,0,0⟩ : Link))).bind fun o => match o with | .inl y4 => (zAb n y4) | .inr r => some r) else none)
theorem zKn (n : Nat) (x0 : (List Link)) (r : (List Link)) (H : zAF n x0 = some r) : zD Tryz.prog 113 [.val false [.sl false 4 (CV.frzEs (x0.map Link.row))]] [.val false [.sl true 4 (r.map Link.row)]] [] := by
 refine cW Tryz.func113 (fun g d => sl [g 0,g 1,sl [g 2] (.block 0 (.loop (sl [sl [g 3] (cn 11 .skip (.exit 0)),.block 1 (g 5)] (g 4)))),g 6] .ret) [.tmp 2] fun cx => ?_
 unfold zAF at H
 refine gA 1 1 0 ?_
 refine rA 1 ?_
 refine kF x0 Link.row ?_
 obtain ⟨hg1,H⟩ := gs H
 refine LAt.makeG tOk (t := 64) (ty := 64) (e := 114) (x := (.tmp 6)) (d := 7) (g := none) (tI 114) (x0.length : Int) ((List.replicate ((x0.length : Int)).toNat (⟨0,0,0,0⟩ : Link)).map Link.row) _ kr kr kr kr kr kr hg1 kr (zCC _ rfl) rfl ?_
 refine LAt.moveU (T := lk tab) (ty := 64) (x := (.tmp 7)) (d := 3) (g := none) false [cL 4 (List.replicate ((x0.length : Int)).toNat (⟨0,0,0,0⟩ : Link)) Link.row] kr kr kr kr kr ?_
 refine dA 9 0 ?_
 refine tS ?_
 refine gA 1 25 0 ?_
 obtain ⟨o5,eo5,Ho5⟩ := bs H
 clear H
 refine Tr.mid (ι := (List Link)) (fun v => ⟨23,0,[sC 3 (cL 4 v Link.row)],[]⟩) (fun v => zAb n v = some r) ?_ ?_
 ·refine tB ?_
  refine Tr.loop (ι := Nat × (Int × (List Link))) (fun v => ⟨23,0,[sI 4 v.2.1,sC 3 (cL 4 v.2.2 Link.row),sC 0 (cF 4 x0 Link.row)],[]⟩) (fun v => QQ n v.1 x0 v.2.1 v.2.2 = some o5) (fun v => v.1) (n,(0,(List.replicate ((x0.length : Int)).toNat (⟨0,0,0,0⟩ : Link)))) eo5 (St.sub_of [4,3,0] [] kr) ?_
  rintro ⟨mo5,y2,y3⟩ H
  have H : QQ n mo5 x0 y2 y3 = some o5 := H
  obtain _ | mo5 := mo5
  ·exact nN H
  rw [QQ] at H
  refine tS ?_
  refine rA 2 ?_
  refine kF x0 Link.row ?_
  refine uA 1 2073 0 ?_
  obtain ⟨h1,H⟩ | ⟨h1,H⟩ := bC H
  ·refine nA h1 ?_
   refine Tr.exit ?_
   refine aJ ?_
   obtain rfl := si H
   have H := Ho5
   dsimp only at H
   exact jA y3 H [3] []
  refine tA h1 ?_
  refine tK ?_
  refine tS ?_
  refine tB ?_
  refine Tr.at ?_
  refine lA 4 ?_
  obtain ⟨v6,ev6,H⟩ := bs H
  refine iA Link.row ev6 ?_
  refine lA 1 ?_
  obtain ⟨r7,er7,H⟩ := bs H
  refine vA [.rd] (zLU n v6 r7 er7) ?_
  obtain ⟨v8,ev8,H⟩ := bs H
  refine oA Link.row ev8 ?_
  refine sS (tI 114) true (Link.row r7) 3 0 (y2.toNat) 4 0 4 Link.row r7 (zI ev8).2 ?_
  refine dA 25 0 ?_
  refine eA 3 25 0 ?_
  exact jB mo5 ((IntKind.wrap .i64 (y2 + 1)),(y3.set (y2.toNat) r7)) H [4,3,0] []
 rintro y4 H
 have H : (zAb n y4) = some r := H
 unfold zAb at H
 refine gA 2 12 0 ?_
 exact te (fJ [(false,[cL 4 y4 Link.row])] H)
def zCt (n : Nat) (x0 : Say) : Option (Say) :=
  ((zCu n x0.V).bind fun r1 => (some (⟨x0.Link,x0.Back,r1⟩ : Say)))
theorem zMQ (n : Nat) (x0 : Say) (r : Say) (H : zCt n x0 = some r) : zD Tryz.prog 199 [.val true (CV.frzRow (Say.row x0))] [.val true (Say.row r)] [] := by
 refine cW Tryz.func199 (fun g d => sl [g 0,g 1,g 2,g 3,g 4,g 5] .ret) [.cell 2 180] fun cx => ?_
 unfold zCt at H
 refine gA 2 6 6 ?_
 refine gA 1 14 14 ?_
 refine gA 4 14 14 ?_
 refine gA 4 14 14 ?_
 refine rA 2 ?_
 obtain ⟨r1,er1,H⟩ := bs H
 refine vA [.rd] (zIN n x0.V r1 er1) ?_
 refine uA 2 12 12 ?_
 refine gA 2 4 4 ?_
 exact te (fJ [(true,[cI x0.Link,cB x0.Back,cI r1.Root,cI r1.Co,cI r1.Hops,cI r1.Bridge,cI r1.Port])] H)
def zBI (n : Nat) (y4 : (List Say)) : Option ((List Say)) :=
  (some y4)
def Qe (n : Nat) : Nat → (List Say) → Int → (List Say) → Option (((List Say)) ⊕ ((List Say)))
  | 0,_,_,_ => none
  | mo5 + 1,x0,y2,y3 => (bif (decide (y2 < (x0.length : Int))) then ((idx x0 y2).bind fun v6 => ((zCt n v6).bind fun r7 => ((idx y3 y2).bind fun v8 => (Qe n mo5 x0 (IntKind.wrap .i64 (y2 + 1)) (y3.set (y2.toNat) r7))))) else (some (Sum.inl y3)))
def zAw (n : Nat) (x0 : (List Say)) : Option ((List Say)) :=
  (bif (decide (0 ≤ (x0.length : Int)) && decide ((x0.length : Int) ≤ 268435456)) then ((Qe n n x0 0 (List.replicate ((x0.length : Int)).toNat (⟨0,false,(⟨0,0,0,0,0⟩ : Vec)⟩ : Say))).bind fun o => match o with | .inl y4 => (zBI n y4) | .inr r => some r) else none)
theorem zLV (n : Nat) (x0 : (List Say)) (r : (List Say)) (H : zAw n x0 = some r) : zD Tryz.prog 114 [.val false [.sl false 7 (CV.frzEs (x0.map Say.row))]] [.val false [.sl true 7 (r.map Say.row)]] [] := by
 refine cW Tryz.func114 (fun g d => sl [g 0,g 1,sl [g 2] (.block 0 (.loop (sl [sl [g 3] (cn 11 .skip (.exit 0)),.block 1 (g 5)] (g 4)))),g 6] .ret) [.tmp 2] fun cx => ?_
 unfold zAw at H
 refine gA 1 1 0 ?_
 refine rA 1 ?_
 refine kF x0 Say.row ?_
 obtain ⟨hg1,H⟩ := gs H
 refine LAt.makeG tOk (t := 65) (ty := 65) (e := 180) (x := (.tmp 6)) (d := 7) (g := none) (tI 180) (x0.length : Int) ((List.replicate ((x0.length : Int)).toNat (⟨0,false,(⟨0,0,0,0,0⟩ : Vec)⟩ : Say)).map Say.row) _ kr kr kr kr kr kr hg1 kr (zCC _ rfl) rfl ?_
 refine LAt.moveU (T := lk tab) (ty := 65) (x := (.tmp 7)) (d := 3) (g := none) false [cL 7 (List.replicate ((x0.length : Int)).toNat (⟨0,false,(⟨0,0,0,0,0⟩ : Vec)⟩ : Say)) Say.row] kr kr kr kr kr ?_
 refine dA 9 0 ?_
 refine tS ?_
 refine gA 1 25 0 ?_
 obtain ⟨o5,eo5,Ho5⟩ := bs H
 clear H
 refine Tr.mid (ι := (List Say)) (fun v => ⟨23,0,[sC 3 (cL 7 v Say.row)],[]⟩) (fun v => zBI n v = some r) ?_ ?_
 ·refine tB ?_
  refine Tr.loop (ι := Nat × (Int × (List Say))) (fun v => ⟨23,0,[sI 4 v.2.1,sC 3 (cL 7 v.2.2 Say.row),sC 0 (cF 7 x0 Say.row)],[]⟩) (fun v => Qe n v.1 x0 v.2.1 v.2.2 = some o5) (fun v => v.1) (n,(0,(List.replicate ((x0.length : Int)).toNat (⟨0,false,(⟨0,0,0,0,0⟩ : Vec)⟩ : Say)))) eo5 (St.sub_of [4,3,0] [] kr) ?_
  rintro ⟨mo5,y2,y3⟩ H
  have H : Qe n mo5 x0 y2 y3 = some o5 := H
  obtain _ | mo5 := mo5
  ·exact nN H
  rw [Qe] at H
  refine tS ?_
  refine rA 2 ?_
  refine kF x0 Say.row ?_
  refine uA 1 2073 0 ?_
  obtain ⟨h1,H⟩ | ⟨h1,H⟩ := bC H
  ·refine nA h1 ?_
   refine Tr.exit ?_
   refine aJ ?_
   obtain rfl := si H
   have H := Ho5
   dsimp only at H
   exact jA y3 H [3] []
  refine tA h1 ?_
  refine tK ?_
  refine tS ?_
  refine tB ?_
  refine Tr.at ?_
  refine lA 4 ?_
  obtain ⟨v6,ev6,H⟩ := bs H
  refine iA Say.row ev6 ?_
  refine lA 1 ?_
  obtain ⟨r7,er7,H⟩ := bs H
  refine vA [.rd] (zMQ n v6 r7 er7) ?_
  obtain ⟨v8,ev8,H⟩ := bs H
  refine oA Say.row ev8 ?_
  refine sS (tI 180) true (Say.row r7) 3 0 (y2.toNat) 7 0 7 Say.row r7 (zI ev8).2 ?_
  refine dA 25 0 ?_
  refine eA 3 25 0 ?_
  exact jB mo5 ((IntKind.wrap .i64 (y2 + 1)),(y3.set (y2.toNat) r7)) H [4,3,0] []
 rintro y4 H
 have H : (zBI n y4) = some r := H
 unfold zBI at H
 refine gA 2 12 0 ?_
 exact te (fJ [(false,[cL 7 y4 Say.row])] H)
def Q7 (n : Nat) (x0 : Net) : Option (Net) :=
  ((Y2 n x0.Bs).bind fun r1 => ((zAF n x0.Ls).bind fun r2 => ((zAw n x0.Said).bind fun r3 => (some (⟨r1,r2,r3⟩ : Net)))))
theorem zDl (n : Nat) (x0 : Net) (r : Net) (H : Q7 n x0 = some r) : zD Tryz.prog 25 [.val true (CV.frzRow (Net.row x0))] [.val true (Net.row r)] [] := by
 refine cW Tryz.func25 (fun g d => sl [g 0,g 1,g 2,g 3,g 4,g 5] .ret) [.cell 2 67] fun cx => ?_
 unfold Q7 at H
 refine gA 2 6 6 ?_
 refine gA 1 14 14 ?_
 refine rA 2 ?_
 obtain ⟨r1,er1,H⟩ := bs H
 refine vA [.rd] (zI8 n x0.Bs r1 er1) ?_
 refine uA 2 14 14 ?_
 refine rA 2 ?_
 obtain ⟨r2,er2,H⟩ := bs H
 refine vA [.rd] (zKn n x0.Ls r2 er2) ?_
 refine uA 2 14 14 ?_
 refine rA 2 ?_
 obtain ⟨r3,er3,H⟩ := bs H
 refine vA [.rd] (zLV n x0.Said r3 er3) ?_
 refine uA 2 12 12 ?_
 refine gA 2 4 4 ?_
 exact te (fJ [(true,[cL 11 r1 zA.row,cL 4 r2 Link.row,cL 7 r3 Say.row])] H)
def zBt (n : Nat) (x0 : Event) : Option (Event) :=
  (some x0)
theorem zKl (n : Nat) (x0 : Event) (r : Event) (H : zBt n x0 = some r) : zD Tryz.prog 26 [.val true (CV.frzRow (Event.row x0))] [.val true (Event.row r)] [] := by
 refine cW Tryz.func26 (fun g d => sl [g 0,g 1,g 2,g 3,g 4] .ret) [.cell 2 71] fun cx => ?_
 unfold zBt at H
 refine gA 2 6 6 ?_
 refine gA 1 14 14 ?_
 refine gA 4 14 14 ?_
 refine gA 4 12 12 ?_
 refine gA 2 4 4 ?_
 exact te (fJ [(true,(Event.row x0))] H)
def Jy (n : Nat) (y4 : (List Event)) : Option ((List Event)) :=
  (some y4)
def QA (n : Nat) : Nat → (List Event) → Int → (List Event) → Option (((List Event)) ⊕ ((List Event)))
  | 0,_,_,_ => none
  | mo5 + 1,x0,y2,y3 => (bif (decide (y2 < (x0.length : Int))) then ((idx x0 y2).bind fun v6 => ((zBt n v6).bind fun r7 => ((idx y3 y2).bind fun v8 => (QA n mo5 x0 (IntKind.wrap .i64 (y2 + 1)) (y3.set (y2.toNat) r7))))) else (some (Sum.inl y3)))
def QI (n : Nat) (x0 : (List Event)) : Option ((List Event)) :=
  (bif (decide (0 ≤ (x0.length : Int)) && decide ((x0.length : Int) ≤ 268435456)) then ((QA n n x0 0 (List.replicate ((x0.length : Int)).toNat (⟨0,0⟩ : Event))).bind fun o => match o with | .inl y4 => (Jy n y4) | .inr r => some r) else none)
theorem zBu (n : Nat) (x0 : (List Event)) (r : (List Event)) (H : QI n x0 = some r) : zD Tryz.prog 33 [.val false [.sl false 2 (CV.frzEs (x0.map Event.row))]] [.val false [.sl true 2 (r.map Event.row)]] [] := by
 refine cW Tryz.func33 (fun g d => sl [g 0,g 1,sl [g 2] (.block 0 (.loop (sl [sl [g 3] (cn 11 .skip (.exit 0)),.block 1 (g 5)] (g 4)))),g 6] .ret) [.tmp 2] fun cx => ?_
 unfold QI at H
 refine gA 1 1 0 ?_
 refine rA 1 ?_
 refine kF x0 Event.row ?_
 obtain ⟨hg1,H⟩ := gs H
 refine LAt.makeG tOk (t := 79) (ty := 79) (e := 71) (x := (.tmp 6)) (d := 7) (g := none) (tI 71) (x0.length : Int) ((List.replicate ((x0.length : Int)).toNat (⟨0,0⟩ : Event)).map Event.row) _ kr kr kr kr kr kr hg1 kr (zCC _ rfl) rfl ?_
 refine LAt.moveU (T := lk tab) (ty := 79) (x := (.tmp 7)) (d := 3) (g := none) false [cL 2 (List.replicate ((x0.length : Int)).toNat (⟨0,0⟩ : Event)) Event.row] kr kr kr kr kr ?_
 refine dA 9 0 ?_
 refine tS ?_
 refine gA 1 25 0 ?_
 obtain ⟨o5,eo5,Ho5⟩ := bs H
 clear H
 refine Tr.mid (ι := (List Event)) (fun v => ⟨23,0,[sC 3 (cL 2 v Event.row)],[]⟩) (fun v => Jy n v = some r) ?_ ?_
 ·refine tB ?_
  refine Tr.loop (ι := Nat × (Int × (List Event))) (fun v => ⟨23,0,[sI 4 v.2.1,sC 3 (cL 2 v.2.2 Event.row),sC 0 (cF 2 x0 Event.row)],[]⟩) (fun v => QA n v.1 x0 v.2.1 v.2.2 = some o5) (fun v => v.1) (n,(0,(List.replicate ((x0.length : Int)).toNat (⟨0,0⟩ : Event)))) eo5 (St.sub_of [4,3,0] [] kr) ?_
  rintro ⟨mo5,y2,y3⟩ H
  have H : QA n mo5 x0 y2 y3 = some o5 := H
  obtain _ | mo5 := mo5
  ·exact nN H
  rw [QA] at H
  refine tS ?_
  refine rA 2 ?_
  refine kF x0 Event.row ?_
  refine uA 1 2073 0 ?_
  obtain ⟨h1,H⟩ | ⟨h1,H⟩ := bC H
  ·refine nA h1 ?_
   refine Tr.exit ?_
   refine aJ ?_
   obtain rfl := si H
   have H := Ho5
   dsimp only at H
   exact jA y3 H [3] []
  refine tA h1 ?_
  refine tK ?_
  refine tS ?_
  refine tB ?_
  refine Tr.at ?_
  refine lA 4 ?_
  obtain ⟨v6,ev6,H⟩ := bs H
  refine iA Event.row ev6 ?_
  refine lA 1 ?_
  obtain ⟨r7,er7,H⟩ := bs H
  refine vA [.rd] (zKl n v6 r7 er7) ?_
  obtain ⟨v8,ev8,H⟩ := bs H
  refine oA Event.row ev8 ?_
  refine sS (tI 71) true (Event.row r7) 3 0 (y2.toNat) 2 0 2 Event.row r7 (zI ev8).2 ?_
  refine dA 25 0 ?_
  refine eA 3 25 0 ?_
  exact jB mo5 ((IntKind.wrap .i64 (y2 + 1)),(y3.set (y2.toNat) r7)) H [4,3,0] []
 rintro y4 H
 have H : (Jy n y4) = some r := H
 unfold Jy at H
 refine gA 2 12 0 ?_
 exact te (fJ [(false,[cL 2 y4 Event.row])] H)
def zCX (n : Nat) (x0 : (List zB)) : Option ((List zB)) :=
  (bif (decide (([] : List zB).length + x0.length ≤ 268435456)) then (some (([] : List zB) ++ x0)) else none)
theorem zLi (n : Nat) (x0 : (List zB)) (r : (List zB)) (H : zCX n x0 = some r) : zD Tryz.prog 166 [.val false [.sl false 5 (CV.frzEs (x0.map zB.row))]] [.val false [.sl true 5 (r.map zB.row)]] [] := by
 refine cW Tryz.func166 (fun g d => sl [g 0,g 1] .ret) [.tmp 2] fun cx => ?_
 unfold zCX at H
 refine gA 1 1 0 ?_
 refine rA 2 ?_
 obtain ⟨hg1,H⟩ := gs H
 refine pD zB.row hg1 ?_
 refine LAt.moveU (T := lk tab) (ty := 36) (x := (.tmp 5)) (d := 2) (g := none) false [cL 5 (([] : List zB) ++ x0) zB.row] kr kr kr kr kr ?_
 refine dA 4 0 ?_
 exact te (fJ [(false,[cL 5 (([] : List zB) ++ x0) zB.row])] H)
def zA2 (n : Nat) (x0 : zF) : Option (zF) :=
  (bif (decide (([] : List zC).length + x0.Rows.length ≤ 268435456)) then (bif (decide (([] : List Int).length + x0.Pv.length ≤ 268435456)) then (some (⟨(([] : List zC) ++ x0.Rows),(([] : List Int) ++ x0.Pv)⟩ : zF)) else none) else none)
theorem zLj (n : Nat) (x0 : zF) (r : zF) (H : zA2 n x0 = some r) : zD Tryz.prog 167 [.val true (CV.frzRow (zF.row x0))] [.val true (zF.row r)] [] := by
 refine cW Tryz.func167 (fun g d => sl [g 0,d 1] .ret) [.cell 2 39] fun cx => ?_
 unfold zA2 at H
 refine gA 2 6 6 ?_
 obtain ⟨hg1,H⟩ := gs H
 obtain ⟨hg2,H⟩ := gs H
 refine Tr.draws mixed 10 kr ⟨12,0,[sA 2 2 2 0],[(2,[cL 3 (([] : List zC) ++ x0.Rows) zC.row,cL 1 (([] : List Int) ++ x0.Pv) intRow])]⟩ (fun cx => ?_) ?_
 ·refine aA [(1,[]),(2,[3,7,8,9]),(5,[]),(6,[7,8,9])] 6 [⟨[7,8,9],25,8,9⟩,⟨[3,7,8,9],37,4,5⟩] fun cx => ?_
  refine AT.big2 tOk 0 4 kr (And.intro kr ?_) (And.intro kr ?_)
  ·refine lA 1 ?_
   refine fA ?_
   refine AT.big2 tOk 3 4 kr (And.intro kr ?_) (And.intro kr ?_)
   ·refine pD zC.row hg1 ?_
    refine fA ?_
    refine bA 4 ?_
    refine lA 1 ?_
    refine fA ?_
    refine bA 7 ?_
    refine pD intRow hg2 ?_
    refine fA ?_
    refine bA 8 ?_
    refine lA 1 ?_
    refine fA ?_
    refine bA 9 ?_
    refine lA 1 ?_
    refine fA ?_
    exact eE [2] [2]
   ·refine lA 1 ?_
    refine fA ?_
    refine bA 3 ?_
    refine pD zC.row hg1 ?_
    refine fA ?_
    refine bA 7 ?_
    refine pD intRow hg2 ?_
    refine fA ?_
    refine bA 8 ?_
    refine lA 1 ?_
    refine fA ?_
    refine bA 9 ?_
    refine lA 1 ?_
    refine fA ?_
    exact eE [2] [2]
  ·refine lA 1 ?_
   refine fA ?_
   refine bA 0 ?_
   refine lA 1 ?_
   refine fA ?_
   refine bA 3 ?_
   refine pD zC.row hg1 ?_
   refine fA ?_
   refine bA 7 ?_
   refine pD intRow hg2 ?_
   refine fA ?_
   refine bA 8 ?_
   refine lA 1 ?_
   refine fA ?_
   refine bA 9 ?_
   refine lA 1 ?_
   refine fA ?_
   exact eE [2] [2]
 exact te (fJ [(true,[cL 3 (([] : List zC) ++ x0.Rows) zC.row,cL 1 (([] : List Int) ++ x0.Pv) intRow])] H)
def Z5 (n : Nat) (x0 : zA) : Option (zA) :=
  (bif (decide (([] : List Pt).length + x0.Ps.length ≤ 268435456)) then ((zCX n x0.F).bind fun r2 => ((zA2 n x0.V).bind fun r3 => (some (⟨x0.Id,x0.Name,(([] : List Pt) ++ x0.Ps),r2,r3,x0.Tk,x0.Pa,x0.Wo,x0.Dr,x0.Ve⟩ : zA)))) else none)
theorem zCW (n : Nat) (x0 : zA) (r : zA) (H : Z5 n x0 = some r) : zD Tryz.prog 68 [.val true (CV.frzRow (zA.row x0))] [.val true (zA.row r)] [] := by
 refine cW Tryz.func68 (fun g d => sl [g 0,g 1,g 2,g 3,g 4,g 5] .ret) [.cell 2 41] fun cx => ?_
 unfold Z5 at H
 refine gA 2 6 6 ?_
 refine gA 3 14 14 ?_
 refine rA 3 ?_
 obtain ⟨hg1,H⟩ := gs H
 refine pD Pt.row hg1 ?_
 refine uA 2 14 14 ?_
 refine rA 2 ?_
 obtain ⟨r2,er2,H⟩ := bs H
 refine vA [.rd] (zLi n x0.F r2 er2) ?_
 refine uA 2 14 14 ?_
 refine rA 2 ?_
 obtain ⟨r3,er3,H⟩ := bs H
 refine vA [.rd] (zLj n x0.V r3 er3) ?_
 refine uA 2 12 12 ?_
 refine gA 2 4 4 ?_
 exact te (fJ [(true,[cI x0.Id,cS x0.Name,cL 8 (([] : List Pt) ++ x0.Ps) Pt.row,cL 5 r2 zB.row,cL 3 r3.Rows zC.row,cL 1 r3.Pv intRow,cI x0.Tk,cI x0.Pa,cI x0.Wo,cI x0.Dr,cI x0.Ve])] H)
def zAf (n : Nat) (x0 : Net) (y5 : (List zA)) : Option (Net) :=
  (some (⟨y5,(([] : List Link) ++ x0.Ls),(([] : List Say) ++ x0.Said)⟩ : Net))
def Zs (n : Nat) : Nat → Net → Int → (List zA) → Option (((List zA)) ⊕ (Net))
  | 0,_,_,_ => none
  | mo6 + 1,x0,y3,y4 => (bif (decide (y3 < (x0.Bs.length : Int))) then ((idx x0.Bs y3).bind fun v7 => ((Z5 n v7).bind fun r8 => (bif (decide (y4.length + [r8].length ≤ 268435456)) then (Zs n mo6 x0 (IntKind.wrap .i64 (y3 + 1)) (y4 ++ [r8])) else none))) else (some (Sum.inl y4)))
def Yj (n : Nat) (x0 : Net) : Option (Net) :=
  (bif (decide (([] : List Link).length + x0.Ls.length ≤ 268435456)) then (bif (decide (([] : List Say).length + x0.Said.length ≤ 268435456)) then ((Zs n n x0 0 ([] : List zA)).bind fun o => match o with | .inl y5 => (zAf n x0 y5) | .inr r => some r) else none) else none)
def zOH : Tab := ⟨12,[0,1,0,4,0,24,32,64,128,386,1023,2047],[0,1,0,4,0,24,32,64,128,258,0,1536],[0,1,0,4,0,28,60,124,252,511,1023,2047]⟩
theorem zCE : zf (rg Tryz.f106 5) zOH = true := kr
theorem zIe (n : Nat) (x0 : Net) (hg1 : (decide (([] : List Link).length + x0.Ls.length ≤ 268435456)) = true) (hg2 : (decide (([] : List Say).length + x0.Said.length ≤ 268435456)) = true) (cx : Cx) : AT Tryz.prog cx (rg Tryz.f106 1) [] 11 [] ⟨33,0,[sA 2 2 3 0,sA 1 1 3 0],[(2,[cL 11 ([] : List zA) zA.row,cL 4 ([] : List Link) Link.row,cL 7 ([] : List Say) Say.row]),(1,(CV.frzRow (Net.row x0)))]⟩ (fun s => s = ⟨33,0,[sA 3 3 3 0,sA 2 2 3 0,sA 1 1 3 0],[(3,[cL 11 ([] : List zA) zA.row,cL 4 (([] : List Link) ++ x0.Ls) Link.row,cL 7 (([] : List Say) ++ x0.Said) Say.row]),(2,[cL 11 ([] : List zA) zA.row,cL 4 ([] : List Link) Link.row,cL 7 ([] : List Say) Say.row]),(1,(CV.frzRow (Net.row x0)))]⟩) := by
 refine aA [(1,[]),(2,[3,7,8,10]),(5,[]),(6,[7,8,10])] 7 [⟨[7,8,10],65,10,11⟩,⟨[3,7,8,10],64,6,7⟩] fun cx => ?_
 refine AT.big3 tOk 0 4 9 kr (And.intro kr ?_) (And.intro kr ?_) (And.intro kr ?_)
 ·refine lA 1 ?_
  refine fA ?_
  refine AT.big3 tOk 3 4 9 kr (And.intro kr ?_) (And.intro kr ?_) (And.intro kr ?_)
  ·refine pD Link.row hg1 ?_
   refine fA ?_
   refine AT.big2 tOk 4 9 kr (And.intro kr ?_) (And.intro kr ?_)
   ·refine lA 1 ?_
    refine fA ?_
    refine AT.big2 tOk 7 9 kr (And.intro kr ?_) (And.intro kr ?_)
    ·refine pD Say.row hg2 ?_
     refine fA ?_
     refine AT.big2 tOk 8 9 kr (And.intro kr ?_) (And.intro kr ?_)
     ·refine lA 1 ?_
      refine fA ?_
      refine bA 9 ?_
      refine lA 1 ?_
      refine fA ?_
      refine bA 10 ?_
      refine lA 1 ?_
      refine fA ?_
      exact eE [3,2,1] [3,2,1]
     ·refine lA 1 ?_
      refine fA ?_
      refine bA 8 ?_
      refine lA 1 ?_
      refine fA ?_
      refine bA 10 ?_
      refine lA 1 ?_
      refine fA ?_
      exact eE [3,2,1] [3,2,1]
    ·refine lA 1 ?_
     refine fA ?_
     refine bA 7 ?_
     refine pD Say.row hg2 ?_
     refine fA ?_
     refine bA 8 ?_
     refine lA 1 ?_
     refine fA ?_
     refine bA 10 ?_
     refine lA 1 ?_
     refine fA ?_
     exact eE [3,2,1] [3,2,1]
   ·refine lA 1 ?_
    refine fA ?_
    refine bA 4 ?_
    refine lA 1 ?_
    refine fA ?_
    refine bA 7 ?_
    refine pD Say.row hg2 ?_
    refine fA ?_
    refine bA 8 ?_
    refine lA 1 ?_
    refine fA ?_
    refine bA 10 ?_
    refine lA 1 ?_
    refine fA ?_
    exact eE [3,2,1] [3,2,1]
  ·refine lA 1 ?_
   refine fA ?_
   refine AT.big2 tOk 3 9 kr (And.intro kr ?_) (And.intro kr ?_)
   ·refine pD Link.row hg1 ?_
    refine fA ?_
    refine AT.big2 tOk 7 9 kr (And.intro kr ?_) (And.intro kr ?_)
    ·refine pD Say.row hg2 ?_
     refine fA ?_
     refine AT.big2 tOk 8 9 kr (And.intro kr ?_) (And.intro kr ?_)
     ·refine lA 1 ?_
      refine fA ?_
      refine bA 9 ?_
      refine lA 1 ?_
      refine fA ?_
      refine bA 10 ?_
      refine lA 1 ?_
      refine fA ?_
      exact eE [3,2,1] [3,2,1]
     ·refine lA 1 ?_
      refine fA ?_
      refine bA 8 ?_
      refine lA 1 ?_
      refine fA ?_
      refine bA 10 ?_
      refine lA 1 ?_
      refine fA ?_
      exact eE [3,2,1] [3,2,1]
    ·refine lA 1 ?_
     refine fA ?_
     refine bA 7 ?_
     refine pD Say.row hg2 ?_
     refine fA ?_
     refine bA 8 ?_
     refine lA 1 ?_
     refine fA ?_
     refine bA 10 ?_
     refine lA 1 ?_
     refine fA ?_
     exact eE [3,2,1] [3,2,1]
   ·refine lA 1 ?_
    refine fA ?_
    refine bA 3 ?_
    refine pD Link.row hg1 ?_
    refine fA ?_
    refine bA 7 ?_
    refine pD Say.row hg2 ?_
    refine fA ?_
    refine bA 8 ?_
    refine lA 1 ?_
    refine fA ?_
    refine bA 10 ?_
    refine lA 1 ?_
    refine fA ?_
    exact eE [3,2,1] [3,2,1]
  ·refine lA 1 ?_
   refine fA ?_
   refine AT.big2 tOk 3 4 kr (And.intro kr ?_) (And.intro kr ?_)
   ·refine pD Link.row hg1 ?_
    refine fA ?_
    refine bA 4 ?_
    refine lA 1 ?_
    refine fA ?_
    refine bA 7 ?_
    refine pD Say.row hg2 ?_
    refine fA ?_
    refine bA 8 ?_
    refine lA 1 ?_
    refine fA ?_
    refine bA 10 ?_
    refine lA 1 ?_
    refine fA ?_
    exact eE [3,2,1] [3,2,1]
   ·refine lA 1 ?_
    refine fA ?_
    refine bA 3 ?_
    refine pD Link.row hg1 ?_
    refine fA ?_
    refine bA 7 ?_
    refine pD Say.row hg2 ?_
    refine fA ?_
    refine bA 8 ?_
    refine lA 1 ?_
    refine fA ?_
    refine bA 10 ?_
    refine lA 1 ?_
    refine fA ?_
    exact eE [3,2,1] [3,2,1]
 ·refine lA 1 ?_
  refine fA ?_
  refine AT.big2 tOk 0 9 kr (And.intro kr ?_) (And.intro kr ?_)
  ·refine lA 1 ?_
   refine fA ?_
   refine AT.big2 tOk 3 9 kr (And.intro kr ?_) (And.intro kr ?_)
   ·refine pD Link.row hg1 ?_
    refine fA ?_
    refine AT.big2 tOk 7 9 kr (And.intro kr ?_) (And.intro kr ?_)
    ·refine pD Say.row hg2 ?_
     refine fA ?_
     refine AT.big2 tOk 8 9 kr (And.intro kr ?_) (And.intro kr ?_)
     ·refine lA 1 ?_
      refine fA ?_
      refine bA 9 ?_
      refine lA 1 ?_
      refine fA ?_
      refine bA 10 ?_
      refine lA 1 ?_
      refine fA ?_
      exact eE [3,2,1] [3,2,1]
     ·refine lA 1 ?_
      refine fA ?_
      refine bA 8 ?_
      refine lA 1 ?_
      refine fA ?_
      refine bA 10 ?_
      refine lA 1 ?_
      refine fA ?_
      exact eE [3,2,1] [3,2,1]
    ·refine lA 1 ?_
     refine fA ?_
     refine bA 7 ?_
     refine pD Say.row hg2 ?_
     refine fA ?_
     refine bA 8 ?_
     refine lA 1 ?_
     refine fA ?_
     refine bA 10 ?_
     refine lA 1 ?_
     refine fA ?_
     exact eE [3,2,1] [3,2,1]
   ·refine lA 1 ?_
    refine fA ?_
    refine bA 3 ?_
    refine pD Link.row hg1 ?_
    refine fA ?_
    refine bA 7 ?_
    refine pD Say.row hg2 ?_
    refine fA ?_
    refine bA 8 ?_
    refine lA 1 ?_
    refine fA ?_
    refine bA 10 ?_
    refine lA 1 ?_
    refine fA ?_
    exact eE [3,2,1] [3,2,1]
  ·refine lA 1 ?_
   refine fA ?_
   refine bA 0 ?_
   refine lA 1 ?_
   refine fA ?_
   refine bA 3 ?_
   refine pD Link.row hg1 ?_
   refine fA ?_
   refine bA 7 ?_
   refine pD Say.row hg2 ?_
   refine fA ?_
   refine bA 8 ?_
   refine lA 1 ?_
   refine fA ?_
   refine bA 10 ?_
   refine lA 1 ?_
   refine fA ?_
   exact eE [3,2,1] [3,2,1]
 ·refine lA 1 ?_
  refine fA ?_
  refine AT.big2 tOk 0 4 kr (And.intro kr ?_) (And.intro kr ?_)
  ·refine lA 1 ?_
   refine fA ?_
   refine AT.big2 tOk 3 4 kr (And.intro kr ?_) (And.intro kr ?_)
   ·refine pD Link.row hg1 ?_
    refine fA ?_
    refine bA 4 ?_
    refine lA 1 ?_
    refine fA ?_
    refine bA 7 ?_
    refine pD Say.row hg2 ?_
    refine fA ?_
    refine bA 8 ?_
    refine lA 1 ?_
    refine fA ?_
    refine bA 10 ?_
    refine lA 1 ?_
    refine fA ?_
    exact eE [3,2,1] [3,2,1]
   ·refine lA 1 ?_
    refine fA ?_
    refine bA 3 ?_
    refine pD Link.row hg1 ?_
    refine fA ?_
    refine bA 7 ?_
    refine pD Say.row hg2 ?_
    refine fA ?_
    refine bA 8 ?_
    refine lA 1 ?_
    refine fA ?_
    refine bA 10 ?_
    refine lA 1 ?_
    refine fA ?_
    exact eE [3,2,1] [3,2,1]
  ·refine lA 1 ?_
   refine fA ?_
   refine bA 0 ?_
   refine lA 1 ?_
   refine fA ?_
   refine bA 3 ?_
   refine pD Link.row hg1 ?_
   refine fA ?_
   refine bA 7 ?_
   refine pD Say.row hg2 ?_
   refine fA ?_
   refine bA 8 ?_
   refine lA 1 ?_
   refine fA ?_
   refine bA 10 ?_
   refine lA 1 ?_
   refine fA ?_
   exact eE [3,2,1] [3,2,1]
theorem zGN (n : Nat) (x0 : Net) (r : Net) (H : Yj n x0 = some r) : zD Tryz.prog 106 [.val true (CV.frzRow (Net.row x0))] [.val true (Net.row r)] [] := by
 refine cW Tryz.func106 (fun g d => sl [g 0,d 1,sl [g 2] (.block 0 (.loop (sl [sl [g 3] (cn 18 .skip (.exit 0)),.block 1 (d 5)] (g 4)))),g 6] .ret) [.cell 2 67] fun cx => ?_
 unfold Yj at H
 refine gA 2 6 6 ?_
 obtain ⟨hg1,H⟩ := gs H
 obtain ⟨hg2,H⟩ := gs H
 refine sT ⟨33,0,[sA 2 2 3 0,sA 1 1 3 0],[(2,[cL 11 ([] : List zA) zA.row,cL 4 ([] : List Link) Link.row,cL 7 ([] : List Say) Say.row]),(1,(CV.frzRow (Net.row x0)))]⟩ ?_
 refine Tr.draws mixed 11 kr ⟨33,0,[sA 3 3 3 0,sA 2 2 3 0,sA 1 1 3 0],[(3,[cL 11 ([] : List zA) zA.row,cL 4 (([] : List Link) ++ x0.Ls) Link.row,cL 7 (([] : List Say) ++ x0.Said) Say.row]),(2,[cL 11 ([] : List zA) zA.row,cL 4 ([] : List Link) Link.row,cL 7 ([] : List Say) Say.row]),(1,(CV.frzRow (Net.row x0)))]⟩ (zIe n x0 hg1 hg2) ?_
 refine tS ?_
 refine gA 1 30 14 ?_
 obtain ⟨o6,eo6,Ho6⟩ := bs H
 clear H
 refine Tr.mid (ι := (List zA)) (fun v => ⟨33,0,[sA 3 3 3 0,sA 2 2 3 0],[(3,[cL 11 v zA.row,cL 4 (([] : List Link) ++ x0.Ls) Link.row,cL 7 (([] : List Say) ++ x0.Said) Say.row]),(2,[cL 11 ([] : List zA) zA.row,cL 4 ([] : List Link) Link.row,cL 7 ([] : List Say) Say.row])]⟩) (fun v => zAf n x0 v = some r) ?_ ?_
 ·refine tB ?_
  refine Tr.loop (ι := Nat × (Int × (List zA))) (fun v => ⟨33,0,[sI 4 v.2.1,sA 3 3 3 0,sA 2 2 3 0,sA 1 1 3 0],[(3,[cL 11 v.2.2 zA.row,cL 4 (([] : List Link) ++ x0.Ls) Link.row,cL 7 (([] : List Say) ++ x0.Said) Say.row]),(2,[cL 11 ([] : List zA) zA.row,cL 4 ([] : List Link) Link.row,cL 7 ([] : List Say) Say.row]),(1,(CV.frzRow (Net.row x0)))]⟩) (fun v => Zs n v.1 x0 v.2.1 v.2.2 = some o6) (fun v => v.1) (n,(0,([] : List zA))) eo6 (St.sub_of [4,3,2,1] [3,2,1] kr) ?_
  rintro ⟨mo6,y3,y4⟩ H
  have H : Zs n mo6 x0 y3 y4 = some o6 := H
  obtain _ | mo6 := mo6
  ·exact nN H
  rw [Zs] at H
  refine tS ?_
  refine rA 3 ?_
  refine kF x0.Bs zA.row ?_
  refine uA 1 262174 14 ?_
  obtain ⟨h1,H⟩ | ⟨h1,H⟩ := bC H
  ·refine nA h1 ?_
   refine Tr.exit ?_
   refine aJ ?_
   obtain rfl := si H
   have H := Ho6
   dsimp only at H
   exact jA y4 H [3,2] [3,2]
  refine tA h1 ?_
  refine tK ?_
  refine tS ?_
  refine tB ?_
  obtain ⟨v7,ev7,H⟩ := bs H
  obtain ⟨r8,er8,H⟩ := bs H
  obtain ⟨hg9,H⟩ := gs H
  refine Tr.draw mixed 12 kr ⟨33,0,[sI 4 y3,sA 3 3 3 0,sA 2 2 3 0,sA 1 1 3 0],[(3,[cL 11 (y4 ++ [r8]) zA.row,cL 4 (([] : List Link) ++ x0.Ls) Link.row,cL 7 (([] : List Say) ++ x0.Said) Say.row]),(2,[cL 11 ([] : List zA) zA.row,cL 4 ([] : List Link) Link.row,cL 7 ([] : List Say) Say.row]),(1,(CV.frzRow (Net.row x0)))]⟩ (fun cx => ?_) ?_
  ·refine mA zCE [(0,[]),(1,[9,11]),(2,[]),(3,[7,8,9,11]),(4,[])] 7 [⟨[7,8,9,11],63,23,24⟩,⟨[9,11],63,21,22⟩] fun cx => ?_
   refine iN zCE 5 zA.row ev7 fun cx => ?_
   refine mA zCE [(6,[])] 5 [⟨[7,8,9,11],63,23,24⟩,⟨[9,11],63,21,22⟩] fun cx => ?_
   refine mC zCE 7 ?_
   refine vA [.rd] (zCW n v7 r8 er8) ?_
   refine fA ?_
   refine mC zCE 8 ?_
   refine lA 1 ?_
   refine fA ?_
   refine mC zCE 9 ?_
   refine LAt.appMU tOk (t := 63) (ty := 63) (e := 41) (x := (.tmp 22)) (y := (.tmp 29)) (d := 30) (g := none) (tI 41) zA.row y4 [r8] kr kr kr kr kr kr kr kr kr kr hg9 ?_
   refine fA ?_
   refine mA zCE [(10,[])] 1 [⟨[7,8,9,11],63,23,24⟩,⟨[9,11],63,21,22⟩] fun cx => ?_
   refine mC zCE 11 ?_
   refine lA 1 ?_
   refine fA ?_
   exact mE zCE [4,3,2,1] [3,2,1]
  refine eA 3 30 14 ?_
  exact jB mo6 ((IntKind.wrap .i64 (y3 + 1)),(y4 ++ [r8])) H [4,3,2,1] [3,2,1]
 rintro y5 H
 have H : (zAf n x0 y5) = some r := H
 unfold zAf at H
 refine gA 2 4 4 ?_
 exact te (fJ [(true,[cL 11 y5 zA.row,cL 4 (([] : List Link) ++ x0.Ls) Link.row,cL 7 (([] : List Say) ++ x0.Said) Say.row])] H)
def zP (n : Nat) (x0 : Int) (x1 : Int) (x2 : Int) : Option (Bool) :=
  (bif (decide (x0 ≥ x1)) then (some (decide (x0 ≤ x2))) else (some false))
theorem zO (n : Nat) (x0 : Int) (x1 : Int) (x2 : Int) (r : Bool) (H : zP n x0 x1 x2 = some r) : zD Tryz.prog 107 [.val false [.lit (.int .i64 x0)],.val false [.lit (.int .i64 x1)],.val false [.lit (.int .i64 x2)]] [.val false [.lit (.bool r)]] [] := by
 refine cW Tryz.func107 (fun g d => sl [g 0,g 1] .ret) [.tmp 6] fun cx => ?_
 unfold zP at H
 refine gA 1 7 0 ?_
 refine rA 4 ?_
 refine sL 1029 0 ⟨15,0,[sB 10 (decide (x0 ≥ x1)),sI 0 x0,sI 2 x2],[]⟩ ?_
 cases h1 : (decide (x0 ≥ x1))
 ·have H := zG h1 H
  refine uA 5 64 0 ?_
  exact te (fF H)
 have H := zH h1 H
 refine uA 5 64 0 ?_
 exact te (fJ [(false,[cB (decide (x0 ≤ x2))])] H)
def zq (n : Nat) (x0 : Vec) : Option (Bool) :=
  ((zP n x0.Root 1 99).bind fun r1 => (bif r1 then ((zP n x0.Co 0 100000).bind fun r2 => (bif r2 then ((zP n x0.Hops 0 10).bind fun r3 => (bif r3 then ((zP n x0.Bridge 1 99).bind fun r4 => (bif r4 then ((zP n x0.Port 0 7).bind fun r5 => (some r5)) else (some false))) else (some false))) else (some false))) else (some false)))
theorem zCU (n : Nat) (x0 : Vec) (r : Bool) (H : zq n x0 = some r) : zD Tryz.prog 161 [.val true (CV.frzRow (Vec.row x0))] [.val false [.lit (.bool r)]] [] := by
 refine cW Tryz.func161 (fun g d => sl [g 0,g 1] .ret) [.tmp 2] fun cx => ?_
 unfold zq at H
 refine gA 2 2 2 ?_
 refine rA 2 ?_
 obtain ⟨r1,er1,H⟩ := bs H
 refine vA [.rd,.rd,.rd] (zO n x0.Root 1 99 r1 er1) ?_
 refine lA 1 ?_
 refine sL 66 2 ⟨26,0,[sB 6 r1,sA 1 1 5 0],[(1,(Vec.row x0))]⟩ ?_
 cases h1 : r1
 ·have H := zG h1 H
  refine uA 20 4 0 ?_
  exact te (fF H)
 have H := zH h1 H
 refine lA 2 ?_
 obtain ⟨r2,er2,H⟩ := bs H
 refine vA [.rd,.rd,.rd] (zO n x0.Co 0 100000 r2 er2) ?_
 refine lA 2 ?_
 refine sL 2050 2 ⟨26,0,[sB 11 r2,sA 1 1 5 0],[(1,(Vec.row x0))]⟩ ?_
 cases h2 : r2
 ·have H := zG h2 H
  refine uA 15 4 0 ?_
  exact te (fF H)
 have H := zH h2 H
 refine lA 2 ?_
 obtain ⟨r3,er3,H⟩ := bs H
 refine vA [.rd,.rd,.rd] (zO n x0.Hops 0 10 r3 er3) ?_
 refine lA 2 ?_
 refine sL 65538 2 ⟨26,0,[sB 16 r3,sA 1 1 5 0],[(1,(Vec.row x0))]⟩ ?_
 cases h3 : r3
 ·have H := zG h3 H
  refine uA 10 4 0 ?_
  exact te (fF H)
 have H := zH h3 H
 refine lA 2 ?_
 obtain ⟨r4,er4,H⟩ := bs H
 refine vA [.rd,.rd,.rd] (zO n x0.Bridge 1 99 r4 er4) ?_
 refine lA 2 ?_
 refine sL 2097154 2 ⟨26,0,[sB 21 r4,sA 1 1 5 0],[(1,(Vec.row x0))]⟩ ?_
 cases h4 : r4
 ·have H := zG h4 H
  refine uA 5 4 0 ?_
  exact te (fF H)
 have H := zH h4 H
 refine lA 2 ?_
 obtain ⟨r5,er5,H⟩ := bs H
 refine vA [.rd,.rd,.rd] (zO n x0.Port 0 7 r5 er5) ?_
 refine uA 2 4 0 ?_
 exact te (fJ [(false,[cB r5])] H)
def qF (n : Nat) (x0 : Pt) : Option (Bool) :=
  ((zP n x0.Co 1 1000).bind fun r1 => (bif (!r1) then (some false) else (bif (!x0.Up) then (bif x0.Has then (some false) else (some ((x0.Hd.Root == 0) && ((x0.Hd.Co == 0) && ((x0.Hd.Hops == 0) && ((x0.Hd.Bridge == 0) && ((x0.Hd.Port == 0) && true))))))) else (bif (!x0.Has) then (some ((x0.Hd.Root == 0) && ((x0.Hd.Co == 0) && ((x0.Hd.Hops == 0) && ((x0.Hd.Bridge == 0) && ((x0.Hd.Port == 0) && true)))))) else ((zq n x0.Hd).bind fun r2 => (some r2))))))
theorem zNA (n : Nat) (x0 : Pt) (r : Bool) (H : qF n x0 = some r) : zD Tryz.prog 226 [.val true (CV.frzRow (Pt.row x0))] [.val false [.lit (.bool r)]] [] := by
 refine cW Tryz.func226 (fun g d => sl [g 0,sl [g 1] (cn 15 (sl [g 2] .ret) .skip),sl [g 3] (cn 18 (sl [g 4] .ret) .skip),g 5] .ret) [.tmp 2] fun cx => ?_
 unfold qF at H
 refine gA 2 2 2 ?_
 refine tS ?_
 refine rA 2 ?_
 obtain ⟨r1,er1,H⟩ := bs H
 refine vA [.rd,.rd,.rd] (zO n x0.Co 1 1000 r1 er1) ?_
 refine lA 2 ?_
 refine sL 130 2 ⟨26,0,[sB 7 (!r1),sA 1 1 8 0],[(1,(Pt.row x0))]⟩ ?_
 cases h1 : (!r1)
 ·have H := zG h1 H
  refine lA 4 ?_
  refine sL 2178 2 ⟨26,0,[sB 11 (!x0.Up),sB 7 false,sA 1 1 8 0],[(1,(Pt.row x0))]⟩ ?_
  cases h2 : (!x0.Up)
  ·have H := zG h2 H
   refine uA 4 32770 2 ?_
   refine nB_ ?_
   refine tK ?_
   refine tS ?_
   refine gA 3 262146 2 ?_
   obtain ⟨h3,H⟩ | ⟨h3,H⟩ := bC H
   ·refine nA h3 ?_
    refine tK ?_
    refine rA 2 ?_
    obtain ⟨r2,er2,H⟩ := bs H
    refine vA [.rd] (zCU n x0.Hd r2 er2) ?_
    refine uA 1 4 0 ?_
    exact te (fJ [(false,[cB r2])] H)
   refine tA h3 ?_
   refine rA 3 ?_
   refine LAt.eqSG false (t := 165) (ty := 165) (ty' := 4) (x := (.tmp 20)) (y := (.tmp 21)) (d := 22) (g := none) ((x0.Hd.Root == 0) && ((x0.Hd.Co == 0) && ((x0.Hd.Hops == 0) && ((x0.Hd.Bridge == 0) && ((x0.Hd.Port == 0) && true))))) _ kr kr kr kr rfl ?_
   refine uA 1 4 0 ?_
   exact te (fJ [(false,[cB ((x0.Hd.Root == 0) && ((x0.Hd.Co == 0) && ((x0.Hd.Hops == 0) && ((x0.Hd.Bridge == 0) && ((x0.Hd.Port == 0) && true)))))])] H)
  have H := zH h2 H
  refine uA 4 32770 2 ?_
  refine sT ⟨26,0,[sB 15 x0.Has,sA 1 1 8 0],[(1,(Pt.row x0))]⟩ ?_
  cases h4 : x0.Has
  ·have H := zG h4 H
   refine nB_ ?_
   refine tK ?_
   refine tS ?_
   refine gA 3 262146 2 ?_
   refine sT ⟨26,0,[sB 18 (!x0.Has),sA 1 1 8 0],[(1,(Pt.row x0))]⟩ ?_
   rw [h4]
   refine tB_ ?_
   refine rA 3 ?_
   refine LAt.eqSG false (t := 165) (ty := 165) (ty' := 4) (x := (.tmp 20)) (y := (.tmp 21)) (d := 22) (g := none) ((x0.Hd.Root == 0) && ((x0.Hd.Co == 0) && ((x0.Hd.Hops == 0) && ((x0.Hd.Bridge == 0) && ((x0.Hd.Port == 0) && true))))) _ kr kr kr kr rfl ?_
   refine uA 1 4 0 ?_
   exact te (fJ [(false,[cB ((x0.Hd.Root == 0) && ((x0.Hd.Co == 0) && ((x0.Hd.Hops == 0) && ((x0.Hd.Bridge == 0) && ((x0.Hd.Port == 0) && true)))))])] H)
  have H := zH h4 H
  refine tB_ ?_
  refine gA 1 4 0 ?_
  exact te (fF H)
 have H := zH h1 H
 refine uA 8 32770 2 ?_
 refine tB_ ?_
 refine gA 1 4 0 ?_
 exact te (fF H)
def Ze (n : Nat) (x0 : zB) : Option (Bool) :=
  ((zP n x0.Tag 1 99).bind fun r1 => (bif r1 then ((zP n x0.Mac 1 9999).bind fun r2 => (bif r2 then ((zP n x0.Port 0 7).bind fun r3 => (bif r3 then ((zP n x0.Age 0 4).bind fun r4 => (bif r4 then (bif (!x0.Sc) then (some true) else (some (x0.Age == 0))) else (some false))) else (some false))) else (some false))) else (some false)))
theorem zFQ (n : Nat) (x0 : zB) (r : Bool) (H : Ze n x0 = some r) : zD Tryz.prog 173 [.val true (CV.frzRow (zB.row x0))] [.val false [.lit (.bool r)]] [] := by
 refine cW Tryz.func173 (fun g d => sl [g 0,g 1] .ret) [.tmp 2] fun cx => ?_
 unfold Ze at H
 refine gA 2 2 2 ?_
 refine rA 2 ?_
 obtain ⟨r1,er1,H⟩ := bs H
 refine vA [.rd,.rd,.rd] (zO n x0.Tag 1 99 r1 er1) ?_
 refine lA 1 ?_
 refine sL 66 2 ⟨31,0,[sB 6 r1,sA 1 1 5 0],[(1,(zB.row x0))]⟩ ?_
 cases h1 : r1
 ·have H := zG h1 H
  refine uA 25 4 0 ?_
  exact te (fF H)
 have H := zH h1 H
 refine lA 2 ?_
 obtain ⟨r2,er2,H⟩ := bs H
 refine vA [.rd,.rd,.rd] (zO n x0.Mac 1 9999 r2 er2) ?_
 refine lA 2 ?_
 refine sL 2050 2 ⟨31,0,[sB 11 r2,sA 1 1 5 0],[(1,(zB.row x0))]⟩ ?_
 cases h2 : r2
 ·have H := zG h2 H
  refine uA 20 4 0 ?_
  exact te (fF H)
 have H := zH h2 H
 refine lA 2 ?_
 obtain ⟨r3,er3,H⟩ := bs H
 refine vA [.rd,.rd,.rd] (zO n x0.Port 0 7 r3 er3) ?_
 refine lA 2 ?_
 refine sL 65538 2 ⟨31,0,[sB 16 r3,sA 1 1 5 0],[(1,(zB.row x0))]⟩ ?_
 cases h3 : r3
 ·have H := zG h3 H
  refine uA 15 4 0 ?_
  exact te (fF H)
 have H := zH h3 H
 refine lA 2 ?_
 obtain ⟨r4,er4,H⟩ := bs H
 refine vA [.rd,.rd,.rd] (zO n x0.Age 0 4 r4 er4) ?_
 refine lA 2 ?_
 refine sL 2097154 2 ⟨31,0,[sB 21 r4,sA 1 1 5 0],[(1,(zB.row x0))]⟩ ?_
 cases h4 : r4
 ·have H := zG h4 H
  refine uA 10 4 0 ?_
  exact te (fF H)
 have H := zH h4 H
 refine lA 4 ?_
 refine sL 35651586 2 ⟨31,0,[sB 25 (!x0.Sc),sB 21 true,sA 1 1 5 0],[(1,(zB.row x0))]⟩ ?_
 cases h5 : (!x0.Sc)
 ·have H := zG h5 H
  refine uA 6 4 0 ?_
  exact te (fJ [(false,[cB (x0.Age == 0)])] H)
 have H := zH h5 H
 refine uA 6 4 0 ?_
 exact te (fT H)
def Zd (n : Nat) (x0 : zB) (x1 : Int) (x2 : Int) : Option (Bool) :=
  (bif (x0.Tag != x1) then (some (decide (x0.Tag < x1))) else (some (decide (x0.Mac < x2))))
theorem zK9 (n : Nat) (x0 : zB) (x1 : Int) (x2 : Int) (r : Bool) (H : Zd n x0 x1 x2 = some r) : zD Tryz.prog 232 [.val true (CV.frzRow (zB.row x0)),.val false [.lit (.int .i64 x1)],.val false [.lit (.int .i64 x2)]] [.val false [.lit (.bool r)]] [] := by
 refine cW Tryz.func232 (fun g d => sl [g 0,sl [g 1] (cn 10 (sl [g 2] .ret) .skip),g 3] .ret) [.tmp 6] fun cx => ?_
 unfold Zd at H
 refine gA 2 14 8 ?_
 refine tS ?_
 refine gA 4 1038 8 ?_
 obtain ⟨h1,H⟩ | ⟨h1,H⟩ := bC H
 ·refine nA h1 ?_
  refine tK ?_
  refine gA 5 64 0 ?_
  exact te (fJ [(false,[cB (decide (x0.Mac < x2))])] H)
 refine tA h1 ?_
 refine gA 5 64 0 ?_
 exact te (fJ [(false,[cB (decide (x0.Tag < x1))])] H)
def zAH (n : Nat) (x0 : (List zB)) : Option (Bool) :=
  (some (decide ((x0.length : Int) ≤ 12)))
def qC (n : Nat) : Nat → (List zB) → Int → Option ((Unit) ⊕ (Bool))
  | 0,_,_ => none
  | mo2 + 1,x0,y1 => (bif (decide (y1 < (x0.length : Int))) then ((idx x0 y1).bind fun v3 => ((Ze n v3).bind fun r4 => (bif (!r4) then (some (Sum.inr false)) else (bif (decide (y1 > 0)) then ((idx x0 (IntKind.wrap .i64 (y1 - 1))).bind fun v5 => ((idx x0 y1).bind fun v6 => ((idx x0 y1).bind fun v7 => ((Zd n v5 v6.Tag v7.Mac).bind fun r8 => (bif (!r8) then (some (Sum.inr false)) else (qC n mo2 x0 (IntKind.wrap .i64 (y1 + 1)))))))) else (qC n mo2 x0 (IntKind.wrap .i64 (y1 + 1))))))) else (some (Sum.inl ())))
def ZL (n : Nat) (x0 : (List zB)) : Option (Bool) :=
  ((qC n n x0 0).bind fun o => match o with | .inl _ => (zAH n x0) | .inr r => some r)
def zOa : Tab := ⟨29,[0,0,3,4,8,16,48,64,192,320,512,512,2560,5632,8704,512,512,98816,131584,262656,512,512,3146240,4194816,8389120,17318400,33554944,67109440,134217792],[0,0,3,4,8,16,32,64,192,320,512,512,2560,5632,8704,512,512,98816,131584,262656,512,512,3146240,4194816,8389120,17318400,33554944,67109440,134217792],[0,0,3,7,15,31,63,127,255,511,1023,1023,3071,8191,16383,1023,1023,99327,230399,492543,1023,1023,3146751,7341055,15729663,33554431,67108863,134217727,268435455]⟩
theorem qY : zf (rg Tryz.f172 4) zOa = true := kr
theorem zMX (n : Nat) (x0 : (List zB)) (r : Bool) (H : ZL n x0 = some r) : zD Tryz.prog 172 [.val false [.sl false 5 (CV.frzEs (x0.map zB.row))]] [.val false [.lit (.bool r)]] [] := by
 refine cW Tryz.func172 (fun g d => sl [g 0,sl [g 1] (.block 0 (.loop (sl [sl [g 2] (cn 7 .skip (.exit 0)),.block 1 (sl [d 4] (cn 38 (sl [g 5] .ret) .skip))] (g 3)))),g 6] .ret) [.tmp 2] fun cx => ?_
 unfold ZL at H
 refine gA 1 1 0 ?_
 refine tS ?_
 refine gA 1 9 0 ?_
 obtain ⟨o2,eo2,Ho2⟩ := bs H
 clear H
 refine Tr.mid (ι := Unit) (fun v => ⟨42,0,[sC 0 (cF 5 x0 zB.row)],[]⟩) (fun v => zAH n x0 = some r) ?_ ?_
 ·refine tB ?_
  refine Tr.loop (ι := Nat × (Int)) (fun v => ⟨42,0,[sI 3 v.2,sC 0 (cF 5 x0 zB.row)],[]⟩) (fun v => qC n v.1 x0 v.2 = some o2) (fun v => v.1) (n,0) eo2 (St.sub_of [3,0] [] kr) ?_
  rintro ⟨mo2,y1⟩ H
  have H : qC n mo2 x0 y1 = some o2 := H
  obtain _ | mo2 := mo2
  ·exact nN H
  rw [qC] at H
  refine tS ?_
  refine rA 2 ?_
  refine kF x0 zB.row ?_
  refine uA 1 137 0 ?_
  obtain ⟨h1,H⟩ | ⟨h1,H⟩ := bC H
  ·refine nA h1 ?_
   refine Tr.exit ?_
   refine aJ ?_
   obtain rfl := si H
   have H := Ho2
   dsimp only at H
   exact jA () H [0] []
  refine tA h1 ?_
  refine tK ?_
  refine tS ?_
  refine tB ?_
  obtain ⟨v3,ev3,H⟩ := bs H
  obtain ⟨r4,er4,H⟩ := bs H
  refine sT ⟨42,0,[sB 7 (decide (y1 < (x0.length : Int))),sI 3 y1,sC 0 (cF 5 x0 zB.row)],[]⟩ ?_
  cases h2 : (!r4)
  ·have H := zG h2 H
   refine sT ⟨42,0,[sB 7 (decide (y1 < (x0.length : Int))),sI 3 y1,sC 0 (cF 5 x0 zB.row)],[]⟩ ?_
   cases h3 : (decide (y1 > 0))
   ·have H := zG h3 H
    refine Tr.draws mixed 29 kr ⟨42,0,[sB 38 false,sI 3 y1,sC 0 (cF 5 x0 zB.row)],[]⟩ (fun cx => ?_) ?_
    ·refine mA qY [(0,[]),(1,[])] 27 [] fun cx => ?_
     refine iN qY 2 zB.row ev3 fun cx => ?_
     refine mA qY [(3,[])] 25 [] fun cx => ?_
     refine mC qY 4 ?_
     refine vA [.rd] (zFQ n v3 r4 er4) ?_
     refine fA ?_
     refine mA qY [(5,[]),(6,[])] 22 [] fun cx => ?_
     refine sA_ 65545 0 ⟨42,0,[sB 16 (!r4),sI 3 y1,sC 0 (cF 5 x0 zB.row)],[]⟩ ?_
     rw [h2]
     refine mA qY [(7,[]),(8,[]),(9,[])] 19 [] fun cx => ?_
     refine sA_ 589833 0 ⟨42,0,[sB 19 (decide (y1 > 0)),sB 16 false,sI 3 y1,sC 0 (cF 5 x0 zB.row)],[]⟩ ?_
     rw [h3]
     refine mA qY [(10,[]),(11,[]),(12,[]),(13,[]),(14,[]),(15,[]),(16,[]),(17,[]),(18,[]),(19,[]),(20,[]),(21,[]),(22,[]),(23,[]),(24,[]),(25,[]),(26,[]),(27,[]),(28,[])] 0 [] fun cx => ?_
     exact mE qY [38,3,0] []
    refine nB_ ?_
    refine tK ?_
    refine eA 3 9 0 ?_
    exact jB mo2 (IntKind.wrap .i64 (y1 + 1)) H [3,0] []
   have H := zH h3 H
   obtain ⟨v5,ev5,H⟩ := bs H
   obtain ⟨v6,ev6,H⟩ := bs H
   obtain ⟨v7,ev7,H⟩ := bs H
   obtain ⟨r8,er8,H⟩ := bs H
   refine Tr.draws mixed 29 kr ⟨42,0,[sB 38 (!r8),sI 3 y1,sC 0 (cF 5 x0 zB.row)],[]⟩ (fun cx => ?_) ?_
   ·refine mA qY [(0,[]),(1,[])] 27 [] fun cx => ?_
    refine iN qY 2 zB.row ev3 fun cx => ?_
    refine mA qY [(3,[])] 25 [] fun cx => ?_
    refine mC qY 4 ?_
    refine vA [.rd] (zFQ n v3 r4 er4) ?_
    refine fA ?_
    refine mA qY [(5,[]),(6,[])] 22 [] fun cx => ?_
    refine sA_ 65545 0 ⟨42,0,[sB 16 (!r4),sI 3 y1,sC 0 (cF 5 x0 zB.row)],[]⟩ ?_
    rw [h2]
    refine mA qY [(7,[]),(8,[]),(9,[])] 19 [] fun cx => ?_
    refine sA_ 589833 0 ⟨42,0,[sB 19 (decide (y1 > 0)),sB 16 false,sI 3 y1,sC 0 (cF 5 x0 zB.row)],[]⟩ ?_
    rw [h3]
    refine mA qY [(10,[]),(11,[]),(12,[])] 16 [] fun cx => ?_
    refine iN qY 13 zB.row ev5 fun cx => ?_
    refine mA qY [(14,[]),(15,[]),(16,[])] 12 [] fun cx => ?_
    refine iN qY 17 zB.row ev6 fun cx => ?_
    refine mA qY [(18,[]),(19,[]),(20,[]),(21,[])] 7 [] fun cx => ?_
    refine iN qY 22 zB.row ev7 fun cx => ?_
    refine mA qY [(23,[]),(24,[])] 4 [] fun cx => ?_
    refine mC qY 25 ?_
    refine vA [.rd,.rd,.rd] (zK9 n v5 v6.Tag v7.Mac r8 er8) ?_
    refine fA ?_
    refine mA qY [(26,[]),(27,[]),(28,[])] 0 [] fun cx => ?_
    exact mE qY [38,3,0] []
   refine sT ⟨42,0,[sB 38 (!r8),sI 3 y1,sC 0 (cF 5 x0 zB.row)],[]⟩ ?_
   cases h4 : (!r8)
   ·have H := zG h4 H
    refine nB_ ?_
    refine tK ?_
    refine eA 3 9 0 ?_
    exact jB mo2 (IntKind.wrap .i64 (y1 + 1)) H [3,0] []
   have H := zH h4 H
   refine tB_ ?_
   refine gA 1 4 0 ?_
   refine te ?_
   obtain rfl := si H
   have H := Ho2
   dsimp only at H
   exact fF H
  have H := zH h2 H
  refine Tr.draws mixed 29 kr ⟨42,0,[sB 38 true,sI 3 y1,sC 0 (cF 5 x0 zB.row)],[]⟩ (fun cx => ?_) ?_
  ·refine mA qY [(0,[]),(1,[])] 27 [] fun cx => ?_
   refine iN qY 2 zB.row ev3 fun cx => ?_
   refine mA qY [(3,[])] 25 [] fun cx => ?_
   refine mC qY 4 ?_
   refine vA [.rd] (zFQ n v3 r4 er4) ?_
   refine fA ?_
   refine mA qY [(5,[]),(6,[])] 22 [] fun cx => ?_
   refine sA_ 65545 0 ⟨42,0,[sB 16 (!r4),sI 3 y1,sC 0 (cF 5 x0 zB.row)],[]⟩ ?_
   rw [h2]
   refine mA qY [(7,[]),(8,[]),(9,[]),(10,[]),(11,[]),(12,[]),(13,[]),(14,[]),(15,[]),(16,[]),(17,[]),(18,[]),(19,[]),(20,[]),(21,[]),(22,[]),(23,[]),(24,[]),(25,[]),(26,[]),(27,[]),(28,[])] 0 [] fun cx => ?_
   exact mE qY [38,3,0] []
  refine tB_ ?_
  refine gA 1 4 0 ?_
  refine te ?_
  obtain rfl := si H
  have H := Ho2
  dsimp only at H
  exact fF H
 rintro _ H
 have H : (zAH n x0) = some r := H
 unfold zAH at H
 refine rA 1 ?_
 refine kF x0 zB.row ?_
 refine uA 2 4 0 ?_
 exact te (fJ [(false,[cB (decide ((x0.length : Int) ≤ 12))])] H)
def zBy (n : Nat) : Option (Int) :=
  (some (-1))
def ZZ (n : Nat) : Nat → zF → Int → Int → Option ((Unit) ⊕ (Int))
  | 0,_,_,_ => none
  | mo2 + 1,x0,x1,y1 => (bif (decide (y1 < (x0.Rows.length : Int))) then ((idx x0.Rows y1).bind fun v3 => (bif (v3.Id == x1) then (some (Sum.inr y1)) else (ZZ n mo2 x0 x1 (IntKind.wrap .i64 (y1 + 1))))) else (some (Sum.inl ())))
def JA (n : Nat) (x0 : zF) (x1 : Int) : Option (Int) :=
  ((ZZ n n x0 x1 0).bind fun o => match o with | .inl _ => (zBy n) | .inr r => some r)
theorem zMZ (n : Nat) (x0 : zF) (x1 : Int) (r : Int) (H : JA n x0 x1 = some r) : zD Tryz.prog 170 [.val true (CV.frzRow (zF.row x0)),.val false [.lit (.int .i64 x1)]] [.val false [.lit (.int .i64 r)]] [] := by
 refine cW Tryz.func170 (fun g d => sl [g 0,sl [g 1] (.block 0 (.loop (sl [sl [g 2] (cn 10 .skip (.exit 0)),.block 1 (sl [g 4] (cn 20 (sl [g 5] .ret) .skip))] (g 3)))),g 6] .ret) [.tmp 4] fun cx => ?_
 unfold JA at H
 refine gA 2 6 4 ?_
 refine tS ?_
 refine gA 1 38 4 ?_
 obtain ⟨o2,eo2,Ho2⟩ := bs H
 clear H
 refine Tr.mid (ι := Unit) (fun v => ⟨22,0,[],[]⟩) (fun v => zBy n = some r) ?_ ?_
 ·refine tB ?_
  refine Tr.loop (ι := Nat × (Int)) (fun v => ⟨22,0,[sI 5 v.2,sA 2 2 2 0,sI 1 x1],[(2,(CV.frzRow (zF.row x0)))]⟩) (fun v => ZZ n v.1 x0 x1 v.2 = some o2) (fun v => v.1) (n,0) eo2 (St.sub_of [5,2,1] [2] kr) ?_
  rintro ⟨mo2,y1⟩ H
  have H : ZZ n mo2 x0 x1 y1 = some o2 := H
  obtain _ | mo2 := mo2
  ·exact nN H
  rw [ZZ] at H
  refine tS ?_
  refine rA 3 ?_
  refine kF x0.Rows zC.row ?_
  refine uA 1 1062 4 ?_
  obtain ⟨h1,H⟩ | ⟨h1,H⟩ := bC H
  ·refine nA h1 ?_
   refine Tr.exit ?_
   refine aJ ?_
   obtain rfl := si H
   have H := Ho2
   dsimp only at H
   exact jA () H [] []
  refine tA h1 ?_
  refine tK ?_
  refine tS ?_
  refine tB ?_
  refine rA 3 ?_
  obtain ⟨v3,ev3,H⟩ := bs H
  refine iA zC.row ev3 ?_
  refine uA 4 1048614 4 ?_
  obtain ⟨h2,H⟩ | ⟨h2,H⟩ := bC H
  ·refine nA h2 ?_
   refine tK ?_
   refine eA 3 38 4 ?_
   exact jB mo2 (IntKind.wrap .i64 (y1 + 1)) H [5,2,1] [2]
  refine tA h2 ?_
  refine gA 2 16 0 ?_
  refine te ?_
  obtain rfl := si H
  have H := Ho2
  dsimp only at H
  exact fJ [(false,[cI y1])] H
 rintro _ H
 have H : (zBy n) = some r := H
 unfold zBy at H
 refine gA 1 16 0 ?_
 exact te (fJ [(false,[cI (-1)])] H)
def zBM (n : Nat) : Option (Bool) :=
  (some true)
def Zh (n : Nat) : Nat → zF → Int → Option ((Unit) ⊕ (Bool))
  | 0,_,_ => none
  | mo5 + 1,x0,y4 => (bif (decide (y4 < (x0.Pv.length : Int))) then ((idx x0.Pv y4).bind fun v6 => ((JA n x0 v6).bind fun r7 => (bif (decide (r7 < 0)) then (some (Sum.inr false)) else (Zh n mo5 x0 (IntKind.wrap .i64 (y4 + 1)))))) else (some (Sum.inl ())))
def Jf (n : Nat) (x0 : zF) : Option (Bool) :=
  ((Zh n n x0 0).bind fun o => match o with | .inl _ => (zBM n) | .inr r => some r)
def ZM (n : Nat) : Nat → zF → Int → Int → Option ((Unit) ⊕ (Bool))
  | 0,_,_,_ => none
  | mo8 + 1,x0,x1,y3 => (bif (decide (y3 < (x0.Rows.length : Int))) then ((idx x0.Rows y3).bind fun v9 => ((zP n v9.Id 1 99).bind fun r10 => (bif (!r10) then (some (Sum.inr false)) else ((zP n v9.Members 0 (IntKind.wrap .i64 ((IntKind.wrap .i64 (1 * 2 ^ min (((IntKind.wrap .u64 x1) : Int)).toNat (IntKind.bits .i64))) - 1))).bind fun r11 => (bif (!r11) then (some (Sum.inr false)) else ((zP n v9.Bare 0 (IntKind.wrap .i64 ((IntKind.wrap .i64 (1 * 2 ^ min (((IntKind.wrap .u64 x1) : Int)).toNat (IntKind.bits .i64))) - 1))).bind fun r12 => (bif (!r12) then (some (Sum.inr false)) else (bif ((IntKind.wrap .i64 (BitVec.ofInt (IntKind.bits .i64) v9.Bare &&& BitVec.ofInt (IntKind.bits .i64) v9.Members).toNat) != v9.Bare) then (some (Sum.inr false)) else (bif (decide (y3 > 0)) then ((idx x0.Rows (IntKind.wrap .i64 (y3 - 1))).bind fun v13 => (bif (decide (v13.Id ≥ v9.Id)) then (some (Sum.inr false)) else (ZM n mo8 x0 x1 (IntKind.wrap .i64 (y3 + 1))))) else (ZM n mo8 x0 x1 (IntKind.wrap .i64 (y3 + 1)))))))))))) else (some (Sum.inl ())))
def Zx (n : Nat) (x0 : zF) (x1 : Int) : Option (Bool) :=
  ((zP n x1 1 6).bind fun r1 => (bif (!r1) then (some false) else (bif ((x0.Pv.length : Int) != x1) then (some false) else (bif (decide ((x0.Rows.length : Int) > 6)) then (some false) else (bif (decide ((0 : Int) ≤ (IntKind.wrap .u64 x1))) then ((ZM n n x0 x1 0).bind fun o => match o with | .inl _ => (Jf n x0) | .inr r => some r) else none)))))
def zOh : Tab := ⟨44,[0,1,2,4,12,16,48,16,208,272,528,1280,2048,6144,2048,26624,34816,67584,163840,262144,786432,262144,2359296,5505024,262144,17039360,42205184,67371008,134479872,268435456,805306368,1342177280,2147483648,6442450944,2147483648,19327352832,45097156608,70866960384,139586437120,2147483648,551903297536,1376537018368,2201439174656,4398314946560],[0,1,2,4,8,16,48,16,208,272,528,1024,2048,6144,2048,26624,34816,67584,131072,262144,786432,262144,2359296,5505024,262144,17039360,42205184,67371008,134217728,268435456,805306368,1342177280,2147483648,6442450944,2147483648,19327352832,45097156608,70866960384,139586437120,2147483648,551903297536,1376537018368,2201439174656,4398314946560],[0,1,3,7,15,31,63,31,255,511,1023,2047,4095,8191,4095,32767,65535,131071,262143,524287,1048575,524287,2621439,8388607,524287,17301503,67108863,134217727,268435455,536870911,1073741823,2147483647,4294967295,8589934591,4294967295,21474836479,68719476735,137438953471,274877906943,4294967295,554050781183,2199023255551,4398046511103,8796093022207]⟩
theorem zU : zf (rg Tryz.f227 8) zOh = true := kr
theorem zJL (n : Nat) (y3 : Int) (v9 : zC) (x1 : Int) (x0 : zF) (h11 : (decide (y3 > 0)) = false) (cx : Cx) : AT Tryz.prog cx (rg Tryz.f227 8) [⟨[],3,65,66⟩,⟨[],3,62,63⟩,⟨[],3,60,61⟩,⟨[15],3,53,54⟩,⟨[8,15],3,46,47⟩,⟨[2,8,15],3,41,42⟩] 15 [28,27,26,25,24,23,22,21,20,19,18,17,16,15,14,13,12,11,10,9,8,7,6,5,4,3,2,1,0] ⟨100,0,[sB 69 false,sI 66 v9.Bare,sA 65 7 3 2,sI 63 v9.Members,sA 62 7 3 1,sI 61 v9.Bare,sA 60 7 3 2,sI 54 v9.Bare,sA 53 7 3 2,sI 47 v9.Members,sA 46 7 3 1,sI 42 v9.Id,sA 41 7 3 0,sA 7 7 3 0,sI 6 y3,sI 5 (IntKind.wrap .i64 ((IntKind.wrap .i64 (1 * 2 ^ min (((IntKind.wrap .u64 x1) : Int)).toNat (IntKind.bits .i64))) - 1)),sA 2 2 2 0],[(7,(zC.row v9)),(2,(CV.frzRow (zF.row x0)))]⟩ (fun s => s = ⟨100,0,[sB 84 false,sI 6 y3,sI 5 (IntKind.wrap .i64 ((IntKind.wrap .i64 (1 * 2 ^ min (((IntKind.wrap .u64 x1) : Int)).toNat (IntKind.bits .i64))) - 1)),sA 2 2 2 0],[(2,(CV.frzRow (zF.row x0)))]⟩) := by
 refine mA zU [(29,[]),(30,[]),(31,[])] 12 [⟨[],3,65,66⟩,⟨[],3,62,63⟩,⟨[],3,60,61⟩,⟨[15],3,53,54⟩,⟨[8,15],3,46,47⟩,⟨[2,8,15],3,41,42⟩] fun cx => ?_
 refine sA_ 0x126f060c600000000e4 132 ⟨100,0,[sB 72 (decide (y3 > 0)),sB 69 false,sI 66 v9.Bare,sA 65 7 3 2,sI 63 v9.Members,sA 62 7 3 1,sI 61 v9.Bare,sA 60 7 3 2,sI 54 v9.Bare,sA 53 7 3 2,sI 47 v9.Members,sA 46 7 3 1,sI 42 v9.Id,sA 41 7 3 0,sA 7 7 3 0,sI 6 y3,sI 5 (IntKind.wrap .i64 ((IntKind.wrap .i64 (1 * 2 ^ min (((IntKind.wrap .u64 x1) : Int)).toNat (IntKind.bits .i64))) - 1)),sA 2 2 2 0],[(7,(zC.row v9)),(2,(CV.frzRow (zF.row x0)))]⟩ ?_
 rw [h11]
 refine mA zU [(32,[]),(33,[]),(34,[]),(35,[]),(36,[]),(37,[]),(38,[]),(39,[]),(40,[]),(41,[]),(42,[]),(43,[])] 0 [⟨[],3,65,66⟩,⟨[],3,62,63⟩,⟨[],3,60,61⟩,⟨[15],3,53,54⟩,⟨[8,15],3,46,47⟩,⟨[2,8,15],3,41,42⟩] fun cx => ?_
 exact mE zU [84,6,5,2] [2]
theorem zJM (n : Nat) (y3 : Int) (v9 : zC) (x1 : Int) (x0 : zF) (v13 : zC) (h11 : (decide (y3 > 0)) = true) (ev13 : (idx x0.Rows (IntKind.wrap .i64 (y3 - 1))) = some v13) (cx : Cx) : AT Tryz.prog cx (rg Tryz.f227 8) [⟨[],3,65,66⟩,⟨[],3,62,63⟩,⟨[],3,60,61⟩,⟨[15],3,53,54⟩,⟨[8,15],3,46,47⟩,⟨[2,8,15],3,41,42⟩] 15 [28,27,26,25,24,23,22,21,20,19,18,17,16,15,14,13,12,11,10,9,8,7,6,5,4,3,2,1,0] ⟨100,0,[sB 69 false,sI 66 v9.Bare,sA 65 7 3 2,sI 63 v9.Members,sA 62 7 3 1,sI 61 v9.Bare,sA 60 7 3 2,sI 54 v9.Bare,sA 53 7 3 2,sI 47 v9.Members,sA 46 7 3 1,sI 42 v9.Id,sA 41 7 3 0,sA 7 7 3 0,sI 6 y3,sI 5 (IntKind.wrap .i64 ((IntKind.wrap .i64 (1 * 2 ^ min (((IntKind.wrap .u64 x1) : Int)).toNat (IntKind.bits .i64))) - 1)),sA 2 2 2 0],[(7,(zC.row v9)),(2,(CV.frzRow (zF.row x0)))]⟩ (fun s => s = ⟨100,0,[sB 84 (decide (v13.Id ≥ v9.Id)),sI 6 y3,sI 5 (IntKind.wrap .i64 ((IntKind.wrap .i64 (1 * 2 ^ min (((IntKind.wrap .u64 x1) : Int)).toNat (IntKind.bits .i64))) - 1)),sA 2 2 2 0],[(2,(CV.frzRow (zF.row x0)))]⟩) := by
 refine mA zU [(29,[]),(30,[]),(31,[])] 12 [⟨[],3,65,66⟩,⟨[],3,62,63⟩,⟨[],3,60,61⟩,⟨[15],3,53,54⟩,⟨[8,15],3,46,47⟩,⟨[2,8,15],3,41,42⟩] fun cx => ?_
 refine sA_ 0x126f060c600000000e4 132 ⟨100,0,[sB 72 (decide (y3 > 0)),sB 69 false,sI 66 v9.Bare,sA 65 7 3 2,sI 63 v9.Members,sA 62 7 3 1,sI 61 v9.Bare,sA 60 7 3 2,sI 54 v9.Bare,sA 53 7 3 2,sI 47 v9.Members,sA 46 7 3 1,sI 42 v9.Id,sA 41 7 3 0,sA 7 7 3 0,sI 6 y3,sI 5 (IntKind.wrap .i64 ((IntKind.wrap .i64 (1 * 2 ^ min (((IntKind.wrap .u64 x1) : Int)).toNat (IntKind.bits .i64))) - 1)),sA 2 2 2 0],[(7,(zC.row v9)),(2,(CV.frzRow (zF.row x0)))]⟩ ?_
 rw [h11]
 refine mA zU [(32,[]),(33,[]),(34,[]),(35,[])] 8 [⟨[],37,73,74⟩,⟨[],3,65,66⟩,⟨[],3,62,63⟩,⟨[],3,60,61⟩,⟨[15],3,53,54⟩,⟨[8,15],3,46,47⟩,⟨[2,8,15],3,41,42⟩] fun cx => ?_
 refine iN zU 36 zC.row ev13 fun cx => ?_
 refine mA zU [(37,[]),(38,[]),(39,[]),(40,[]),(41,[]),(42,[]),(43,[])] 0 [⟨[],3,80,81⟩,⟨[],37,73,74⟩,⟨[],3,65,66⟩,⟨[],3,62,63⟩,⟨[],3,60,61⟩,⟨[15],3,53,54⟩,⟨[8,15],3,46,47⟩,⟨[2,8,15],3,41,42⟩] fun cx => ?_
 exact mE zU [84,6,5,2] [2]
theorem zJN (n : Nat) (v9 : zC) (y3 : Int) (x1 : Int) (x0 : zF) (cx : Cx) : AT Tryz.prog cx (rg Tryz.f227 8) [⟨[],3,65,66⟩,⟨[],3,62,63⟩,⟨[],3,60,61⟩,⟨[15],3,53,54⟩,⟨[8,15],3,46,47⟩,⟨[2,8,15],3,41,42⟩] 15 [28,27,26,25,24,23,22,21,20,19,18,17,16,15,14,13,12,11,10,9,8,7,6,5,4,3,2,1,0] ⟨100,0,[sB 69 true,sI 66 v9.Bare,sA 65 7 3 2,sI 63 v9.Members,sA 62 7 3 1,sI 61 v9.Bare,sA 60 7 3 2,sI 54 v9.Bare,sA 53 7 3 2,sI 47 v9.Members,sA 46 7 3 1,sI 42 v9.Id,sA 41 7 3 0,sA 7 7 3 0,sI 6 y3,sI 5 (IntKind.wrap .i64 ((IntKind.wrap .i64 (1 * 2 ^ min (((IntKind.wrap .u64 x1) : Int)).toNat (IntKind.bits .i64))) - 1)),sA 2 2 2 0],[(7,(zC.row v9)),(2,(CV.frzRow (zF.row x0)))]⟩ (fun s => s = ⟨100,0,[sB 84 true,sI 6 y3,sI 5 (IntKind.wrap .i64 ((IntKind.wrap .i64 (1 * 2 ^ min (((IntKind.wrap .u64 x1) : Int)).toNat (IntKind.bits .i64))) - 1)),sA 2 2 2 0],[(2,(CV.frzRow (zF.row x0)))]⟩) := by
 refine mA zU [(29,[]),(30,[]),(31,[]),(32,[]),(33,[]),(34,[]),(35,[]),(36,[]),(37,[]),(38,[]),(39,[]),(40,[]),(41,[]),(42,[]),(43,[])] 0 [⟨[],3,65,66⟩,⟨[],3,62,63⟩,⟨[],3,60,61⟩,⟨[15],3,53,54⟩,⟨[8,15],3,46,47⟩,⟨[2,8,15],3,41,42⟩] fun cx => ?_
 exact mE zU [84,6,5,2] [2]
theorem zLh (n : Nat) (x0 : zF) (x1 : Int) (r : Bool) (H : Zx n x0 x1 = some r) : zD Tryz.prog 227 [.val true (CV.frzRow (zF.row x0)),.val false [.lit (.int .i64 x1)]] [.val false [.lit (.bool r)]] [] := by
 refine cW Tryz.func227 (fun g d => sl [g 0,sl [g 1] (cn 24 (sl [g 2] .ret) .skip),g 3,sl [g 4] (.block 0 (.loop (sl [sl [g 5] (cn 33 .skip (.exit 0)),.block 1 (sl [g 7,d 8] (cn 84 (sl [g 9] .ret) .skip))] (g 6)))),sl [g 10] (.block 2 (.loop (sl [sl [g 11] (cn 89 .skip (.exit 2)),.block 3 (sl [d 13] (cn 99 (sl [g 14] .ret) .skip))] (g 12)))),g 15] .ret) [.tmp 4] fun cx => ?_
 unfold Zx at H
 refine gA 2 6 4 ?_
 refine tS ?_
 refine rA 1 ?_
 obtain ⟨r1,er1,H⟩ := bs H
 refine vA [.rd,.rd,.rd] (zO n x1 1 6 r1 er1) ?_
 refine lA 2 ?_
 refine sL 4102 4 ⟨100,0,[sB 12 (!r1),sA 2 2 2 0,sI 1 x1],[(2,(CV.frzRow (zF.row x0)))]⟩ ?_
 cases h1 : (!r1)
 ·have H := zG h1 H
  refine lA 2 ?_
  refine kF x0.Pv intRow ?_
  refine lA 4 ?_
  refine sL 524294 4 ⟨100,0,[sB 19 ((x0.Pv.length : Int) != x1),sA 2 2 2 0,sI 1 x1],[(2,(CV.frzRow (zF.row x0)))]⟩ ?_
  cases h2 : ((x0.Pv.length : Int) != x1)
  ·have H := zG h2 H
   refine lA 2 ?_
   refine kF x0.Rows zC.row ?_
   refine uA 2 16777222 4 ?_
   obtain ⟨h3,H⟩ | ⟨h3,H⟩ := bC H
   ·refine nA h3 ?_
    refine tK ?_
    refine rA 2 ?_
    obtain ⟨hg2,H⟩ := gs H
    refine LAt.binC tOk (op := .shl) (t := 3) (ty := 124) (ty' := 3) (x := (.const (.int .i64 1))) (y := (.tmp 26)) (d := 27) (g := none) (.int .i64 1) (.int .u64 (IntKind.wrap .u64 x1)) (.int .i64 (IntKind.wrap .i64 (1 * 2 ^ min (((IntKind.wrap .u64 x1) : Int)).toNat (IntKind.bits .i64)))) _ kr kr kr kr kr (φ := (0 : Int) ≤ (IntKind.wrap .u64 x1)) kr (of_decide_eq_true hg2) rfl ?_
    refine uA 2 36 4 ?_
    refine tS ?_
    refine gA 1 100 4 ?_
    obtain ⟨o8,eo8,Ho8⟩ := bs H
    clear H
    refine Tr.mid (ι := Unit) (fun v => ⟨100,0,[sA 2 2 2 0],[(2,(CV.frzRow (zF.row x0)))]⟩) (fun v => Jf n x0 = some r) ?_ ?_
    ·refine tB ?_
     refine Tr.loop (ι := Nat × (Int)) (fun v => ⟨100,0,[sI 6 v.2,sI 5 (IntKind.wrap .i64 ((IntKind.wrap .i64 (1 * 2 ^ min (((IntKind.wrap .u64 x1) : Int)).toNat (IntKind.bits .i64))) - 1)),sA 2 2 2 0],[(2,(CV.frzRow (zF.row x0)))]⟩) (fun v => ZM n v.1 x0 x1 v.2 = some o8) (fun v => v.1) (n,0) eo8 (St.sub_of [6,5,2] [2] kr) ?_
     rintro ⟨mo8,y3⟩ H
     have H : ZM n mo8 x0 x1 y3 = some o8 := H
     obtain _ | mo8 := mo8
     ·exact nN H
     rw [ZM] at H
     refine tS ?_
     refine rA 3 ?_
     refine kF x0.Rows zC.row ?_
     refine uA 1 8589934692 4 ?_
     obtain ⟨h6,H⟩ | ⟨h6,H⟩ := bC H
     ·refine nA h6 ?_
      refine Tr.exit ?_
      refine aJ ?_
      obtain rfl := si H
      have H := Ho8
      dsimp only at H
      exact jA () H [2] [2]
     refine tA h6 ?_
     refine tK ?_
     refine tS ?_
     refine tB ?_
     refine rA 3 ?_
     obtain ⟨v9,ev9,H⟩ := bs H
     refine iA zC.row ev9 ?_
     refine uA 3 228 132 ?_
     obtain ⟨r10,er10,H⟩ := bs H
     refine sT ⟨100,0,[sA 7 7 3 0,sI 6 y3,sI 5 (IntKind.wrap .i64 ((IntKind.wrap .i64 (1 * 2 ^ min (((IntKind.wrap .u64 x1) : Int)).toNat (IntKind.bits .i64))) - 1)),sA 2 2 2 0],[(7,(zC.row v9)),(2,(CV.frzRow (zF.row x0)))]⟩ ?_
     cases h7 : (!r10)
     ·have H := zG h7 H
      obtain ⟨r11,er11,H⟩ := bs H
      refine sT ⟨100,0,[sA 7 7 3 0,sI 6 y3,sI 5 (IntKind.wrap .i64 ((IntKind.wrap .i64 (1 * 2 ^ min (((IntKind.wrap .u64 x1) : Int)).toNat (IntKind.bits .i64))) - 1)),sA 2 2 2 0],[(7,(zC.row v9)),(2,(CV.frzRow (zF.row x0)))]⟩ ?_
      cases h8 : (!r11)
      ·have H := zG h8 H
       obtain ⟨r12,er12,H⟩ := bs H
       refine sT ⟨100,0,[sA 7 7 3 0,sI 6 y3,sI 5 (IntKind.wrap .i64 ((IntKind.wrap .i64 (1 * 2 ^ min (((IntKind.wrap .u64 x1) : Int)).toNat (IntKind.bits .i64))) - 1)),sA 2 2 2 0],[(7,(zC.row v9)),(2,(CV.frzRow (zF.row x0)))]⟩ ?_
       cases h9 : (!r12)
       ·have H := zG h9 H
        refine sT ⟨100,0,[sA 7 7 3 0,sI 6 y3,sI 5 (IntKind.wrap .i64 ((IntKind.wrap .i64 (1 * 2 ^ min (((IntKind.wrap .u64 x1) : Int)).toNat (IntKind.bits .i64))) - 1)),sA 2 2 2 0],[(7,(zC.row v9)),(2,(CV.frzRow (zF.row x0)))]⟩ ?_
        cases h10 : ((IntKind.wrap .i64 (BitVec.ofInt (IntKind.bits .i64) v9.Bare &&& BitVec.ofInt (IntKind.bits .i64) v9.Members).toNat) != v9.Bare)
        ·have H := zG h10 H
         refine sT ⟨100,0,[sA 7 7 3 0,sI 6 y3,sI 5 (IntKind.wrap .i64 ((IntKind.wrap .i64 (1 * 2 ^ min (((IntKind.wrap .u64 x1) : Int)).toNat (IntKind.bits .i64))) - 1)),sA 2 2 2 0],[(7,(zC.row v9)),(2,(CV.frzRow (zF.row x0)))]⟩ ?_
         cases h11 : (decide (y3 > 0))
         ·have H := zG h11 H
          refine Tr.draws mixed 44 kr ⟨100,0,[sB 84 false,sI 6 y3,sI 5 (IntKind.wrap .i64 ((IntKind.wrap .i64 (1 * 2 ^ min (((IntKind.wrap .u64 x1) : Int)).toNat (IntKind.bits .i64))) - 1)),sA 2 2 2 0],[(2,(CV.frzRow (zF.row x0)))]⟩ (fun cx => ?_) ?_
          ·refine mA zU [(0,[]),(1,[2,8,15])] 42 [⟨[2,8,15],3,41,42⟩] fun cx => ?_
           refine mC zU 2 ?_
           refine vA [.rd,.rd,.rd] (zO n v9.Id 1 99 r10 er10) ?_
           refine fA ?_
           refine mA zU [(3,[]),(4,[])] 39 [⟨[2,8,15],3,41,42⟩] fun cx => ?_
           refine sA_ 41781441855716 132 ⟨100,0,[sB 45 (!r10),sI 42 v9.Id,sA 41 7 3 0,sA 7 7 3 0,sI 6 y3,sI 5 (IntKind.wrap .i64 ((IntKind.wrap .i64 (1 * 2 ^ min (((IntKind.wrap .u64 x1) : Int)).toNat (IntKind.bits .i64))) - 1)),sA 2 2 2 0],[(7,(zC.row v9)),(2,(CV.frzRow (zF.row x0)))]⟩ ?_
           rw [h7]
           refine mA zU [(5,[]),(6,[8,15]),(7,[])] 36 [⟨[8,15],3,46,47⟩,⟨[2,8,15],3,41,42⟩] fun cx => ?_
           refine mC zU 8 ?_
           refine vA [.rd,.rd,.rd] (zO n v9.Members 0 (IntKind.wrap .i64 ((IntKind.wrap .i64 (1 * 2 ^ min (((IntKind.wrap .u64 x1) : Int)).toNat (IntKind.bits .i64))) - 1)) r11 er11) ?_
           refine fA ?_
           refine mA zU [(9,[]),(10,[]),(11,[])] 32 [⟨[8,15],3,46,47⟩,⟨[2,8,15],3,41,42⟩] fun cx => ?_
           refine sA_ 4721302929670372 132 ⟨100,0,[sB 52 (!r11),sI 47 v9.Members,sA 46 7 3 1,sI 42 v9.Id,sA 41 7 3 0,sA 7 7 3 0,sI 6 y3,sI 5 (IntKind.wrap .i64 ((IntKind.wrap .i64 (1 * 2 ^ min (((IntKind.wrap .u64 x1) : Int)).toNat (IntKind.bits .i64))) - 1)),sA 2 2 2 0],[(7,(zC.row v9)),(2,(CV.frzRow (zF.row x0)))]⟩ ?_
           rw [h8]
           refine mA zU [(12,[]),(13,[15]),(14,[])] 29 [⟨[15],3,53,54⟩,⟨[8,15],3,46,47⟩,⟨[2,8,15],3,41,42⟩] fun cx => ?_
           refine mC zU 15 ?_
           refine vA [.rd,.rd,.rd] (zO n v9.Bare 0 (IntKind.wrap .i64 ((IntKind.wrap .i64 (1 * 2 ^ min (((IntKind.wrap .u64 x1) : Int)).toNat (IntKind.bits .i64))) - 1)) r12 er12) ?_
           refine fA ?_
           refine mA zU [(16,[]),(17,[]),(18,[])] 25 [⟨[15],3,53,54⟩,⟨[8,15],3,46,47⟩,⟨[2,8,15],3,41,42⟩] fun cx => ?_
           refine sA_ 0x860c600000000e4 132 ⟨100,0,[sB 59 (!r12),sI 54 v9.Bare,sA 53 7 3 2,sI 47 v9.Members,sA 46 7 3 1,sI 42 v9.Id,sA 41 7 3 0,sA 7 7 3 0,sI 6 y3,sI 5 (IntKind.wrap .i64 ((IntKind.wrap .i64 (1 * 2 ^ min (((IntKind.wrap .u64 x1) : Int)).toNat (IntKind.bits .i64))) - 1)),sA 2 2 2 0],[(7,(zC.row v9)),(2,(CV.frzRow (zF.row x0)))]⟩ ?_
           rw [h9]
           refine mA zU [(19,[]),(20,[]),(21,[]),(22,[]),(23,[]),(24,[]),(25,[]),(26,[]),(27,[]),(28,[])] 15 [⟨[],3,65,66⟩,⟨[],3,62,63⟩,⟨[],3,60,61⟩,⟨[15],3,53,54⟩,⟨[8,15],3,46,47⟩,⟨[2,8,15],3,41,42⟩] fun cx => ?_
           refine sA_ 0x26f060c600000000e4 132 ⟨100,0,[sB 69 ((IntKind.wrap .i64 (BitVec.ofInt (IntKind.bits .i64) v9.Bare &&& BitVec.ofInt (IntKind.bits .i64) v9.Members).toNat) != v9.Bare),sI 66 v9.Bare,sA 65 7 3 2,sI 63 v9.Members,sA 62 7 3 1,sI 61 v9.Bare,sA 60 7 3 2,sI 54 v9.Bare,sA 53 7 3 2,sI 47 v9.Members,sA 46 7 3 1,sI 42 v9.Id,sA 41 7 3 0,sA 7 7 3 0,sI 6 y3,sI 5 (IntKind.wrap .i64 ((IntKind.wrap .i64 (1 * 2 ^ min (((IntKind.wrap .u64 x1) : Int)).toNat (IntKind.bits .i64))) - 1)),sA 2 2 2 0],[(7,(zC.row v9)),(2,(CV.frzRow (zF.row x0)))]⟩ ?_
           rw [h10]
           exact zJL n y3 v9 x1 x0 h11 cx
          refine nB_ ?_
          refine tK ?_
          refine eA 3 100 4 ?_
          exact jB mo8 (IntKind.wrap .i64 (y3 + 1)) H [6,5,2] [2]
         have H := zH h11 H
         obtain ⟨v13,ev13,H⟩ := bs H
         refine Tr.draws mixed 44 kr ⟨100,0,[sB 84 (decide (v13.Id ≥ v9.Id)),sI 6 y3,sI 5 (IntKind.wrap .i64 ((IntKind.wrap .i64 (1 * 2 ^ min (((IntKind.wrap .u64 x1) : Int)).toNat (IntKind.bits .i64))) - 1)),sA 2 2 2 0],[(2,(CV.frzRow (zF.row x0)))]⟩ (fun cx => ?_) ?_
         ·refine mA zU [(0,[]),(1,[2,8,15])] 42 [⟨[2,8,15],3,41,42⟩] fun cx => ?_
          refine mC zU 2 ?_
          refine vA [.rd,.rd,.rd] (zO n v9.Id 1 99 r10 er10) ?_
          refine fA ?_
          refine mA zU [(3,[]),(4,[])] 39 [⟨[2,8,15],3,41,42⟩] fun cx => ?_
          refine sA_ 41781441855716 132 ⟨100,0,[sB 45 (!r10),sI 42 v9.Id,sA 41 7 3 0,sA 7 7 3 0,sI 6 y3,sI 5 (IntKind.wrap .i64 ((IntKind.wrap .i64 (1 * 2 ^ min (((IntKind.wrap .u64 x1) : Int)).toNat (IntKind.bits .i64))) - 1)),sA 2 2 2 0],[(7,(zC.row v9)),(2,(CV.frzRow (zF.row x0)))]⟩ ?_
          rw [h7]
          refine mA zU [(5,[]),(6,[8,15]),(7,[])] 36 [⟨[8,15],3,46,47⟩,⟨[2,8,15],3,41,42⟩] fun cx => ?_
          refine mC zU 8 ?_
          refine vA [.rd,.rd,.rd] (zO n v9.Members 0 (IntKind.wrap .i64 ((IntKind.wrap .i64 (1 * 2 ^ min (((IntKind.wrap .u64 x1) : Int)).toNat (IntKind.bits .i64))) - 1)) r11 er11) ?_
          refine fA ?_
          refine mA zU [(9,[]),(10,[]),(11,[])] 32 [⟨[8,15],3,46,47⟩,⟨[2,8,15],3,41,42⟩] fun cx => ?_
          refine sA_ 4721302929670372 132 ⟨100,0,[sB 52 (!r11),sI 47 v9.Members,sA 46 7 3 1,sI 42 v9.Id,sA 41 7 3 0,sA 7 7 3 0,sI 6 y3,sI 5 (IntKind.wrap .i64 ((IntKind.wrap .i64 (1 * 2 ^ min (((IntKind.wrap .u64 x1) : Int)).toNat (IntKind.bits .i64))) - 1)),sA 2 2 2 0],[(7,(zC.row v9)),(2,(CV.frzRow (zF.row x0)))]⟩ ?_
          rw [h8]
          refine mA zU [(12,[]),(13,[15]),(14,[])] 29 [⟨[15],3,53,54⟩,⟨[8,15],3,46,47⟩,⟨[2,8,15],3,41,42⟩] fun cx => ?_
          refine mC zU 15 ?_
          refine vA [.rd,.rd,.rd] (zO n v9.Bare 0 (IntKind.wrap .i64 ((IntKind.wrap .i64 (1 * 2 ^ min (((IntKind.wrap .u64 x1) : Int)).toNat (IntKind.bits .i64))) - 1)) r12 er12) ?_
          refine fA ?_
          refine mA zU [(16,[]),(17,[]),(18,[])] 25 [⟨[15],3,53,54⟩,⟨[8,15],3,46,47⟩,⟨[2,8,15],3,41,42⟩] fun cx => ?_
          refine sA_ 0x860c600000000e4 132 ⟨100,0,[sB 59 (!r12),sI 54 v9.Bare,sA 53 7 3 2,sI 47 v9.Members,sA 46 7 3 1,sI 42 v9.Id,sA 41 7 3 0,sA 7 7 3 0,sI 6 y3,sI 5 (IntKind.wrap .i64 ((IntKind.wrap .i64 (1 * 2 ^ min (((IntKind.wrap .u64 x1) : Int)).toNat (IntKind.bits .i64))) - 1)),sA 2 2 2 0],[(7,(zC.row v9)),(2,(CV.frzRow (zF.row x0)))]⟩ ?_
          rw [h9]
          refine mA zU [(19,[]),(20,[]),(21,[]),(22,[]),(23,[]),(24,[]),(25,[]),(26,[]),(27,[]),(28,[])] 15 [⟨[],3,65,66⟩,⟨[],3,62,63⟩,⟨[],3,60,61⟩,⟨[15],3,53,54⟩,⟨[8,15],3,46,47⟩,⟨[2,8,15],3,41,42⟩] fun cx => ?_
          refine sA_ 0x26f060c600000000e4 132 ⟨100,0,[sB 69 ((IntKind.wrap .i64 (BitVec.ofInt (IntKind.bits .i64) v9.Bare &&& BitVec.ofInt (IntKind.bits .i64) v9.Members).toNat) != v9.Bare),sI 66 v9.Bare,sA 65 7 3 2,sI 63 v9.Members,sA 62 7 3 1,sI 61 v9.Bare,sA 60 7 3 2,sI 54 v9.Bare,sA 53 7 3 2,sI 47 v9.Members,sA 46 7 3 1,sI 42 v9.Id,sA 41 7 3 0,sA 7 7 3 0,sI 6 y3,sI 5 (IntKind.wrap .i64 ((IntKind.wrap .i64 (1 * 2 ^ min (((IntKind.wrap .u64 x1) : Int)).toNat (IntKind.bits .i64))) - 1)),sA 2 2 2 0],[(7,(zC.row v9)),(2,(CV.frzRow (zF.row x0)))]⟩ ?_
          rw [h10]
          exact zJM n y3 v9 x1 x0 v13 h11 ev13 cx
         refine sT ⟨100,0,[sB 84 (decide (v13.Id ≥ v9.Id)),sI 6 y3,sI 5 (IntKind.wrap .i64 ((IntKind.wrap .i64 (1 * 2 ^ min (((IntKind.wrap .u64 x1) : Int)).toNat (IntKind.bits .i64))) - 1)),sA 2 2 2 0],[(2,(CV.frzRow (zF.row x0)))]⟩ ?_
         cases h12 : (decide (v13.Id ≥ v9.Id))
         ·have H := zG h12 H
          refine nB_ ?_
          refine tK ?_
          refine eA 3 100 4 ?_
          exact jB mo8 (IntKind.wrap .i64 (y3 + 1)) H [6,5,2] [2]
         have H := zH h12 H
         refine tB_ ?_
         refine gA 1 16 0 ?_
         refine te ?_
         obtain rfl := si H
         have H := Ho8
         dsimp only at H
         exact fF H
        have H := zH h10 H
        refine Tr.draws mixed 44 kr ⟨100,0,[sB 84 true,sI 6 y3,sI 5 (IntKind.wrap .i64 ((IntKind.wrap .i64 (1 * 2 ^ min (((IntKind.wrap .u64 x1) : Int)).toNat (IntKind.bits .i64))) - 1)),sA 2 2 2 0],[(2,(CV.frzRow (zF.row x0)))]⟩ (fun cx => ?_) ?_
        ·refine mA zU [(0,[]),(1,[2,8,15])] 42 [⟨[2,8,15],3,41,42⟩] fun cx => ?_
         refine mC zU 2 ?_
         refine vA [.rd,.rd,.rd] (zO n v9.Id 1 99 r10 er10) ?_
         refine fA ?_
         refine mA zU [(3,[]),(4,[])] 39 [⟨[2,8,15],3,41,42⟩] fun cx => ?_
         refine sA_ 41781441855716 132 ⟨100,0,[sB 45 (!r10),sI 42 v9.Id,sA 41 7 3 0,sA 7 7 3 0,sI 6 y3,sI 5 (IntKind.wrap .i64 ((IntKind.wrap .i64 (1 * 2 ^ min (((IntKind.wrap .u64 x1) : Int)).toNat (IntKind.bits .i64))) - 1)),sA 2 2 2 0],[(7,(zC.row v9)),(2,(CV.frzRow (zF.row x0)))]⟩ ?_
         rw [h7]
         refine mA zU [(5,[]),(6,[8,15]),(7,[])] 36 [⟨[8,15],3,46,47⟩,⟨[2,8,15],3,41,42⟩] fun cx => ?_
         refine mC zU 8 ?_
         refine vA [.rd,.rd,.rd] (zO n v9.Members 0 (IntKind.wrap .i64 ((IntKind.wrap .i64 (1 * 2 ^ min (((IntKind.wrap .u64 x1) : Int)).toNat (IntKind.bits .i64))) - 1)) r11 er11) ?_
         refine fA ?_
         refine mA zU [(9,[]),(10,[]),(11,[])] 32 [⟨[8,15],3,46,47⟩,⟨[2,8,15],3,41,42⟩] fun cx => ?_
         refine sA_ 4721302929670372 132 ⟨100,0,[sB 52 (!r11),sI 47 v9.Members,sA 46 7 3 1,sI 42 v9.Id,sA 41 7 3 0,sA 7 7 3 0,sI 6 y3,sI 5 (IntKind.wrap .i64 ((IntKind.wrap .i64 (1 * 2 ^ min (((IntKind.wrap .u64 x1) : Int)).toNat (IntKind.bits .i64))) - 1)),sA 2 2 2 0],[(7,(zC.row v9)),(2,(CV.frzRow (zF.row x0)))]⟩ ?_
         rw [h8]
         refine mA zU [(12,[]),(13,[15]),(14,[])] 29 [⟨[15],3,53,54⟩,⟨[8,15],3,46,47⟩,⟨[2,8,15],3,41,42⟩] fun cx => ?_
         refine mC zU 15 ?_
         refine vA [.rd,.rd,.rd] (zO n v9.Bare 0 (IntKind.wrap .i64 ((IntKind.wrap .i64 (1 * 2 ^ min (((IntKind.wrap .u64 x1) : Int)).toNat (IntKind.bits .i64))) - 1)) r12 er12) ?_
         refine fA ?_
         refine mA zU [(16,[]),(17,[]),(18,[])] 25 [⟨[15],3,53,54⟩,⟨[8,15],3,46,47⟩,⟨[2,8,15],3,41,42⟩] fun cx => ?_
         refine sA_ 0x860c600000000e4 132 ⟨100,0,[sB 59 (!r12),sI 54 v9.Bare,sA 53 7 3 2,sI 47 v9.Members,sA 46 7 3 1,sI 42 v9.Id,sA 41 7 3 0,sA 7 7 3 0,sI 6 y3,sI 5 (IntKind.wrap .i64 ((IntKind.wrap .i64 (1 * 2 ^ min (((IntKind.wrap .u64 x1) : Int)).toNat (IntKind.bits .i64))) - 1)),sA 2 2 2 0],[(7,(zC.row v9)),(2,(CV.frzRow (zF.row x0)))]⟩ ?_
         rw [h9]
         refine mA zU [(19,[]),(20,[]),(21,[]),(22,[]),(23,[]),(24,[]),(25,[]),(26,[]),(27,[]),(28,[])] 15 [⟨[],3,65,66⟩,⟨[],3,62,63⟩,⟨[],3,60,61⟩,⟨[15],3,53,54⟩,⟨[8,15],3,46,47⟩,⟨[2,8,15],3,41,42⟩] fun cx => ?_
         refine sA_ 0x26f060c600000000e4 132 ⟨100,0,[sB 69 ((IntKind.wrap .i64 (BitVec.ofInt (IntKind.bits .i64) v9.Bare &&& BitVec.ofInt (IntKind.bits .i64) v9.Members).toNat) != v9.Bare),sI 66 v9.Bare,sA 65 7 3 2,sI 63 v9.Members,sA 62 7 3 1,sI 61 v9.Bare,sA 60 7 3 2,sI 54 v9.Bare,sA 53 7 3 2,sI 47 v9.Members,sA 46 7 3 1,sI 42 v9.Id,sA 41 7 3 0,sA 7 7 3 0,sI 6 y3,sI 5 (IntKind.wrap .i64 ((IntKind.wrap .i64 (1 * 2 ^ min (((IntKind.wrap .u64 x1) : Int)).toNat (IntKind.bits .i64))) - 1)),sA 2 2 2 0],[(7,(zC.row v9)),(2,(CV.frzRow (zF.row x0)))]⟩ ?_
         rw [h10]
         exact zJN n v9 y3 x1 x0 cx
        refine tB_ ?_
        refine gA 1 16 0 ?_
        refine te ?_
        obtain rfl := si H
        have H := Ho8
        dsimp only at H
        exact fF H
       have H := zH h9 H
       refine Tr.draws mixed 44 kr ⟨100,0,[sB 84 true,sI 6 y3,sI 5 (IntKind.wrap .i64 ((IntKind.wrap .i64 (1 * 2 ^ min (((IntKind.wrap .u64 x1) : Int)).toNat (IntKind.bits .i64))) - 1)),sA 2 2 2 0],[(2,(CV.frzRow (zF.row x0)))]⟩ (fun cx => ?_) ?_
       ·refine mA zU [(0,[]),(1,[2,8,15])] 42 [⟨[2,8,15],3,41,42⟩] fun cx => ?_
        refine mC zU 2 ?_
        refine vA [.rd,.rd,.rd] (zO n v9.Id 1 99 r10 er10) ?_
        refine fA ?_
        refine mA zU [(3,[]),(4,[])] 39 [⟨[2,8,15],3,41,42⟩] fun cx => ?_
        refine sA_ 41781441855716 132 ⟨100,0,[sB 45 (!r10),sI 42 v9.Id,sA 41 7 3 0,sA 7 7 3 0,sI 6 y3,sI 5 (IntKind.wrap .i64 ((IntKind.wrap .i64 (1 * 2 ^ min (((IntKind.wrap .u64 x1) : Int)).toNat (IntKind.bits .i64))) - 1)),sA 2 2 2 0],[(7,(zC.row v9)),(2,(CV.frzRow (zF.row x0)))]⟩ ?_
        rw [h7]
        refine mA zU [(5,[]),(6,[8,15]),(7,[])] 36 [⟨[8,15],3,46,47⟩,⟨[2,8,15],3,41,42⟩] fun cx => ?_
        refine mC zU 8 ?_
        refine vA [.rd,.rd,.rd] (zO n v9.Members 0 (IntKind.wrap .i64 ((IntKind.wrap .i64 (1 * 2 ^ min (((IntKind.wrap .u64 x1) : Int)).toNat (IntKind.bits .i64))) - 1)) r11 er11) ?_
        refine fA ?_
        refine mA zU [(9,[]),(10,[]),(11,[])] 32 [⟨[8,15],3,46,47⟩,⟨[2,8,15],3,41,42⟩] fun cx => ?_
        refine sA_ 4721302929670372 132 ⟨100,0,[sB 52 (!r11),sI 47 v9.Members,sA 46 7 3 1,sI 42 v9.Id,sA 41 7 3 0,sA 7 7 3 0,sI 6 y3,sI 5 (IntKind.wrap .i64 ((IntKind.wrap .i64 (1 * 2 ^ min (((IntKind.wrap .u64 x1) : Int)).toNat (IntKind.bits .i64))) - 1)),sA 2 2 2 0],[(7,(zC.row v9)),(2,(CV.frzRow (zF.row x0)))]⟩ ?_
        rw [h8]
        refine mA zU [(12,[]),(13,[15]),(14,[])] 29 [⟨[15],3,53,54⟩,⟨[8,15],3,46,47⟩,⟨[2,8,15],3,41,42⟩] fun cx => ?_
        refine mC zU 15 ?_
        refine vA [.rd,.rd,.rd] (zO n v9.Bare 0 (IntKind.wrap .i64 ((IntKind.wrap .i64 (1 * 2 ^ min (((IntKind.wrap .u64 x1) : Int)).toNat (IntKind.bits .i64))) - 1)) r12 er12) ?_
        refine fA ?_
        refine mA zU [(16,[]),(17,[]),(18,[])] 25 [⟨[15],3,53,54⟩,⟨[8,15],3,46,47⟩,⟨[2,8,15],3,41,42⟩] fun cx => ?_
        refine sA_ 0x860c600000000e4 132 ⟨100,0,[sB 59 (!r12),sI 54 v9.Bare,sA 53 7 3 2,sI 47 v9.Members,sA 46 7 3 1,sI 42 v9.Id,sA 41 7 3 0,sA 7 7 3 0,sI 6 y3,sI 5 (IntKind.wrap .i64 ((IntKind.wrap .i64 (1 * 2 ^ min (((IntKind.wrap .u64 x1) : Int)).toNat (IntKind.bits .i64))) - 1)),sA 2 2 2 0],[(7,(zC.row v9)),(2,(CV.frzRow (zF.row x0)))]⟩ ?_
        rw [h9]
        refine mA zU [(19,[]),(20,[]),(21,[]),(22,[]),(23,[]),(24,[]),(25,[]),(26,[]),(27,[]),(28,[]),(29,[]),(30,[]),(31,[]),(32,[]),(33,[]),(34,[]),(35,[]),(36,[]),(37,[]),(38,[]),(39,[]),(40,[]),(41,[]),(42,[]),(43,[])] 0 [⟨[15],3,53,54⟩,⟨[8,15],3,46,47⟩,⟨[2,8,15],3,41,42⟩] fun cx => ?_
        exact mE zU [84,6,5,2] [2]
       refine tB_ ?_
       refine gA 1 16 0 ?_
       refine te ?_
       obtain rfl := si H
       have H := Ho8
       dsimp only at H
       exact fF H
      have H := zH h8 H
      refine Tr.draws mixed 44 kr ⟨100,0,[sB 84 true,sI 6 y3,sI 5 (IntKind.wrap .i64 ((IntKind.wrap .i64 (1 * 2 ^ min (((IntKind.wrap .u64 x1) : Int)).toNat (IntKind.bits .i64))) - 1)),sA 2 2 2 0],[(2,(CV.frzRow (zF.row x0)))]⟩ (fun cx => ?_) ?_
      ·refine mA zU [(0,[]),(1,[2,8])] 42 [⟨[2,8],3,41,42⟩] fun cx => ?_
       refine mC zU 2 ?_
       refine vA [.rd,.rd,.rd] (zO n v9.Id 1 99 r10 er10) ?_
       refine fA ?_
       refine mA zU [(3,[]),(4,[])] 39 [⟨[2,8],3,41,42⟩] fun cx => ?_
       refine sA_ 41781441855716 132 ⟨100,0,[sB 45 (!r10),sI 42 v9.Id,sA 41 7 3 0,sA 7 7 3 0,sI 6 y3,sI 5 (IntKind.wrap .i64 ((IntKind.wrap .i64 (1 * 2 ^ min (((IntKind.wrap .u64 x1) : Int)).toNat (IntKind.bits .i64))) - 1)),sA 2 2 2 0],[(7,(zC.row v9)),(2,(CV.frzRow (zF.row x0)))]⟩ ?_
       rw [h7]
       refine mA zU [(5,[]),(6,[8]),(7,[])] 36 [⟨[8],3,46,47⟩,⟨[2,8],3,41,42⟩] fun cx => ?_
       refine mC zU 8 ?_
       refine vA [.rd,.rd,.rd] (zO n v9.Members 0 (IntKind.wrap .i64 ((IntKind.wrap .i64 (1 * 2 ^ min (((IntKind.wrap .u64 x1) : Int)).toNat (IntKind.bits .i64))) - 1)) r11 er11) ?_
       refine fA ?_
       refine mA zU [(9,[]),(10,[]),(11,[])] 32 [⟨[8],3,46,47⟩,⟨[2,8],3,41,42⟩] fun cx => ?_
       refine sA_ 4721302929670372 132 ⟨100,0,[sB 52 (!r11),sI 47 v9.Members,sA 46 7 3 1,sI 42 v9.Id,sA 41 7 3 0,sA 7 7 3 0,sI 6 y3,sI 5 (IntKind.wrap .i64 ((IntKind.wrap .i64 (1 * 2 ^ min (((IntKind.wrap .u64 x1) : Int)).toNat (IntKind.bits .i64))) - 1)),sA 2 2 2 0],[(7,(zC.row v9)),(2,(CV.frzRow (zF.row x0)))]⟩ ?_
       rw [h8]
       refine mA zU [(12,[]),(13,[]),(14,[]),(15,[]),(16,[]),(17,[]),(18,[]),(19,[]),(20,[]),(21,[]),(22,[]),(23,[]),(24,[]),(25,[]),(26,[]),(27,[]),(28,[]),(29,[]),(30,[]),(31,[]),(32,[]),(33,[]),(34,[]),(35,[]),(36,[]),(37,[]),(38,[]),(39,[]),(40,[]),(41,[]),(42,[]),(43,[])] 0 [⟨[8],3,46,47⟩,⟨[2,8],3,41,42⟩] fun cx => ?_
       exact mE zU [84,6,5,2] [2]
      refine tB_ ?_
      refine gA 1 16 0 ?_
      refine te ?_
      obtain rfl := si H
      have H := Ho8
      dsimp only at H
      exact fF H
     have H := zH h7 H
     refine Tr.draws mixed 44 kr ⟨100,0,[sB 84 true,sI 6 y3,sI 5 (IntKind.wrap .i64 ((IntKind.wrap .i64 (1 * 2 ^ min (((IntKind.wrap .u64 x1) : Int)).toNat (IntKind.bits .i64))) - 1)),sA 2 2 2 0],[(2,(CV.frzRow (zF.row x0)))]⟩ (fun cx => ?_) ?_
     ·refine mA zU [(0,[]),(1,[2])] 42 [⟨[2],3,41,42⟩] fun cx => ?_
      refine mC zU 2 ?_
      refine vA [.rd,.rd,.rd] (zO n v9.Id 1 99 r10 er10) ?_
      refine fA ?_
      refine mA zU [(3,[]),(4,[])] 39 [⟨[2],3,41,42⟩] fun cx => ?_
      refine sA_ 41781441855716 132 ⟨100,0,[sB 45 (!r10),sI 42 v9.Id,sA 41 7 3 0,sA 7 7 3 0,sI 6 y3,sI 5 (IntKind.wrap .i64 ((IntKind.wrap .i64 (1 * 2 ^ min (((IntKind.wrap .u64 x1) : Int)).toNat (IntKind.bits .i64))) - 1)),sA 2 2 2 0],[(7,(zC.row v9)),(2,(CV.frzRow (zF.row x0)))]⟩ ?_
      rw [h7]
      refine mA zU [(5,[]),(6,[]),(7,[]),(8,[]),(9,[]),(10,[]),(11,[]),(12,[]),(13,[]),(14,[]),(15,[]),(16,[]),(17,[]),(18,[]),(19,[]),(20,[]),(21,[]),(22,[]),(23,[]),(24,[]),(25,[]),(26,[]),(27,[]),(28,[]),(29,[]),(30,[]),(31,[]),(32,[]),(33,[]),(34,[]),(35,[]),(36,[]),(37,[]),(38,[]),(39,[]),(40,[]),(41,[]),(42,[]),(43,[])] 0 [⟨[2],3,41,42⟩] fun cx => ?_
      exact mE zU [84,6,5,2] [2]
     refine tB_ ?_
     refine gA 1 16 0 ?_
     refine te ?_
     obtain rfl := si H
     have H := Ho8
     dsimp only at H
     exact fF H
    rintro _ H
    have H : (Jf n x0) = some r := H
    unfold Jf at H
    refine tS ?_
    refine gA 1 260 4 ?_
    obtain ⟨o5,eo5,Ho5⟩ := bs H
    clear H
    refine Tr.mid (ι := Unit) (fun v => ⟨100,0,[],[]⟩) (fun v => zBM n = some r) ?_ ?_
    ·refine tB ?_
     refine Tr.loop (ι := Nat × (Int)) (fun v => ⟨100,0,[sI 8 v.2,sA 2 2 2 0],[(2,(CV.frzRow (zF.row x0)))]⟩) (fun v => Zh n v.1 x0 v.2 = some o5) (fun v => v.1) (n,0) eo5 (St.sub_of [8,2] [2] kr) ?_
     rintro ⟨mo5,y4⟩ H
     have H : Zh n mo5 x0 y4 = some o5 := H
     obtain _ | mo5 := mo5
     ·exact nN H
     rw [Zh] at H
     refine tS ?_
     refine rA 3 ?_
     refine kF x0.Pv intRow ?_
     refine uA 1 0x20000000000000000000104 4 ?_
     obtain ⟨h4,H⟩ | ⟨h4,H⟩ := bC H
     ·refine nA h4 ?_
      refine Tr.exit ?_
      refine aJ ?_
      obtain rfl := si H
      have H := Ho5
      dsimp only at H
      exact jA () H [] []
     refine tA h4 ?_
     refine tK ?_
     refine tS ?_
     refine tB ?_
     obtain ⟨v6,ev6,H⟩ := bs H
     obtain ⟨r7,er7,H⟩ := bs H
     refine Tr.draws mixed 8 kr ⟨100,0,[sB 99 (decide (r7 < 0)),sI 8 y4,sA 2 2 2 0],[(2,(CV.frzRow (zF.row x0)))]⟩ (fun cx => ?_) ?_
     ·refine aA [(0,[6]),(1,[]),(2,[6]),(3,[])] 4 [⟨[6],25,93,94⟩,⟨[6],39,2,92⟩] fun cx => ?_
      refine aI tOk 4 25 0 94 95 96 none ⟨(.box 2),[(0,0)],1,false,1,(CV.frzEs (x0.Pv.map intRow))⟩ y4 [cI v6] _ kr kr kr kr kr kr rfl (ZI ev6) rfl (fun cx => ?_)
      refine aA [(5,[])] 2 [⟨[6],25,93,94⟩,⟨[6],39,2,92⟩] fun cx => ?_
      refine bA 6 ?_
      refine vA [.rd,.rd] (zMZ n x0 v6 r7 er7) ?_
      refine fA ?_
      refine aA [(7,[])] 0 [⟨[6],25,93,94⟩,⟨[6],39,2,92⟩] fun cx => ?_
      exact eE [99,8,2] [2]
     refine sT ⟨100,0,[sB 99 (decide (r7 < 0)),sI 8 y4,sA 2 2 2 0],[(2,(CV.frzRow (zF.row x0)))]⟩ ?_
     cases h5 : (decide (r7 < 0))
     ·have H := zG h5 H
      refine nB_ ?_
      refine tK ?_
      refine eA 3 260 4 ?_
      exact jB mo5 (IntKind.wrap .i64 (y4 + 1)) H [8,2] [2]
     have H := zH h5 H
     refine tB_ ?_
     refine gA 1 16 0 ?_
     refine te ?_
     obtain rfl := si H
     have H := Ho5
     dsimp only at H
     exact fF H
    rintro _ H
    have H : (zBM n) = some r := H
    unfold zBM at H
    refine gA 1 16 0 ?_
    exact te (fT H)
   refine tA h3 ?_
   refine gA 1 16 0 ?_
   exact te (fF H)
  have H := zH h2 H
  refine uA 5 16777222 4 ?_
  refine tB_ ?_
  refine gA 1 16 0 ?_
  exact te (fF H)
 have H := zH h1 H
 refine uA 12 16777222 4 ?_
 refine tB_ ?_
 refine gA 1 16 0 ?_
 exact te (fF H)
def Qq (n : Nat) (x0 : zA) : Option (Bool) :=
  ((zP n x0.Tk 0 1000000).bind fun r1 => (bif r1 then ((zP n x0.Pa 0 1000000).bind fun r2 => (bif r2 then ((zP n x0.Wo 0 1000000).bind fun r3 => (bif r3 then ((zP n x0.Dr 0 1000000).bind fun r4 => (bif r4 then ((zP n x0.Ve 0 1000000).bind fun r5 => (some r5)) else (some false))) else (some false))) else (some false))) else (some false)))
theorem zJO (n : Nat) (x0 : zA) (r : Bool) (H : Qq n x0 = some r) : zD Tryz.prog 228 [.val true (CV.frzRow (zA.row x0))] [.val false [.lit (.bool r)]] [] := by
 refine cW Tryz.func228 (fun g d => sl [g 0,g 1] .ret) [.tmp 2] fun cx => ?_
 unfold Qq at H
 refine gA 2 2 2 ?_
 refine rA 2 ?_
 obtain ⟨r1,er1,H⟩ := bs H
 refine vA [.rd,.rd,.rd] (zO n x0.Tk 0 1000000 r1 er1) ?_
 refine lA 1 ?_
 refine sL 66 2 ⟨26,0,[sB 6 r1,sA 1 1 11 0],[(1,(CV.frzRow (zA.row x0)))]⟩ ?_
 cases h1 : r1
 ·have H := zG h1 H
  refine uA 20 4 0 ?_
  exact te (fF H)
 have H := zH h1 H
 refine lA 2 ?_
 obtain ⟨r2,er2,H⟩ := bs H
 refine vA [.rd,.rd,.rd] (zO n x0.Pa 0 1000000 r2 er2) ?_
 refine lA 2 ?_
 refine sL 2050 2 ⟨26,0,[sB 11 r2,sA 1 1 11 0],[(1,(CV.frzRow (zA.row x0)))]⟩ ?_
 cases h2 : r2
 ·have H := zG h2 H
  refine uA 15 4 0 ?_
  exact te (fF H)
 have H := zH h2 H
 refine lA 2 ?_
 obtain ⟨r3,er3,H⟩ := bs H
 refine vA [.rd,.rd,.rd] (zO n x0.Wo 0 1000000 r3 er3) ?_
 refine lA 2 ?_
 refine sL 65538 2 ⟨26,0,[sB 16 r3,sA 1 1 11 0],[(1,(CV.frzRow (zA.row x0)))]⟩ ?_
 cases h3 : r3
 ·have H := zG h3 H
  refine uA 10 4 0 ?_
  exact te (fF H)
 have H := zH h3 H
 refine lA 2 ?_
 obtain ⟨r4,er4,H⟩ := bs H
 refine vA [.rd,.rd,.rd] (zO n x0.Dr 0 1000000 r4 er4) ?_
 refine lA 2 ?_
 refine sL 2097154 2 ⟨26,0,[sB 21 r4,sA 1 1 11 0],[(1,(CV.frzRow (zA.row x0)))]⟩ ?_
 cases h4 : r4
 ·have H := zG h4 H
  refine uA 5 4 0 ?_
  exact te (fF H)
 have H := zH h4 H
 refine lA 2 ?_
 obtain ⟨r5,er5,H⟩ := bs H
 refine vA [.rd,.rd,.rd] (zO n x0.Ve 0 1000000 r5 er5) ?_
 refine uA 2 4 0 ?_
 exact te (fJ [(false,[cB r5])] H)
def QC (n : Nat) (x0 : zA) : Option (Bool) :=
  ((zP n x0.Id 1 99).bind fun r2 => (bif r2 then (bif (decide ((x0.Name.size : Int) ≤ 10)) then ((zP n (x0.Ps.length : Int) 1 6).bind fun r3 => (bif r3 then ((ZL n x0.F).bind fun r4 => (bif r4 then ((Zx n x0.V (x0.Ps.length : Int)).bind fun r5 => (bif r5 then ((Qq n x0).bind fun r6 => (some r6)) else (some false))) else (some false))) else (some false))) else (some false)) else (some false)))
def zn (n : Nat) : Nat → zA → Int → Option ((Unit) ⊕ (Bool))
  | 0,_,_ => none
  | mo7 + 1,x0,y1 => (bif (decide (y1 < (x0.Ps.length : Int))) then ((idx x0.Ps y1).bind fun v8 => ((qF n v8).bind fun r9 => (bif (!r9) then (some (Sum.inr false)) else (zn n mo7 x0 (IntKind.wrap .i64 (y1 + 1)))))) else (some (Sum.inl ())))
def zT (n : Nat) (x0 : zA) : Option (Bool) :=
  ((zn n n x0 0).bind fun o => match o with | .inl _ => (QC n x0) | .inr r => some r)
theorem zDW (n : Nat) (x0 : zA) (r : Bool) (H : zT n x0 = some r) : zD Tryz.prog 168 [.val true (CV.frzRow (zA.row x0))] [.val false [.lit (.bool r)]] [] := by
 refine cW Tryz.func168 (fun g d => sl [g 0,sl [g 1] (.block 0 (.loop (sl [sl [g 2] (cn 8 .skip (.exit 0)),.block 1 (sl [g 4] (cn 17 (sl [g 5] .ret) .skip))] (g 3)))),g 6] .ret) [.tmp 2] fun cx => ?_
 unfold zT at H
 refine gA 2 2 2 ?_
 refine tS ?_
 refine gA 1 10 2 ?_
 obtain ⟨o7,eo7,Ho7⟩ := bs H
 clear H
 refine Tr.mid (ι := Unit) (fun v => ⟨50,0,[sA 1 1 11 0],[(1,(CV.frzRow (zA.row x0)))]⟩) (fun v => QC n x0 = some r) ?_ ?_
 ·refine tB ?_
  refine Tr.loop (ι := Nat × (Int)) (fun v => ⟨50,0,[sI 3 v.2,sA 1 1 11 0],[(1,(CV.frzRow (zA.row x0)))]⟩) (fun v => zn n v.1 x0 v.2 = some o7) (fun v => v.1) (n,0) eo7 (St.sub_of [3,1] [1] kr) ?_
  rintro ⟨mo7,y1⟩ H
  have H : zn n mo7 x0 y1 = some o7 := H
  obtain _ | mo7 := mo7
  ·exact nN H
  rw [zn] at H
  refine tS ?_
  refine rA 3 ?_
  refine kF x0.Ps Pt.row ?_
  refine uA 1 266 2 ?_
  obtain ⟨h6,H⟩ | ⟨h6,H⟩ := bC H
  ·refine nA h6 ?_
   refine Tr.exit ?_
   refine aJ ?_
   obtain rfl := si H
   have H := Ho7
   dsimp only at H
   exact jA () H [1] [1]
  refine tA h6 ?_
  refine tK ?_
  refine tS ?_
  refine tB ?_
  refine rA 3 ?_
  obtain ⟨v8,ev8,H⟩ := bs H
  refine iA Pt.row ev8 ?_
  refine lA 1 ?_
  obtain ⟨r9,er9,H⟩ := bs H
  refine vA [.rd] (zNA n v8 r9 er9) ?_
  refine uA 1 131082 2 ?_
  obtain ⟨h7,H⟩ | ⟨h7,H⟩ := bC H
  ·refine nA h7 ?_
   refine tK ?_
   refine eA 3 10 2 ?_
   exact jB mo7 (IntKind.wrap .i64 (y1 + 1)) H [3,1] [1]
  refine tA h7 ?_
  refine gA 1 4 0 ?_
  refine te ?_
  obtain rfl := si H
  have H := Ho7
  dsimp only at H
  exact fF H
 rintro _ H
 have H : (QC n x0) = some r := H
 unfold QC at H
 refine rA 2 ?_
 obtain ⟨r2,er2,H⟩ := bs H
 refine vA [.rd,.rd,.rd] (zO n x0.Id 1 99 r2 er2) ?_
 refine lA 1 ?_
 refine sL 2097154 2 ⟨50,0,[sB 21 r2,sA 1 1 11 0],[(1,(CV.frzRow (zA.row x0)))]⟩ ?_
 cases h1 : r2
 ·have H := zG h1 H
  refine uA 29 4 0 ?_
  exact te (fF H)
 have H := zH h1 H
 refine lA 6 ?_
 refine sL 134217730 2 ⟨50,0,[sB 27 (decide ((x0.Name.size : Int) ≤ 10)),sA 1 1 11 0],[(1,(CV.frzRow (zA.row x0)))]⟩ ?_
 cases h2 : (decide ((x0.Name.size : Int) ≤ 10))
 ·have H := zG h2 H
  refine uA 23 4 0 ?_
  exact te (fF H)
 have H := zH h2 H
 refine lA 2 ?_
 refine kF x0.Ps Pt.row ?_
 obtain ⟨r3,er3,H⟩ := bs H
 refine vA [.rd,.rd,.rd] (zO n (x0.Ps.length : Int) 1 6 r3 er3) ?_
 refine lA 2 ?_
 refine sL 8589934594 2 ⟨50,0,[sB 33 r3,sA 1 1 11 0],[(1,(CV.frzRow (zA.row x0)))]⟩ ?_
 cases h3 : r3
 ·have H := zG h3 H
  refine uA 17 4 0 ?_
  exact te (fF H)
 have H := zH h3 H
 refine lA 2 ?_
 obtain ⟨r4,er4,H⟩ := bs H
 refine vA [.rd] (zMX n x0.F r4 er4) ?_
 refine lA 2 ?_
 refine sL 274877906946 2 ⟨50,0,[sB 38 r4,sA 1 1 11 0],[(1,(CV.frzRow (zA.row x0)))]⟩ ?_
 cases h4 : r4
 ·have H := zG h4 H
  refine uA 12 4 0 ?_
  exact te (fF H)
 have H := zH h4 H
 refine lA 4 ?_
 refine kF x0.Ps Pt.row ?_
 obtain ⟨r5,er5,H⟩ := bs H
 refine vA [.rd,.rd] (zLh n x0.V (x0.Ps.length : Int) r5 er5) ?_
 refine lA 2 ?_
 refine sL 70368744177666 2 ⟨50,0,[sB 46 r5,sA 1 1 11 0],[(1,(CV.frzRow (zA.row x0)))]⟩ ?_
 cases h5 : r5
 ·have H := zG h5 H
  refine uA 4 4 0 ?_
  exact te (fF H)
 have H := zH h5 H
 refine lA 1 ?_
 obtain ⟨r6,er6,H⟩ := bs H
 refine vA [.rd] (zJO n x0 r6 er6) ?_
 refine uA 2 4 0 ?_
 exact te (fJ [(false,[cB r6])] H)
def zAg (n : Nat) (y3 : Int) : Option (Int) :=
  (some y3)
def QS (n : Nat) (k : (Int × Int → Option ((Int) ⊕ (Int)))) (v5 : Link) (x1 : Int) (x2 : Int) (y1 : Int) (y6 : Int) : Option ((Int) ⊕ (Int)) :=
  (bif (v5.B == x1) then (bif (v5.Q == x2) then (k ((IntKind.wrap .i64 (y1 + 1)),(IntKind.wrap .i64 (y6 + 1)))) else (k ((IntKind.wrap .i64 (y1 + 1)),y6))) else (k ((IntKind.wrap .i64 (y1 + 1)),y6)))
def qX (n : Nat) : Nat → Net → Int → Int → Int → Int → Option ((Int) ⊕ (Int))
  | 0,_,_,_,_,_ => none
  | mo4 + 1,x0,x1,x2,y1,y2 => (bif (decide (y1 < (x0.Ls.length : Int))) then ((idx x0.Ls y1).bind fun v5 => (bif (v5.A == x1) then (bif (v5.P == x2) then (QS n (fun v => qX n mo4 x0 x1 x2 v.1 v.2) v5 x1 x2 y1 (IntKind.wrap .i64 (y2 + 1))) else (QS n (fun v => qX n mo4 x0 x1 x2 v.1 v.2) v5 x1 x2 y1 y2)) else (QS n (fun v => qX n mo4 x0 x1 x2 v.1 v.2) v5 x1 x2 y1 y2))) else (some (Sum.inl y2)))
def Yk (n : Nat) (x0 : Net) (x1 : Int) (x2 : Int) : Option (Int) :=
  ((qX n n x0 x1 x2 0 0).bind fun o => match o with | .inl y3 => (zAg n y3) | .inr r => some r)
theorem zGO (n : Nat) (x0 : Net) (x1 : Int) (x2 : Int) (r : Int) (H : Yk n x0 x1 x2 = some r) : zD Tryz.prog 221 [.val true (CV.frzRow (Net.row x0)),.val false [.lit (.int .i64 x1)],.val false [.lit (.int .i64 x2)]] [.val false [.lit (.int .i64 r)]] [] := by
 refine cW Tryz.func221 (fun g d => sl [g 0,g 1,sl [g 2] (.block 0 (.loop (sl [sl [g 3] (cn 14 .skip (.exit 0)),.block 1 (sl [g 5,sl [g 6] (cn 31 (g 7) .skip),g 8] (cn 43 (g 9) .skip))] (g 4)))),g 10] .ret) [.tmp 6] fun cx => ?_
 unfold Yk at H
 refine gA 2 14 8 ?_
 refine gA 1 142 8 ?_
 refine tS ?_
 refine gA 1 398 8 ?_
 obtain ⟨o4,eo4,Ho4⟩ := bs H
 clear H
 refine Tr.mid (ι := Int) (fun v => ⟨47,0,[sI 7 v],[]⟩) (fun v => zAg n v = some r) ?_ ?_
 ·refine tB ?_
  refine Tr.loop (ι := Nat × (Int × Int)) (fun v => ⟨47,0,[sI 8 v.2.1,sI 7 v.2.2,sA 3 3 3 0,sI 1 x1,sI 2 x2],[(3,(CV.frzRow (Net.row x0)))]⟩) (fun v => qX n v.1 x0 x1 x2 v.2.1 v.2.2 = some o4) (fun v => v.1) (n,(0,0)) eo4 (St.sub_of [8,7,3,1,2] [3] kr) ?_
  rintro ⟨mo4,y1,y2⟩ H
  have H : qX n mo4 x0 x1 x2 y1 y2 = some o4 := H
  obtain _ | mo4 := mo4
  ·exact nN H
  rw [qX] at H
  refine tS ?_
  refine rA 3 ?_
  refine kF x0.Ls Link.row ?_
  refine uA 1 16782 8 ?_
  obtain ⟨h1,H⟩ | ⟨h1,H⟩ := bC H
  ·refine nA h1 ?_
   refine Tr.exit ?_
   refine aJ ?_
   obtain rfl := si H
   have H := Ho4
   dsimp only at H
   exact jA y2 H [7] []
  refine tA h1 ?_
  refine tK ?_
  refine tS ?_
  refine tB ?_
  refine rA 3 ?_
  obtain ⟨v5,ev5,H⟩ := bs H
  refine iA Link.row ev5 ?_
  refine uA 3 910 520 ?_
  refine tS ?_
  refine Tr.mid (ι := Int) (fun v => ⟨47,0,[sA 9 9 4 0,sI 8 y1,sI 7 v,sA 3 3 3 0,sI 1 x1,sI 2 x2],[(9,(Link.row v5)),(3,(CV.frzRow (Net.row x0)))]⟩) (fun v => QS n (fun v => qX n mo4 x0 x1 x2 v.1 v.2) v5 x1 x2 y1 v = some o4) ?_ ?_
  ·refine rA 5 ?_
   refine sL 67109774 520 ⟨47,0,[sB 26 (v5.A == x1),sA 9 9 4 0,sI 8 y1,sI 7 y2,sA 3 3 3 0,sI 1 x1,sI 2 x2],[(9,(Link.row v5)),(3,(CV.frzRow (Net.row x0)))]⟩ ?_
   cases h4 : (v5.A == x1)
   ·have H := zG h4 H
    refine uA 5 2147484558 520 ?_
    refine nB_ ?_
    refine tK ?_
    exact jA y2 H [9,8,7,3,1,2] [9,3]
   have H := zH h4 H
   refine uA 5 2147484558 520 ?_
   obtain ⟨h5,H⟩ | ⟨h5,H⟩ := bC H
   ·refine nA h5 ?_
    refine tK ?_
    exact jA y2 H [9,8,7,3,1,2] [9,3]
   refine tA h5 ?_
   refine eA 3 910 520 ?_
   exact jA (IntKind.wrap .i64 (y2 + 1)) H [9,8,7,3,1,2] [9,3]
  rintro y6 H
  have H : (QS n (fun v => qX n mo4 x0 x1 x2 v.1 v.2) v5 x1 x2 y1 y6) = some o4 := H
  unfold QS at H
  refine rA 5 ?_
  refine sL 274877907854 520 ⟨47,0,[sB 38 (v5.B == x1),sA 9 9 4 0,sI 8 y1,sI 7 y6,sA 3 3 3 0,sI 1 x1,sI 2 x2],[(9,(Link.row v5)),(3,(CV.frzRow (Net.row x0)))]⟩ ?_
  cases h2 : (v5.B == x1)
  ·have H := zG h2 H
   refine uA 5 8796093022606 8 ?_
   refine nB_ ?_
   refine tK ?_
   refine eA 3 398 8 ?_
   exact jB mo4 ((IntKind.wrap .i64 (y1 + 1)),y6) H [8,7,3,1,2] [3]
  have H := zH h2 H
  refine uA 5 8796093022606 8 ?_
  obtain ⟨h3,H⟩ | ⟨h3,H⟩ := bC H
  ·refine nA h3 ?_
   refine tK ?_
   refine eA 3 398 8 ?_
   exact jB mo4 ((IntKind.wrap .i64 (y1 + 1)),y6) H [8,7,3,1,2] [3]
  refine tA h3 ?_
  refine eA 3 398 8 ?_
  refine eA 3 398 8 ?_
  exact jB mo4 ((IntKind.wrap .i64 (y1 + 1)),(IntKind.wrap .i64 (y6 + 1))) H [8,7,3,1,2] [3]
 rintro y3 H
 have H : (zAg n y3) = some r := H
 unfold zAg at H
 refine gA 2 64 0 ?_
 exact te (fJ [(false,[cI y3])] H)
def Qj (n : Nat) (x0 : Net) : Option (Bool) :=
  ((zP n (x0.Bs.length : Int) 1 6).bind fun r2 => (some r2))
def Ql (n : Nat) (k : (Int → Option ((Unit) ⊕ (Bool)))) (y1 : Int) : Option ((Unit) ⊕ (Bool)) :=
  (k (IntKind.wrap .i64 (y1 + 1)))
def qJ (n : Nat) : Nat → Net → Int → Int → Option ((Unit) ⊕ (Bool))
  | 0,_,_,_ => none
  | mo8 + 1,x0,y1,y7 => ((idx x0.Bs y1).bind fun v9 => (bif (decide (y7 < (v9.Ps.length : Int))) then ((idx x0.Bs y1).bind fun v10 => ((idx v10.Ps y7).bind fun v11 => (bif v11.Has then ((Yk n x0 y1 y7).bind fun r12 => (bif (r12 == 0) then (some (Sum.inr false)) else (qJ n mo8 x0 y1 (IntKind.wrap .i64 (y7 + 1))))) else (qJ n mo8 x0 y1 (IntKind.wrap .i64 (y7 + 1)))))) else (some (Sum.inl ()))))
def Qk (n : Nat) (k : (Int → Option ((Unit) ⊕ (Bool)))) (x0 : Net) (y1 : Int) : Option ((Unit) ⊕ (Bool)) :=
  ((qJ n n x0 y1 0).bind fun o => match o with | .inl _ => (Ql n k y1) | .inr r => some (Sum.inr r))
def qV (n : Nat) : Nat → Net → Int → Int → Option ((Unit) ⊕ (Bool))
  | 0,_,_,_ => none
  | mo13 + 1,x0,y1,y6 => (bif (decide (y6 < y1)) then ((idx x0.Bs y6).bind fun v14 => ((idx x0.Bs y1).bind fun v15 => (bif (v14.Id == v15.Id) then (some (Sum.inr false)) else (qV n mo13 x0 y1 (IntKind.wrap .i64 (y6 + 1)))))) else (some (Sum.inl ())))
def zc (n : Nat) : Nat → Net → Int → Option ((Unit) ⊕ (Bool))
  | 0,_,_ => none
  | mo3 + 1,x0,y1 => (bif (decide (y1 < (x0.Bs.length : Int))) then ((idx x0.Bs y1).bind fun v4 => ((zT n v4).bind fun r5 => (bif (!r5) then (some (Sum.inr false)) else ((qV n n x0 y1 0).bind fun o => match o with | .inl _ => (Qk n (fun v => zc n mo3 x0 v) x0 y1) | .inr r => some (Sum.inr r))))) else (some (Sum.inl ())))
def YU (n : Nat) (x0 : Net) : Option (Bool) :=
  ((zc n n x0 0).bind fun o => match o with | .inl _ => (Qj n x0) | .inr r => some r)
def zOY : Tab := ⟨13,[0,1,0,6,8,16,0,64,0,384,512,1024,2080],[0,1,0,6,8,16,0,64,0,384,512,1024,2080],[0,1,0,7,15,31,0,64,0,448,960,1984,4095]⟩
theorem zEn : zf (rg Tryz.f159 9) zOY = true := kr
theorem zId (n : Nat) (x0 : Net) (r : Bool) (H : YU n x0 = some r) : zD Tryz.prog 159 [.val true (CV.frzRow (Net.row x0))] [.val false [.lit (.bool r)]] [] := by
 refine cW Tryz.func159 (fun g d => sl [g 0,sl [g 1] (.block 0 (.loop (sl [sl [g 2] (cn 10 .skip (.exit 0)),.block 1 (sl [sl [g 4] (cn 19 (sl [g 5] .ret) .skip),sl [g 6] (.block 2 (.loop (sl [sl [g 7] (cn 22 .skip (.exit 2)),.block 3 (sl [d 9] (cn 37 (sl [g 10] .ret) .skip))] (g 8)))),g 11] (.block 4 (.loop (sl [sl [g 12] (cn 46 .skip (.exit 4)),.block 5 (sl [g 14] (cn 65 (sl [g 15] .ret) .skip))] (g 13)))))] (g 3)))),g 16] .ret) [.tmp 2] fun cx => ?_
 unfold YU at H
 refine gA 2 2 2 ?_
 refine tS ?_
 refine gA 1 10 2 ?_
 obtain ⟨o3,eo3,Ho3⟩ := bs H
 clear H
 refine Tr.mid (ι := Unit) (fun v => ⟨70,0,[sA 1 1 3 0],[(1,(CV.frzRow (Net.row x0)))]⟩) (fun v => Qj n x0 = some r) ?_ ?_
 ·refine tB ?_
  refine Tr.loop (ι := Nat × (Int)) (fun v => ⟨70,0,[sI 3 v.2,sA 1 1 3 0],[(1,(CV.frzRow (Net.row x0)))]⟩) (fun v => zc n v.1 x0 v.2 = some o3) (fun v => v.1) (n,0) eo3 (St.sub_of [3,1] [1] kr) ?_
  rintro ⟨mo3,y1⟩ H
  have H : zc n mo3 x0 y1 = some o3 := H
  obtain _ | mo3 := mo3
  ·exact nN H
  rw [zc] at H
  refine tS ?_
  refine rA 3 ?_
  refine kF x0.Bs zA.row ?_
  refine uA 1 1034 2 ?_
  obtain ⟨h1,H⟩ | ⟨h1,H⟩ := bC H
  ·refine nA h1 ?_
   refine Tr.exit ?_
   refine aJ ?_
   obtain rfl := si H
   have H := Ho3
   dsimp only at H
   exact jA () H [1] [1]
  refine tA h1 ?_
  refine tK ?_
  refine tS ?_
  refine tB ?_
  refine tS ?_
  refine rA 3 ?_
  obtain ⟨v4,ev4,H⟩ := bs H
  refine iA zA.row ev4 ?_
  refine lA 1 ?_
  obtain ⟨r5,er5,H⟩ := bs H
  refine vA [.rd] (zDW n v4 r5 er5) ?_
  refine uA 1 524298 2 ?_
  obtain ⟨h2,H⟩ | ⟨h2,H⟩ := bC H
  ·refine nA h2 ?_
   refine tK ?_
   refine tS ?_
   refine gA 1 26 2 ?_
   obtain ⟨o13,eo13,Ho13⟩ := bs H
   clear H
   refine Tr.mid (ι := Unit) (fun v => ⟨70,0,[sI 3 y1,sA 1 1 3 0],[(1,(CV.frzRow (Net.row x0)))]⟩) (fun v => Qk n (fun v => zc n mo3 x0 v) x0 y1 = some o3) ?_ ?_
   ·refine tB ?_
    refine Tr.loop (ι := Nat × (Int)) (fun v => ⟨70,0,[sI 4 v.2,sI 3 y1,sA 1 1 3 0],[(1,(CV.frzRow (Net.row x0)))]⟩) (fun v => qV n v.1 x0 y1 v.2 = some o13) (fun v => v.1) (n,0) eo13 (St.sub_of [4,3,1] [1] kr) ?_
    rintro ⟨mo13,y6⟩ H
    have H : qV n mo13 x0 y1 y6 = some o13 := H
    obtain _ | mo13 := mo13
    ·exact nN H
    rw [qV] at H
    refine tS ?_
    refine gA 3 4194330 2 ?_
    obtain ⟨h6,H⟩ | ⟨h6,H⟩ := bC H
    ·refine nA h6 ?_
     refine Tr.exit ?_
     refine aJ ?_
     obtain rfl := si H
     have H := Ho13
     dsimp only at H
     exact jA () H [3,1] [1]
    refine tA h6 ?_
    refine tK ?_
    refine tS ?_
    refine tB ?_
    obtain ⟨v14,ev14,H⟩ := bs H
    obtain ⟨v15,ev15,H⟩ := bs H
    refine Tr.draws mixed 13 kr ⟨70,0,[sB 37 (v14.Id == v15.Id),sI 4 y6,sI 3 y1,sA 1 1 3 0],[(1,(CV.frzRow (Net.row x0)))]⟩ (fun cx => ?_) ?_
    ·refine mA zEn [(0,[]),(1,[]),(2,[])] 10 [⟨[],63,25,26⟩] fun cx => ?_
     refine iN zEn 3 zA.row ev14 fun cx => ?_
     refine mA zEn [(4,[]),(5,[]),(6,[]),(7,[]),(8,[])] 4 [⟨[],63,31,32⟩,⟨[],63,25,26⟩] fun cx => ?_
     refine iN zEn 9 zA.row ev15 fun cx => ?_
     refine mA zEn [(10,[]),(11,[]),(12,[])] 0 [⟨[],63,31,32⟩,⟨[],63,25,26⟩] fun cx => ?_
     exact mE zEn [37,4,3,1] [1]
    refine sT ⟨70,0,[sB 37 (v14.Id == v15.Id),sI 4 y6,sI 3 y1,sA 1 1 3 0],[(1,(CV.frzRow (Net.row x0)))]⟩ ?_
    cases h7 : (v14.Id == v15.Id)
    ·have H := zG h7 H
     refine nB_ ?_
     refine tK ?_
     refine eA 3 26 2 ?_
     exact jB mo13 (IntKind.wrap .i64 (y6 + 1)) H [4,3,1] [1]
    have H := zH h7 H
    refine tB_ ?_
    refine gA 1 4 0 ?_
    refine te ?_
    obtain rfl := si H
    have H := Ho13
    dsimp only at H
    obtain rfl := si H
    have H := Ho3
    dsimp only at H
    exact fF H
   rintro _ H
   have H : (Qk n (fun v => zc n mo3 x0 v) x0 y1) = some o3 := H
   unfold Qk at H
   refine gA 1 42 2 ?_
   obtain ⟨o8,eo8,Ho8⟩ := bs H
   clear H
   refine Tr.mid (ι := Unit) (fun v => ⟨70,0,[sI 3 y1,sA 1 1 3 0],[(1,(CV.frzRow (Net.row x0)))]⟩) (fun v => Ql n (fun v => zc n mo3 x0 v) y1 = some o3) ?_ ?_
   ·refine tB ?_
    refine Tr.loop (ι := Nat × (Int)) (fun v => ⟨70,0,[sI 5 v.2,sI 3 y1,sA 1 1 3 0],[(1,(CV.frzRow (Net.row x0)))]⟩) (fun v => qJ n v.1 x0 y1 v.2 = some o8) (fun v => v.1) (n,0) eo8 (St.sub_of [5,3,1] [1] kr) ?_
    rintro ⟨mo8,y7⟩ H
    have H : qJ n mo8 x0 y1 y7 = some o8 := H
    obtain _ | mo8 := mo8
    ·exact nN H
    rw [qJ] at H
    refine tS ?_
    refine rA 4 ?_
    obtain ⟨v9,ev9,H⟩ := bs H
    refine iA zA.row ev9 ?_
    refine lA 2 ?_
    refine kF v9.Ps Pt.row ?_
    refine uA 1 70368744177706 2 ?_
    obtain ⟨h3,H⟩ | ⟨h3,H⟩ := bC H
    ·refine nA h3 ?_
     refine Tr.exit ?_
     refine aJ ?_
     obtain rfl := si H
     have H := Ho8
     dsimp only at H
     exact jA () H [3,1] [1]
    refine tA h3 ?_
    refine tK ?_
    refine tS ?_
    refine tB ?_
    refine rA 3 ?_
    obtain ⟨v10,ev10,H⟩ := bs H
    refine iA zA.row ev10 ?_
    refine lA 3 ?_
    obtain ⟨v11,ev11,H⟩ := bs H
    refine iA Pt.row ev11 ?_
    refine lA 3 ?_
    refine sL 0x80000000000002a 2 ⟨70,0,[sB 59 v11.Has,sI 5 y7,sI 3 y1,sA 1 1 3 0],[(1,(CV.frzRow (Net.row x0)))]⟩ ?_
    cases h4 : v11.Has
    ·have H := zG h4 H
     refine uA 6 0x2000000000000002a 2 ?_
     refine nB_ ?_
     refine tK ?_
     refine eA 3 42 2 ?_
     exact jB mo8 (IntKind.wrap .i64 (y7 + 1)) H [5,3,1] [1]
    have H := zH h4 H
    refine lA 3 ?_
    obtain ⟨r12,er12,H⟩ := bs H
    refine vA [.rd,.rd,.rd] (zGO n x0 y1 y7 r12 er12) ?_
    refine uA 2 0x2000000000000002a 2 ?_
    obtain ⟨h5,H⟩ | ⟨h5,H⟩ := bC H
    ·refine nA h5 ?_
     refine tK ?_
     refine eA 3 42 2 ?_
     exact jB mo8 (IntKind.wrap .i64 (y7 + 1)) H [5,3,1] [1]
    refine tA h5 ?_
    refine gA 1 4 0 ?_
    refine te ?_
    obtain rfl := si H
    have H := Ho8
    dsimp only at H
    obtain rfl := si H
    have H := Ho3
    dsimp only at H
    exact fF H
   rintro _ H
   have H : (Ql n (fun v => zc n mo3 x0 v) y1) = some o3 := H
   unfold Ql at H
   refine eA 3 10 2 ?_
   exact jB mo3 (IntKind.wrap .i64 (y1 + 1)) H [3,1] [1]
  refine tA h2 ?_
  refine gA 1 4 0 ?_
  refine te ?_
  obtain rfl := si H
  have H := Ho3
  dsimp only at H
  exact fF H
 rintro _ H
 have H : (Qj n x0) = some r := H
 unfold Qj at H
 refine rA 2 ?_
 refine kF x0.Bs zA.row ?_
 obtain ⟨r2,er2,H⟩ := bs H
 refine vA [.rd,.rd,.rd] (zO n (x0.Bs.length : Int) 1 6 r2 er2) ?_
 refine uA 1 4 0 ?_
 exact te (fJ [(false,[cB r2])] H)
def Jh (n : Nat) (x0 : Net) (x1 : Int) (x2 : Int) : Option (Bool) :=
  ((zP n x1 0 (IntKind.wrap .i64 ((x0.Bs.length : Int) - 1))).bind fun r1 => (bif r1 then ((idx x0.Bs x1).bind fun v2 => ((zP n x2 0 (IntKind.wrap .i64 ((v2.Ps.length : Int) - 1))).bind fun r3 => (bif r3 then ((Yk n x0 x1 x2).bind fun r4 => (some (r4 == 1))) else (some false)))) else (some false)))
theorem zBd (n : Nat) (x0 : Net) (x1 : Int) (x2 : Int) (r : Bool) (H : Jh n x0 x1 x2 = some r) : zD Tryz.prog 160 [.val true (CV.frzRow (Net.row x0)),.val false [.lit (.int .i64 x1)],.val false [.lit (.int .i64 x2)]] [.val false [.lit (.bool r)]] [] := by
 refine cW Tryz.func160 (fun g d => sl [g 0,g 1] .ret) [.tmp 6] fun cx => ?_
 unfold Jh at H
 refine gA 2 14 8 ?_
 refine rA 3 ?_
 refine kF x0.Bs zA.row ?_
 refine lA 1 ?_
 obtain ⟨r1,er1,H⟩ := bs H
 refine vA [.rd,.rd,.rd] (zO n x1 0 (IntKind.wrap .i64 ((x0.Bs.length : Int) - 1)) r1 er1) ?_
 refine lA 1 ?_
 refine sL 8206 8 ⟨32,0,[sB 13 r1,sA 3 3 3 0,sI 1 x1,sI 2 x2],[(3,(CV.frzRow (Net.row x0)))]⟩ ?_
 cases h1 : r1
 ·have H := zG h1 H
  refine uA 19 64 0 ?_
  exact te (fF H)
 have H := zH h1 H
 refine lA 4 ?_
 obtain ⟨v2,ev2,H⟩ := bs H
 refine iA zA.row ev2 ?_
 refine lA 2 ?_
 refine kF v2.Ps Pt.row ?_
 refine lA 1 ?_
 obtain ⟨r3,er3,H⟩ := bs H
 refine vA [.rd,.rd,.rd] (zO n x2 0 (IntKind.wrap .i64 ((v2.Ps.length : Int) - 1)) r3 er3) ?_
 refine lA 2 ?_
 refine sL 33554446 8 ⟨32,0,[sB 25 r3,sA 3 3 3 0,sI 1 x1,sI 2 x2],[(3,(CV.frzRow (Net.row x0)))]⟩ ?_
 cases h2 : r3
 ·have H := zG h2 H
  refine uA 7 64 0 ?_
  exact te (fF H)
 have H := zH h2 H
 refine lA 3 ?_
 obtain ⟨r4,er4,H⟩ := bs H
 refine vA [.rd,.rd,.rd] (zGO n x0 x1 x2 r4 er4) ?_
 refine uA 3 64 0 ?_
 exact te (fJ [(false,[cB (r4 == 1)])] H)
def zBx (n : Nat) : Option (Bool) :=
  (some true)
def q4 (n : Nat) : Nat → Net → Int → Option ((Unit) ⊕ (Bool))
  | 0,_,_ => none
  | mo4 + 1,x0,y3 => (bif (decide (y3 < (x0.Said.length : Int))) then ((idx x0.Said y3).bind fun v5 => ((zP n v5.Link 0 (IntKind.wrap .i64 ((x0.Ls.length : Int) - 1))).bind fun r6 => (bif (!r6) then (some (Sum.inr false)) else ((idx x0.Said y3).bind fun v7 => ((zq n v7.V).bind fun r8 => (bif (!r8) then (some (Sum.inr false)) else (q4 n mo4 x0 (IntKind.wrap .i64 (y3 + 1))))))))) else (some (Sum.inl ())))
def Yi (n : Nat) (x0 : Net) : Option (Bool) :=
  ((q4 n n x0 0).bind fun o => match o with | .inl _ => (zBx n) | .inr r => some r)
def qg (n : Nat) : Nat → Net → Int → Option ((Unit) ⊕ (Bool))
  | 0,_,_ => none
  | mo9 + 1,x0,y2 => (bif (decide (y2 < (x0.Ls.length : Int))) then ((idx x0.Ls y2).bind fun v10 => (bif (v10.A == v10.B) then (some (Sum.inr false)) else ((Jh n x0 v10.A v10.P).bind fun r11 => (bif (!r11) then (some (Sum.inr false)) else ((Jh n x0 v10.B v10.Q).bind fun r12 => (bif (!r12) then (some (Sum.inr false)) else ((idx x0.Bs v10.A).bind fun v13 => ((idx v13.Ps v10.P).bind fun v14 => ((idx x0.Bs v10.B).bind fun v15 => ((idx v15.Ps v10.Q).bind fun v16 => (bif (!(v14.Up == v16.Up)) then (some (Sum.inr false)) else (qg n mo9 x0 (IntKind.wrap .i64 (y2 + 1)))))))))))))) else (some (Sum.inl ())))
def Q9 (n : Nat) (x0 : Net) : Option (Bool) :=
  ((YU n x0).bind fun r1 => (bif (!r1) then (some false) else (bif (decide ((x0.Ls.length : Int) > 9)) then (some false) else (bif (decide ((x0.Said.length : Int) > 40)) then (some false) else ((qg n n x0 0).bind fun o => match o with | .inl _ => (Yi n x0) | .inr r => some r)))))
def zO2 : Tab := ⟨50,[0,1,0,4,10,16,32,32,160,32,544,1376,2080,4128,10240,16384,16384,81920,16384,278528,704512,1064960,2113536,5242880,8388608,25165824,8388608,75497472,176160768,276824064,545259520,8388608,2155872256,5377097728,8598323200,17188257792,8388608,68727865344,8388608,274886295552,687203155968,1099520016384,2199031644160,8388608,8796101410816,21990240944128,35184380477440,70368752566272,0x800800800000,281474985099264],[0,1,0,4,10,16,32,32,160,32,544,1376,2080,4128,8192,16384,16384,81920,16384,278528,704512,1064960,2113536,4194304,8388608,25165824,8388608,75497472,176160768,276824064,545259520,8388608,2155872256,5377097728,8598323200,17188257792,8388608,68727865344,8388608,274886295552,687203155968,1099520016384,2199031644160,8388608,8796101410816,21990240944128,35184380477440,70368752566272,0x800800800000,281474985099264],[0,1,0,4,15,31,63,63,191,63,575,2047,4095,8191,16383,32767,32767,98303,32767,294911,1048575,2097151,4194303,8388607,16777215,33554431,16777215,83886079,268435455,536870911,1073741823,16777215,2164260863,8589934591,17179869183,34359738367,16777215,68736253951,16777215,274894684159,0xf000ffffff,2130320556031,4329343811583,16777215,8796109799423,35115669389311,70300041478143,0x7ff000ffffff,0xffffffffffff,562949953421311]⟩
theorem qh : zf (rg Tryz.f61 7) zO2 = true := kr
def zOn : Tab := ⟨22,[0,1,0,6,8,16,0,64,128,256,544,1024,3072,4096,12288,4096,53248,69632,135168,266240,528384,1052672],[0,1,0,6,8,16,0,64,128,256,544,1024,2048,4096,12288,4096,53248,69632,135168,266240,528384,1052672],[0,1,0,7,15,31,0,64,192,448,1023,2047,4095,8191,16383,8191,65535,131071,262143,524287,1048575,2097151]⟩
theorem Zi : zf (rg Tryz.f61 12) zOn = true := kr
theorem zMY (n : Nat) (x0 : Net) (r : Bool) (H : Q9 n x0 = some r) : zD Tryz.prog 61 [.val true (CV.frzRow (Net.row x0))] [.val false [.lit (.bool r)]] [] := by
 refine cW Tryz.func61 (fun g d => sl [g 0,sl [g 1] (cn 20 (sl [g 2] .ret) .skip),sl [g 3] (.block 0 (.loop (sl [sl [g 4] (cn 25 .skip (.exit 0)),.block 1 (sl [g 6,d 7] (cn 82 (sl [g 8] .ret) .skip))] (g 5)))),sl [g 9] (.block 2 (.loop (sl [sl [g 10] (cn 87 .skip (.exit 2)),.block 3 (sl [d 12] (cn 111 (sl [g 13] .ret) .skip))] (g 11)))),g 14] .ret) [.tmp 2] fun cx => ?_
 unfold Q9 at H
 refine gA 2 2 2 ?_
 refine tS ?_
 refine rA 1 ?_
 obtain ⟨r1,er1,H⟩ := bs H
 refine vA [.rd] (zId n x0 r1 er1) ?_
 refine lA 2 ?_
 refine sL 514 2 ⟨112,0,[sB 9 (!r1),sA 1 1 3 0],[(1,(CV.frzRow (Net.row x0)))]⟩ ?_
 cases h1 : (!r1)
 ·have H := zG h1 H
  refine lA 2 ?_
  refine kF x0.Ls Link.row ?_
  refine lA 3 ?_
  refine sL 32770 2 ⟨112,0,[sB 15 (decide ((x0.Ls.length : Int) > 9)),sA 1 1 3 0],[(1,(CV.frzRow (Net.row x0)))]⟩ ?_
  cases h2 : (decide ((x0.Ls.length : Int) > 9))
  ·have H := zG h2 H
   refine lA 2 ?_
   refine kF x0.Said Say.row ?_
   refine uA 2 1048578 2 ?_
   obtain ⟨h3,H⟩ | ⟨h3,H⟩ := bC H
   ·refine nA h3 ?_
    refine tK ?_
    refine tS ?_
    refine gA 1 10 2 ?_
    obtain ⟨o9,eo9,Ho9⟩ := bs H
    clear H
    refine Tr.mid (ι := Unit) (fun v => ⟨112,0,[sA 1 1 3 0],[(1,(CV.frzRow (Net.row x0)))]⟩) (fun v => Yi n x0 = some r) ?_ ?_
    ·refine tB ?_
     refine Tr.loop (ι := Nat × (Int)) (fun v => ⟨112,0,[sI 3 v.2,sA 1 1 3 0],[(1,(CV.frzRow (Net.row x0)))]⟩) (fun v => qg n v.1 x0 v.2 = some o9) (fun v => v.1) (n,0) eo9 (St.sub_of [3,1] [1] kr) ?_
     rintro ⟨mo9,y2⟩ H
     have H : qg n mo9 x0 y2 = some o9 := H
     obtain _ | mo9 := mo9
     ·exact nN H
     rw [qg] at H
     refine tS ?_
     refine rA 3 ?_
     refine kF x0.Ls Link.row ?_
     refine uA 1 33554442 2 ?_
     obtain ⟨h7,H⟩ | ⟨h7,H⟩ := bC H
     ·refine nA h7 ?_
      refine Tr.exit ?_
      refine aJ ?_
      obtain rfl := si H
      have H := Ho9
      dsimp only at H
      exact jA () H [1] [1]
     refine tA h7 ?_
     refine tK ?_
     refine tS ?_
     refine tB ?_
     refine rA 3 ?_
     obtain ⟨v10,ev10,H⟩ := bs H
     refine iA Link.row ev10 ?_
     refine uA 3 26 18 ?_
     refine sT ⟨112,0,[sA 4 4 4 0,sI 3 y2,sA 1 1 3 0],[(4,(Link.row v10)),(1,(CV.frzRow (Net.row x0)))]⟩ ?_
     cases h8 : (v10.A == v10.B)
     ·have H := zG h8 H
      obtain ⟨r11,er11,H⟩ := bs H
      refine sT ⟨112,0,[sA 4 4 4 0,sI 3 y2,sA 1 1 3 0],[(4,(Link.row v10)),(1,(CV.frzRow (Net.row x0)))]⟩ ?_
      cases h9 : (!r11)
      ·have H := zG h9 H
       obtain ⟨r12,er12,H⟩ := bs H
       refine sT ⟨112,0,[sA 4 4 4 0,sI 3 y2,sA 1 1 3 0],[(4,(Link.row v10)),(1,(CV.frzRow (Net.row x0)))]⟩ ?_
       cases h10 : (!r12)
       ·have H := zG h10 H
        obtain ⟨v13,ev13,H⟩ := bs H
        obtain ⟨v14,ev14,H⟩ := bs H
        obtain ⟨v15,ev15,H⟩ := bs H
        obtain ⟨v16,ev16,H⟩ := bs H
        refine Tr.draws mixed 50 kr ⟨112,0,[sB 82 (!(v14.Up == v16.Up)),sI 3 y2,sA 1 1 3 0],[(1,(CV.frzRow (Net.row x0)))]⟩ (fun cx => ?_) ?_
        ·refine mA qh [(0,[]),(1,[11,20]),(2,[]),(3,[11,20]),(4,[]),(5,[])] 44 [⟨[11,20],3,35,36⟩,⟨[11,20],3,33,34⟩] fun cx => ?_
         refine sA_ 403726925850 18 ⟨112,0,[sB 38 (v10.A == v10.B),sI 36 v10.B,sA 35 4 4 2,sI 34 v10.A,sA 33 4 4 0,sA 4 4 4 0,sI 3 y2,sA 1 1 3 0],[(4,(Link.row v10)),(1,(CV.frzRow (Net.row x0)))]⟩ ?_
         rw [h8]
         refine mA qh [(6,[11,20]),(7,[]),(8,[11,20]),(9,[]),(10,[11,20])] 39 [⟨[11,20],3,42,43⟩,⟨[11,20],3,40,41⟩,⟨[11,20],67,1,39⟩,⟨[11,20],3,35,36⟩,⟨[11,20],3,33,34⟩] fun cx => ?_
         refine mC qh 11 ?_
         refine vA [.rd,.rd,.rd] (zBd n x0 v10.A v10.P r11 er11) ?_
         refine fA ?_
         refine mA qh [(12,[]),(13,[]),(14,[])] 35 [⟨[11,20],3,42,43⟩,⟨[11,20],3,40,41⟩,⟨[11,20],67,1,39⟩,⟨[11,20],3,35,36⟩,⟨[11,20],3,33,34⟩] fun cx => ?_
         refine sA_ 0x8f9e0000001a 18 ⟨112,0,[sB 47 (!r11),sI 43 v10.P,sA 42 4 4 1,sI 41 v10.A,sA 40 4 4 0,sR 39 1 3 0 3 true,sI 36 v10.B,sA 35 4 4 2,sI 34 v10.A,sA 33 4 4 0,sA 4 4 4 0,sI 3 y2,sA 1 1 3 0],[(4,(Link.row v10)),(1,(CV.frzRow (Net.row x0)))]⟩ ?_
         rw [h9]
         refine mA qh [(15,[20]),(16,[]),(17,[20]),(18,[]),(19,[20])] 30 [⟨[20],3,51,52⟩,⟨[20],3,49,50⟩,⟨[20],67,1,48⟩,⟨[11,20],3,42,43⟩,⟨[11,20],3,40,41⟩,⟨[11,20],67,1,39⟩,⟨[11,20],3,35,36⟩,⟨[11,20],3,33,34⟩] fun cx => ?_
         refine mC qh 20 ?_
         refine vA [.rd,.rd,.rd] (zBd n x0 v10.B v10.Q r12 er12) ?_
         refine fA ?_
         refine mA qh [(21,[]),(22,[]),(23,[])] 26 [⟨[20],3,51,52⟩,⟨[20],3,49,50⟩,⟨[20],67,1,48⟩,⟨[11,20],3,42,43⟩,⟨[11,20],3,40,41⟩,⟨[11,20],67,1,39⟩,⟨[11,20],3,35,36⟩,⟨[11,20],3,33,34⟩] fun cx => ?_
         refine sA_ 80800489595207706 18 ⟨112,0,[sB 56 (!r12),sI 52 v10.Q,sA 51 4 4 3,sI 50 v10.B,sA 49 4 4 2,sR 48 1 3 0 3 true,sI 43 v10.P,sA 42 4 4 1,sI 41 v10.A,sA 40 4 4 0,sR 39 1 3 0 3 true,sI 36 v10.B,sA 35 4 4 2,sI 34 v10.A,sA 33 4 4 0,sA 4 4 4 0,sI 3 y2,sA 1 1 3 0],[(4,(Link.row v10)),(1,(CV.frzRow (Net.row x0)))]⟩ ?_
         rw [h10]
         refine mA qh [(24,[]),(25,[]),(26,[]),(27,[])] 22 [⟨[],3,59,60⟩,⟨[],63,57,58⟩,⟨[20],3,51,52⟩,⟨[20],3,49,50⟩,⟨[20],67,1,48⟩,⟨[11,20],3,42,43⟩,⟨[11,20],3,40,41⟩,⟨[11,20],67,1,39⟩,⟨[11,20],3,35,36⟩,⟨[11,20],3,33,34⟩] fun cx => ?_
         refine iN qh 28 zA.row ev13 fun cx => ?_
         refine mA qh [(29,[]),(30,[]),(31,[]),(32,[])] 17 [⟨[],3,64,65⟩,⟨[],3,59,60⟩,⟨[],63,57,58⟩,⟨[20],3,51,52⟩,⟨[20],3,49,50⟩,⟨[20],67,1,48⟩,⟨[11,20],3,42,43⟩,⟨[11,20],3,40,41⟩,⟨[11,20],67,1,39⟩,⟨[11,20],3,35,36⟩,⟨[11,20],3,33,34⟩] fun cx => ?_
         refine iN qh 33 Pt.row ev14 fun cx => ?_
         refine mA qh [(34,[]),(35,[]),(36,[]),(37,[]),(38,[]),(39,[])] 10 [⟨[],3,71,72⟩,⟨[],63,69,70⟩,⟨[],3,64,65⟩,⟨[],3,59,60⟩,⟨[],63,57,58⟩,⟨[20],3,51,52⟩,⟨[20],3,49,50⟩,⟨[20],67,1,48⟩,⟨[11,20],3,42,43⟩,⟨[11,20],3,40,41⟩,⟨[11,20],67,1,39⟩,⟨[11,20],3,35,36⟩,⟨[11,20],3,33,34⟩] fun cx => ?_
         refine iN qh 40 zA.row ev15 fun cx => ?_
         refine mA qh [(41,[]),(42,[]),(43,[]),(44,[])] 5 [⟨[],3,76,77⟩,⟨[],3,71,72⟩,⟨[],63,69,70⟩,⟨[],3,64,65⟩,⟨[],3,59,60⟩,⟨[],63,57,58⟩,⟨[20],3,51,52⟩,⟨[20],3,49,50⟩,⟨[20],67,1,48⟩,⟨[11,20],3,42,43⟩,⟨[11,20],3,40,41⟩,⟨[11,20],67,1,39⟩,⟨[11,20],3,35,36⟩,⟨[11,20],3,33,34⟩] fun cx => ?_
         refine iN qh 45 Pt.row ev16 fun cx => ?_
         refine mA qh [(46,[]),(47,[]),(48,[]),(49,[])] 0 [⟨[],3,76,77⟩,⟨[],3,71,72⟩,⟨[],63,69,70⟩,⟨[],3,64,65⟩,⟨[],3,59,60⟩,⟨[],63,57,58⟩,⟨[20],3,51,52⟩,⟨[20],3,49,50⟩,⟨[20],67,1,48⟩,⟨[11,20],3,42,43⟩,⟨[11,20],3,40,41⟩,⟨[11,20],67,1,39⟩,⟨[11,20],3,35,36⟩,⟨[11,20],3,33,34⟩] fun cx => ?_
         exact mE qh [82,3,1] [1]
        refine sT ⟨112,0,[sB 82 (!(v14.Up == v16.Up)),sI 3 y2,sA 1 1 3 0],[(1,(CV.frzRow (Net.row x0)))]⟩ ?_
        cases h11 : (!(v14.Up == v16.Up))
        ·have H := zG h11 H
         refine nB_ ?_
         refine tK ?_
         refine eA 3 10 2 ?_
         exact jB mo9 (IntKind.wrap .i64 (y2 + 1)) H [3,1] [1]
        have H := zH h11 H
        refine tB_ ?_
        refine gA 1 4 0 ?_
        refine te ?_
        obtain rfl := si H
        have H := Ho9
        dsimp only at H
        exact fF H
       have H := zH h10 H
       refine Tr.draws mixed 50 kr ⟨112,0,[sB 82 true,sI 3 y2,sA 1 1 3 0],[(1,(CV.frzRow (Net.row x0)))]⟩ (fun cx => ?_) ?_
       ·refine mA qh [(0,[]),(1,[11,20]),(2,[]),(3,[11,20]),(4,[]),(5,[])] 44 [⟨[11,20],3,35,36⟩,⟨[11,20],3,33,34⟩] fun cx => ?_
        refine sA_ 403726925850 18 ⟨112,0,[sB 38 (v10.A == v10.B),sI 36 v10.B,sA 35 4 4 2,sI 34 v10.A,sA 33 4 4 0,sA 4 4 4 0,sI 3 y2,sA 1 1 3 0],[(4,(Link.row v10)),(1,(CV.frzRow (Net.row x0)))]⟩ ?_
        rw [h8]
        refine mA qh [(6,[11,20]),(7,[]),(8,[11,20]),(9,[]),(10,[11,20])] 39 [⟨[11,20],3,42,43⟩,⟨[11,20],3,40,41⟩,⟨[11,20],67,1,39⟩,⟨[11,20],3,35,36⟩,⟨[11,20],3,33,34⟩] fun cx => ?_
        refine mC qh 11 ?_
        refine vA [.rd,.rd,.rd] (zBd n x0 v10.A v10.P r11 er11) ?_
        refine fA ?_
        refine mA qh [(12,[]),(13,[]),(14,[])] 35 [⟨[11,20],3,42,43⟩,⟨[11,20],3,40,41⟩,⟨[11,20],67,1,39⟩,⟨[11,20],3,35,36⟩,⟨[11,20],3,33,34⟩] fun cx => ?_
        refine sA_ 0x8f9e0000001a 18 ⟨112,0,[sB 47 (!r11),sI 43 v10.P,sA 42 4 4 1,sI 41 v10.A,sA 40 4 4 0,sR 39 1 3 0 3 true,sI 36 v10.B,sA 35 4 4 2,sI 34 v10.A,sA 33 4 4 0,sA 4 4 4 0,sI 3 y2,sA 1 1 3 0],[(4,(Link.row v10)),(1,(CV.frzRow (Net.row x0)))]⟩ ?_
        rw [h9]
        refine mA qh [(15,[20]),(16,[]),(17,[20]),(18,[]),(19,[20])] 30 [⟨[20],3,51,52⟩,⟨[20],3,49,50⟩,⟨[20],67,1,48⟩,⟨[11,20],3,42,43⟩,⟨[11,20],3,40,41⟩,⟨[11,20],67,1,39⟩,⟨[11,20],3,35,36⟩,⟨[11,20],3,33,34⟩] fun cx => ?_
        refine mC qh 20 ?_
        refine vA [.rd,.rd,.rd] (zBd n x0 v10.B v10.Q r12 er12) ?_
        refine fA ?_
        refine mA qh [(21,[]),(22,[]),(23,[])] 26 [⟨[20],3,51,52⟩,⟨[20],3,49,50⟩,⟨[20],67,1,48⟩,⟨[11,20],3,42,43⟩,⟨[11,20],3,40,41⟩,⟨[11,20],67,1,39⟩,⟨[11,20],3,35,36⟩,⟨[11,20],3,33,34⟩] fun cx => ?_
        refine sA_ 80800489595207706 18 ⟨112,0,[sB 56 (!r12),sI 52 v10.Q,sA 51 4 4 3,sI 50 v10.B,sA 49 4 4 2,sR 48 1 3 0 3 true,sI 43 v10.P,sA 42 4 4 1,sI 41 v10.A,sA 40 4 4 0,sR 39 1 3 0 3 true,sI 36 v10.B,sA 35 4 4 2,sI 34 v10.A,sA 33 4 4 0,sA 4 4 4 0,sI 3 y2,sA 1 1 3 0],[(4,(Link.row v10)),(1,(CV.frzRow (Net.row x0)))]⟩ ?_
        rw [h10]
        refine mA qh [(24,[]),(25,[]),(26,[]),(27,[]),(28,[]),(29,[]),(30,[]),(31,[]),(32,[]),(33,[]),(34,[]),(35,[]),(36,[]),(37,[]),(38,[]),(39,[]),(40,[]),(41,[]),(42,[]),(43,[]),(44,[]),(45,[]),(46,[]),(47,[]),(48,[]),(49,[])] 0 [⟨[20],3,51,52⟩,⟨[20],3,49,50⟩,⟨[20],67,1,48⟩,⟨[11,20],3,42,43⟩,⟨[11,20],3,40,41⟩,⟨[11,20],67,1,39⟩,⟨[11,20],3,35,36⟩,⟨[11,20],3,33,34⟩] fun cx => ?_
        exact mE qh [82,3,1] [1]
       refine tB_ ?_
       refine gA 1 4 0 ?_
       refine te ?_
       obtain rfl := si H
       have H := Ho9
       dsimp only at H
       exact fF H
      have H := zH h9 H
      refine Tr.draws mixed 50 kr ⟨112,0,[sB 82 true,sI 3 y2,sA 1 1 3 0],[(1,(CV.frzRow (Net.row x0)))]⟩ (fun cx => ?_) ?_
      ·refine mA qh [(0,[]),(1,[11]),(2,[]),(3,[11]),(4,[]),(5,[])] 44 [⟨[11],3,35,36⟩,⟨[11],3,33,34⟩] fun cx => ?_
       refine sA_ 403726925850 18 ⟨112,0,[sB 38 (v10.A == v10.B),sI 36 v10.B,sA 35 4 4 2,sI 34 v10.A,sA 33 4 4 0,sA 4 4 4 0,sI 3 y2,sA 1 1 3 0],[(4,(Link.row v10)),(1,(CV.frzRow (Net.row x0)))]⟩ ?_
       rw [h8]
       refine mA qh [(6,[11]),(7,[]),(8,[11]),(9,[]),(10,[11])] 39 [⟨[11],3,42,43⟩,⟨[11],3,40,41⟩,⟨[11],67,1,39⟩,⟨[11],3,35,36⟩,⟨[11],3,33,34⟩] fun cx => ?_
       refine mC qh 11 ?_
       refine vA [.rd,.rd,.rd] (zBd n x0 v10.A v10.P r11 er11) ?_
       refine fA ?_
       refine mA qh [(12,[]),(13,[]),(14,[])] 35 [⟨[11],3,42,43⟩,⟨[11],3,40,41⟩,⟨[11],67,1,39⟩,⟨[11],3,35,36⟩,⟨[11],3,33,34⟩] fun cx => ?_
       refine sA_ 0x8f9e0000001a 18 ⟨112,0,[sB 47 (!r11),sI 43 v10.P,sA 42 4 4 1,sI 41 v10.A,sA 40 4 4 0,sR 39 1 3 0 3 true,sI 36 v10.B,sA 35 4 4 2,sI 34 v10.A,sA 33 4 4 0,sA 4 4 4 0,sI 3 y2,sA 1 1 3 0],[(4,(Link.row v10)),(1,(CV.frzRow (Net.row x0)))]⟩ ?_
       rw [h9]
       refine mA qh [(15,[]),(16,[]),(17,[]),(18,[]),(19,[]),(20,[]),(21,[]),(22,[]),(23,[]),(24,[]),(25,[]),(26,[]),(27,[]),(28,[]),(29,[]),(30,[]),(31,[]),(32,[]),(33,[]),(34,[]),(35,[]),(36,[]),(37,[]),(38,[]),(39,[]),(40,[]),(41,[]),(42,[]),(43,[]),(44,[]),(45,[]),(46,[]),(47,[]),(48,[]),(49,[])] 0 [⟨[11],3,42,43⟩,⟨[11],3,40,41⟩,⟨[11],67,1,39⟩,⟨[11],3,35,36⟩,⟨[11],3,33,34⟩] fun cx => ?_
       exact mE qh [82,3,1] [1]
      refine tB_ ?_
      refine gA 1 4 0 ?_
      refine te ?_
      obtain rfl := si H
      have H := Ho9
      dsimp only at H
      exact fF H
     have H := zH h8 H
     refine Tr.draws mixed 50 kr ⟨112,0,[sB 82 true,sI 3 y2,sA 1 1 3 0],[(1,(CV.frzRow (Net.row x0)))]⟩ (fun cx => ?_) ?_
     ·refine mA qh [(0,[]),(1,[]),(2,[]),(3,[]),(4,[]),(5,[])] 44 [⟨[],3,35,36⟩,⟨[],3,33,34⟩] fun cx => ?_
      refine sA_ 403726925850 18 ⟨112,0,[sB 38 (v10.A == v10.B),sI 36 v10.B,sA 35 4 4 2,sI 34 v10.A,sA 33 4 4 0,sA 4 4 4 0,sI 3 y2,sA 1 1 3 0],[(4,(Link.row v10)),(1,(CV.frzRow (Net.row x0)))]⟩ ?_
      rw [h8]
      refine mA qh [(6,[]),(7,[]),(8,[]),(9,[]),(10,[]),(11,[]),(12,[]),(13,[]),(14,[]),(15,[]),(16,[]),(17,[]),(18,[]),(19,[]),(20,[]),(21,[]),(22,[]),(23,[]),(24,[]),(25,[]),(26,[]),(27,[]),(28,[]),(29,[]),(30,[]),(31,[]),(32,[]),(33,[]),(34,[]),(35,[]),(36,[]),(37,[]),(38,[]),(39,[]),(40,[]),(41,[]),(42,[]),(43,[]),(44,[]),(45,[]),(46,[]),(47,[]),(48,[]),(49,[])] 0 [⟨[],3,35,36⟩,⟨[],3,33,34⟩] fun cx => ?_
      exact mE qh [82,3,1] [1]
     refine tB_ ?_
     refine gA 1 4 0 ?_
     refine te ?_
     obtain rfl := si H
     have H := Ho9
     dsimp only at H
     exact fF H
    rintro _ H
    have H : (Yi n x0) = some r := H
    unfold Yi at H
    refine tS ?_
    refine gA 1 34 2 ?_
    obtain ⟨o4,eo4,Ho4⟩ := bs H
    clear H
    refine Tr.mid (ι := Unit) (fun v => ⟨112,0,[],[]⟩) (fun v => zBx n = some r) ?_ ?_
    ·refine tB ?_
     refine Tr.loop (ι := Nat × (Int)) (fun v => ⟨112,0,[sI 5 v.2,sA 1 1 3 0],[(1,(CV.frzRow (Net.row x0)))]⟩) (fun v => q4 n v.1 x0 v.2 = some o4) (fun v => v.1) (n,0) eo4 (St.sub_of [5,1] [1] kr) ?_
     rintro ⟨mo4,y3⟩ H
     have H : q4 n mo4 x0 y3 = some o4 := H
     obtain _ | mo4 := mo4
     ·exact nN H
     rw [q4] at H
     refine tS ?_
     refine rA 3 ?_
     refine kF x0.Said Say.row ?_
     refine uA 1 0x8000000000000000000022 2 ?_
     obtain ⟨h4,H⟩ | ⟨h4,H⟩ := bC H
     ·refine nA h4 ?_
      refine Tr.exit ?_
      refine aJ ?_
      obtain rfl := si H
      have H := Ho4
      dsimp only at H
      exact jA () H [] []
     refine tA h4 ?_
     refine tK ?_
     refine tS ?_
     refine tB ?_
     obtain ⟨v5,ev5,H⟩ := bs H
     obtain ⟨r6,er6,H⟩ := bs H
     refine sT ⟨112,0,[sB 87 (decide (y3 < (x0.Said.length : Int))),sI 5 y3,sA 1 1 3 0],[(1,(CV.frzRow (Net.row x0)))]⟩ ?_
     cases h5 : (!r6)
     ·have H := zG h5 H
      obtain ⟨v7,ev7,H⟩ := bs H
      obtain ⟨r8,er8,H⟩ := bs H
      refine Tr.draws mixed 22 kr ⟨112,0,[sB 111 (!r8),sI 5 y3,sA 1 1 3 0],[(1,(CV.frzRow (Net.row x0)))]⟩ (fun cx => ?_) ?_
      ·refine mA Zi [(0,[]),(1,[10,19]),(2,[])] 19 [⟨[10,19],65,90,91⟩] fun cx => ?_
       refine iN Zi 3 Say.row ev5 fun cx => ?_
       refine mA Zi [(4,[]),(5,[]),(6,[]),(7,[10,19])] 14 [⟨[10,19],64,96,97⟩,⟨[10,19],65,90,91⟩] fun cx => ?_
       refine kFN Zi 8 x0.Ls Link.row fun cx => ?_
       refine mA Zi [(9,[])] 12 [⟨[10,19],64,96,97⟩,⟨[10,19],65,90,91⟩] fun cx => ?_
       refine mC Zi 10 ?_
       refine vA [.rd,.rd,.rd] (zO n v5.Link 0 (IntKind.wrap .i64 ((x0.Ls.length : Int) - 1)) r6 er6) ?_
       refine fA ?_
       refine mA Zi [(11,[]),(12,[])] 9 [⟨[10,19],64,96,97⟩,⟨[10,19],65,90,91⟩] fun cx => ?_
       refine sA_ 0x430c0000000000000000000022 2 ⟨112,0,[sB 102 (!r6),sR 97 1 3 1 1 false,sA 96 1 3 1,sR 91 1 3 2 1 false,sA 90 1 3 2,sI 5 y3,sA 1 1 3 0],[(1,(CV.frzRow (Net.row x0)))]⟩ ?_
       rw [h5]
       refine mA Zi [(13,[]),(14,[19]),(15,[])] 6 [⟨[19],65,103,104⟩,⟨[10,19],64,96,97⟩,⟨[10,19],65,90,91⟩] fun cx => ?_
       refine iN Zi 16 Say.row ev7 fun cx => ?_
       refine mA Zi [(17,[]),(18,[])] 3 [⟨[19],65,103,104⟩,⟨[10,19],64,96,97⟩,⟨[10,19],65,90,91⟩] fun cx => ?_
       refine mC Zi 19 ?_
       refine vA [.rd] (zCU n v7.V r8 er8) ?_
       refine fA ?_
       refine mA Zi [(20,[]),(21,[])] 0 [⟨[19],65,103,104⟩,⟨[10,19],64,96,97⟩,⟨[10,19],65,90,91⟩] fun cx => ?_
       exact mE Zi [111,5,1] [1]
      refine sT ⟨112,0,[sB 111 (!r8),sI 5 y3,sA 1 1 3 0],[(1,(CV.frzRow (Net.row x0)))]⟩ ?_
      cases h6 : (!r8)
      ·have H := zG h6 H
       refine nB_ ?_
       refine tK ?_
       refine eA 3 34 2 ?_
       exact jB mo4 (IntKind.wrap .i64 (y3 + 1)) H [5,1] [1]
      have H := zH h6 H
      refine tB_ ?_
      refine gA 1 4 0 ?_
      refine te ?_
      obtain rfl := si H
      have H := Ho4
      dsimp only at H
      exact fF H
     have H := zH h5 H
     refine Tr.draws mixed 22 kr ⟨112,0,[sB 111 true,sI 5 y3,sA 1 1 3 0],[(1,(CV.frzRow (Net.row x0)))]⟩ (fun cx => ?_) ?_
     ·refine mA Zi [(0,[]),(1,[10]),(2,[])] 19 [⟨[10],65,90,91⟩] fun cx => ?_
      refine iN Zi 3 Say.row ev5 fun cx => ?_
      refine mA Zi [(4,[]),(5,[]),(6,[]),(7,[10])] 14 [⟨[10],64,96,97⟩,⟨[10],65,90,91⟩] fun cx => ?_
      refine kFN Zi 8 x0.Ls Link.row fun cx => ?_
      refine mA Zi [(9,[])] 12 [⟨[10],64,96,97⟩,⟨[10],65,90,91⟩] fun cx => ?_
      refine mC Zi 10 ?_
      refine vA [.rd,.rd,.rd] (zO n v5.Link 0 (IntKind.wrap .i64 ((x0.Ls.length : Int) - 1)) r6 er6) ?_
      refine fA ?_
      refine mA Zi [(11,[]),(12,[])] 9 [⟨[10],64,96,97⟩,⟨[10],65,90,91⟩] fun cx => ?_
      refine sA_ 0x430c0000000000000000000022 2 ⟨112,0,[sB 102 (!r6),sR 97 1 3 1 1 false,sA 96 1 3 1,sR 91 1 3 2 1 false,sA 90 1 3 2,sI 5 y3,sA 1 1 3 0],[(1,(CV.frzRow (Net.row x0)))]⟩ ?_
      rw [h5]
      refine mA Zi [(13,[]),(14,[]),(15,[]),(16,[]),(17,[]),(18,[]),(19,[]),(20,[]),(21,[])] 0 [⟨[10],64,96,97⟩,⟨[10],65,90,91⟩] fun cx => ?_
      exact mE Zi [111,5,1] [1]
     refine tB_ ?_
     refine gA 1 4 0 ?_
     refine te ?_
     obtain rfl := si H
     have H := Ho4
     dsimp only at H
     exact fF H
    rintro _ H
    have H : (zBx n) = some r := H
    unfold zBx at H
    refine gA 1 4 0 ?_
    exact te (fT H)
   refine tA h3 ?_
   refine gA 1 4 0 ?_
   exact te (fF H)
  have H := zH h2 H
  refine uA 5 1048578 2 ?_
  refine tB_ ?_
  refine gA 1 4 0 ?_
  exact te (fF H)
 have H := zH h1 H
 refine uA 11 1048578 2 ?_
 refine tB_ ?_
 refine gA 1 4 0 ?_
 exact te (fF H)
def YT (n : Nat) (x0 : Int) : Option (Int) :=
  (bif (decide (x0 ≥ 1000000)) then (some x0) else (some (IntKind.wrap .i64 (x0 + 1))))
theorem zHG (n : Nat) (x0 : Int) (r : Int) (H : YT n x0 = some r) : zD Tryz.prog 74 [.val false [.lit (.int .i64 x0)]] [.val false [.lit (.int .i64 r)]] [] := by
 refine cW Tryz.func74 (fun g d => sl [g 0,sl [g 1] (cn 4 (sl [g 2] .ret) .skip),g 3] .ret) [.tmp 2] fun cx => ?_
 unfold YT at H
 refine gA 1 1 0 ?_
 refine tS ?_
 refine gA 2 17 0 ?_
 obtain ⟨h1,H⟩ | ⟨h1,H⟩ := bC H
 ·refine nA h1 ?_
  refine tK ?_
  refine gA 3 4 0 ?_
  exact te (fJ [(false,[cI (IntKind.wrap .i64 (x0 + 1))])] H)
 refine tA h1 ?_
 refine gA 2 4 0 ?_
 exact te (fJ [(false,[cI x0])] H)
def zBK (n : Nat) (y3 : (List zB)) : Option ((List zB)) :=
  (some y3)
def qW (n : Nat) : Nat → (List zB) → Int → (List zB) → Option (((List zB)) ⊕ ((List zB)))
  | 0,_,_,_ => none
  | mo4 + 1,x0,y1,y2 => (bif (decide (y1 < (x0.length : Int))) then ((idx x0 y1).bind fun v5 => (bif v5.Sc then (bif (decide (y2.length + [v5].length ≤ 268435456)) then (qW n mo4 x0 (IntKind.wrap .i64 (y1 + 1)) (y2 ++ [v5])) else none) else (bif (decide (v5.Age < 4)) then (bif (decide (y2.length + [(⟨v5.Tag,v5.Mac,v5.Port,(IntKind.wrap .i64 (v5.Age + 1)),v5.Sc⟩ : zB)].length ≤ 268435456)) then (qW n mo4 x0 (IntKind.wrap .i64 (y1 + 1)) (y2 ++ [(⟨v5.Tag,v5.Mac,v5.Port,(IntKind.wrap .i64 (v5.Age + 1)),false⟩ : zB)])) else none) else (qW n mo4 x0 (IntKind.wrap .i64 (y1 + 1)) y2)))) else (some (Sum.inl y2)))
def YR (n : Nat) (x0 : (List zB)) : Option ((List zB)) :=
  ((qW n n x0 0 ([] : List zB)).bind fun o => match o with | .inl y3 => (zBK n y3) | .inr r => some r)
theorem zLf (n : Nat) (x0 : (List zB)) (r : (List zB)) (H : YR n x0 = some r) : zD Tryz.prog 194 [.val false [.sl false 5 (CV.frzEs (x0.map zB.row))]] [.val false [.sl true 5 (r.map zB.row)]] [] := by
 refine cW Tryz.func194 (fun g d => sl [g 0,g 1,sl [g 2] (.block 0 (.loop (sl [sl [g 3] (cn 10 .skip (.exit 0)),.block 1 (sl [g 5,sl [g 6] (cn 18 (sl [g 7] (.exit 1)) .skip),g 8] (cn 25 (sl [g 9] (g 10)) .skip))] (g 4)))),g 11] .ret) [.tmp 2] fun cx => ?_
 unfold YR at H
 refine gA 1 1 0 ?_
 refine rA 1 ?_
 refine LAt.moveU (T := lk tab) (ty := 36) (x := (.tmp 6)) (d := 3) (g := none) false [cL 5 ([] : List zB) zB.row] kr kr kr kr kr ?_
 refine dA 9 0 ?_
 refine tS ?_
 refine gA 1 25 0 ?_
 obtain ⟨o4,eo4,Ho4⟩ := bs H
 clear H
 refine Tr.mid (ι := (List zB)) (fun v => ⟨35,0,[sC 3 (cL 5 v zB.row)],[]⟩) (fun v => zBK n v = some r) ?_ ?_
 ·refine tB ?_
  refine Tr.loop (ι := Nat × (Int × (List zB))) (fun v => ⟨35,0,[sI 4 v.2.1,sC 3 (cL 5 v.2.2 zB.row),sC 0 (cF 5 x0 zB.row)],[]⟩) (fun v => qW n v.1 x0 v.2.1 v.2.2 = some o4) (fun v => v.1) (n,(0,([] : List zB))) eo4 (St.sub_of [4,3,0] [] kr) ?_
  rintro ⟨mo4,y1,y2⟩ H
  have H : qW n mo4 x0 y1 y2 = some o4 := H
  obtain _ | mo4 := mo4
  ·exact nN H
  rw [qW] at H
  refine tS ?_
  refine rA 2 ?_
  refine kF x0 zB.row ?_
  refine uA 1 1049 0 ?_
  obtain ⟨h1,H⟩ | ⟨h1,H⟩ := bC H
  ·refine nA h1 ?_
   refine Tr.exit ?_
   refine aJ ?_
   obtain rfl := si H
   have H := Ho4
   dsimp only at H
   exact jA y2 H [3] []
  refine tA h1 ?_
  refine tK ?_
  refine tS ?_
  refine tB ?_
  refine rA 2 ?_
  obtain ⟨v5,ev5,H⟩ := bs H
  refine iA zB.row ev5 ?_
  refine uA 3 57 32 ?_
  refine tS ?_
  refine gA 2 262201 32 ?_
  refine sT ⟨35,0,[sB 18 v5.Sc,sA 5 5 5 0,sI 4 y1,sC 3 (cL 5 y2 zB.row),sC 0 (cF 5 x0 zB.row)],[(5,(zB.row v5))]⟩ ?_
  cases h2 : v5.Sc
  ·have H := zG h2 H
   refine nB_ ?_
   refine tK ?_
   refine gA 3 33554489 32 ?_
   obtain ⟨h3,H⟩ | ⟨h3,H⟩ := bC H
   ·refine nA h3 ?_
    refine tK ?_
    refine eA 3 25 0 ?_
    exact jB mo4 ((IntKind.wrap .i64 (y1 + 1)),y2) H [4,3,0] []
   refine tA h3 ?_
   refine gA 5 57 32 ?_
   refine Tr.at ?_
   refine lA 3 ?_
   obtain ⟨hg6,H⟩ := gs H
   refine LAt.appMU tOk (t := 36) (ty := 36) (e := 169) (x := (.tmp 30)) (y := (.tmp 32)) (d := 33) (g := none) (tI 169) zB.row y2 [(⟨v5.Tag,v5.Mac,v5.Port,(IntKind.wrap .i64 (v5.Age + 1)),v5.Sc⟩ : zB)] kr kr kr kr kr kr kr kr kr kr hg6 ?_
   refine LAt.moveU (T := lk tab) (ty := 36) (x := (.tmp 33)) (d := 3) (g := none) false [cL 5 (y2 ++ [(⟨v5.Tag,v5.Mac,v5.Port,(IntKind.wrap .i64 (v5.Age + 1)),v5.Sc⟩ : zB)]) zB.row] kr kr kr kr kr ?_
   refine dA 25 0 ?_
   refine eA 3 25 0 ?_
   refine sC' 25 0 ⟨35,0,[sI 4 (IntKind.wrap .i64 (y1 + 1)),sC 3 (cL 5 (y2 ++ [(⟨v5.Tag,v5.Mac,v5.Port,(IntKind.wrap .i64 (v5.Age + 1)),v5.Sc⟩ : zB)]) zB.row),sC 0 (cF 5 x0 zB.row)],[]⟩ ?_
   rw [h2]
   exact jB mo4 ((IntKind.wrap .i64 (y1 + 1)),(y2 ++ [(⟨v5.Tag,v5.Mac,v5.Port,(IntKind.wrap .i64 (v5.Age + 1)),false⟩ : zB)])) H [4,3,0] []
  have H := zH h2 H
  refine tB_ ?_
  refine rA 3 ?_
  obtain ⟨hg7,H⟩ := gs H
  refine LAt.appMU tOk (t := 36) (ty := 36) (e := 169) (x := (.tmp 19)) (y := (.tmp 21)) (d := 22) (g := none) (tI 169) zB.row y2 [v5] kr kr kr kr kr kr kr kr kr kr hg7 ?_
  refine LAt.moveU (T := lk tab) (ty := 36) (x := (.tmp 22)) (d := 3) (g := none) false [cL 5 (y2 ++ [v5]) zB.row] kr kr kr kr kr ?_
  refine dA 25 0 ?_
  refine Tr.exit ?_
  refine aJ ?_
  refine eA 3 25 0 ?_
  exact jB mo4 ((IntKind.wrap .i64 (y1 + 1)),(y2 ++ [v5])) H [4,3,0] []
 rintro y3 H
 have H : (zBK n y3) = some r := H
 unfold zBK at H
 refine gA 2 12 0 ?_
 exact te (fJ [(false,[cL 5 y3 zB.row])] H)
def QV (n : Nat) (x0 : Vec) (x1 : Int) : Option (Vec × Bool) :=
  ((zq n x0).bind fun r1 => (bif (!r1) then (some (x0,false)) else ((zP n x1 1 1000).bind fun r2 => (bif (!r2) then (some (x0,false)) else ((zq n (⟨x0.Root,(IntKind.wrap .i64 (x0.Co + x1)),(IntKind.wrap .i64 (x0.Hops + 1)),x0.Bridge,x0.Port⟩ : Vec)).bind fun r3 => (bif (!r3) then (some (x0,false)) else (some ((⟨x0.Root,(IntKind.wrap .i64 (x0.Co + x1)),(IntKind.wrap .i64 (x0.Hops + 1)),x0.Bridge,x0.Port⟩ : Vec),true))))))))
theorem zGM (n : Nat) (x0 : Vec) (x1 : Int) (r : Vec × Bool) (H : QV n x0 x1 = some r) : zD Tryz.prog 253 [.val true (CV.frzRow (Vec.row x0)),.val false [.lit (.int .i64 x1)]] [.val true (Vec.row r.1),.val false [.lit (.bool r.2)]] [] := by
 refine cW Tryz.func253 (fun g d => sl [g 0,sl [g 1] (cn 14 (sl [g 2] .ret) .skip),g 3,g 4,g 5,sl [g 6] (cn 28 (sl [g 7] .ret) .skip),g 8] .ret) [.cell 4 165,.tmp 5] fun cx => ?_
 unfold QV at H
 refine gA 3 22 20 ?_
 refine tS ?_
 refine rA 1 ?_
 obtain ⟨r1,er1,H⟩ := bs H
 refine vA [.rd] (zCU n x0 r1 er1) ?_
 refine lA 2 ?_
 refine sL 1046 20 ⟨31,0,[sB 10 (!r1),sA 4 4 5 0,sA 2 2 5 0,sI 1 x1],[(4,[cI 0,cI 0,cI 0,cI 0,cI 0]),(2,(Vec.row x0))]⟩ ?_
 cases h1 : (!r1)
 ·have H := zG h1 H
  refine lA 1 ?_
  obtain ⟨r2,er2,H⟩ := bs H
  refine vA [.rd,.rd,.rd] (zO n x1 1 1000 r2 er2) ?_
  refine uA 2 16406 20 ?_
  obtain ⟨h2,H⟩ | ⟨h2,H⟩ := bC H
  ·refine nA h2 ?_
   refine tK ?_
   refine gA 3 86 84 ?_
   refine gA 6 84 84 ?_
   refine gA 5 84 84 ?_
   refine tS ?_
   refine rA 1 ?_
   obtain ⟨r3,er3,H⟩ := bs H
   refine vA [.rd] (zCU n (⟨x0.Root,(IntKind.wrap .i64 (x0.Co + x1)),(IntKind.wrap .i64 (x0.Hops + 1)),x0.Bridge,x0.Port⟩ : Vec) r3 er3) ?_
   refine uA 1 268435540 84 ?_
   obtain ⟨h3,H⟩ | ⟨h3,H⟩ := bC H
   ·refine nA h3 ?_
    refine tK ?_
    refine gA 3 48 16 ?_
    exact te (fJ [(true,[cI x0.Root,cI (IntKind.wrap .i64 (x0.Co + x1)),cI (IntKind.wrap .i64 (x0.Hops + 1)),cI x0.Bridge,cI x0.Port]),(false,[cB true])] H)
   refine tA h3 ?_
   refine gA 3 48 16 ?_
   exact te (fJ [(true,(Vec.row x0)),(false,[cB false])] H)
  refine tA h2 ?_
  refine gA 3 48 16 ?_
  exact te (fJ [(true,(Vec.row x0)),(false,[cB false])] H)
 have H := zH h1 H
 refine uA 4 16406 20 ?_
 refine tB_ ?_
 refine gA 3 48 16 ?_
 exact te (fJ [(true,(Vec.row x0)),(false,[cB false])] H)
def Qw (n : Nat) (x0 : Vec) (x1 : Vec) : Option (Bool) :=
  (bif (x0.Root != x1.Root) then (some (decide (x0.Root < x1.Root))) else (bif (x0.Co != x1.Co) then (some (decide (x0.Co < x1.Co))) else (bif (x0.Bridge != x1.Bridge) then (some (decide (x0.Bridge < x1.Bridge))) else (some (decide (x0.Port < x1.Port))))))
theorem zGK (n : Nat) (x0 : Vec) (x1 : Vec) (r : Bool) (H : Qw n x0 x1 = some r) : zD Tryz.prog 230 [.val true (CV.frzRow (Vec.row x0)),.val true (CV.frzRow (Vec.row x1))] [.val false [.lit (.bool r)]] [] := by
 refine cW Tryz.func230 (fun g d => sl [g 0,.block 0 (sl [g 1] (cn 5 (sl [g 2] .ret) (sl [g 3] (cn 16 (sl [g 4] .ret) (sl [g 5] (cn 27 (sl [g 6] .ret) .skip)))))),g 7] .ret) [.tmp 4] fun cx => ?_
 unfold Qw at H
 refine gA 3 12 12 ?_
 refine tS ?_
 refine tB ?_
 refine gA 6 44 12 ?_
 obtain ⟨h1,H⟩ | ⟨h1,H⟩ := bC H
 ·refine nA h1 ?_
  refine gA 6 65548 12 ?_
  obtain ⟨h2,H⟩ | ⟨h2,H⟩ := bC H
  ·refine nA h2 ?_
   refine gA 6 134217740 12 ?_
   obtain ⟨h3,H⟩ | ⟨h3,H⟩ := bC H
   ·refine nA h3 ?_
    refine tK ?_
    refine gA 6 16 0 ?_
    exact te (fJ [(false,[cB (decide (x0.Port < x1.Port))])] H)
   refine tA h3 ?_
   refine gA 6 16 0 ?_
   exact te (fJ [(false,[cB (decide (x0.Bridge < x1.Bridge))])] H)
  refine tA h2 ?_
  refine gA 6 16 0 ?_
  exact te (fJ [(false,[cB (decide (x0.Co < x1.Co))])] H)
 refine tA h1 ?_
 refine gA 6 16 0 ?_
 exact te (fJ [(false,[cB (decide (x0.Root < x1.Root))])] H)
def zAe (n : Nat) (x0 : Int) (y11 : Int) (y12 : Int) (y13 : Int) (y14 : Int) : Option (Vec × Int) :=
  (some ((⟨y12,y13,y14,x0,0⟩ : Vec),y11))
def ZS (n : Nat) (k : (Int × Int × Int × Int × Int × Int × Int × Int × Int × Int → Option ((Int × Int × Int × Int) ⊕ (Vec × Int)))) (r20 : Vec × Bool) (y1 : Int) (y10 : Int) (y2 : Int) (y3 : Int) (y4 : Int) (y5 : Int) (y6 : Int) (y7 : Int) (y8 : Int) (y9 : Int) (y21 : Bool) (y22 : Bool) (y23 : Bool) (y24 : Bool) (y25 : Bool) (y26 : Bool) (y27 : Bool) : Option ((Int × Int × Int × Int) ⊕ (Vec × Int)) :=
  (bif y21 then (k ((IntKind.wrap .i64 (y1 + 1)),y1,r20.1.Root,r20.1.Co,r20.1.Hops,r20.1.Bridge,r20.1.Port,r20.1.Root,r20.1.Co,r20.1.Hops)) else (k ((IntKind.wrap .i64 (y1 + 1)),y2,y3,y4,y5,y6,y7,y8,y9,y10)))
def zp (n : Nat) : Nat → Int → (List Pt) → Int → Int → Int → Int → Int → Int → Int → Int → Int → Int → Option ((Int × Int × Int × Int) ⊕ (Vec × Int))
  | 0,_,_,_,_,_,_,_,_,_,_,_,_ => none
  | mo15 + 1,x0,x1,y1,y2,y3,y4,y5,y6,y7,y8,y9,y10 => (bif (decide (y1 < (x1.length : Int))) then ((idx x1 y1).bind fun v16 => (bif (!v16.Up) then (zp n mo15 x0 x1 (IntKind.wrap .i64 (y1 + 1)) y2 y3 y4 y5 y6 y7 y8 y9 y10) else ((idx x1 y1).bind fun v17 => (bif (!v17.Has) then (zp n mo15 x0 x1 (IntKind.wrap .i64 (y1 + 1)) y2 y3 y4 y5 y6 y7 y8 y9 y10) else ((idx x1 y1).bind fun v18 => ((idx x1 y1).bind fun v19 => ((QV n v18.Hd v19.Co).bind fun r20 => (bif r20.2 then (bif (decide (r20.1.Root < x0)) then (bif (decide (y2 < 0)) then (ZS n (fun v => zp n mo15 x0 x1 v.1 v.2.1 v.2.2.1 v.2.2.2.1 v.2.2.2.2.1 v.2.2.2.2.2.1 v.2.2.2.2.2.2.1 v.2.2.2.2.2.2.2.1 v.2.2.2.2.2.2.2.2.1 v.2.2.2.2.2.2.2.2.2) r20 y1 y10 y2 y3 y4 y5 y6 y7 y8 y9 true true true true true true true) else ((Qw n r20.1 (⟨y3,y4,y5,y6,y7⟩ : Vec)).bind fun r28 => (ZS n (fun v => zp n mo15 x0 x1 v.1 v.2.1 v.2.2.1 v.2.2.2.1 v.2.2.2.2.1 v.2.2.2.2.2.1 v.2.2.2.2.2.2.1 v.2.2.2.2.2.2.2.1 v.2.2.2.2.2.2.2.2.1 v.2.2.2.2.2.2.2.2.2) r20 y1 y10 y2 y3 y4 y5 y6 y7 y8 y9 r28 true true true true true true))) else (ZS n (fun v => zp n mo15 x0 x1 v.1 v.2.1 v.2.2.1 v.2.2.2.1 v.2.2.2.2.1 v.2.2.2.2.2.1 v.2.2.2.2.2.2.1 v.2.2.2.2.2.2.2.1 v.2.2.2.2.2.2.2.2.1 v.2.2.2.2.2.2.2.2.2) r20 y1 y10 y2 y3 y4 y5 y6 y7 y8 y9 false false false true true true true)) else (ZS n (fun v => zp n mo15 x0 x1 v.1 v.2.1 v.2.2.1 v.2.2.2.1 v.2.2.2.2.1 v.2.2.2.2.2.1 v.2.2.2.2.2.2.1 v.2.2.2.2.2.2.2.1 v.2.2.2.2.2.2.2.2.1 v.2.2.2.2.2.2.2.2.2) r20 y1 y10 y2 y3 y4 y5 y6 y7 y8 y9 false false false false false false false))))))))) else (some (Sum.inl (y2,y8,y9,y10))))
def Z3 (n : Nat) (x0 : Int) (x1 : (List Pt)) : Option (Vec × Int) :=
  ((zp n n x0 x1 0 (-1) 0 0 0 0 0 x0 0 0).bind fun o => match o with | .inl (y11,y12,y13,y14) => (zAe n x0 y11 y12 y13 y14) | .inr r => some r)
def zOi : Tab := ⟨17,[0,0,3,4,8,0,0,96,128,256,528,1024,2048,2048,0,24575,65535],[0,0,3,4,8,0,0,96,128,256,528,1024,2048,2048,0,20480,8192],[0,0,3,7,15,0,0,96,224,480,1023,2047,4095,4095,0,24575,65535]⟩
theorem QD : zf (rg Tryz.f229 8) zOi = true := kr
theorem zGH (n : Nat) (x0 : Int) (x1 : (List Pt)) (r : Vec × Int) (H : Z3 n x0 x1 = some r) : zD Tryz.prog 229 [.val false [.lit (.int .i64 x0)],.val false [.sl false 8 (CV.frzEs (x1.map Pt.row))]] [.val true (Vec.row r.1),.val false [.lit (.int .i64 r.2)]] [] := by
 refine cW Tryz.func229 (fun g d => sl [g 0,g 1,g 2,g 3,sl [g 4] (.block 0 (.loop (sl [sl [g 5] (cn 19 .skip (.exit 0)),.block 1 (sl [sl [g 7] (cn 35 (.exit 1) .skip),d 8,g 9] (cn 65 (sl [g 10,g 11] (g 12)) .skip))] (g 6)))),g 13] .ret) [.cell 4 165,.tmp 5] fun cx => ?_
 unfold Z3 at H
 refine gA 2 51 16 ?_
 refine gA 5 115 80 ?_
 refine gA 3 243 208 ?_
 refine gA 1 499 208 ?_
 refine tS ?_
 refine gA 1 1011 208 ?_
 obtain ⟨o15,eo15,Ho15⟩ := bs H
 clear H
 refine Tr.mid (ι := Int × Int × Int × Int) (fun v => ⟨78,0,[sI 8 v.1,sA 6 6 5 0,sI 5 0,sA 4 4 5 0],[(6,[cI v.2.1,cI v.2.2.1,cI v.2.2.2,cI x0,cI 0]),(4,[cI 0,cI 0,cI 0,cI 0,cI 0])]⟩) (fun v => zAe n x0 v.1 v.2.1 v.2.2.1 v.2.2.2 = some r) ?_ ?_
 ·refine tB ?_
  refine Tr.loop (ι := Nat × (Int × Int × Int × Int × Int × Int × Int × Int × Int × Int)) (fun v => ⟨78,0,[sI 9 v.2.1,sI 8 v.2.2.1,sA 7 7 5 0,sA 6 6 5 0,sI 5 0,sA 4 4 5 0,sI 0 x0,sC 1 (cF 8 x1 Pt.row)],[(7,[cI v.2.2.2.1,cI v.2.2.2.2.1,cI v.2.2.2.2.2.1,cI v.2.2.2.2.2.2.1,cI v.2.2.2.2.2.2.2.1]),(6,[cI v.2.2.2.2.2.2.2.2.1,cI v.2.2.2.2.2.2.2.2.2.1,cI v.2.2.2.2.2.2.2.2.2.2,cI x0,cI 0]),(4,[cI 0,cI 0,cI 0,cI 0,cI 0])]⟩) (fun v => zp n v.1 x0 x1 v.2.1 v.2.2.1 v.2.2.2.1 v.2.2.2.2.1 v.2.2.2.2.2.1 v.2.2.2.2.2.2.1 v.2.2.2.2.2.2.2.1 v.2.2.2.2.2.2.2.2.1 v.2.2.2.2.2.2.2.2.2.1 v.2.2.2.2.2.2.2.2.2.2 = some o15) (fun v => v.1) (n,(0,(-1),0,0,0,0,0,x0,0,0)) eo15 (St.sub_of [9,8,7,6,5,4,0,1] [7,6,4] kr) ?_
  rintro ⟨mo15,y1,y2,y3,y4,y5,y6,y7,y8,y9,y10⟩ H
  have H : zp n mo15 x0 x1 y1 y2 y3 y4 y5 y6 y7 y8 y9 y10 = some o15 := H
  obtain _ | mo15 := mo15
  ·exact nN H
  rw [zp] at H
  refine tS ?_
  refine rA 2 ?_
  refine kF x1 Pt.row ?_
  refine uA 1 984051 208 ?_
  obtain ⟨h1,H⟩ | ⟨h1,H⟩ := bC H
  ·refine nA h1 ?_
   refine Tr.exit ?_
   refine aJ ?_
   obtain rfl := si H
   have H := Ho15
   dsimp only at H
   exact jA (y2,y8,y9,y10) H [8,6,5,4] [6,4]
  refine tA h1 ?_
  refine tK ?_
  refine tS ?_
  refine tB ?_
  refine tS ?_
  refine rA 2 ?_
  obtain ⟨v16,ev16,H⟩ := bs H
  refine iA Pt.row ev16 ?_
  refine lA 4 ?_
  refine sL 533660659 208 ⟨78,0,[sB 28 (!v16.Up),sB 27 (!v16.Up),sB 26 v16.Up,(25,.fad ((Pt.row v16))),(24,.fad ((Pt.row v16))),sI 23 y1,sC 22 (cF 8 x1 Pt.row),sB 19 (decide (y1 < (x1.length : Int))),sI 18 (x1.length : Int),sC 17 (cF 8 x1 Pt.row),sI 16 y1,sI 9 y1,sI 8 y2,sA 7 7 5 0,sA 6 6 5 0,sI 5 0,sA 4 4 5 0,sI 0 x0,sC 1 (cF 8 x1 Pt.row)],[(7,[cI y3,cI y4,cI y5,cI y6,cI y7]),(6,[cI y8,cI y9,cI y10,cI x0,cI 0]),(4,[cI 0,cI 0,cI 0,cI 0,cI 0])]⟩ ?_
  cases h2 : (!v16.Up)
  ·have H := zG h2 H
   refine lA 2 ?_
   obtain ⟨v17,ev17,H⟩ := bs H
   refine iA Pt.row ev17 ?_
   refine uA 4 68716266483 208 ?_
   obtain ⟨h3,H⟩ | ⟨h3,H⟩ := bC H
   ·refine nA h3 ?_
    refine tK ?_
    obtain ⟨v18,ev18,H⟩ := bs H
    obtain ⟨v19,ev19,H⟩ := bs H
    obtain ⟨r20,er20,H⟩ := bs H
    refine Tr.draws mixed 17 kr ⟨78,0,[sB 11 r20.2,sA 10 10 5 0,sB 49 r20.2,(36,.tup [(true,[.dead,.dead,.dead,.dead,.dead]),(false,[.dead])]),sV 48 (Vec.row r20.1),sI 46 v19.Co,(45,.fad (((Pt.row v19).drop 1))),(44,.fad ((Pt.row v19))),sI 43 y1,sC 42 (cF 8 x1 Pt.row),sV 41 ((Pt.row v18).drop 3),(40,.fad (((Pt.row v18).drop 3))),(39,.fad ((Pt.row v18))),sI 38 y1,sC 37 (cF 8 x1 Pt.row),sB 35 (!v17.Has),sB 34 (!v17.Has),sB 33 v17.Has,(32,.fad (((Pt.row v17).drop 2))),(31,.fad ((Pt.row v17))),sI 30 y1,sC 29 (cF 8 x1 Pt.row),sB 28 false,sB 27 false,sB 26 v16.Up,(25,.fad ((Pt.row v16))),(24,.fad ((Pt.row v16))),sI 23 y1,sC 22 (cF 8 x1 Pt.row),sB 19 (decide (y1 < (x1.length : Int))),sI 18 (x1.length : Int),sC 17 (cF 8 x1 Pt.row),sI 16 y1,sI 9 y1,sI 8 y2,sA 7 7 5 0,sA 6 6 5 0,sI 5 0,sA 4 4 5 0,sI 0 x0,sC 1 (cF 8 x1 Pt.row)],[(10,(Vec.row r20.1)),(7,[cI y3,cI y4,cI y5,cI y6,cI y7]),(6,[cI y8,cI y9,cI y10,cI x0,cI 0]),(4,[cI 0,cI 0,cI 0,cI 0,cI 0])]⟩ (fun cx => ?_) ?_
    ·refine mA QD [(0,[]),(1,[])] 15 [] fun cx => ?_
     refine iN QD 2 Pt.row ev18 fun cx => ?_
     refine mA QD [(3,[]),(4,[]),(5,[]),(6,[])] 10 [] fun cx => ?_
     refine iN QD 7 Pt.row ev19 fun cx => ?_
     refine mA QD [(8,[]),(9,[])] 7 [] fun cx => ?_
     refine mB2 tOk QD 10 14 kr (And.intro kr ?_) (And.intro kr ?_)
     ·refine vA [.rd,.rd] (zGM n v18.Hd v19.Co r20 er20) ?_
      refine fA ?_
      refine AT.movT tOk 11 (ty := 255) (t := 47) (d := 36) (g := none) [(true,(Vec.row r20.1)),(false,[cB r20.2])] _ kr (oM QD kr) (dM QD kr) (.inl rfl) kr kr kr kr rfl (fun cx => ?_)
      refine mA QD [(12,[]),(13,[])] 3 [] fun cx => ?_
      refine mC QD 14 ?_
      refine lA 1 ?_
      refine fA ?_
      refine mC QD 15 ?_
      refine lA 1 ?_
      refine fA ?_
      refine mA QD [(16,[])] 0 [] fun cx => ?_
      exact mE QD [11,10,49,36,48,46,45,44,43,42,41,40,39,38,37,35,34,33,32,31,30,29,28,27,26,25,24,23,22,19,18,17,16,9,8,7,6,5,4,0,1] [10,7,6,4]
     ·refine lA 1 ?_
      refine fA ?_
      refine mC QD 10 ?_
      refine vA [.rd,.rd] (zGM n v18.Hd v19.Co r20 er20) ?_
      refine fA ?_
      refine AT.movT tOk 11 (ty := 255) (t := 47) (d := 36) (g := none) [(true,(Vec.row r20.1)),(false,[cB r20.2])] _ kr (oM QD kr) (dM QD kr) (.inl rfl) kr kr kr kr rfl (fun cx => ?_)
      refine mA QD [(12,[]),(13,[])] 2 [] fun cx => ?_
      refine mC QD 15 ?_
      refine lA 1 ?_
      refine fA ?_
      refine mA QD [(16,[])] 0 [] fun cx => ?_
      exact mE QD [11,10,49,36,48,46,45,44,43,42,41,40,39,38,37,35,34,33,32,31,30,29,28,27,26,25,24,23,22,19,18,17,16,9,8,7,6,5,4,0,1] [10,7,6,4]
    refine tS ?_
    refine Tr.mid (ι := Bool × Bool × Bool × Bool × Bool × Bool × Bool) (fun v => ⟨78,0,[sB 65 v.1,sB 57 v.2.1,sB 56 v.2.2.1,sB 51 v.2.2.2.1,sB 50 v.2.2.2.2.1,sB 11 v.2.2.2.2.2.1,sA 10 10 5 0,sB 49 v.2.2.2.2.2.2,(36,.tup [(true,[.dead,.dead,.dead,.dead,.dead]),(false,[.dead])]),sV 48 (Vec.row r20.1),sI 46 v19.Co,(45,.fad (((Pt.row v19).drop 1))),(44,.fad ((Pt.row v19))),sI 43 y1,sC 42 (cF 8 x1 Pt.row),sV 41 ((Pt.row v18).drop 3),(40,.fad (((Pt.row v18).drop 3))),(39,.fad ((Pt.row v18))),sI 38 y1,sC 37 (cF 8 x1 Pt.row),sB 35 false,sB 34 false,sB 33 v17.Has,(32,.fad (((Pt.row v17).drop 2))),(31,.fad ((Pt.row v17))),sI 30 y1,sC 29 (cF 8 x1 Pt.row),sB 28 false,sB 27 false,sB 26 v16.Up,(25,.fad ((Pt.row v16))),(24,.fad ((Pt.row v16))),sI 23 y1,sC 22 (cF 8 x1 Pt.row),sB 19 true,sI 18 (x1.length : Int),sC 17 (cF 8 x1 Pt.row),sI 16 y1,sI 9 y1,sI 8 y2,sA 7 7 5 0,sA 6 6 5 0,sI 5 0,sA 4 4 5 0,sI 0 x0,sC 1 (cF 8 x1 Pt.row)],[(10,(Vec.row r20.1)),(7,[cI y3,cI y4,cI y5,cI y6,cI y7]),(6,[cI y8,cI y9,cI y10,cI x0,cI 0]),(4,[cI 0,cI 0,cI 0,cI 0,cI 0])]⟩) (fun v => ZS n (fun v => zp n mo15 x0 x1 v.1 v.2.1 v.2.2.1 v.2.2.2.1 v.2.2.2.2.1 v.2.2.2.2.2.1 v.2.2.2.2.2.2.1 v.2.2.2.2.2.2.2.1 v.2.2.2.2.2.2.2.2.1 v.2.2.2.2.2.2.2.2.2) r20 y1 y10 y2 y3 y4 y5 y6 y7 y8 y9 v.1 v.2.1 v.2.2.1 v.2.2.2.1 v.2.2.2.2.1 v.2.2.2.2.2.1 v.2.2.2.2.2.2 = some o15) ?_ ?_
    ·refine Tr.at ?_
     refine lA 2 ?_
     refine sL 0xf7fffffcf0ff3 1232 ⟨78,0,[sB 51 r20.2,sB 50 r20.2,sB 11 r20.2,sA 10 10 5 0,sB 49 r20.2,(36,.tup [(true,[.dead,.dead,.dead,.dead,.dead]),(false,[.dead])]),sV 48 (Vec.row r20.1),sI 46 v19.Co,(45,.fad (((Pt.row v19).drop 1))),(44,.fad ((Pt.row v19))),sI 43 y1,sC 42 (cF 8 x1 Pt.row),sV 41 ((Pt.row v18).drop 3),(40,.fad (((Pt.row v18).drop 3))),(39,.fad ((Pt.row v18))),sI 38 y1,sC 37 (cF 8 x1 Pt.row),sB 35 (!v17.Has),sB 34 (!v17.Has),sB 33 v17.Has,(32,.fad (((Pt.row v17).drop 2))),(31,.fad ((Pt.row v17))),sI 30 y1,sC 29 (cF 8 x1 Pt.row),sB 28 false,sB 27 false,sB 26 v16.Up,(25,.fad ((Pt.row v16))),(24,.fad ((Pt.row v16))),sI 23 y1,sC 22 (cF 8 x1 Pt.row),sB 19 (decide (y1 < (x1.length : Int))),sI 18 (x1.length : Int),sC 17 (cF 8 x1 Pt.row),sI 16 y1,sI 9 y1,sI 8 y2,sA 7 7 5 0,sA 6 6 5 0,sI 5 0,sA 4 4 5 0,sI 0 x0,sC 1 (cF 8 x1 Pt.row)],[(10,(Vec.row r20.1)),(7,[cI y3,cI y4,cI y5,cI y6,cI y7]),(6,[cI y8,cI y9,cI y10,cI x0,cI 0]),(4,[cI 0,cI 0,cI 0,cI 0,cI 0])]⟩ ?_
     cases h5 : r20.2
     ·have H := zG h5 H
      refine uA 14 0x3ffff7fffffcf0ff3 1232 ?_
      refine sB' 0x3ffff7fffffcf0ff3 1232 ⟨78,0,[sB 65 false,(64,.tup []),(63,.tup []),(62,.tup []),(61,.tup []),(60,.tup []),(59,.tup []),(58,.tup []),sB 57 false,sB 56 false,(55,.tup []),(54,.tup []),(53,.tup []),(52,.tup []),sB 51 false,sB 50 false,sB 11 false,sA 10 10 5 0,sB 49 false,(36,.tup [(true,[.dead,.dead,.dead,.dead,.dead]),(false,[.dead])]),sV 48 (Vec.row r20.1),sI 46 v19.Co,(45,.fad (((Pt.row v19).drop 1))),(44,.fad ((Pt.row v19))),sI 43 y1,sC 42 (cF 8 x1 Pt.row),sV 41 ((Pt.row v18).drop 3),(40,.fad (((Pt.row v18).drop 3))),(39,.fad ((Pt.row v18))),sI 38 y1,sC 37 (cF 8 x1 Pt.row),sB 35 (!v17.Has),sB 34 (!v17.Has),sB 33 v17.Has,(32,.fad (((Pt.row v17).drop 2))),(31,.fad ((Pt.row v17))),sI 30 y1,sC 29 (cF 8 x1 Pt.row),sB 28 false,sB 27 false,sB 26 v16.Up,(25,.fad ((Pt.row v16))),(24,.fad ((Pt.row v16))),sI 23 y1,sC 22 (cF 8 x1 Pt.row),sB 19 (decide (y1 < (x1.length : Int))),sI 18 (x1.length : Int),sC 17 (cF 8 x1 Pt.row),sI 16 y1,sI 9 y1,sI 8 y2,sA 7 7 5 0,sA 6 6 5 0,sI 5 0,sA 4 4 5 0,sI 0 x0,sC 1 (cF 8 x1 Pt.row)],[(10,(Vec.row r20.1)),(7,[cI y3,cI y4,cI y5,cI y6,cI y7]),(6,[cI y8,cI y9,cI y10,cI x0,cI 0]),(4,[cI 0,cI 0,cI 0,cI 0,cI 0])]⟩ ?_
      rw [h1]
      rw [h3]
      exact jA (false,false,false,false,false,false,false) H [65,57,56,51,50,11,10,49,36,48,46,45,44,43,42,41,40,39,38,37,35,34,33,32,31,30,29,28,27,26,25,24,23,22,19,18,17,16,9,8,7,6,5,4,0,1] [10,7,6,4]
     have H := zH h5 H
     refine lA 6 ?_
     refine sL 0x3ff7fffffcf0ff3 1232 ⟨78,0,[sB 57 (decide (r20.1.Root < x0)),sB 56 (decide (r20.1.Root < x0)),sB 55 (decide (r20.1.Root < x0)),sI 54 x0,sI 53 r20.1.Root,sA 52 10 5 0,sB 51 true,sB 50 true,sB 11 true,sA 10 10 5 0,sB 49 true,(36,.tup [(true,[.dead,.dead,.dead,.dead,.dead]),(false,[.dead])]),sV 48 (Vec.row r20.1),sI 46 v19.Co,(45,.fad (((Pt.row v19).drop 1))),(44,.fad ((Pt.row v19))),sI 43 y1,sC 42 (cF 8 x1 Pt.row),sV 41 ((Pt.row v18).drop 3),(40,.fad (((Pt.row v18).drop 3))),(39,.fad ((Pt.row v18))),sI 38 y1,sC 37 (cF 8 x1 Pt.row),sB 35 (!v17.Has),sB 34 (!v17.Has),sB 33 v17.Has,(32,.fad (((Pt.row v17).drop 2))),(31,.fad ((Pt.row v17))),sI 30 y1,sC 29 (cF 8 x1 Pt.row),sB 28 false,sB 27 false,sB 26 v16.Up,(25,.fad ((Pt.row v16))),(24,.fad ((Pt.row v16))),sI 23 y1,sC 22 (cF 8 x1 Pt.row),sB 19 (decide (y1 < (x1.length : Int))),sI 18 (x1.length : Int),sC 17 (cF 8 x1 Pt.row),sI 16 y1,sI 9 y1,sI 8 y2,sA 7 7 5 0,sA 6 6 5 0,sI 5 0,sA 4 4 5 0,sI 0 x0,sC 1 (cF 8 x1 Pt.row)],[(10,(Vec.row r20.1)),(7,[cI y3,cI y4,cI y5,cI y6,cI y7]),(6,[cI y8,cI y9,cI y10,cI x0,cI 0]),(4,[cI 0,cI 0,cI 0,cI 0,cI 0])]⟩ ?_
     cases h6 : (decide (r20.1.Root < x0))
     ·have H := zG h6 H
      refine uA 8 0x3ffff7fffffcf0ff3 1232 ?_
      refine sB' 0x3ffff7fffffcf0ff3 1232 ⟨78,0,[sB 65 false,(64,.tup []),(63,.tup []),(62,.tup []),(61,.tup []),(60,.tup []),(59,.tup []),(58,.tup []),sB 57 false,sB 56 false,sB 55 false,sI 54 x0,sI 53 r20.1.Root,sA 52 10 5 0,sB 51 true,sB 50 true,sB 11 true,sA 10 10 5 0,sB 49 true,(36,.tup [(true,[.dead,.dead,.dead,.dead,.dead]),(false,[.dead])]),sV 48 (Vec.row r20.1),sI 46 v19.Co,(45,.fad (((Pt.row v19).drop 1))),(44,.fad ((Pt.row v19))),sI 43 y1,sC 42 (cF 8 x1 Pt.row),sV 41 ((Pt.row v18).drop 3),(40,.fad (((Pt.row v18).drop 3))),(39,.fad ((Pt.row v18))),sI 38 y1,sC 37 (cF 8 x1 Pt.row),sB 35 (!v17.Has),sB 34 (!v17.Has),sB 33 v17.Has,(32,.fad (((Pt.row v17).drop 2))),(31,.fad ((Pt.row v17))),sI 30 y1,sC 29 (cF 8 x1 Pt.row),sB 28 false,sB 27 false,sB 26 v16.Up,(25,.fad ((Pt.row v16))),(24,.fad ((Pt.row v16))),sI 23 y1,sC 22 (cF 8 x1 Pt.row),sB 19 (decide (y1 < (x1.length : Int))),sI 18 (x1.length : Int),sC 17 (cF 8 x1 Pt.row),sI 16 y1,sI 9 y1,sI 8 y2,sA 7 7 5 0,sA 6 6 5 0,sI 5 0,sA 4 4 5 0,sI 0 x0,sC 1 (cF 8 x1 Pt.row)],[(10,(Vec.row r20.1)),(7,[cI y3,cI y4,cI y5,cI y6,cI y7]),(6,[cI y8,cI y9,cI y10,cI x0,cI 0]),(4,[cI 0,cI 0,cI 0,cI 0,cI 0])]⟩ ?_
      rw [h1]
      rw [h3]
      exact jA (false,false,false,true,true,true,true) H [65,57,56,51,50,11,10,49,36,48,46,45,44,43,42,41,40,39,38,37,35,34,33,32,31,30,29,28,27,26,25,24,23,22,19,18,17,16,9,8,7,6,5,4,0,1] [10,7,6,4]
     have H := zH h6 H
     refine lA 3 ?_
     refine sL 0x1fff7fffffcf0ff3 1232 ⟨78,0,[sB 60 (decide (y2 < 0)),sB 59 (decide (y2 < 0)),sI 58 y2,sB 57 true,sB 56 true,sB 55 true,sI 54 x0,sI 53 r20.1.Root,sA 52 10 5 0,sB 51 true,sB 50 true,sB 11 true,sA 10 10 5 0,sB 49 true,(36,.tup [(true,[.dead,.dead,.dead,.dead,.dead]),(false,[.dead])]),sV 48 (Vec.row r20.1),sI 46 v19.Co,(45,.fad (((Pt.row v19).drop 1))),(44,.fad ((Pt.row v19))),sI 43 y1,sC 42 (cF 8 x1 Pt.row),sV 41 ((Pt.row v18).drop 3),(40,.fad (((Pt.row v18).drop 3))),(39,.fad ((Pt.row v18))),sI 38 y1,sC 37 (cF 8 x1 Pt.row),sB 35 (!v17.Has),sB 34 (!v17.Has),sB 33 v17.Has,(32,.fad (((Pt.row v17).drop 2))),(31,.fad ((Pt.row v17))),sI 30 y1,sC 29 (cF 8 x1 Pt.row),sB 28 false,sB 27 false,sB 26 v16.Up,(25,.fad ((Pt.row v16))),(24,.fad ((Pt.row v16))),sI 23 y1,sC 22 (cF 8 x1 Pt.row),sB 19 (decide (y1 < (x1.length : Int))),sI 18 (x1.length : Int),sC 17 (cF 8 x1 Pt.row),sI 16 y1,sI 9 y1,sI 8 y2,sA 7 7 5 0,sA 6 6 5 0,sI 5 0,sA 4 4 5 0,sI 0 x0,sC 1 (cF 8 x1 Pt.row)],[(10,(Vec.row r20.1)),(7,[cI y3,cI y4,cI y5,cI y6,cI y7]),(6,[cI y8,cI y9,cI y10,cI x0,cI 0]),(4,[cI 0,cI 0,cI 0,cI 0,cI 0])]⟩ ?_
     cases h7 : (decide (y2 < 0))
     ·have H := zG h7 H
      refine lA 2 ?_
      obtain ⟨r28,er28,H⟩ := bs H
      refine vA [.rd,.rd] (zGK n r20.1 (⟨y3,y4,y5,y6,y7⟩ : Vec) r28 er28) ?_
      refine uA 2 0x3ffff7fffffcf0ff3 1232 ?_
      refine sB' 0x3ffff7fffffcf0ff3 1232 ⟨78,0,[sB 65 r28,sB 64 r28,sB 63 r28,sV 62 [cI y3,cI y4,cI y5,cI y6,cI y7],sV 61 (Vec.row r20.1),sB 60 false,sB 59 false,sI 58 y2,sB 57 true,sB 56 true,sB 55 true,sI 54 x0,sI 53 r20.1.Root,sA 52 10 5 0,sB 51 true,sB 50 true,sB 11 true,sA 10 10 5 0,sB 49 true,(36,.tup [(true,[.dead,.dead,.dead,.dead,.dead]),(false,[.dead])]),sV 48 (Vec.row r20.1),sI 46 v19.Co,(45,.fad (((Pt.row v19).drop 1))),(44,.fad ((Pt.row v19))),sI 43 y1,sC 42 (cF 8 x1 Pt.row),sV 41 ((Pt.row v18).drop 3),(40,.fad (((Pt.row v18).drop 3))),(39,.fad ((Pt.row v18))),sI 38 y1,sC 37 (cF 8 x1 Pt.row),sB 35 (!v17.Has),sB 34 (!v17.Has),sB 33 v17.Has,(32,.fad (((Pt.row v17).drop 2))),(31,.fad ((Pt.row v17))),sI 30 y1,sC 29 (cF 8 x1 Pt.row),sB 28 false,sB 27 false,sB 26 v16.Up,(25,.fad ((Pt.row v16))),(24,.fad ((Pt.row v16))),sI 23 y1,sC 22 (cF 8 x1 Pt.row),sB 19 (decide (y1 < (x1.length : Int))),sI 18 (x1.length : Int),sC 17 (cF 8 x1 Pt.row),sI 16 y1,sI 9 y1,sI 8 y2,sA 7 7 5 0,sA 6 6 5 0,sI 5 0,sA 4 4 5 0,sI 0 x0,sC 1 (cF 8 x1 Pt.row)],[(10,(Vec.row r20.1)),(7,[cI y3,cI y4,cI y5,cI y6,cI y7]),(6,[cI y8,cI y9,cI y10,cI x0,cI 0]),(4,[cI 0,cI 0,cI 0,cI 0,cI 0])]⟩ ?_
      rw [h1]
      rw [h3]
      exact jA (r28,true,true,true,true,true,true) H [65,57,56,51,50,11,10,49,36,48,46,45,44,43,42,41,40,39,38,37,35,34,33,32,31,30,29,28,27,26,25,24,23,22,19,18,17,16,9,8,7,6,5,4,0,1] [10,7,6,4]
     have H := zH h7 H
     refine uA 5 0x3ffff7fffffcf0ff3 1232 ?_
     refine sB' 0x3ffff7fffffcf0ff3 1232 ⟨78,0,[sB 65 true,sB 64 true,(63,.tup []),(62,.tup []),(61,.tup []),sB 60 true,sB 59 true,sI 58 y2,sB 57 true,sB 56 true,sB 55 true,sI 54 x0,sI 53 r20.1.Root,sA 52 10 5 0,sB 51 true,sB 50 true,sB 11 true,sA 10 10 5 0,sB 49 true,(36,.tup [(true,[.dead,.dead,.dead,.dead,.dead]),(false,[.dead])]),sV 48 (Vec.row r20.1),sI 46 v19.Co,(45,.fad (((Pt.row v19).drop 1))),(44,.fad ((Pt.row v19))),sI 43 y1,sC 42 (cF 8 x1 Pt.row),sV 41 ((Pt.row v18).drop 3),(40,.fad (((Pt.row v18).drop 3))),(39,.fad ((Pt.row v18))),sI 38 y1,sC 37 (cF 8 x1 Pt.row),sB 35 (!v17.Has),sB 34 (!v17.Has),sB 33 v17.Has,(32,.fad (((Pt.row v17).drop 2))),(31,.fad ((Pt.row v17))),sI 30 y1,sC 29 (cF 8 x1 Pt.row),sB 28 false,sB 27 false,sB 26 v16.Up,(25,.fad ((Pt.row v16))),(24,.fad ((Pt.row v16))),sI 23 y1,sC 22 (cF 8 x1 Pt.row),sB 19 (decide (y1 < (x1.length : Int))),sI 18 (x1.length : Int),sC 17 (cF 8 x1 Pt.row),sI 16 y1,sI 9 y1,sI 8 y2,sA 7 7 5 0,sA 6 6 5 0,sI 5 0,sA 4 4 5 0,sI 0 x0,sC 1 (cF 8 x1 Pt.row)],[(10,(Vec.row r20.1)),(7,[cI y3,cI y4,cI y5,cI y6,cI y7]),(6,[cI y8,cI y9,cI y10,cI x0,cI 0]),(4,[cI 0,cI 0,cI 0,cI 0,cI 0])]⟩ ?_
     rw [h1]
     rw [h3]
     exact jA (true,true,true,true,true,true,true) H [65,57,56,51,50,11,10,49,36,48,46,45,44,43,42,41,40,39,38,37,35,34,33,32,31,30,29,28,27,26,25,24,23,22,19,18,17,16,9,8,7,6,5,4,0,1] [10,7,6,4]
    rintro ⟨y21,y22,y23,y24,y25,y26,y27⟩ H
    have H : (ZS n (fun v => zp n mo15 x0 x1 v.1 v.2.1 v.2.2.1 v.2.2.2.1 v.2.2.2.2.1 v.2.2.2.2.2.1 v.2.2.2.2.2.2.1 v.2.2.2.2.2.2.2.1 v.2.2.2.2.2.2.2.2.1 v.2.2.2.2.2.2.2.2.2) r20 y1 y10 y2 y3 y4 y5 y6 y7 y8 y9 y21 y22 y23 y24 y25 y26 y27) = some o15 := H
    unfold ZS at H
    cases h4 : y21
    ·have H := zG h4 H
     refine nB_ ?_
     refine tK ?_
     refine eA 3 0x2030f7fffffff0ff3 1232 ?_
     exact jB mo15 ((IntKind.wrap .i64 (y1 + 1)),y2,y3,y4,y5,y6,y7,y8,y9,y10) H [9,8,7,6,5,4,0,1] [7,6,4]
    have H := zH h4 H
    refine tB_ ?_
    refine gA 2 0x6030f7fffffcf0ff3 1232 ?_
    refine gA 2 0xe030f7fffffcf0ff3 1232 ?_
    refine eA 9 0xffe030f7fffffcf0ff3 1232 ?_
    refine eA 3 0xffe030f7fffffff0ff3 1232 ?_
    exact jB mo15 ((IntKind.wrap .i64 (y1 + 1)),y1,r20.1.Root,r20.1.Co,r20.1.Hops,r20.1.Bridge,r20.1.Port,r20.1.Root,r20.1.Co,r20.1.Hops) H [9,8,7,6,5,4,0,1] [7,6,4]
   refine tA h3 ?_
   refine Tr.exit ?_
   refine aJ ?_
   refine eA 3 68719412211 208 ?_
   exact jB mo15 ((IntKind.wrap .i64 (y1 + 1)),y2,y3,y4,y5,y6,y7,y8,y9,y10) H [9,8,7,6,5,4,0,1] [7,6,4]
  have H := zH h2 H
  refine uA 7 68716266483 208 ?_
  refine tB_ ?_
  refine Tr.exit ?_
  refine aJ ?_
  refine eA 3 68719412211 208 ?_
  exact jB mo15 ((IntKind.wrap .i64 (y1 + 1)),y2,y3,y4,y5,y6,y7,y8,y9,y10) H [9,8,7,6,5,4,0,1] [7,6,4]
 rintro ⟨y11,y12,y13,y14⟩ H
 have H : (zAe n x0 y11 y12 y13 y14) = some r := H
 unfold zAe at H
 refine gA 4 48 16 ?_
 exact te (fJ [(true,[cI y12,cI y13,cI y14,cI x0,cI 0]),(false,[cI y11])] H)
def qI (n : Nat) (x0 : Int) (x1 : (List Pt)) (x2 : Int) : Option (Vec) :=
  ((Z3 n x0 x1).bind fun r1 => (some (⟨r1.1.Root,r1.1.Co,r1.1.Hops,r1.1.Bridge,x2⟩ : Vec)))
theorem zEj (n : Nat) (x0 : Int) (x1 : (List Pt)) (x2 : Int) (r : Vec) (H : qI n x0 x1 x2 = some r) : zD Tryz.prog 231 [.val false [.lit (.int .i64 x0)],.val false [.sl false 8 (CV.frzEs (x1.map Pt.row))],.val false [.lit (.int .i64 x2)]] [.val true (Vec.row r)] [] := by
 refine cW Tryz.func231 (fun g d => sl [g 0,g 1,g 2,g 3] .ret) [.cell 6 165] fun cx => ?_
 unfold qI at H
 refine gA 1 71 64 ?_
 refine rA 2 ?_
 obtain ⟨r1,er1,H⟩ := bs H
 refine vA [.rd,.rd] (zGH n x0 x1 r1 er1) ?_
 refine LAt.movT tOk (ty := 233) (t := 12) (d := 9) (g := none) [(true,(Vec.row r1.1)),(false,[cI r1.2])] _ kr (.inl rfl) kr kr kr kr rfl ?_
 refine uA 5 196 192 ?_
 refine gA 3 192 192 ?_
 refine gA 2 64 64 ?_
 exact te (fJ [(true,[cI r1.1.Root,cI r1.1.Co,cI r1.1.Hops,cI r1.1.Bridge,cI x2])] H)
def YS (n : Nat) (x0 : Int) (x1 : (List Pt)) (x2 : Int) : Option (Int) :=
  ((zP n x2 0 (IntKind.wrap .i64 ((x1.length : Int) - 1))).bind fun r1 => (bif (!r1) then (some 4) else ((idx x1 x2).bind fun v2 => (bif (!v2.Up) then (some 4) else ((Z3 n x0 x1).bind fun r3 => (bif (r3.2 == x2) then (some 1) else ((idx x1 x2).bind fun v4 => (bif (!v4.Has) then (some 2) else ((qI n x0 x1 x2).bind fun r5 => ((idx x1 x2).bind fun v6 => ((Qw n r5 v6.Hd).bind fun r7 => (bif r7 then (some 2) else (some 3)))))))))))))
def zOZ : Tab := ⟨19,[0,0,3,4,8,16,32,64,64,64,960,64,64,6208,8256,16448,33856,65600,196608],[0,0,3,4,8,16,32,64,64,64,960,64,64,6208,8256,16448,33856,65600,131072],[0,0,3,7,15,31,63,127,127,127,1023,127,127,6271,14463,30847,65535,131071,262143]⟩
theorem YK : zf (rg Tryz.f169 6) zOZ = true := kr
theorem zLg (n : Nat) (x0 : Int) (x1 : (List Pt)) (x2 : Int) (r : Int) (H : YS n x0 x1 x2 = some r) : zD Tryz.prog 169 [.val false [.lit (.int .i64 x0)],.val false [.sl false 8 (CV.frzEs (x1.map Pt.row))],.val false [.lit (.int .i64 x2)]] [.val false [.lit (.int .i64 r)]] [] := by
 refine cW Tryz.func169 (fun g d => sl [g 0,sl [g 1] (cn 22 (sl [g 2] .ret) .skip),g 3,.block 0 (sl [g 4] (cn 29 (sl [g 5] .ret) (sl [d 6] (cn 33 (sl [g 7] .ret) .skip)))),g 8] .ret) [.tmp 6] fun cx => ?_
 unfold YS at H
 refine gA 1 7 0 ?_
 refine tS ?_
 refine rA 2 ?_
 refine kF x1 Pt.row ?_
 refine lA 1 ?_
 obtain ⟨r1,er1,H⟩ := bs H
 refine vA [.rd,.rd,.rd] (zO n x2 0 (IntKind.wrap .i64 ((x1.length : Int) - 1)) r1 er1) ?_
 refine lA 2 ?_
 refine sL 32775 0 ⟨52,0,[sB 15 (!r1),sI 0 x0,sC 1 (cF 8 x1 Pt.row),sI 2 x2],[]⟩ ?_
 cases h1 : (!r1)
 ·have H := zG h1 H
  refine lA 2 ?_
  obtain ⟨v2,ev2,H⟩ := bs H
  refine iA Pt.row ev2 ?_
  refine uA 4 4194311 0 ?_
  obtain ⟨h2,H⟩ | ⟨h2,H⟩ := bC H
  ·refine nA h2 ?_
   refine tK ?_
   refine rA 2 ?_
   obtain ⟨r3,er3,H⟩ := bs H
   refine vA [.rd,.rd] (zGH n x0 x1 r3 er3) ?_
   refine LAt.movT tOk (ty := 233) (t := 26) (d := 23) (g := none) [(true,(Vec.row r3.1)),(false,[cI r3.2])] _ kr (.inl rfl) kr kr kr kr rfl ?_
   refine uA 5 263 0 ?_
   refine tS ?_
   refine tB ?_
   refine gA 4 536870919 0 ?_
   obtain ⟨h3,H⟩ | ⟨h3,H⟩ := bC H
   ·refine nA h3 ?_
    obtain ⟨v4,ev4,H⟩ := bs H
    refine sT ⟨52,0,[sB 29 (r3.2 == x2),sI 0 x0,sC 1 (cF 8 x1 Pt.row),sI 2 x2],[]⟩ ?_
    cases h4 : (!v4.Has)
    ·have H := zG h4 H
     obtain ⟨r5,er5,H⟩ := bs H
     obtain ⟨v6,ev6,H⟩ := bs H
     obtain ⟨r7,er7,H⟩ := bs H
     refine Tr.draws mixed 19 kr ⟨52,0,[sB 33 r7],[]⟩ (fun cx => ?_) ?_
     ·refine mA YK [(0,[]),(1,[])] 17 [] fun cx => ?_
      refine iN YK 2 Pt.row ev4 fun cx => ?_
      refine mA YK [(3,[]),(4,[]),(5,[]),(6,[])] 12 [] fun cx => ?_
      refine sA_ 1099511627783 0 ⟨52,0,[sB 40 (!v4.Has),sI 0 x0,sC 1 (cF 8 x1 Pt.row),sI 2 x2],[]⟩ ?_
      rw [h4]
      refine mA YK [(7,[]),(8,[]),(9,[]),(11,[]),(12,[])] 7 [] fun cx => ?_
      refine iN YK 13 Pt.row ev6 fun cx => ?_
      refine mA YK [(14,[]),(15,[])] 4 [] fun cx => ?_
      refine mC YK 10 ?_
      refine vA [.rd,.rd,.rd] (zEj n x0 x1 x2 r5 er5) ?_
      refine fA ?_
      refine mC YK 16 ?_
      refine vA [.rd,.rd] (zGK n r5 v6.Hd r7 er7) ?_
      refine fA ?_
      refine mA YK [(17,[]),(18,[])] 0 [] fun cx => ?_
      exact mE YK [33] []
     cases h5 : r7
     ·have H := zG h5 H
      refine nB_ ?_
      refine tK ?_
      refine gA 1 64 0 ?_
      exact te (fJ [(false,[cI 3])] H)
     have H := zH h5 H
     refine tB_ ?_
     refine gA 1 64 0 ?_
     exact te (fJ [(false,[cI 2])] H)
    have H := zH h4 H
    refine Tr.draws mixed 19 kr ⟨52,0,[sB 33 true],[]⟩ (fun cx => ?_) ?_
    ·refine mA YK [(0,[]),(1,[])] 17 [] fun cx => ?_
     refine iN YK 2 Pt.row ev4 fun cx => ?_
     refine mA YK [(3,[]),(4,[]),(5,[]),(6,[])] 12 [] fun cx => ?_
     refine sA_ 1099511627783 0 ⟨52,0,[sB 40 (!v4.Has),sI 0 x0,sC 1 (cF 8 x1 Pt.row),sI 2 x2],[]⟩ ?_
     rw [h4]
     refine mA YK [(7,[]),(8,[]),(9,[]),(10,[]),(11,[]),(12,[]),(13,[]),(14,[]),(15,[]),(16,[]),(17,[]),(18,[])] 0 [] fun cx => ?_
     exact mE YK [33] []
    refine tB_ ?_
    refine gA 1 64 0 ?_
    exact te (fJ [(false,[cI 2])] H)
   refine tA h3 ?_
   refine gA 1 64 0 ?_
   exact te (fJ [(false,[cI 1])] H)
  refine tA h2 ?_
  refine gA 1 64 0 ?_
  exact te (fJ [(false,[cI 4])] H)
 have H := zH h1 H
 refine uA 7 4194311 0 ?_
 refine tB_ ?_
 refine gA 1 64 0 ?_
 exact te (fJ [(false,[cI 4])] H)
def zBz (n : Nat) (y3 : Int) : Option (Int) :=
  (some y3)
def Zb (n : Nat) : Nat → Int → (List Pt) → Int → Int → Option ((Int) ⊕ (Int))
  | 0,_,_,_,_ => none
  | mo4 + 1,x0,x1,y1,y2 => (bif (decide (y1 < (x1.length : Int))) then (bif (decide (y1 < 6)) then ((YS n x0 x1 y1).bind fun r5 => (bif (decide (r5 ≤ 2)) then (bif (decide ((0 : Int) ≤ (IntKind.wrap .u64 y1))) then (Zb n mo4 x0 x1 (IntKind.wrap .i64 (y1 + 1)) (IntKind.wrap .i64 (BitVec.ofInt (IntKind.bits .i64) y2 ||| BitVec.ofInt (IntKind.bits .i64) (IntKind.wrap .i64 (1 * 2 ^ min (((IntKind.wrap .u64 y1) : Int)).toNat (IntKind.bits .i64)))).toNat)) else none) else (Zb n mo4 x0 x1 (IntKind.wrap .i64 (y1 + 1)) y2))) else (some (Sum.inl y2))) else (some (Sum.inl y2)))
def Za (n : Nat) (x0 : Int) (x1 : (List Pt)) : Option (Int) :=
  ((Zb n n x0 x1 0 0).bind fun o => match o with | .inl y3 => (zBz n y3) | .inr r => some r)
theorem zMa (n : Nat) (x0 : Int) (x1 : (List Pt)) (r : Int) (H : Za n x0 x1 = some r) : zD Tryz.prog 71 [.val false [.lit (.int .i64 x0)],.val false [.sl false 8 (CV.frzEs (x1.map Pt.row))]] [.val false [.lit (.int .i64 r)]] [] := by
 refine cW Tryz.func71 (fun g d => sl [g 0,g 1,sl [g 2] (.block 0 (.loop (sl [sl [g 3] (cn 14 .skip (.exit 0)),.block 1 (sl [g 5] (cn 21 (g 6) .skip))] (g 4)))),g 7] .ret) [.tmp 4] fun cx => ?_
 unfold Za at H
 refine gA 1 3 0 ?_
 refine gA 1 35 0 ?_
 refine tS ?_
 refine gA 1 99 0 ?_
 obtain ⟨o4,eo4,Ho4⟩ := bs H
 clear H
 refine Tr.mid (ι := Int) (fun v => ⟨28,0,[sI 5 v],[]⟩) (fun v => zBz n v = some r) ?_ ?_
 ·refine tB ?_
  refine Tr.loop (ι := Nat × (Int × Int)) (fun v => ⟨28,0,[sI 6 v.2.1,sI 5 v.2.2,sI 0 x0,sC 1 (cF 8 x1 Pt.row)],[]⟩) (fun v => Zb n v.1 x0 x1 v.2.1 v.2.2 = some o4) (fun v => v.1) (n,(0,0)) eo4 (St.sub_of [6,5,0,1] [] kr) ?_
  rintro ⟨mo4,y1,y2⟩ H
  have H : Zb n mo4 x0 x1 y1 y2 = some o4 := H
  obtain _ | mo4 := mo4
  ·exact nN H
  rw [Zb] at H
  refine tS ?_
  refine rA 2 ?_
  refine kF x1 Pt.row ?_
  refine lA 2 ?_
  refine sL 2147 0 ⟨28,0,[sB 11 (decide (y1 < (x1.length : Int))),sI 6 y1,sI 5 y2,sI 0 x0,sC 1 (cF 8 x1 Pt.row)],[]⟩ ?_
  cases h1 : (decide (y1 < (x1.length : Int)))
  ·have H := zG h1 H
   refine uA 3 16483 0 ?_
   refine nB_ ?_
   refine Tr.exit ?_
   refine aJ ?_
   obtain rfl := si H
   have H := Ho4
   dsimp only at H
   exact jA y2 H [5] []
  have H := zH h1 H
  refine uA 3 16483 0 ?_
  obtain ⟨h2,H⟩ | ⟨h2,H⟩ := bC H
  ·refine nA h2 ?_
   refine Tr.exit ?_
   refine aJ ?_
   obtain rfl := si H
   have H := Ho4
   dsimp only at H
   exact jA y2 H [5] []
  refine tA h2 ?_
  refine tK ?_
  refine tS ?_
  refine tB ?_
  refine rA 3 ?_
  obtain ⟨r5,er5,H⟩ := bs H
  refine vA [.rd,.rd,.rd] (zLg n x0 x1 y1 r5 er5) ?_
  refine uA 1 2097251 0 ?_
  obtain ⟨h3,H⟩ | ⟨h3,H⟩ := bC H
  ·refine nA h3 ?_
   refine tK ?_
   refine eA 3 99 0 ?_
   exact jB mo4 ((IntKind.wrap .i64 (y1 + 1)),y2) H [6,5,0,1] []
  refine tA h3 ?_
  refine Tr.at ?_
  refine lA 3 ?_
  obtain ⟨hg6,H⟩ := gs H
  refine LAt.binC tOk (op := .shl) (t := 3) (ty := 124) (ty' := 3) (x := (.const (.int .i64 1))) (y := (.tmp 24)) (d := 25) (g := none) (.int .i64 1) (.int .u64 (IntKind.wrap .u64 y1)) (.int .i64 (IntKind.wrap .i64 (1 * 2 ^ min (((IntKind.wrap .u64 y1) : Int)).toNat (IntKind.bits .i64)))) _ kr kr kr kr kr (φ := (0 : Int) ≤ (IntKind.wrap .u64 y1)) kr (of_decide_eq_true hg6) rfl ?_
  refine uA 2 99 0 ?_
  refine eA 3 99 0 ?_
  exact jB mo4 ((IntKind.wrap .i64 (y1 + 1)),(IntKind.wrap .i64 (BitVec.ofInt (IntKind.bits .i64) y2 ||| BitVec.ofInt (IntKind.bits .i64) (IntKind.wrap .i64 (1 * 2 ^ min (((IntKind.wrap .u64 y1) : Int)).toNat (IntKind.bits .i64)))).toNat)) H [6,5,0,1] []
 rintro y3 H
 have H : (zBz n y3) = some r := H
 unfold zBz at H
 refine gA 2 16 0 ?_
 exact te (fJ [(false,[cI y3])] H)
end Go.Proofs.YtcegokjpmppdbaaGreat.Tw
