import Derived.Test.YtcegokjpmppdbaaGreatProg
import Derived.Test.YtcegokjpmppdbaaGreatTlRule
import Derived.Test.YtcegokjpmppdbaaGreatTlU11
import Derived.WalkKit
set_option linter.unusedVariables false
set_option linter.unusedSimpArgs false
set_option maxRecDepth 100000
set_option maxHeartbeats 1000000
namespace Go.Proofs.YtcegokjpmppdbaaGreat.Tw
open Go Go.TL Go.Proofs
def tab : List (Nat × TI) := [(2,⟨.int .i64,1,8,[.lit (.int .i64 0)]⟩),
  (3,⟨.int .i64,1,8,[.lit (.int .i64 0)]⟩),
  (4,⟨.bool,1,1,[.lit (.bool false)]⟩),
  (5,⟨.int .u8,1,1,[.lit (.int .u8 0)]⟩),
  (6,⟨.int .u8,1,1,[.lit (.int .u8 0)]⟩),
  (7,⟨.st [(0,1,2),(1,1,3),(2,1,4),(3,1,6)],4,24,[.lit (.int .i64 0),.lit (.int .i64 0),.lit (.bool false),.lit (.int .u8 0)]⟩),
  (8,⟨.st [(0,1,2),(1,1,3),(2,1,4),(3,1,6)],4,24,[.lit (.int .i64 0),.lit (.int .i64 0),.lit (.bool false),.lit (.int .u8 0)]⟩),
  (9,⟨.str,1,16,[.lit (.string ⟨#[]⟩)]⟩),
  (22,⟨.sl 200,1,24,[.sl true 8 []]⟩),
  (23,⟨.sl 202,1,24,[.sl true 5 []]⟩),
  (24,⟨.sl 244,1,24,[.sl true 3 []]⟩),
  (25,⟨.sl 3,1,24,[.sl true 1 []]⟩),
  (27,⟨.st [(0,1,24),(1,1,25)],2,48,[.sl true 3 [],.sl true 1 []]⟩),
  (29,⟨.st [(0,1,3),(1,1,9),(2,1,22),(3,1,23),(4,2,27),(6,1,3),(7,1,3),(8,1,3),(9,1,3),(10,1,3)],11,160,[.lit (.int .i64 0),.lit (.string ⟨#[]⟩),.sl true 8 [],.sl true 5 [],.sl true 3 [],.sl true 1 [],.lit (.int .i64 0),.lit (.int .i64 0),.lit (.int .i64 0),.lit (.int .i64 0),.lit (.int .i64 0)]⟩),
  (30,⟨.sl 5,1,24,[.sl true 1 []]⟩),
  (35,⟨.sl 167,1,24,[.sl true 8 []]⟩),
  (36,⟨.sl 169,1,24,[.sl true 5 []]⟩),
  (37,⟨.sl 175,1,24,[.sl true 3 []]⟩),
  (39,⟨.st [(0,1,37),(1,1,25)],2,48,[.sl true 3 [],.sl true 1 []]⟩),
  (41,⟨.st [(0,1,3),(1,1,9),(2,1,35),(3,1,36),(4,2,39),(6,1,3),(7,1,3),(8,1,3),(9,1,3),(10,1,3)],11,160,[.lit (.int .i64 0),.lit (.string ⟨#[]⟩),.sl true 8 [],.sl true 5 [],.sl true 3 [],.sl true 1 [],.lit (.int .i64 0),.lit (.int .i64 0),.lit (.int .i64 0),.lit (.int .i64 0),.lit (.int .i64 0)]⟩),
  (55,⟨.sl 29,1,24,[.sl true 11 []]⟩),
  (56,⟨.sl 213,1,24,[.sl true 4 []]⟩),
  (57,⟨.sl 216,1,24,[.sl true 7 []]⟩),
  (59,⟨.st [(0,1,55),(1,1,56),(2,1,57)],3,72,[.sl true 11 [],.sl true 4 [],.sl true 7 []]⟩),
  (61,⟨.st [(0,1,3),(1,1,3)],2,16,[.lit (.int .i64 0),.lit (.int .i64 0)]⟩),
  (63,⟨.sl 41,1,24,[.sl true 11 []]⟩),
  (64,⟨.sl 114,1,24,[.sl true 4 []]⟩),
  (65,⟨.sl 180,1,24,[.sl true 7 []]⟩),
  (67,⟨.st [(0,1,63),(1,1,64),(2,1,65)],3,72,[.sl true 11 [],.sl true 4 [],.sl true 7 []]⟩),
  (71,⟨.st [(0,1,3),(1,1,3)],2,16,[.lit (.int .i64 0),.lit (.int .i64 0)]⟩),
  (114,⟨.st [(0,1,3),(1,1,3),(2,1,3),(3,1,3)],4,32,[.lit (.int .i64 0),.lit (.int .i64 0),.lit (.int .i64 0),.lit (.int .i64 0)]⟩),
  (124,⟨.int .u64,1,8,[.lit (.int .u64 0)]⟩),
  (165,⟨.st [(0,1,3),(1,1,3),(2,1,3),(3,1,3),(4,1,3)],5,40,[.lit (.int .i64 0),.lit (.int .i64 0),.lit (.int .i64 0),.lit (.int .i64 0),.lit (.int .i64 0)]⟩),
  (167,⟨.st [(0,1,4),(1,1,3),(2,1,4),(3,5,165)],8,64,[.lit (.bool false),.lit (.int .i64 0),.lit (.bool false),.lit (.int .i64 0),.lit (.int .i64 0),.lit (.int .i64 0),.lit (.int .i64 0),.lit (.int .i64 0)]⟩),
  (169,⟨.st [(0,1,3),(1,1,3),(2,1,3),(3,1,3),(4,1,4)],5,40,[.lit (.int .i64 0),.lit (.int .i64 0),.lit (.int .i64 0),.lit (.int .i64 0),.lit (.bool false)]⟩),
  (175,⟨.st [(0,1,3),(1,1,3),(2,1,3)],3,24,[.lit (.int .i64 0),.lit (.int .i64 0),.lit (.int .i64 0)]⟩),
  (180,⟨.st [(0,1,3),(1,1,4),(2,5,165)],7,56,[.lit (.int .i64 0),.lit (.bool false),.lit (.int .i64 0),.lit (.int .i64 0),.lit (.int .i64 0),.lit (.int .i64 0),.lit (.int .i64 0)]⟩),
  (198,⟨.st [(0,1,3),(1,1,3),(2,1,3),(3,1,3),(4,1,3)],5,40,[.lit (.int .i64 0),.lit (.int .i64 0),.lit (.int .i64 0),.lit (.int .i64 0),.lit (.int .i64 0)]⟩),
  (200,⟨.st [(0,1,4),(1,1,3),(2,1,4),(3,5,198)],8,64,[.lit (.bool false),.lit (.int .i64 0),.lit (.bool false),.lit (.int .i64 0),.lit (.int .i64 0),.lit (.int .i64 0),.lit (.int .i64 0),.lit (.int .i64 0)]⟩),
  (202,⟨.st [(0,1,3),(1,1,3),(2,1,3),(3,1,3),(4,1,4)],5,40,[.lit (.int .i64 0),.lit (.int .i64 0),.lit (.int .i64 0),.lit (.int .i64 0),.lit (.bool false)]⟩),
  (213,⟨.st [(0,1,3),(1,1,3),(2,1,3),(3,1,3)],4,32,[.lit (.int .i64 0),.lit (.int .i64 0),.lit (.int .i64 0),.lit (.int .i64 0)]⟩),
  (216,⟨.st [(0,1,3),(1,1,4),(2,5,198)],7,56,[.lit (.int .i64 0),.lit (.bool false),.lit (.int .i64 0),.lit (.int .i64 0),.lit (.int .i64 0),.lit (.int .i64 0),.lit (.int .i64 0)]⟩),
  (244,⟨.st [(0,1,3),(1,1,3),(2,1,3)],3,24,[.lit (.int .i64 0),.lit (.int .i64 0),.lit (.int .i64 0)]⟩)]
def tI (t : Nat) : TI := (lk tab t).getD ⟨.bool,1,1,[]⟩
theorem mixed : Tryz.prog.follows .mixedOrders = true := by kernel_rfl
theorem tOk : TOk Tryz.prog (lk tab) := zOZ (by kernel_rfl)
instance : TC Tryz.prog (lk tab) := ⟨tOk⟩
structure Vec where
  Root : Int
  Co : Int
  Hops : Int
  Bridge : Int
  Port : Int
def Vec.row (v : Vec) : List CV := [.lit (.int .i64 v.Root),.lit (.int .i64 v.Co),.lit (.int .i64 v.Hops),.lit (.int .i64 v.Bridge),.lit (.int .i64 v.Port)]
def Vec.wf (v : Vec) : Prop := z6 v.Root ∧ z6 v.Co ∧ z6 v.Hops ∧ z6 v.Bridge ∧ z6 v.Port ∧ True
theorem Vec.enc : Enc Vec [.int .i64,.int .i64,.int .i64,.int .i64,.int .i64] Vec.row Vec.wf := fun cs h => by
  obtain ⟨c0,r0,rfl,k0,h⟩ := zM h
  obtain ⟨c1,r1,rfl,k1,h⟩ := zM h
  obtain ⟨c2,r2,rfl,k2,h⟩ := zM h
  obtain ⟨c3,r3,rfl,k3,h⟩ := zM h
  obtain ⟨c4,r4,rfl,k4,h⟩ := zM h
  obtain rfl := Qo h
  obtain ⟨x0,rfl,w0⟩ := zm k0
  obtain ⟨x1,rfl,w1⟩ := zm k1
  obtain ⟨x2,rfl,w2⟩ := zm k2
  obtain ⟨x3,rfl,w3⟩ := zm k3
  obtain ⟨x4,rfl,w4⟩ := zm k4
  exact ⟨⟨x0,x1,x2,x3,x4⟩,rfl,⟨w0,w1,w2,w3,w4,trivial⟩⟩
theorem Vec.row_mine (v : Vec) : CV.mineRow (Vec.row v) := zJ zL (zJ zL (zJ zL (zJ zL (zJ zL (zy)))))
structure Pt where
  Up : Bool
  Co : Int
  Has : Bool
  Hd : Vec
def Pt.row (v : Pt) : List CV := [.lit (.bool v.Up),.lit (.int .i64 v.Co),.lit (.bool v.Has),.lit (.int .i64 v.Hd.Root),.lit (.int .i64 v.Hd.Co),.lit (.int .i64 v.Hd.Hops),.lit (.int .i64 v.Hd.Bridge),.lit (.int .i64 v.Hd.Port)]
def Pt.wf (v : Pt) : Prop := z6 v.Co ∧ z6 v.Hd.Root ∧ z6 v.Hd.Co ∧ z6 v.Hd.Hops ∧ z6 v.Hd.Bridge ∧ z6 v.Hd.Port ∧ True
theorem Pt.enc : Enc Pt [.bool,.int .i64,.bool,.int .i64,.int .i64,.int .i64,.int .i64,.int .i64] Pt.row Pt.wf := fun cs h => by
  obtain ⟨c0,r0,rfl,k0,h⟩ := zM h
  obtain ⟨c1,r1,rfl,k1,h⟩ := zM h
  obtain ⟨c2,r2,rfl,k2,h⟩ := zM h
  obtain ⟨c3,r3,rfl,k3,h⟩ := zM h
  obtain ⟨c4,r4,rfl,k4,h⟩ := zM h
  obtain ⟨c5,r5,rfl,k5,h⟩ := zM h
  obtain ⟨c6,r6,rfl,k6,h⟩ := zM h
  obtain ⟨c7,r7,rfl,k7,h⟩ := zM h
  obtain rfl := Qo h
  obtain ⟨x0,rfl⟩ := zCw k0
  obtain ⟨x1,rfl,w1⟩ := zm k1
  obtain ⟨x2,rfl⟩ := zCw k2
  obtain ⟨x3,rfl,w3⟩ := zm k3
  obtain ⟨x4,rfl,w4⟩ := zm k4
  obtain ⟨x5,rfl,w5⟩ := zm k5
  obtain ⟨x6,rfl,w6⟩ := zm k6
  obtain ⟨x7,rfl,w7⟩ := zm k7
  exact ⟨⟨x0,x1,x2,⟨x3,x4,x5,x6,x7⟩⟩,rfl,⟨w1,w3,w4,w5,w6,w7,trivial⟩⟩
theorem Pt.row_mine (v : Pt) : CV.mineRow (Pt.row v) := zJ zL (zJ zL (zJ zL (zJ zL (zJ zL (zJ zL (zJ zL (zJ zL (zy))))))))
structure zB where
  Tag : Int
  Mac : Int
  Port : Int
  Age : Int
  Sc : Bool
def zB.row (v : zB) : List CV := [.lit (.int .i64 v.Tag),.lit (.int .i64 v.Mac),.lit (.int .i64 v.Port),.lit (.int .i64 v.Age),.lit (.bool v.Sc)]
def zB.wf (v : zB) : Prop := z6 v.Tag ∧ z6 v.Mac ∧ z6 v.Port ∧ z6 v.Age ∧ True
theorem zB.enc : Enc zB [.int .i64,.int .i64,.int .i64,.int .i64,.bool] zB.row zB.wf := fun cs h => by
  obtain ⟨c0,r0,rfl,k0,h⟩ := zM h
  obtain ⟨c1,r1,rfl,k1,h⟩ := zM h
  obtain ⟨c2,r2,rfl,k2,h⟩ := zM h
  obtain ⟨c3,r3,rfl,k3,h⟩ := zM h
  obtain ⟨c4,r4,rfl,k4,h⟩ := zM h
  obtain rfl := Qo h
  obtain ⟨x0,rfl,w0⟩ := zm k0
  obtain ⟨x1,rfl,w1⟩ := zm k1
  obtain ⟨x2,rfl,w2⟩ := zm k2
  obtain ⟨x3,rfl,w3⟩ := zm k3
  obtain ⟨x4,rfl⟩ := zCw k4
  exact ⟨⟨x0,x1,x2,x3,x4⟩,rfl,⟨w0,w1,w2,w3,trivial⟩⟩
theorem zB.row_mine (v : zB) : CV.mineRow (zB.row v) := zJ zL (zJ zL (zJ zL (zJ zL (zJ zL (zy)))))
structure zC where
  Id : Int
  Members : Int
  Bare : Int
def zC.row (v : zC) : List CV := [.lit (.int .i64 v.Id),.lit (.int .i64 v.Members),.lit (.int .i64 v.Bare)]
def zC.wf (v : zC) : Prop := z6 v.Id ∧ z6 v.Members ∧ z6 v.Bare ∧ True
theorem zC.enc : Enc zC [.int .i64,.int .i64,.int .i64] zC.row zC.wf := fun cs h => by
  obtain ⟨c0,r0,rfl,k0,h⟩ := zM h
  obtain ⟨c1,r1,rfl,k1,h⟩ := zM h
  obtain ⟨c2,r2,rfl,k2,h⟩ := zM h
  obtain rfl := Qo h
  obtain ⟨x0,rfl,w0⟩ := zm k0
  obtain ⟨x1,rfl,w1⟩ := zm k1
  obtain ⟨x2,rfl,w2⟩ := zm k2
  exact ⟨⟨x0,x1,x2⟩,rfl,⟨w0,w1,w2,trivial⟩⟩
theorem zC.row_mine (v : zC) : CV.mineRow (zC.row v) := zJ zL (zJ zL (zJ zL (zy)))
structure zF where
  Rows : (List zC)
  Pv : (List Int)
def zF.row (v : zF) : List CV := [.sl true 3 (v.Rows.map zC.row),.sl true 1 (v.Pv.map intRow)]
def zF.wf (v : zF) : Prop := Yt zC.wf v.Rows ∧ Yt z6 v.Pv ∧ True
theorem zF.enc : Enc zF [.sl 3 [.int .i64,.int .i64,.int .i64],.sl 1 [.int .i64]] zF.row zF.wf := fun cs h => by
  obtain ⟨c0,r0,rfl,k0,h⟩ := zM h
  obtain ⟨c1,r1,rfl,k1,h⟩ := zM h
  obtain rfl := Qo h
  obtain ⟨x0,rfl,w0⟩ := Enc.sl zC.enc k0
  obtain ⟨x1,rfl,w1⟩ := Enc.sl zMS k1
  exact ⟨⟨x0,x1⟩,rfl,⟨w0,w1,trivial⟩⟩
theorem zF.row_mine (v : zF) : CV.mineRow (zF.row v) := zJ (JU (Qs zC.row_mine _)) (zJ (JU (Qs zGn _)) (zy))
structure zA where
  Id : Int
  Name : ByteArray
  Ps : (List Pt)
  F : (List zB)
  V : zF
  Tk : Int
  Pa : Int
  Wo : Int
  Dr : Int
  Ve : Int
def zA.row (v : zA) : List CV := [.lit (.int .i64 v.Id),.lit (.string v.Name),.sl true 8 (v.Ps.map Pt.row),.sl true 5 (v.F.map zB.row),.sl true 3 (v.V.Rows.map zC.row),.sl true 1 (v.V.Pv.map intRow),.lit (.int .i64 v.Tk),.lit (.int .i64 v.Pa),.lit (.int .i64 v.Wo),.lit (.int .i64 v.Dr),.lit (.int .i64 v.Ve)]
def zA.wf (v : zA) : Prop := z6 v.Id ∧ v.Name.size ≤ maxLen ∧ Yt Pt.wf v.Ps ∧ Yt zB.wf v.F ∧ Yt zC.wf v.V.Rows ∧ Yt z6 v.V.Pv ∧ z6 v.Tk ∧ z6 v.Pa ∧ z6 v.Wo ∧ z6 v.Dr ∧ z6 v.Ve ∧ True
theorem zA.enc : Enc zA [.int .i64,.str,.sl 8 [.bool,.int .i64,.bool,.int .i64,.int .i64,.int .i64,.int .i64,.int .i64],.sl 5 [.int .i64,.int .i64,.int .i64,.int .i64,.bool],.sl 3 [.int .i64,.int .i64,.int .i64],.sl 1 [.int .i64],.int .i64,.int .i64,.int .i64,.int .i64,.int .i64] zA.row zA.wf := fun cs h => by
  obtain ⟨c0,r0,rfl,k0,h⟩ := zM h
  obtain ⟨c1,r1,rfl,k1,h⟩ := zM h
  obtain ⟨c2,r2,rfl,k2,h⟩ := zM h
  obtain ⟨c3,r3,rfl,k3,h⟩ := zM h
  obtain ⟨c4,r4,rfl,k4,h⟩ := zM h
  obtain ⟨c5,r5,rfl,k5,h⟩ := zM h
  obtain ⟨c6,r6,rfl,k6,h⟩ := zM h
  obtain ⟨c7,r7,rfl,k7,h⟩ := zM h
  obtain ⟨c8,r8,rfl,k8,h⟩ := zM h
  obtain ⟨c9,r9,rfl,k9,h⟩ := zM h
  obtain ⟨c10,r10,rfl,k10,h⟩ := zM h
  obtain rfl := Qo h
  obtain ⟨x0,rfl,w0⟩ := zm k0
  obtain ⟨x1,rfl,w1⟩ := zMy k1
  obtain ⟨x2,rfl,w2⟩ := Enc.sl Pt.enc k2
  obtain ⟨x3,rfl,w3⟩ := Enc.sl zB.enc k3
  obtain ⟨x4,rfl,w4⟩ := Enc.sl zC.enc k4
  obtain ⟨x5,rfl,w5⟩ := Enc.sl zMS k5
  obtain ⟨x6,rfl,w6⟩ := zm k6
  obtain ⟨x7,rfl,w7⟩ := zm k7
  obtain ⟨x8,rfl,w8⟩ := zm k8
  obtain ⟨x9,rfl,w9⟩ := zm k9
  obtain ⟨x10,rfl,w10⟩ := zm k10
  exact ⟨⟨x0,x1,x2,x3,⟨x4,x5⟩,x6,x7,x8,x9,x10⟩,rfl,⟨w0,w1,w2,w3,w4,w5,w6,w7,w8,w9,w10,trivial⟩⟩
theorem zA.row_mine (v : zA) : CV.mineRow (zA.row v) := zJ zL (zJ zL (zJ (JU (Qs Pt.row_mine _)) (zJ (JU (Qs zB.row_mine _)) (zJ (JU (Qs zC.row_mine _)) (zJ (JU (Qs zGn _)) (zJ zL (zJ zL (zJ zL (zJ zL (zJ zL (zy)))))))))))
structure Link where
  A : Int
  P : Int
  B : Int
  Q : Int
def Link.row (v : Link) : List CV := [.lit (.int .i64 v.A),.lit (.int .i64 v.P),.lit (.int .i64 v.B),.lit (.int .i64 v.Q)]
def Link.wf (v : Link) : Prop := z6 v.A ∧ z6 v.P ∧ z6 v.B ∧ z6 v.Q ∧ True
theorem Link.enc : Enc Link [.int .i64,.int .i64,.int .i64,.int .i64] Link.row Link.wf := fun cs h => by
  obtain ⟨c0,r0,rfl,k0,h⟩ := zM h
  obtain ⟨c1,r1,rfl,k1,h⟩ := zM h
  obtain ⟨c2,r2,rfl,k2,h⟩ := zM h
  obtain ⟨c3,r3,rfl,k3,h⟩ := zM h
  obtain rfl := Qo h
  obtain ⟨x0,rfl,w0⟩ := zm k0
  obtain ⟨x1,rfl,w1⟩ := zm k1
  obtain ⟨x2,rfl,w2⟩ := zm k2
  obtain ⟨x3,rfl,w3⟩ := zm k3
  exact ⟨⟨x0,x1,x2,x3⟩,rfl,⟨w0,w1,w2,w3,trivial⟩⟩
theorem Link.row_mine (v : Link) : CV.mineRow (Link.row v) := zJ zL (zJ zL (zJ zL (zJ zL (zy))))
structure Say where
  Link : Int
  Back : Bool
  V : Vec
def Say.row (v : Say) : List CV := [.lit (.int .i64 v.Link),.lit (.bool v.Back),.lit (.int .i64 v.V.Root),.lit (.int .i64 v.V.Co),.lit (.int .i64 v.V.Hops),.lit (.int .i64 v.V.Bridge),.lit (.int .i64 v.V.Port)]
def Say.wf (v : Say) : Prop := z6 v.Link ∧ z6 v.V.Root ∧ z6 v.V.Co ∧ z6 v.V.Hops ∧ z6 v.V.Bridge ∧ z6 v.V.Port ∧ True
theorem Say.enc : Enc Say [.int .i64,.bool,.int .i64,.int .i64,.int .i64,.int .i64,.int .i64] Say.row Say.wf := fun cs h => by
  obtain ⟨c0,r0,rfl,k0,h⟩ := zM h
  obtain ⟨c1,r1,rfl,k1,h⟩ := zM h
  obtain ⟨c2,r2,rfl,k2,h⟩ := zM h
  obtain ⟨c3,r3,rfl,k3,h⟩ := zM h
  obtain ⟨c4,r4,rfl,k4,h⟩ := zM h
  obtain ⟨c5,r5,rfl,k5,h⟩ := zM h
  obtain ⟨c6,r6,rfl,k6,h⟩ := zM h
  obtain rfl := Qo h
  obtain ⟨x0,rfl,w0⟩ := zm k0
  obtain ⟨x1,rfl⟩ := zCw k1
  obtain ⟨x2,rfl,w2⟩ := zm k2
  obtain ⟨x3,rfl,w3⟩ := zm k3
  obtain ⟨x4,rfl,w4⟩ := zm k4
  obtain ⟨x5,rfl,w5⟩ := zm k5
  obtain ⟨x6,rfl,w6⟩ := zm k6
  exact ⟨⟨x0,x1,⟨x2,x3,x4,x5,x6⟩⟩,rfl,⟨w0,w2,w3,w4,w5,w6,trivial⟩⟩
theorem Say.row_mine (v : Say) : CV.mineRow (Say.row v) := zJ zL (zJ zL (zJ zL (zJ zL (zJ zL (zJ zL (zJ zL (zy)))))))
structure Net where
  Bs : (List zA)
  Ls : (List Link)
  Said : (List Say)
def Net.row (v : Net) : List CV := [.sl true 11 (v.Bs.map zA.row),.sl true 4 (v.Ls.map Link.row),.sl true 7 (v.Said.map Say.row)]
def Net.wf (v : Net) : Prop := Yt zA.wf v.Bs ∧ Yt Link.wf v.Ls ∧ Yt Say.wf v.Said ∧ True
theorem Net.enc : Enc Net [.sl 11 [.int .i64,.str,.sl 8 [.bool,.int .i64,.bool,.int .i64,.int .i64,.int .i64,.int .i64,.int .i64],.sl 5 [.int .i64,.int .i64,.int .i64,.int .i64,.bool],.sl 3 [.int .i64,.int .i64,.int .i64],.sl 1 [.int .i64],.int .i64,.int .i64,.int .i64,.int .i64,.int .i64],.sl 4 [.int .i64,.int .i64,.int .i64,.int .i64],.sl 7 [.int .i64,.bool,.int .i64,.int .i64,.int .i64,.int .i64,.int .i64]] Net.row Net.wf := fun cs h => by
  obtain ⟨c0,r0,rfl,k0,h⟩ := zM h
  obtain ⟨c1,r1,rfl,k1,h⟩ := zM h
  obtain ⟨c2,r2,rfl,k2,h⟩ := zM h
  obtain rfl := Qo h
  obtain ⟨x0,rfl,w0⟩ := Enc.sl zA.enc k0
  obtain ⟨x1,rfl,w1⟩ := Enc.sl Link.enc k1
  obtain ⟨x2,rfl,w2⟩ := Enc.sl Say.enc k2
  exact ⟨⟨x0,x1,x2⟩,rfl,⟨w0,w1,w2,trivial⟩⟩
theorem Net.row_mine (v : Net) : CV.mineRow (Net.row v) := zJ (JU (Qs zA.row_mine _)) (zJ (JU (Qs Link.row_mine _)) (zJ (JU (Qs Say.row_mine _)) (zy)))
structure Event where
  Ki : Int
  At : Int
def Event.row (v : Event) : List CV := [.lit (.int .i64 v.Ki),.lit (.int .i64 v.At)]
def Event.wf (v : Event) : Prop := z6 v.Ki ∧ z6 v.At ∧ True
theorem Event.enc : Enc Event [.int .i64,.int .i64] Event.row Event.wf := fun cs h => by
  obtain ⟨c0,r0,rfl,k0,h⟩ := zM h
  obtain ⟨c1,r1,rfl,k1,h⟩ := zM h
  obtain rfl := Qo h
  obtain ⟨x0,rfl,w0⟩ := zm k0
  obtain ⟨x1,rfl,w1⟩ := zm k1
  exact ⟨⟨x0,x1⟩,rfl,⟨w0,w1,trivial⟩⟩
theorem Event.row_mine (v : Event) : CV.mineRow (Event.row v) := zJ zL (zJ zL (zy))
def zCa (n : Nat) (x0 : (List Pt)) (x1 : Int) : Option (Int) :=
  (bif (decide ((IntKind.wrap .i64 (x1 - (x0.length : Int))) < 0)) then (some (-1)) else (some (IntKind.wrap .i64 (x1 - (x0.length : Int)))))
theorem zL0 (n : Nat) (x0 : (List Pt)) (x1 : Int) (r : Int) (H : zCa n x0 x1 = some r) : zD Tryz.prog 64 [.val false [.sl false 8 (CV.frzEs (x0.map Pt.row))],.val false [.lit (.int .i64 x1)]] [.val false [.lit (.int .i64 r)]] [] := by
 refine cA Tryz.func64 (.seq (Rg Tryz.f64 0) (.seq (Rg Tryz.f64 1) (.seq (.seq (Rg Tryz.f64 2) (.cond (.tmp 10) (.seq (Rg Tryz.f64 3) .ret) .skip)) (.seq (Rg Tryz.f64 4) .ret)))) [.tmp 4] fun cx => ?_
 unfold zCa at H
 refine gA 1 3 0 ?_
 refine rA 2 ?_
 refine kF x0 Pt.row ?_
 refine uA 2 2 0 ?_
 refine tS ?_
 refine gA 2 1026 0 ?_
 obtain ⟨h1,H⟩ | ⟨h1,H⟩ := bC H
 ·refine nA h1 ?_
  refine tK ?_
  refine gA 2 16 0 ?_
  exact te (by obtain rfl := si H; exact fP [(false,[cI (IntKind.wrap .i64 (x1 - (x0.length : Int)))])])
 refine tA h1 ?_
 refine gA 1 16 0 ?_
 exact te (by obtain rfl := si H; exact fP [(false,[cI (-1)])])
def zBd (n : Nat) (x0 : (List zB)) (x1 : Int) : Option (Int) :=
  (bif (decide ((IntKind.wrap .i64 (x1 - (x0.length : Int))) < 0)) then (some (-1)) else (some (IntKind.wrap .i64 (x1 - (x0.length : Int)))))
theorem zKJ (n : Nat) (x0 : (List zB)) (x1 : Int) (r : Int) (H : zBd n x0 x1 = some r) : zD Tryz.prog 65 [.val false [.sl false 5 (CV.frzEs (x0.map zB.row))],.val false [.lit (.int .i64 x1)]] [.val false [.lit (.int .i64 r)]] [] := by
 refine cA Tryz.func65 (.seq (Rg Tryz.f65 0) (.seq (Rg Tryz.f65 1) (.seq (.seq (Rg Tryz.f65 2) (.cond (.tmp 10) (.seq (Rg Tryz.f65 3) .ret) .skip)) (.seq (Rg Tryz.f65 4) .ret)))) [.tmp 4] fun cx => ?_
 unfold zBd at H
 refine gA 1 3 0 ?_
 refine rA 2 ?_
 refine kF x0 zB.row ?_
 refine uA 2 2 0 ?_
 refine tS ?_
 refine gA 2 1026 0 ?_
 obtain ⟨h1,H⟩ | ⟨h1,H⟩ := bC H
 ·refine nA h1 ?_
  refine tK ?_
  refine gA 2 16 0 ?_
  exact te (by obtain rfl := si H; exact fP [(false,[cI (IntKind.wrap .i64 (x1 - (x0.length : Int)))])])
 refine tA h1 ?_
 refine gA 1 16 0 ?_
 exact te (by obtain rfl := si H; exact fP [(false,[cI (-1)])])
def zBf (n : Nat) (x0 : (List zC)) (x1 : Int) : Option (Int) :=
  (bif (decide ((IntKind.wrap .i64 (x1 - (x0.length : Int))) < 0)) then (some (-1)) else (some (IntKind.wrap .i64 (x1 - (x0.length : Int)))))
theorem zKL (n : Nat) (x0 : (List zC)) (x1 : Int) (r : Int) (H : zBf n x0 x1 = some r) : zD Tryz.prog 164 [.val false [.sl false 3 (CV.frzEs (x0.map zC.row))],.val false [.lit (.int .i64 x1)]] [.val false [.lit (.int .i64 r)]] [] := by
 refine cA Tryz.func164 (.seq (Rg Tryz.f164 0) (.seq (Rg Tryz.f164 1) (.seq (.seq (Rg Tryz.f164 2) (.cond (.tmp 10) (.seq (Rg Tryz.f164 3) .ret) .skip)) (.seq (Rg Tryz.f164 4) .ret)))) [.tmp 4] fun cx => ?_
 unfold zBf at H
 refine gA 1 3 0 ?_
 refine rA 2 ?_
 refine kF x0 zC.row ?_
 refine uA 2 2 0 ?_
 refine tS ?_
 refine gA 2 1026 0 ?_
 obtain ⟨h1,H⟩ | ⟨h1,H⟩ := bC H
 ·refine nA h1 ?_
  refine tK ?_
  refine gA 2 16 0 ?_
  exact te (by obtain rfl := si H; exact fP [(false,[cI (IntKind.wrap .i64 (x1 - (x0.length : Int)))])])
 refine tA h1 ?_
 refine gA 1 16 0 ?_
 exact te (by obtain rfl := si H; exact fP [(false,[cI (-1)])])
def zB3 (n : Nat) (x0 : (List Int)) (x1 : Int) : Option (Int) :=
  (bif (decide ((IntKind.wrap .i64 (x1 - (x0.length : Int))) < 0)) then (some (-1)) else (some (IntKind.wrap .i64 (x1 - (x0.length : Int)))))
theorem zK0 (n : Nat) (x0 : (List Int)) (x1 : Int) (r : Int) (H : zB3 n x0 x1 = some r) : zD Tryz.prog 165 [.val false [.sl false 1 (CV.frzEs (x0.map intRow))],.val false [.lit (.int .i64 x1)]] [.val false [.lit (.int .i64 r)]] [] := by
 refine cA Tryz.func165 (.seq (Rg Tryz.f165 0) (.seq (Rg Tryz.f165 1) (.seq (.seq (Rg Tryz.f165 2) (.cond (.tmp 10) (.seq (Rg Tryz.f165 3) .ret) .skip)) (.seq (Rg Tryz.f165 4) .ret)))) [.tmp 4] fun cx => ?_
 unfold zB3 at H
 refine gA 1 3 0 ?_
 refine rA 2 ?_
 refine kF x0 intRow ?_
 refine uA 2 2 0 ?_
 refine tS ?_
 refine gA 2 1026 0 ?_
 obtain ⟨h1,H⟩ | ⟨h1,H⟩ := bC H
 ·refine nA h1 ?_
  refine tK ?_
  refine gA 2 16 0 ?_
  exact te (by obtain rfl := si H; exact fP [(false,[cI (IntKind.wrap .i64 (x1 - (x0.length : Int)))])])
 refine tA h1 ?_
 refine gA 1 16 0 ?_
 exact te (by obtain rfl := si H; exact fP [(false,[cI (-1)])])
def zAj (n : Nat) (x0 : zF) (x1 : Int) : Option (Int) :=
  ((zBf n x0.Rows x1).bind fun r1 => (bif (decide (r1 < 0)) then (some (-1)) else ((zB3 n x0.Pv r1).bind fun r2 => (bif (decide (r2 < 0)) then (some (-1)) else (some r2)))))
theorem zK2 (n : Nat) (x0 : zF) (x1 : Int) (r : Int) (H : zAj n x0 x1 = some r) : zD Tryz.prog 66 [.val true (CV.frzRow (zF.row x0)),.val false [.lit (.int .i64 x1)]] [.val false [.lit (.int .i64 r)]] [] := by
 refine cA Tryz.func66 (.seq (Rg Tryz.f66 0) (.seq (Rg Tryz.f66 1) (.seq (.seq (Rg Tryz.f66 2) (.cond (.tmp 10) (.seq (Rg Tryz.f66 3) .ret) .skip)) (.seq (Rg Tryz.f66 4) (.seq (.seq (Rg Tryz.f66 5) (.cond (.tmp 16) (.seq (Rg Tryz.f66 6) .ret) .skip)) (.seq (Rg Tryz.f66 7) .ret)))))) [.tmp 4] fun cx => ?_
 unfold zAj at H
 refine gA 2 6 4 ?_
 refine rA 3 ?_
 obtain ⟨r1,er1,H⟩ := bs H
 refine vA [.rd,.rd] (zKL n x0.Rows x1 r1 er1) ?_
 refine uA 1 6 4 ?_
 refine tS ?_
 refine gA 2 1030 4 ?_
 obtain ⟨h1,H⟩ | ⟨h1,H⟩ := bC H
 ·refine nA h1 ?_
  refine tK ?_
  refine rA 3 ?_
  obtain ⟨r2,er2,H⟩ := bs H
  refine vA [.rd,.rd] (zK0 n x0.Pv r1 r2 er2) ?_
  refine uA 1 2 0 ?_
  refine tS ?_
  refine gA 2 65538 0 ?_
  obtain ⟨h2,H⟩ | ⟨h2,H⟩ := bC H
  ·refine nA h2 ?_
   refine tK ?_
   refine gA 2 16 0 ?_
   exact te (by obtain rfl := si H; exact fP [(false,[cI r2])])
  refine tA h2 ?_
  refine gA 1 16 0 ?_
  exact te (by obtain rfl := si H; exact fP [(false,[cI (-1)])])
 refine tA h1 ?_
 refine gA 1 16 0 ?_
 exact te (by obtain rfl := si H; exact fP [(false,[cI (-1)])])
def YA (n : Nat) (x0 : zA) (x1 : Int) : Option (Int) :=
  (bif (decide ((IntKind.wrap .i64 (x1 - (x0.Name.size : Int))) < 0)) then (some (-1)) else ((zCa n x0.Ps (IntKind.wrap .i64 (x1 - (x0.Name.size : Int)))).bind fun r1 => (bif (decide (r1 < 0)) then (some (-1)) else ((zBd n x0.F r1).bind fun r2 => (bif (decide (r2 < 0)) then (some (-1)) else ((zAj n x0.V r2).bind fun r3 => (bif (decide (r3 < 0)) then (some (-1)) else (some r3))))))))
theorem zJf (n : Nat) (x0 : zA) (x1 : Int) (r : Int) (H : YA n x0 x1 = some r) : zD Tryz.prog 9 [.val true (CV.frzRow (zA.row x0)),.val false [.lit (.int .i64 x1)]] [.val false [.lit (.int .i64 r)]] [] := by
 refine cA Tryz.func9 (.seq (Rg Tryz.f9 0) (.seq (Rg Tryz.f9 1) (.seq (.seq (Rg Tryz.f9 2) (.cond (.tmp 11) (.seq (Rg Tryz.f9 3) .ret) .skip)) (.seq (Rg Tryz.f9 4) (.seq (.seq (Rg Tryz.f9 5) (.cond (.tmp 17) (.seq (Rg Tryz.f9 6) .ret) .skip)) (.seq (Rg Tryz.f9 7) (.seq (.seq (Rg Tryz.f9 8) (.cond (.tmp 23) (.seq (Rg Tryz.f9 9) .ret) .skip)) (.seq (Rg Tryz.f9 10) (.seq (.seq (Rg Tryz.f9 11) (.cond (.tmp 29) (.seq (Rg Tryz.f9 12) .ret) .skip)) (.seq (Rg Tryz.f9 13) .ret)))))))))) [.tmp 4] fun cx => ?_
 unfold YA at H
 refine gA 2 6 4 ?_
 refine gA 6 6 4 ?_
 refine tS ?_
 refine gA 2 2054 4 ?_
 obtain ⟨h1,H⟩ | ⟨h1,H⟩ := bC H
 ·refine nA h1 ?_
  refine tK ?_
  refine rA 3 ?_
  obtain ⟨r1,er1,H⟩ := bs H
  refine vA [.rd,.rd] (zL0 n x0.Ps (IntKind.wrap .i64 (x1 - (x0.Name.size : Int))) r1 er1) ?_
  refine uA 1 6 4 ?_
  refine tS ?_
  refine gA 2 131078 4 ?_
  obtain ⟨h2,H⟩ | ⟨h2,H⟩ := bC H
  ·refine nA h2 ?_
   refine tK ?_
   refine rA 3 ?_
   obtain ⟨r2,er2,H⟩ := bs H
   refine vA [.rd,.rd] (zKJ n x0.F r1 r2 er2) ?_
   refine uA 1 6 4 ?_
   refine tS ?_
   refine gA 2 8388614 4 ?_
   obtain ⟨h3,H⟩ | ⟨h3,H⟩ := bC H
   ·refine nA h3 ?_
    refine tK ?_
    refine rA 3 ?_
    obtain ⟨r3,er3,H⟩ := bs H
    refine vA [.rd,.rd] (zK2 n x0.V r2 r3 er3) ?_
    refine uA 1 2 0 ?_
    refine tS ?_
    refine gA 2 536870914 0 ?_
    obtain ⟨h4,H⟩ | ⟨h4,H⟩ := bC H
    ·refine nA h4 ?_
     refine tK ?_
     refine gA 2 16 0 ?_
     exact te (by obtain rfl := si H; exact fP [(false,[cI r3])])
    refine tA h4 ?_
    refine gA 1 16 0 ?_
    exact te (by obtain rfl := si H; exact fP [(false,[cI (-1)])])
   refine tA h3 ?_
   refine gA 1 16 0 ?_
   exact te (by obtain rfl := si H; exact fP [(false,[cI (-1)])])
  refine tA h2 ?_
  refine gA 1 16 0 ?_
  exact te (by obtain rfl := si H; exact fP [(false,[cI (-1)])])
 refine tA h1 ?_
 refine gA 1 16 0 ?_
 exact te (by obtain rfl := si H; exact fP [(false,[cI (-1)])])
def JB (n : Nat) (y3 : Int) : Option (Int) :=
  (some y3)
def Zj (n : Nat) : Nat → (List zA) → Int → Int → Option ((Int) ⊕ (Int))
  | 0,_,_,_ => none
  | mo4 + 1,x0,y1,y2 => (bif (decide (y1 < (x0.length : Int))) then ((idx x0 y1).bind fun v5 => ((YA n v5 y2).bind fun r6 => (bif (decide (r6 < 0)) then (some (Sum.inr (-1))) else (Zj n mo4 x0 (IntKind.wrap .i64 (y1 + 1)) r6)))) else (some (Sum.inl y2)))
def Yr (n : Nat) (x0 : (List zA)) (x1 : Int) : Option (Int) :=
  (bif (decide ((IntKind.wrap .i64 (x1 - (x0.length : Int))) < 0)) then (some (-1)) else ((Zj n n x0 0 (IntKind.wrap .i64 (x1 - (x0.length : Int)))).bind fun o => match o with | .inl y3 => (JB n y3) | .inr r => some r))
theorem zIi (n : Nat) (x0 : (List zA)) (x1 : Int) (r : Int) (H : Yr n x0 x1 = some r) : zD Tryz.prog 103 [.val false [.sl false 11 (CV.frzEs (x0.map zA.row))],.val false [.lit (.int .i64 x1)]] [.val false [.lit (.int .i64 r)]] [] := by
 refine cA Tryz.func103 (.seq (Rg Tryz.f103 0) (.seq (Rg Tryz.f103 1) (.seq (.seq (Rg Tryz.f103 2) (.cond (.tmp 11) (.seq (Rg Tryz.f103 3) .ret) .skip)) (.seq (.seq (Rg Tryz.f103 4) (.block 0 (.loop (.seq (.seq (Rg Tryz.f103 5) (.cond (.tmp 15) .skip (.exit 0))) (.seq (.block 1 (.seq (Rg Tryz.f103 7) (.seq (Rg Tryz.f103 8) (.cond (.tmp 25) (.seq (Rg Tryz.f103 9) .ret) .skip)))) (Rg Tryz.f103 6)))))) (.seq (Rg Tryz.f103 10) .ret))))) [.tmp 4] fun cx => ?_
 unfold Yr at H
 refine gA 1 3 0 ?_
 refine rA 2 ?_
 refine kF x0 zA.row ?_
 refine uA 2 3 0 ?_
 refine tS ?_
 refine gA 2 2051 0 ?_
 obtain ⟨h1,H⟩ | ⟨h1,H⟩ := bC H
 ·refine nA h1 ?_
  refine tK ?_
  refine tS ?_
  refine gA 1 35 0 ?_
  obtain ⟨o4,eo4,Ho4⟩ := bs H
  clear H
  refine Tr.mid (ι := Int) (fun v => ⟨27,0,[sI 1 v],[]⟩) (fun v => JB n v = some r) ?_ ?_
  ·refine tB ?_
   refine Tr.loop (ι := Nat × (Int × Int)) (fun v => ⟨27,0,[sI 5 v.2.1,sI 1 v.2.2,sC 0 (cF 11 x0 zA.row)],[]⟩) (fun v => Zj n v.1 x0 v.2.1 v.2.2 = some o4) (fun v => v.1) (n,(0,(IntKind.wrap .i64 (x1 - (x0.length : Int))))) eo4 (St.sub_of [5,1,0] [] kr) ?_
   rintro ⟨mo4,y1,y2⟩ H
   have H : Zj n mo4 x0 y1 y2 = some o4 := H
   obtain _ | mo4 := mo4
   ·exact nN H
   rw [Zj] at H
   refine tS ?_
   refine rA 2 ?_
   refine kF x0 zA.row ?_
   refine uA 1 32803 0 ?_
   obtain ⟨h2,H⟩ | ⟨h2,H⟩ := bC H
   ·refine nA h2 ?_
    refine Tr.exit ?_
    refine And.intro (fun _ => ?_) (fun h => absurd rfl h)
    obtain rfl := si H
    have H := Ho4
    dsimp only at H
    exact jA y2 H [1] []
   refine tA h2 ?_
   refine tK ?_
   refine tS ?_
   refine tB ?_
   refine rA 2 ?_
   obtain ⟨v5,ev5,H⟩ := bs H
   refine iA zA.row ev5 ?_
   refine lA 2 ?_
   obtain ⟨r6,er6,H⟩ := bs H
   refine vA [.rd,.rd] (zJf n v5 y2 r6 er6) ?_
   refine uA 1 35 0 ?_
   refine gA 2 33554467 0 ?_
   obtain ⟨h3,H⟩ | ⟨h3,H⟩ := bC H
   ·refine nA h3 ?_
    refine tK ?_
    refine eA 3 35 0 ?_
    exact jB mo4 ((IntKind.wrap .i64 (y1 + 1)),r6) H [5,1,0] []
   refine tA h3 ?_
   refine gA 1 16 0 ?_
   refine te ?_
   obtain rfl := si H
   have H := Ho4
   dsimp only at H
   obtain rfl := si H
   exact fP [(false,[cI (-1)])]
  rintro y3 H
  have H : (JB n y3) = some r := H
  unfold JB at H
  refine gA 2 16 0 ?_
  exact te (by obtain rfl := si H; exact fP [(false,[cI y3])])
 refine tA h1 ?_
 refine gA 1 16 0 ?_
 exact te (by obtain rfl := si H; exact fP [(false,[cI (-1)])])
def zBe (n : Nat) (x0 : (List Link)) (x1 : Int) : Option (Int) :=
  (bif (decide ((IntKind.wrap .i64 (x1 - (x0.length : Int))) < 0)) then (some (-1)) else (some (IntKind.wrap .i64 (x1 - (x0.length : Int)))))
theorem zKK (n : Nat) (x0 : (List Link)) (x1 : Int) (r : Int) (H : zBe n x0 x1 = some r) : zD Tryz.prog 104 [.val false [.sl false 4 (CV.frzEs (x0.map Link.row))],.val false [.lit (.int .i64 x1)]] [.val false [.lit (.int .i64 r)]] [] := by
 refine cA Tryz.func104 (.seq (Rg Tryz.f104 0) (.seq (Rg Tryz.f104 1) (.seq (.seq (Rg Tryz.f104 2) (.cond (.tmp 10) (.seq (Rg Tryz.f104 3) .ret) .skip)) (.seq (Rg Tryz.f104 4) .ret)))) [.tmp 4] fun cx => ?_
 unfold zBe at H
 refine gA 1 3 0 ?_
 refine rA 2 ?_
 refine kF x0 Link.row ?_
 refine uA 2 2 0 ?_
 refine tS ?_
 refine gA 2 1026 0 ?_
 obtain ⟨h1,H⟩ | ⟨h1,H⟩ := bC H
 ·refine nA h1 ?_
  refine tK ?_
  refine gA 2 16 0 ?_
  exact te (by obtain rfl := si H; exact fP [(false,[cI (IntKind.wrap .i64 (x1 - (x0.length : Int)))])])
 refine tA h1 ?_
 refine gA 1 16 0 ?_
 exact te (by obtain rfl := si H; exact fP [(false,[cI (-1)])])
def zB4 (n : Nat) (x0 : (List Say)) (x1 : Int) : Option (Int) :=
  (bif (decide ((IntKind.wrap .i64 (x1 - (x0.length : Int))) < 0)) then (some (-1)) else (some (IntKind.wrap .i64 (x1 - (x0.length : Int)))))
theorem zK1 (n : Nat) (x0 : (List Say)) (x1 : Int) (r : Int) (H : zB4 n x0 x1 = some r) : zD Tryz.prog 105 [.val false [.sl false 7 (CV.frzEs (x0.map Say.row))],.val false [.lit (.int .i64 x1)]] [.val false [.lit (.int .i64 r)]] [] := by
 refine cA Tryz.func105 (.seq (Rg Tryz.f105 0) (.seq (Rg Tryz.f105 1) (.seq (.seq (Rg Tryz.f105 2) (.cond (.tmp 10) (.seq (Rg Tryz.f105 3) .ret) .skip)) (.seq (Rg Tryz.f105 4) .ret)))) [.tmp 4] fun cx => ?_
 unfold zB4 at H
 refine gA 1 3 0 ?_
 refine rA 2 ?_
 refine kF x0 Say.row ?_
 refine uA 2 2 0 ?_
 refine tS ?_
 refine gA 2 1026 0 ?_
 obtain ⟨h1,H⟩ | ⟨h1,H⟩ := bC H
 ·refine nA h1 ?_
  refine tK ?_
  refine gA 2 16 0 ?_
  exact te (by obtain rfl := si H; exact fP [(false,[cI (IntKind.wrap .i64 (x1 - (x0.length : Int)))])])
 refine tA h1 ?_
 refine gA 1 16 0 ?_
 exact te (by obtain rfl := si H; exact fP [(false,[cI (-1)])])
def zBN (n : Nat) (x0 : Net) (x1 : Int) : Option (Int) :=
  ((Yr n x0.Bs x1).bind fun r1 => (bif (decide (r1 < 0)) then (some (-1)) else ((zBe n x0.Ls r1).bind fun r2 => (bif (decide (r2 < 0)) then (some (-1)) else ((zB4 n x0.Said r2).bind fun r3 => (bif (decide (r3 < 0)) then (some (-1)) else (some r3)))))))
theorem zLz (n : Nat) (x0 : Net) (x1 : Int) (r : Int) (H : zBN n x0 x1 = some r) : zD Tryz.prog 23 [.val true (CV.frzRow (Net.row x0)),.val false [.lit (.int .i64 x1)]] [.val false [.lit (.int .i64 r)]] [] := by
 refine cA Tryz.func23 (.seq (Rg Tryz.f23 0) (.seq (Rg Tryz.f23 1) (.seq (.seq (Rg Tryz.f23 2) (.cond (.tmp 10) (.seq (Rg Tryz.f23 3) .ret) .skip)) (.seq (Rg Tryz.f23 4) (.seq (.seq (Rg Tryz.f23 5) (.cond (.tmp 16) (.seq (Rg Tryz.f23 6) .ret) .skip)) (.seq (Rg Tryz.f23 7) (.seq (.seq (Rg Tryz.f23 8) (.cond (.tmp 22) (.seq (Rg Tryz.f23 9) .ret) .skip)) (.seq (Rg Tryz.f23 10) .ret)))))))) [.tmp 4] fun cx => ?_
 unfold zBN at H
 refine gA 2 6 4 ?_
 refine rA 3 ?_
 obtain ⟨r1,er1,H⟩ := bs H
 refine vA [.rd,.rd] (zIi n x0.Bs x1 r1 er1) ?_
 refine uA 1 6 4 ?_
 refine tS ?_
 refine gA 2 1030 4 ?_
 obtain ⟨h1,H⟩ | ⟨h1,H⟩ := bC H
 ·refine nA h1 ?_
  refine tK ?_
  refine rA 3 ?_
  obtain ⟨r2,er2,H⟩ := bs H
  refine vA [.rd,.rd] (zKK n x0.Ls r1 r2 er2) ?_
  refine uA 1 6 4 ?_
  refine tS ?_
  refine gA 2 65542 4 ?_
  obtain ⟨h2,H⟩ | ⟨h2,H⟩ := bC H
  ·refine nA h2 ?_
   refine tK ?_
   refine rA 3 ?_
   obtain ⟨r3,er3,H⟩ := bs H
   refine vA [.rd,.rd] (zK1 n x0.Said r2 r3 er3) ?_
   refine uA 1 2 0 ?_
   refine tS ?_
   refine gA 2 4194306 0 ?_
   obtain ⟨h3,H⟩ | ⟨h3,H⟩ := bC H
   ·refine nA h3 ?_
    refine tK ?_
    refine gA 2 16 0 ?_
    exact te (by obtain rfl := si H; exact fP [(false,[cI r3])])
   refine tA h3 ?_
   refine gA 1 16 0 ?_
   exact te (by obtain rfl := si H; exact fP [(false,[cI (-1)])])
  refine tA h2 ?_
  refine gA 1 16 0 ?_
  exact te (by obtain rfl := si H; exact fP [(false,[cI (-1)])])
 refine tA h1 ?_
 refine gA 1 16 0 ?_
 exact te (by obtain rfl := si H; exact fP [(false,[cI (-1)])])
def zCc (n : Nat) (x0 : Vec) : Option (Vec) :=
  (some x0)
theorem zH0 (n : Nat) (x0 : Vec) (r : Vec) (H : zCc n x0 = some r) : zD Tryz.prog 234 [.val true (CV.frzRow (Vec.row x0))] [.val true (Vec.row r)] [] := by
 refine cA Tryz.func234 (.seq (Rg Tryz.f234 0) (.seq (Rg Tryz.f234 1) (.seq (Rg Tryz.f234 2) (.seq (Rg Tryz.f234 3) (.seq (Rg Tryz.f234 4) (.seq (Rg Tryz.f234 5) (.seq (Rg Tryz.f234 6) (.seq (Rg Tryz.f234 7) .ret)))))))) [.cell 2 165] fun cx => ?_
 unfold zCc at H
 refine gA 2 6 6 ?_
 refine gA 1 14 14 ?_
 refine gA 4 14 14 ?_
 refine gA 4 14 14 ?_
 refine gA 4 14 14 ?_
 refine gA 4 14 14 ?_
 refine gA 4 12 12 ?_
 refine gA 2 4 4 ?_
 exact te (by obtain rfl := si H; exact fP [(true,(Vec.row x0))])
def zEy (n : Nat) (x0 : Pt) : Option (Pt) :=
  ((zCc n x0.Hd).bind fun r1 => (some (⟨x0.Up,x0.Co,x0.Has,r1⟩ : Pt)))
theorem zMb (n : Nat) (x0 : Pt) (r : Pt) (H : zEy n x0 = some r) : zD Tryz.prog 177 [.val true (CV.frzRow (Pt.row x0))] [.val true (Pt.row r)] [] := by
 refine cA Tryz.func177 (.seq (Rg Tryz.f177 0) (.seq (Rg Tryz.f177 1) (.seq (Rg Tryz.f177 2) (.seq (Rg Tryz.f177 3) (.seq (Rg Tryz.f177 4) (.seq (Rg Tryz.f177 5) (.seq (Rg Tryz.f177 6) .ret))))))) [.cell 2 167] fun cx => ?_
 unfold zEy at H
 refine gA 2 6 6 ?_
 refine gA 1 14 14 ?_
 refine gA 4 14 14 ?_
 refine gA 4 14 14 ?_
 refine gA 4 14 14 ?_
 refine rA 2 ?_
 obtain ⟨r1,er1,H⟩ := bs H
 refine vA [.rd] (zH0 n x0.Hd r1 er1) ?_
 refine uA 2 12 12 ?_
 refine gA 2 4 4 ?_
 exact te (by obtain rfl := si H; exact fP [(true,[cB x0.Up,cI x0.Co,cB x0.Has,cI r1.Root,cI r1.Co,cI r1.Hops,cI r1.Bridge,cI r1.Port])])
def zBg (n : Nat) (y4 : (List Pt)) : Option ((List Pt)) :=
  (some y4)
def Qr (n : Nat) : Nat → (List Pt) → Int → (List Pt) → Option (((List Pt)) ⊕ ((List Pt)))
  | 0,_,_,_ => none
  | mo5 + 1,x0,y2,y3 => (bif (decide (y2 < (x0.length : Int))) then ((idx x0 y2).bind fun v6 => ((zEy n v6).bind fun r7 => ((idx y3 y2).bind fun v8 => (Qr n mo5 x0 (IntKind.wrap .i64 (y2 + 1)) (y3.set (y2.toNat) r7))))) else (some (Sum.inl y3)))
def zBO (n : Nat) (x0 : (List Pt)) : Option ((List Pt)) :=
  (bif (decide (0 ≤ (x0.length : Int)) && decide ((x0.length : Int) ≤ 268435456)) then ((Qr n n x0 0 (List.replicate ((x0.length : Int)).toNat (⟨false,0,false,(⟨0,0,0,0,0⟩ : Vec)⟩ : Pt))).bind fun o => match o with | .inl y4 => (zBg n y4) | .inr r => some r) else none)
theorem zL1 (n : Nat) (x0 : (List Pt)) (r : (List Pt)) (H : zBO n x0 = some r) : zD Tryz.prog 79 [.val false [.sl false 8 (CV.frzEs (x0.map Pt.row))]] [.val false [.sl true 8 (r.map Pt.row)]] [] := by
 refine cA Tryz.func79 (.seq (Rg Tryz.f79 0) (.seq (Rg Tryz.f79 1) (.seq (.seq (Rg Tryz.f79 2) (.block 0 (.loop (.seq (.seq (Rg Tryz.f79 3) (.cond (.tmp 11) .skip (.exit 0))) (.seq (.block 1 (Rg Tryz.f79 5)) (Rg Tryz.f79 4)))))) (.seq (Rg Tryz.f79 6) .ret)))) [.tmp 2] fun cx => ?_
 unfold zBO at H
 refine gA 1 1 0 ?_
 refine rA 1 ?_
 refine kF x0 Pt.row ?_
 obtain ⟨hg1,H⟩ := gs H
 refine LAt.makeG tOk (t := 35) (ty := 35) (e := 167) (x := (.tmp 6)) (d := 7) (g := none) (tI 167) (x0.length : Int) ((List.replicate ((x0.length : Int)).toNat (⟨false,0,false,(⟨0,0,0,0,0⟩ : Vec)⟩ : Pt)).map Pt.row) _ kr kr kr kr kr kr hg1 kr (zCS _ rfl) rfl ?_
 refine LAt.moveU (T := lk tab) (ty := 35) (x := (.tmp 7)) (d := 3) (g := none) false [cL 8 (List.replicate ((x0.length : Int)).toNat (⟨false,0,false,(⟨0,0,0,0,0⟩ : Vec)⟩ : Pt)) Pt.row] kr kr kr kr kr ?_
 refine dA 9 0 ?_
 refine tS ?_
 refine gA 1 25 0 ?_
 obtain ⟨o5,eo5,Ho5⟩ := bs H
 clear H
 refine Tr.mid (ι := (List Pt)) (fun v => ⟨23,0,[sC 3 (cL 8 v Pt.row)],[]⟩) (fun v => zBg n v = some r) ?_ ?_
 ·refine tB ?_
  refine Tr.loop (ι := Nat × (Int × (List Pt))) (fun v => ⟨23,0,[sI 4 v.2.1,sC 3 (cL 8 v.2.2 Pt.row),sC 0 (cF 8 x0 Pt.row)],[]⟩) (fun v => Qr n v.1 x0 v.2.1 v.2.2 = some o5) (fun v => v.1) (n,(0,(List.replicate ((x0.length : Int)).toNat (⟨false,0,false,(⟨0,0,0,0,0⟩ : Vec)⟩ : Pt)))) eo5 (St.sub_of [4,3,0] [] kr) ?_
  rintro ⟨mo5,y2,y3⟩ H
  have H : Qr n mo5 x0 y2 y3 = some o5 := H
  obtain _ | mo5 := mo5
  ·exact nN H
  rw [Qr] at H
  refine tS ?_
  refine rA 2 ?_
  refine kF x0 Pt.row ?_
  refine uA 1 2073 0 ?_
  obtain ⟨h1,H⟩ | ⟨h1,H⟩ := bC H
  ·refine nA h1 ?_
   refine Tr.exit ?_
   refine And.intro (fun _ => ?_) (fun h => absurd rfl h)
   obtain rfl := si H
   have H := Ho5
   dsimp only at H
   exact jA y3 H [3] []
  refine tA h1 ?_
  refine tK ?_
  refine tS ?_
  refine tB ?_
  refine Tr.at ?_
  refine lA 4 ?_
  obtain ⟨v6,ev6,H⟩ := bs H
  refine iA Pt.row ev6 ?_
  refine lA 1 ?_
  obtain ⟨r7,er7,H⟩ := bs H
  refine vA [.rd] (zMb n v6 r7 er7) ?_
  obtain ⟨v8,ev8,H⟩ := bs H
  refine oA Pt.row ev8 ?_
  refine sS (tI 167) true (Pt.row r7) 3 0 (y2.toNat) 8 0 8 Pt.row r7 (zI ev8).2 ?_
  refine dA 25 0 ?_
  refine eA 3 25 0 ?_
  exact jB mo5 ((IntKind.wrap .i64 (y2 + 1)),(y3.set (y2.toNat) r7)) H [4,3,0] []
 rintro y4 H
 have H : (zBg n y4) = some r := H
 unfold zBg at H
 refine gA 2 12 0 ?_
 exact te (by obtain rfl := si H; exact fP [(false,[cL 8 y4 Pt.row])])
def zDs (n : Nat) (x0 : zB) : Option (zB) :=
  (some x0)
theorem zK3 (n : Nat) (x0 : zB) (r : zB) (H : zDs n x0 = some r) : zD Tryz.prog 178 [.val true (CV.frzRow (zB.row x0))] [.val true (zB.row r)] [] := by
 refine cA Tryz.func178 (.seq (Rg Tryz.f178 0) (.seq (Rg Tryz.f178 1) (.seq (Rg Tryz.f178 2) (.seq (Rg Tryz.f178 3) (.seq (Rg Tryz.f178 4) (.seq (Rg Tryz.f178 5) (.seq (Rg Tryz.f178 6) (.seq (Rg Tryz.f178 7) .ret)))))))) [.cell 2 169] fun cx => ?_
 unfold zDs at H
 refine gA 2 6 6 ?_
 refine gA 1 14 14 ?_
 refine gA 4 14 14 ?_
 refine gA 4 14 14 ?_
 refine gA 4 14 14 ?_
 refine gA 4 14 14 ?_
 refine gA 4 12 12 ?_
 refine gA 2 4 4 ?_
 exact te (by obtain rfl := si H; exact fP [(true,(zB.row x0))])
def zAO (n : Nat) (y4 : (List zB)) : Option ((List zB)) :=
  (some y4)
def QM (n : Nat) : Nat → (List zB) → Int → (List zB) → Option (((List zB)) ⊕ ((List zB)))
  | 0,_,_,_ => none
  | mo5 + 1,x0,y2,y3 => (bif (decide (y2 < (x0.length : Int))) then ((idx x0 y2).bind fun v6 => ((zDs n v6).bind fun r7 => ((idx y3 y2).bind fun v8 => (QM n mo5 x0 (IntKind.wrap .i64 (y2 + 1)) (y3.set (y2.toNat) r7))))) else (some (Sum.inl y3)))
def J2 (n : Nat) (x0 : (List zB)) : Option ((List zB)) :=
  (bif (decide (0 ≤ (x0.length : Int)) && decide ((x0.length : Int) ≤ 268435456)) then ((QM n n x0 0 (List.replicate ((x0.length : Int)).toNat (⟨0,0,0,0,false⟩ : zB))).bind fun o => match o with | .inl y4 => (zAO n y4) | .inr r => some r) else none)
theorem zKM (n : Nat) (x0 : (List zB)) (r : (List zB)) (H : J2 n x0 = some r) : zD Tryz.prog 80 [.val false [.sl false 5 (CV.frzEs (x0.map zB.row))]] [.val false [.sl true 5 (r.map zB.row)]] [] := by
 refine cA Tryz.func80 (.seq (Rg Tryz.f80 0) (.seq (Rg Tryz.f80 1) (.seq (.seq (Rg Tryz.f80 2) (.block 0 (.loop (.seq (.seq (Rg Tryz.f80 3) (.cond (.tmp 11) .skip (.exit 0))) (.seq (.block 1 (Rg Tryz.f80 5)) (Rg Tryz.f80 4)))))) (.seq (Rg Tryz.f80 6) .ret)))) [.tmp 2] fun cx => ?_
 unfold J2 at H
 refine gA 1 1 0 ?_
 refine rA 1 ?_
 refine kF x0 zB.row ?_
 obtain ⟨hg1,H⟩ := gs H
 refine LAt.makeG tOk (t := 36) (ty := 36) (e := 169) (x := (.tmp 6)) (d := 7) (g := none) (tI 169) (x0.length : Int) ((List.replicate ((x0.length : Int)).toNat (⟨0,0,0,0,false⟩ : zB)).map zB.row) _ kr kr kr kr kr kr hg1 kr (zCS _ rfl) rfl ?_
 refine LAt.moveU (T := lk tab) (ty := 36) (x := (.tmp 7)) (d := 3) (g := none) false [cL 5 (List.replicate ((x0.length : Int)).toNat (⟨0,0,0,0,false⟩ : zB)) zB.row] kr kr kr kr kr ?_
 refine dA 9 0 ?_
 refine tS ?_
 refine gA 1 25 0 ?_
 obtain ⟨o5,eo5,Ho5⟩ := bs H
 clear H
 refine Tr.mid (ι := (List zB)) (fun v => ⟨23,0,[sC 3 (cL 5 v zB.row)],[]⟩) (fun v => zAO n v = some r) ?_ ?_
 ·refine tB ?_
  refine Tr.loop (ι := Nat × (Int × (List zB))) (fun v => ⟨23,0,[sI 4 v.2.1,sC 3 (cL 5 v.2.2 zB.row),sC 0 (cF 5 x0 zB.row)],[]⟩) (fun v => QM n v.1 x0 v.2.1 v.2.2 = some o5) (fun v => v.1) (n,(0,(List.replicate ((x0.length : Int)).toNat (⟨0,0,0,0,false⟩ : zB)))) eo5 (St.sub_of [4,3,0] [] kr) ?_
  rintro ⟨mo5,y2,y3⟩ H
  have H : QM n mo5 x0 y2 y3 = some o5 := H
  obtain _ | mo5 := mo5
  ·exact nN H
  rw [QM] at H
  refine tS ?_
  refine rA 2 ?_
  refine kF x0 zB.row ?_
  refine uA 1 2073 0 ?_
  obtain ⟨h1,H⟩ | ⟨h1,H⟩ := bC H
  ·refine nA h1 ?_
   refine Tr.exit ?_
   refine And.intro (fun _ => ?_) (fun h => absurd rfl h)
   obtain rfl := si H
   have H := Ho5
   dsimp only at H
   exact jA y3 H [3] []
  refine tA h1 ?_
  refine tK ?_
  refine tS ?_
  refine tB ?_
  refine Tr.at ?_
  refine lA 4 ?_
  obtain ⟨v6,ev6,H⟩ := bs H
  refine iA zB.row ev6 ?_
  refine lA 1 ?_
  obtain ⟨r7,er7,H⟩ := bs H
  refine vA [.rd] (zK3 n v6 r7 er7) ?_
  obtain ⟨v8,ev8,H⟩ := bs H
  refine oA zB.row ev8 ?_
  refine sS (tI 169) true (zB.row r7) 3 0 (y2.toNat) 5 0 5 zB.row r7 (zI ev8).2 ?_
  refine dA 25 0 ?_
  refine eA 3 25 0 ?_
  exact jB mo5 ((IntKind.wrap .i64 (y2 + 1)),(y3.set (y2.toNat) r7)) H [4,3,0] []
 rintro y4 H
 have H : (zAO n y4) = some r := H
 unfold zAO at H
 refine gA 2 12 0 ?_
 exact te (by obtain rfl := si H; exact fP [(false,[cL 5 y4 zB.row])])
def zDt (n : Nat) (x0 : zC) : Option (zC) :=
  (some x0)
theorem zK7 (n : Nat) (x0 : zC) (r : zC) (H : zDt n x0 = some r) : zD Tryz.prog 235 [.val true (CV.frzRow (zC.row x0))] [.val true (zC.row r)] [] := by
 refine cA Tryz.func235 (.seq (Rg Tryz.f235 0) (.seq (Rg Tryz.f235 1) (.seq (Rg Tryz.f235 2) (.seq (Rg Tryz.f235 3) (.seq (Rg Tryz.f235 4) (.seq (Rg Tryz.f235 5) .ret)))))) [.cell 2 175] fun cx => ?_
 unfold zDt at H
 refine gA 2 6 6 ?_
 refine gA 1 14 14 ?_
 refine gA 4 14 14 ?_
 refine gA 4 14 14 ?_
 refine gA 4 12 12 ?_
 refine gA 2 4 4 ?_
 exact te (by obtain rfl := si H; exact fP [(true,(zC.row x0))])
def zAQ (n : Nat) (y4 : (List zC)) : Option ((List zC)) :=
  (some y4)
def QO (n : Nat) : Nat → (List zC) → Int → (List zC) → Option (((List zC)) ⊕ ((List zC)))
  | 0,_,_,_ => none
  | mo5 + 1,x0,y2,y3 => (bif (decide (y2 < (x0.length : Int))) then ((idx x0 y2).bind fun v6 => ((zDt n v6).bind fun r7 => ((idx y3 y2).bind fun v8 => (QO n mo5 x0 (IntKind.wrap .i64 (y2 + 1)) (y3.set (y2.toNat) r7))))) else (some (Sum.inl y3)))
def J4 (n : Nat) (x0 : (List zC)) : Option ((List zC)) :=
  (bif (decide (0 ≤ (x0.length : Int)) && decide ((x0.length : Int) ≤ 268435456)) then ((QO n n x0 0 (List.replicate ((x0.length : Int)).toNat (⟨0,0,0⟩ : zC))).bind fun o => match o with | .inl y4 => (zAQ n y4) | .inr r => some r) else none)
theorem zKO (n : Nat) (x0 : (List zC)) (r : (List zC)) (H : J4 n x0 = some r) : zD Tryz.prog 179 [.val false [.sl false 3 (CV.frzEs (x0.map zC.row))]] [.val false [.sl true 3 (r.map zC.row)]] [] := by
 refine cA Tryz.func179 (.seq (Rg Tryz.f179 0) (.seq (Rg Tryz.f179 1) (.seq (.seq (Rg Tryz.f179 2) (.block 0 (.loop (.seq (.seq (Rg Tryz.f179 3) (.cond (.tmp 11) .skip (.exit 0))) (.seq (.block 1 (Rg Tryz.f179 5)) (Rg Tryz.f179 4)))))) (.seq (Rg Tryz.f179 6) .ret)))) [.tmp 2] fun cx => ?_
 unfold J4 at H
 refine gA 1 1 0 ?_
 refine rA 1 ?_
 refine kF x0 zC.row ?_
 obtain ⟨hg1,H⟩ := gs H
 refine LAt.makeG tOk (t := 37) (ty := 37) (e := 175) (x := (.tmp 6)) (d := 7) (g := none) (tI 175) (x0.length : Int) ((List.replicate ((x0.length : Int)).toNat (⟨0,0,0⟩ : zC)).map zC.row) _ kr kr kr kr kr kr hg1 kr (zCS _ rfl) rfl ?_
 refine LAt.moveU (T := lk tab) (ty := 37) (x := (.tmp 7)) (d := 3) (g := none) false [cL 3 (List.replicate ((x0.length : Int)).toNat (⟨0,0,0⟩ : zC)) zC.row] kr kr kr kr kr ?_
 refine dA 9 0 ?_
 refine tS ?_
 refine gA 1 25 0 ?_
 obtain ⟨o5,eo5,Ho5⟩ := bs H
 clear H
 refine Tr.mid (ι := (List zC)) (fun v => ⟨23,0,[sC 3 (cL 3 v zC.row)],[]⟩) (fun v => zAQ n v = some r) ?_ ?_
 ·refine tB ?_
  refine Tr.loop (ι := Nat × (Int × (List zC))) (fun v => ⟨23,0,[sI 4 v.2.1,sC 3 (cL 3 v.2.2 zC.row),sC 0 (cF 3 x0 zC.row)],[]⟩) (fun v => QO n v.1 x0 v.2.1 v.2.2 = some o5) (fun v => v.1) (n,(0,(List.replicate ((x0.length : Int)).toNat (⟨0,0,0⟩ : zC)))) eo5 (St.sub_of [4,3,0] [] kr) ?_
  rintro ⟨mo5,y2,y3⟩ H
  have H : QO n mo5 x0 y2 y3 = some o5 := H
  obtain _ | mo5 := mo5
  ·exact nN H
  rw [QO] at H
  refine tS ?_
  refine rA 2 ?_
  refine kF x0 zC.row ?_
  refine uA 1 2073 0 ?_
  obtain ⟨h1,H⟩ | ⟨h1,H⟩ := bC H
  ·refine nA h1 ?_
   refine Tr.exit ?_
   refine And.intro (fun _ => ?_) (fun h => absurd rfl h)
   obtain rfl := si H
   have H := Ho5
   dsimp only at H
   exact jA y3 H [3] []
  refine tA h1 ?_
  refine tK ?_
  refine tS ?_
  refine tB ?_
  refine Tr.at ?_
  refine lA 4 ?_
  obtain ⟨v6,ev6,H⟩ := bs H
  refine iA zC.row ev6 ?_
  refine lA 1 ?_
  obtain ⟨r7,er7,H⟩ := bs H
  refine vA [.rd] (zK7 n v6 r7 er7) ?_
  obtain ⟨v8,ev8,H⟩ := bs H
  refine oA zC.row ev8 ?_
  refine sS (tI 175) true (zC.row r7) 3 0 (y2.toNat) 3 0 3 zC.row r7 (zI ev8).2 ?_
  refine dA 25 0 ?_
  refine eA 3 25 0 ?_
  exact jB mo5 ((IntKind.wrap .i64 (y2 + 1)),(y3.set (y2.toNat) r7)) H [4,3,0] []
 rintro y4 H
 have H : (zAQ n y4) = some r := H
 unfold zAQ at H
 refine gA 2 12 0 ?_
 exact te (by obtain rfl := si H; exact fP [(false,[cL 3 y4 zC.row])])
def zA5 (n : Nat) (y4 : (List Int)) : Option ((List Int)) :=
  (some y4)
def QY (n : Nat) : Nat → (List Int) → Int → (List Int) → Option (((List Int)) ⊕ ((List Int)))
  | 0,_,_,_ => none
  | mo5 + 1,x0,y2,y3 => (bif (decide (y2 < (x0.length : Int))) then ((idx x0 y2).bind fun v6 => ((idx y3 y2).bind fun v7 => (QY n mo5 x0 (IntKind.wrap .i64 (y2 + 1)) (y3.set (y2.toNat) v6)))) else (some (Sum.inl y3)))
def zAk (n : Nat) (x0 : (List Int)) : Option ((List Int)) :=
  (bif (decide (0 ≤ (x0.length : Int)) && decide ((x0.length : Int) ≤ 268435456)) then ((QY n n x0 0 (List.replicate ((x0.length : Int)).toNat 0)).bind fun o => match o with | .inl y4 => (zA5 n y4) | .inr r => some r) else none)
theorem zK4 (n : Nat) (x0 : (List Int)) (r : (List Int)) (H : zAk n x0 = some r) : zD Tryz.prog 180 [.val false [.sl false 1 (CV.frzEs (x0.map intRow))]] [.val false [.sl true 1 (r.map intRow)]] [] := by
 refine cA Tryz.func180 (.seq (Rg Tryz.f180 0) (.seq (Rg Tryz.f180 1) (.seq (.seq (Rg Tryz.f180 2) (.block 0 (.loop (.seq (.seq (Rg Tryz.f180 3) (.cond (.tmp 11) .skip (.exit 0))) (.seq (.block 1 (Rg Tryz.f180 5)) (Rg Tryz.f180 4)))))) (.seq (Rg Tryz.f180 6) .ret)))) [.tmp 2] fun cx => ?_
 unfold zAk at H
 refine gA 1 1 0 ?_
 refine rA 1 ?_
 refine kF x0 intRow ?_
 obtain ⟨hg1,H⟩ := gs H
 refine LAt.makeG tOk (t := 25) (ty := 25) (e := 3) (x := (.tmp 6)) (d := 7) (g := none) (tI 3) (x0.length : Int) ((List.replicate ((x0.length : Int)).toNat 0).map intRow) _ kr kr kr kr kr kr hg1 kr (zCS _ rfl) rfl ?_
 refine LAt.moveU (T := lk tab) (ty := 25) (x := (.tmp 7)) (d := 3) (g := none) false [cL 1 (List.replicate ((x0.length : Int)).toNat 0) intRow] kr kr kr kr kr ?_
 refine dA 9 0 ?_
 refine tS ?_
 refine gA 1 25 0 ?_
 obtain ⟨o5,eo5,Ho5⟩ := bs H
 clear H
 refine Tr.mid (ι := (List Int)) (fun v => ⟨22,0,[sC 3 (cL 1 v intRow)],[]⟩) (fun v => zA5 n v = some r) ?_ ?_
 ·refine tB ?_
  refine Tr.loop (ι := Nat × (Int × (List Int))) (fun v => ⟨22,0,[sI 4 v.2.1,sC 3 (cL 1 v.2.2 intRow),sC 0 (cF 1 x0 intRow)],[]⟩) (fun v => QY n v.1 x0 v.2.1 v.2.2 = some o5) (fun v => v.1) (n,(0,(List.replicate ((x0.length : Int)).toNat 0))) eo5 (St.sub_of [4,3,0] [] kr) ?_
  rintro ⟨mo5,y2,y3⟩ H
  have H : QY n mo5 x0 y2 y3 = some o5 := H
  obtain _ | mo5 := mo5
  ·exact nN H
  rw [QY] at H
  refine tS ?_
  refine rA 2 ?_
  refine kF x0 intRow ?_
  refine uA 1 2073 0 ?_
  obtain ⟨h1,H⟩ | ⟨h1,H⟩ := bC H
  ·refine nA h1 ?_
   refine Tr.exit ?_
   refine And.intro (fun _ => ?_) (fun h => absurd rfl h)
   obtain rfl := si H
   have H := Ho5
   dsimp only at H
   exact jA y3 H [3] []
  refine tA h1 ?_
  refine tK ?_
  refine tS ?_
  refine tB ?_
  refine Tr.at ?_
  refine lA 4 ?_
  obtain ⟨v6,ev6,H⟩ := bs H
  refine iA intRow ev6 ?_
  refine lA 1 ?_
  obtain ⟨v7,ev7,H⟩ := bs H
  refine oA intRow ev7 ?_
  refine sS (tI 3) false [cI v6] 3 0 (y2.toNat) 1 0 1 intRow v6 (zI ev7).2 ?_
  refine dA 25 0 ?_
  refine eA 3 25 0 ?_
  exact jB mo5 ((IntKind.wrap .i64 (y2 + 1)),(y3.set (y2.toNat) v6)) H [4,3,0] []
 rintro y4 H
 have H : (zA5 n y4) = some r := H
 unfold zA5 at H
 refine gA 2 12 0 ?_
 exact te (by obtain rfl := si H; exact fP [(false,[cL 1 y4 intRow])])
def zAm (n : Nat) (x0 : zF) : Option (zF) :=
  ((J4 n x0.Rows).bind fun r1 => ((zAk n x0.Pv).bind fun r2 => (some (⟨r1,r2⟩ : zF))))
theorem zK8 (n : Nat) (x0 : zF) (r : zF) (H : zAm n x0 = some r) : zD Tryz.prog 81 [.val true (CV.frzRow (zF.row x0))] [.val true (zF.row r)] [] := by
 refine cA Tryz.func81 (.seq (Rg Tryz.f81 0) (.seq (Rg Tryz.f81 1) (.seq (Rg Tryz.f81 2) (.seq (Rg Tryz.f81 3) (.seq (Rg Tryz.f81 4) .ret))))) [.cell 2 39] fun cx => ?_
 unfold zAm at H
 refine gA 2 6 6 ?_
 refine gA 1 14 14 ?_
 refine rA 2 ?_
 obtain ⟨r1,er1,H⟩ := bs H
 refine vA [.rd] (zKO n x0.Rows r1 er1) ?_
 refine uA 2 14 14 ?_
 refine rA 2 ?_
 obtain ⟨r2,er2,H⟩ := bs H
 refine vA [.rd] (zK4 n x0.Pv r2 er2) ?_
 refine uA 2 12 12 ?_
 refine gA 2 4 4 ?_
 exact te (by obtain rfl := si H; exact fP [(true,[cL 3 r1 zC.row,cL 1 r2 intRow])])
def YB (n : Nat) (x0 : zA) : Option (zA) :=
  ((zBO n x0.Ps).bind fun r1 => ((J2 n x0.F).bind fun r2 => ((zAm n x0.V).bind fun r3 => (some (⟨x0.Id,x0.Name,r1,r2,r3,x0.Tk,x0.Pa,x0.Wo,x0.Dr,x0.Ve⟩ : zA)))))
theorem zJg (n : Nat) (x0 : zA) (r : zA) (H : YB n x0 = some r) : zD Tryz.prog 12 [.val true (CV.frzRow (zA.row x0))] [.val true (zA.row r)] [] := by
 refine cA Tryz.func12 (.seq (Rg Tryz.f12 0) (.seq (Rg Tryz.f12 1) (.seq (Rg Tryz.f12 2) (.seq (Rg Tryz.f12 3) (.seq (Rg Tryz.f12 4) (.seq (Rg Tryz.f12 5) (.seq (Rg Tryz.f12 6) (.seq (Rg Tryz.f12 7) (.seq (Rg Tryz.f12 8) (.seq (Rg Tryz.f12 9) (.seq (Rg Tryz.f12 10) (.seq (Rg Tryz.f12 11) (.seq (Rg Tryz.f12 12) .ret))))))))))))) [.cell 2 41] fun cx => ?_
 unfold YB at H
 refine gA 2 6 6 ?_
 refine gA 1 14 14 ?_
 refine gA 4 14 14 ?_
 refine gA 4 14 14 ?_
 refine rA 2 ?_
 obtain ⟨r1,er1,H⟩ := bs H
 refine vA [.rd] (zL1 n x0.Ps r1 er1) ?_
 refine uA 2 14 14 ?_
 refine rA 2 ?_
 obtain ⟨r2,er2,H⟩ := bs H
 refine vA [.rd] (zKM n x0.F r2 er2) ?_
 refine uA 2 14 14 ?_
 refine rA 2 ?_
 obtain ⟨r3,er3,H⟩ := bs H
 refine vA [.rd] (zK8 n x0.V r3 er3) ?_
 refine uA 2 14 14 ?_
 refine gA 4 14 14 ?_
 refine gA 4 14 14 ?_
 refine gA 4 14 14 ?_
 refine gA 4 14 14 ?_
 refine gA 4 12 12 ?_
 refine gA 2 4 4 ?_
 exact te (by obtain rfl := si H; exact fP [(true,[cI x0.Id,cS x0.Name,cL 8 r1 Pt.row,cL 5 r2 zB.row,cL 3 r3.Rows zC.row,cL 1 r3.Pv intRow,cI x0.Tk,cI x0.Pa,cI x0.Wo,cI x0.Dr,cI x0.Ve])])
def JC (n : Nat) (y4 : (List zA)) : Option ((List zA)) :=
  (some y4)
def Zk (n : Nat) : Nat → (List zA) → Int → (List zA) → Option (((List zA)) ⊕ ((List zA)))
  | 0,_,_,_ => none
  | mo5 + 1,x0,y2,y3 => (bif (decide (y2 < (x0.length : Int))) then ((idx x0 y2).bind fun v6 => ((YB n v6).bind fun r7 => ((idx y3 y2).bind fun v8 => (Zk n mo5 x0 (IntKind.wrap .i64 (y2 + 1)) (y3.set (y2.toNat) r7))))) else (some (Sum.inl y3)))
def Ys (n : Nat) (x0 : (List zA)) : Option ((List zA)) :=
  (bif (decide (0 ≤ (x0.length : Int)) && decide ((x0.length : Int) ≤ 268435456)) then ((Zk n n x0 0 (List.replicate ((x0.length : Int)).toNat (⟨0,(⟨#[]⟩ : ByteArray),([] : List Pt),([] : List zB),(⟨([] : List zC),([] : List Int)⟩ : zF),0,0,0,0,0⟩ : zA))).bind fun o => match o with | .inl y4 => (JC n y4) | .inr r => some r) else none)
theorem zIl (n : Nat) (x0 : (List zA)) (r : (List zA)) (H : Ys n x0 = some r) : zD Tryz.prog 112 [.val false [.sl false 11 (CV.frzEs (x0.map zA.row))]] [.val false [.sl true 11 (r.map zA.row)]] [] := by
 refine cA Tryz.func112 (.seq (Rg Tryz.f112 0) (.seq (Rg Tryz.f112 1) (.seq (.seq (Rg Tryz.f112 2) (.block 0 (.loop (.seq (.seq (Rg Tryz.f112 3) (.cond (.tmp 11) .skip (.exit 0))) (.seq (.block 1 (Rg Tryz.f112 5)) (Rg Tryz.f112 4)))))) (.seq (Rg Tryz.f112 6) .ret)))) [.tmp 2] fun cx => ?_
 unfold Ys at H
 refine gA 1 1 0 ?_
 refine rA 1 ?_
 refine kF x0 zA.row ?_
 obtain ⟨hg1,H⟩ := gs H
 refine LAt.makeG tOk (t := 63) (ty := 63) (e := 41) (x := (.tmp 6)) (d := 7) (g := none) (tI 41) (x0.length : Int) ((List.replicate ((x0.length : Int)).toNat (⟨0,(⟨#[]⟩ : ByteArray),([] : List Pt),([] : List zB),(⟨([] : List zC),([] : List Int)⟩ : zF),0,0,0,0,0⟩ : zA)).map zA.row) _ kr kr kr kr kr kr hg1 kr (zCS _ rfl) rfl ?_
 refine LAt.moveU (T := lk tab) (ty := 63) (x := (.tmp 7)) (d := 3) (g := none) false [cL 11 (List.replicate ((x0.length : Int)).toNat (⟨0,(⟨#[]⟩ : ByteArray),([] : List Pt),([] : List zB),(⟨([] : List zC),([] : List Int)⟩ : zF),0,0,0,0,0⟩ : zA)) zA.row] kr kr kr kr kr ?_
 refine dA 9 0 ?_
 refine tS ?_
 refine gA 1 25 0 ?_
 obtain ⟨o5,eo5,Ho5⟩ := bs H
 clear H
 refine Tr.mid (ι := (List zA)) (fun v => ⟨23,0,[sC 3 (cL 11 v zA.row)],[]⟩) (fun v => JC n v = some r) ?_ ?_
 ·refine tB ?_
  refine Tr.loop (ι := Nat × (Int × (List zA))) (fun v => ⟨23,0,[sI 4 v.2.1,sC 3 (cL 11 v.2.2 zA.row),sC 0 (cF 11 x0 zA.row)],[]⟩) (fun v => Zk n v.1 x0 v.2.1 v.2.2 = some o5) (fun v => v.1) (n,(0,(List.replicate ((x0.length : Int)).toNat (⟨0,(⟨#[]⟩ : ByteArray),([] : List Pt),([] : List zB),(⟨([] : List zC),([] : List Int)⟩ : zF),0,0,0,0,0⟩ : zA)))) eo5 (St.sub_of [4,3,0] [] kr) ?_
  rintro ⟨mo5,y2,y3⟩ H
  have H : Zk n mo5 x0 y2 y3 = some o5 := H
  obtain _ | mo5 := mo5
  ·exact nN H
  rw [Zk] at H
  refine tS ?_
  refine rA 2 ?_
  refine kF x0 zA.row ?_
  refine uA 1 2073 0 ?_
  obtain ⟨h1,H⟩ | ⟨h1,H⟩ := bC H
  ·refine nA h1 ?_
   refine Tr.exit ?_
   refine And.intro (fun _ => ?_) (fun h => absurd rfl h)
   obtain rfl := si H
   have H := Ho5
   dsimp only at H
   exact jA y3 H [3] []
  refine tA h1 ?_
  refine tK ?_
  refine tS ?_
  refine tB ?_
  refine Tr.at ?_
  refine lA 4 ?_
  obtain ⟨v6,ev6,H⟩ := bs H
  refine iA zA.row ev6 ?_
  refine lA 1 ?_
  obtain ⟨r7,er7,H⟩ := bs H
  refine vA [.rd] (zJg n v6 r7 er7) ?_
  obtain ⟨v8,ev8,H⟩ := bs H
  refine oA zA.row ev8 ?_
  refine sS (tI 41) true (zA.row r7) 3 0 (y2.toNat) 11 0 11 zA.row r7 (zI ev8).2 ?_
  refine dA 25 0 ?_
  refine eA 3 25 0 ?_
  exact jB mo5 ((IntKind.wrap .i64 (y2 + 1)),(y3.set (y2.toNat) r7)) H [4,3,0] []
 rintro y4 H
 have H : (JC n y4) = some r := H
 unfold JC at H
 refine gA 2 12 0 ?_
 exact te (by obtain rfl := si H; exact fP [(false,[cL 11 y4 zA.row])])
def zB5 (n : Nat) (x0 : Link) : Option (Link) :=
  (some x0)
theorem zK5 (n : Nat) (x0 : Link) (r : Link) (H : zB5 n x0 = some r) : zD Tryz.prog 198 [.val true (CV.frzRow (Link.row x0))] [.val true (Link.row r)] [] := by
 refine cA Tryz.func198 (.seq (Rg Tryz.f198 0) (.seq (Rg Tryz.f198 1) (.seq (Rg Tryz.f198 2) (.seq (Rg Tryz.f198 3) (.seq (Rg Tryz.f198 4) (.seq (Rg Tryz.f198 5) (.seq (Rg Tryz.f198 6) .ret))))))) [.cell 2 114] fun cx => ?_
 unfold zB5 at H
 refine gA 2 6 6 ?_
 refine gA 1 14 14 ?_
 refine gA 4 14 14 ?_
 refine gA 4 14 14 ?_
 refine gA 4 14 14 ?_
 refine gA 4 12 12 ?_
 refine gA 2 4 4 ?_
 exact te (by obtain rfl := si H; exact fP [(true,(Link.row x0))])
def zAP (n : Nat) (y4 : (List Link)) : Option ((List Link)) :=
  (some y4)
def QN (n : Nat) : Nat → (List Link) → Int → (List Link) → Option (((List Link)) ⊕ ((List Link)))
  | 0,_,_,_ => none
  | mo5 + 1,x0,y2,y3 => (bif (decide (y2 < (x0.length : Int))) then ((idx x0 y2).bind fun v6 => ((zB5 n v6).bind fun r7 => ((idx y3 y2).bind fun v8 => (QN n mo5 x0 (IntKind.wrap .i64 (y2 + 1)) (y3.set (y2.toNat) r7))))) else (some (Sum.inl y3)))
def J3 (n : Nat) (x0 : (List Link)) : Option ((List Link)) :=
  (bif (decide (0 ≤ (x0.length : Int)) && decide ((x0.length : Int) ≤ 268435456)) then ((QN n n x0 0 (List.replicate ((x0.length : Int)).toNat (⟨0,0,0,0⟩ : Link))).bind fun o => match o with | .inl y4 => (zAP n y4) | .inr r => some r) else none)
theorem zKN (n : Nat) (x0 : (List Link)) (r : (List Link)) (H : J3 n x0 = some r) : zD Tryz.prog 113 [.val false [.sl false 4 (CV.frzEs (x0.map Link.row))]] [.val false [.sl true 4 (r.map Link.row)]] [] := by
 refine cA Tryz.func113 (.seq (Rg Tryz.f113 0) (.seq (Rg Tryz.f113 1) (.seq (.seq (Rg Tryz.f113 2) (.block 0 (.loop (.seq (.seq (Rg Tryz.f113 3) (.cond (.tmp 11) .skip (.exit 0))) (.seq (.block 1 (Rg Tryz.f113 5)) (Rg Tryz.f113 4)))))) (.seq (Rg Tryz.f113 6) .ret)))) [.tmp 2] fun cx => ?_
 unfold J3 at H
 refine gA 1 1 0 ?_
 refine rA 1 ?_
 refine kF x0 Link.row ?_
 obtain ⟨hg1,H⟩ := gs H
 refine LAt.makeG tOk (t := 64) (ty := 64) (e := 114) (x := (.tmp 6)) (d := 7) (g := none) (tI 114) (x0.length : Int) ((List.replicate ((x0.length : Int)).toNat (⟨0,0,0,0⟩ : Link)).map Link.row) _ kr kr kr kr kr kr hg1 kr (zCS _ rfl) rfl ?_
 refine LAt.moveU (T := lk tab) (ty := 64) (x := (.tmp 7)) (d := 3) (g := none) false [cL 4 (List.replicate ((x0.length : Int)).toNat (⟨0,0,0,0⟩ : Link)) Link.row] kr kr kr kr kr ?_
 refine dA 9 0 ?_
 refine tS ?_
 refine gA 1 25 0 ?_
 obtain ⟨o5,eo5,Ho5⟩ := bs H
 clear H
 refine Tr.mid (ι := (List Link)) (fun v => ⟨23,0,[sC 3 (cL 4 v Link.row)],[]⟩) (fun v => zAP n v = some r) ?_ ?_
 ·refine tB ?_
  refine Tr.loop (ι := Nat × (Int × (List Link))) (fun v => ⟨23,0,[sI 4 v.2.1,sC 3 (cL 4 v.2.2 Link.row),sC 0 (cF 4 x0 Link.row)],[]⟩) (fun v => QN n v.1 x0 v.2.1 v.2.2 = some o5) (fun v => v.1) (n,(0,(List.replicate ((x0.length : Int)).toNat (⟨0,0,0,0⟩ : Link)))) eo5 (St.sub_of [4,3,0] [] kr) ?_
  rintro ⟨mo5,y2,y3⟩ H
  have H : QN n mo5 x0 y2 y3 = some o5 := H
  obtain _ | mo5 := mo5
  ·exact nN H
  rw [QN] at H
  refine tS ?_
  refine rA 2 ?_
  refine kF x0 Link.row ?_
  refine uA 1 2073 0 ?_
  obtain ⟨h1,H⟩ | ⟨h1,H⟩ := bC H
  ·refine nA h1 ?_
   refine Tr.exit ?_
   refine And.intro (fun _ => ?_) (fun h => absurd rfl h)
   obtain rfl := si H
   have H := Ho5
   dsimp only at H
   exact jA y3 H [3] []
  refine tA h1 ?_
  refine tK ?_
  refine tS ?_
  refine tB ?_
  refine Tr.at ?_
  refine lA 4 ?_
  obtain ⟨v6,ev6,H⟩ := bs H
  refine iA Link.row ev6 ?_
  refine lA 1 ?_
  obtain ⟨r7,er7,H⟩ := bs H
  refine vA [.rd] (zK5 n v6 r7 er7) ?_
  obtain ⟨v8,ev8,H⟩ := bs H
  refine oA Link.row ev8 ?_
  refine sS (tI 114) true (Link.row r7) 3 0 (y2.toNat) 4 0 4 Link.row r7 (zI ev8).2 ?_
  refine dA 25 0 ?_
  refine eA 3 25 0 ?_
  exact jB mo5 ((IntKind.wrap .i64 (y2 + 1)),(y3.set (y2.toNat) r7)) H [4,3,0] []
 rintro y4 H
 have H : (zAP n y4) = some r := H
 unfold zAP at H
 refine gA 2 12 0 ?_
 exact te (by obtain rfl := si H; exact fP [(false,[cL 4 y4 Link.row])])
def zCb (n : Nat) (x0 : Say) : Option (Say) :=
  ((zCc n x0.V).bind fun r1 => (some (⟨x0.Link,x0.Back,r1⟩ : Say)))
theorem zL2 (n : Nat) (x0 : Say) (r : Say) (H : zCb n x0 = some r) : zD Tryz.prog 199 [.val true (CV.frzRow (Say.row x0))] [.val true (Say.row r)] [] := by
 refine cA Tryz.func199 (.seq (Rg Tryz.f199 0) (.seq (Rg Tryz.f199 1) (.seq (Rg Tryz.f199 2) (.seq (Rg Tryz.f199 3) (.seq (Rg Tryz.f199 4) (.seq (Rg Tryz.f199 5) .ret)))))) [.cell 2 180] fun cx => ?_
 unfold zCb at H
 refine gA 2 6 6 ?_
 refine gA 1 14 14 ?_
 refine gA 4 14 14 ?_
 refine gA 4 14 14 ?_
 refine rA 2 ?_
 obtain ⟨r1,er1,H⟩ := bs H
 refine vA [.rd] (zH0 n x0.V r1 er1) ?_
 refine uA 2 12 12 ?_
 refine gA 2 4 4 ?_
 exact te (by obtain rfl := si H; exact fP [(true,[cI x0.Link,cB x0.Back,cI r1.Root,cI r1.Co,cI r1.Hops,cI r1.Bridge,cI r1.Port])])
def zA7 (n : Nat) (y4 : (List Say)) : Option ((List Say)) :=
  (some y4)
def QZ (n : Nat) : Nat → (List Say) → Int → (List Say) → Option (((List Say)) ⊕ ((List Say)))
  | 0,_,_,_ => none
  | mo5 + 1,x0,y2,y3 => (bif (decide (y2 < (x0.length : Int))) then ((idx x0 y2).bind fun v6 => ((zCb n v6).bind fun r7 => ((idx y3 y2).bind fun v8 => (QZ n mo5 x0 (IntKind.wrap .i64 (y2 + 1)) (y3.set (y2.toNat) r7))))) else (some (Sum.inl y3)))
def zAl (n : Nat) (x0 : (List Say)) : Option ((List Say)) :=
  (bif (decide (0 ≤ (x0.length : Int)) && decide ((x0.length : Int) ≤ 268435456)) then ((QZ n n x0 0 (List.replicate ((x0.length : Int)).toNat (⟨0,false,(⟨0,0,0,0,0⟩ : Vec)⟩ : Say))).bind fun o => match o with | .inl y4 => (zA7 n y4) | .inr r => some r) else none)
theorem zK6 (n : Nat) (x0 : (List Say)) (r : (List Say)) (H : zAl n x0 = some r) : zD Tryz.prog 114 [.val false [.sl false 7 (CV.frzEs (x0.map Say.row))]] [.val false [.sl true 7 (r.map Say.row)]] [] := by
 refine cA Tryz.func114 (.seq (Rg Tryz.f114 0) (.seq (Rg Tryz.f114 1) (.seq (.seq (Rg Tryz.f114 2) (.block 0 (.loop (.seq (.seq (Rg Tryz.f114 3) (.cond (.tmp 11) .skip (.exit 0))) (.seq (.block 1 (Rg Tryz.f114 5)) (Rg Tryz.f114 4)))))) (.seq (Rg Tryz.f114 6) .ret)))) [.tmp 2] fun cx => ?_
 unfold zAl at H
 refine gA 1 1 0 ?_
 refine rA 1 ?_
 refine kF x0 Say.row ?_
 obtain ⟨hg1,H⟩ := gs H
 refine LAt.makeG tOk (t := 65) (ty := 65) (e := 180) (x := (.tmp 6)) (d := 7) (g := none) (tI 180) (x0.length : Int) ((List.replicate ((x0.length : Int)).toNat (⟨0,false,(⟨0,0,0,0,0⟩ : Vec)⟩ : Say)).map Say.row) _ kr kr kr kr kr kr hg1 kr (zCS _ rfl) rfl ?_
 refine LAt.moveU (T := lk tab) (ty := 65) (x := (.tmp 7)) (d := 3) (g := none) false [cL 7 (List.replicate ((x0.length : Int)).toNat (⟨0,false,(⟨0,0,0,0,0⟩ : Vec)⟩ : Say)) Say.row] kr kr kr kr kr ?_
 refine dA 9 0 ?_
 refine tS ?_
 refine gA 1 25 0 ?_
 obtain ⟨o5,eo5,Ho5⟩ := bs H
 clear H
 refine Tr.mid (ι := (List Say)) (fun v => ⟨23,0,[sC 3 (cL 7 v Say.row)],[]⟩) (fun v => zA7 n v = some r) ?_ ?_
 ·refine tB ?_
  refine Tr.loop (ι := Nat × (Int × (List Say))) (fun v => ⟨23,0,[sI 4 v.2.1,sC 3 (cL 7 v.2.2 Say.row),sC 0 (cF 7 x0 Say.row)],[]⟩) (fun v => QZ n v.1 x0 v.2.1 v.2.2 = some o5) (fun v => v.1) (n,(0,(List.replicate ((x0.length : Int)).toNat (⟨0,false,(⟨0,0,0,0,0⟩ : Vec)⟩ : Say)))) eo5 (St.sub_of [4,3,0] [] kr) ?_
  rintro ⟨mo5,y2,y3⟩ H
  have H : QZ n mo5 x0 y2 y3 = some o5 := H
  obtain _ | mo5 := mo5
  ·exact nN H
  rw [QZ] at H
  refine tS ?_
  refine rA 2 ?_
  refine kF x0 Say.row ?_
  refine uA 1 2073 0 ?_
  obtain ⟨h1,H⟩ | ⟨h1,H⟩ := bC H
  ·refine nA h1 ?_
   refine Tr.exit ?_
   refine And.intro (fun _ => ?_) (fun h => absurd rfl h)
   obtain rfl := si H
   have H := Ho5
   dsimp only at H
   exact jA y3 H [3] []
  refine tA h1 ?_
  refine tK ?_
  refine tS ?_
  refine tB ?_
  refine Tr.at ?_
  refine lA 4 ?_
  obtain ⟨v6,ev6,H⟩ := bs H
  refine iA Say.row ev6 ?_
  refine lA 1 ?_
  obtain ⟨r7,er7,H⟩ := bs H
  refine vA [.rd] (zL2 n v6 r7 er7) ?_
  obtain ⟨v8,ev8,H⟩ := bs H
  refine oA Say.row ev8 ?_
  refine sS (tI 180) true (Say.row r7) 3 0 (y2.toNat) 7 0 7 Say.row r7 (zI ev8).2 ?_
  refine dA 25 0 ?_
  refine eA 3 25 0 ?_
  exact jB mo5 ((IntKind.wrap .i64 (y2 + 1)),(y3.set (y2.toNat) r7)) H [4,3,0] []
 rintro y4 H
 have H : (zA7 n y4) = some r := H
 unfold zA7 at H
 refine gA 2 12 0 ?_
 exact te (by obtain rfl := si H; exact fP [(false,[cL 7 y4 Say.row])])
def QF (n : Nat) (x0 : Net) : Option (Net) :=
  ((Ys n x0.Bs).bind fun r1 => ((J3 n x0.Ls).bind fun r2 => ((zAl n x0.Said).bind fun r3 => (some (⟨r1,r2,r3⟩ : Net)))))
theorem zA6 (n : Nat) (x0 : Net) (r : Net) (H : QF n x0 = some r) : zD Tryz.prog 25 [.val true (CV.frzRow (Net.row x0))] [.val true (Net.row r)] [] := by
 refine cA Tryz.func25 (.seq (Rg Tryz.f25 0) (.seq (Rg Tryz.f25 1) (.seq (Rg Tryz.f25 2) (.seq (Rg Tryz.f25 3) (.seq (Rg Tryz.f25 4) (.seq (Rg Tryz.f25 5) .ret)))))) [.cell 2 67] fun cx => ?_
 unfold QF at H
 refine gA 2 6 6 ?_
 refine gA 1 14 14 ?_
 refine rA 2 ?_
 obtain ⟨r1,er1,H⟩ := bs H
 refine vA [.rd] (zIl n x0.Bs r1 er1) ?_
 refine uA 2 14 14 ?_
 refine rA 2 ?_
 obtain ⟨r2,er2,H⟩ := bs H
 refine vA [.rd] (zKN n x0.Ls r2 er2) ?_
 refine uA 2 14 14 ?_
 refine rA 2 ?_
 obtain ⟨r3,er3,H⟩ := bs H
 refine vA [.rd] (zK6 n x0.Said r3 er3) ?_
 refine uA 2 12 12 ?_
 refine gA 2 4 4 ?_
 exact te (by obtain rfl := si H; exact fP [(true,[cL 11 r1 zA.row,cL 4 r2 Link.row,cL 7 r3 Say.row])])
def Zy (n : Nat) (x0 : Event) : Option (Event) :=
  (some x0)
theorem Qc (n : Nat) (x0 : Event) (r : Event) (H : Zy n x0 = some r) : zD Tryz.prog 26 [.val true (CV.frzRow (Event.row x0))] [.val true (Event.row r)] [] := by
 refine cA Tryz.func26 (.seq (Rg Tryz.f26 0) (.seq (Rg Tryz.f26 1) (.seq (Rg Tryz.f26 2) (.seq (Rg Tryz.f26 3) (.seq (Rg Tryz.f26 4) .ret))))) [.cell 2 71] fun cx => ?_
 unfold Zy at H
 refine gA 2 6 6 ?_
 refine gA 1 14 14 ?_
 refine gA 4 14 14 ?_
 refine gA 4 12 12 ?_
 refine gA 2 4 4 ?_
 exact te (by obtain rfl := si H; exact fP [(true,(Event.row x0))])
def zCD (n : Nat) (x0 : (List zB)) : Option ((List zB)) :=
  (bif (decide (([] : List zB).length + x0.length ≤ 268435456)) then (some (([] : List zB) ++ x0)) else none)
theorem zLJ (n : Nat) (x0 : (List zB)) (r : (List zB)) (H : zCD n x0 = some r) : zD Tryz.prog 166 [.val false [.sl false 5 (CV.frzEs (x0.map zB.row))]] [.val false [.sl true 5 (r.map zB.row)]] [] := by
 refine cA Tryz.func166 (.seq (Rg Tryz.f166 0) (.seq (Rg Tryz.f166 1) .ret)) [.tmp 2] fun cx => ?_
 unfold zCD at H
 refine gA 1 1 0 ?_
 refine rA 2 ?_
 obtain ⟨hg1,H⟩ := gs H
 refine pD zB.row hg1 ?_
 refine LAt.moveU (T := lk tab) (ty := 36) (x := (.tmp 5)) (d := 2) (g := none) false [cL 5 (([] : List zB) ++ x0) zB.row] kr kr kr kr kr ?_
 refine dA 4 0 ?_
 exact te (by obtain rfl := si H; exact fP [(false,[cL 5 (([] : List zB) ++ x0) zB.row])])
def zAs (n : Nat) (x0 : zF) : Option (zF) :=
  (bif (decide (([] : List zC).length + x0.Rows.length ≤ 268435456)) then (bif (decide (([] : List Int).length + x0.Pv.length ≤ 268435456)) then (some (⟨(([] : List zC) ++ x0.Rows),(([] : List Int) ++ x0.Pv)⟩ : zF)) else none) else none)
theorem zLK (n : Nat) (x0 : zF) (r : zF) (H : zAs n x0 = some r) : zD Tryz.prog 167 [.val true (CV.frzRow (zF.row x0))] [.val true (zF.row r)] [] := by
 refine cA Tryz.func167 (.seq (Rg Tryz.f167 0) (.seq (Rd Tryz.f167 1) .ret)) [.cell 2 39] fun cx => ?_
 unfold zAs at H
 refine gA 2 6 6 ?_
 obtain ⟨hg1,H⟩ := gs H
 obtain ⟨hg2,H⟩ := gs H
 refine Tr.draws mixed 10 kr ⟨12,0,[sA 2 2 2 0],[(2,[cL 3 (([] : List zC) ++ x0.Rows) zC.row,cL 1 (([] : List Int) ++ x0.Pv) intRow])]⟩ (fun cx => ?_) ?_
 ·refine aA [(1,[]),(2,[3,7,8,9]),(5,[]),(6,[7,8,9])] 6 [⟨[7,8,9],25,8,9⟩,⟨[3,7,8,9],37,4,5⟩] fun cx => ?_
  refine AT.big2 tOk 0 4 kr (And.intro kr ?_) (And.intro kr ?_)
  ·refine lA 1 ?_
   refine fA ?_
   refine AT.big2 tOk 3 4 kr (And.intro kr ?_) (And.intro kr ?_)
   ·refine pD zC.row hg1 ?_
    refine fA ?_
    refine bA 4 ?_
    refine lA 1 ?_
    refine fA ?_
    refine bA 7 ?_
    refine pD intRow hg2 ?_
    refine fA ?_
    refine bA 8 ?_
    refine lA 1 ?_
    refine fA ?_
    refine bA 9 ?_
    refine lA 1 ?_
    refine fA ?_
    exact eE [2] [2]
   ·refine lA 1 ?_
    refine fA ?_
    refine bA 3 ?_
    refine pD zC.row hg1 ?_
    refine fA ?_
    refine bA 7 ?_
    refine pD intRow hg2 ?_
    refine fA ?_
    refine bA 8 ?_
    refine lA 1 ?_
    refine fA ?_
    refine bA 9 ?_
    refine lA 1 ?_
    refine fA ?_
    exact eE [2] [2]
  ·refine lA 1 ?_
   refine fA ?_
   refine bA 0 ?_
   refine lA 1 ?_
   refine fA ?_
   refine bA 3 ?_
   refine pD zC.row hg1 ?_
   refine fA ?_
   refine bA 7 ?_
   refine pD intRow hg2 ?_
   refine fA ?_
   refine bA 8 ?_
   refine lA 1 ?_
   refine fA ?_
   refine bA 9 ?_
   refine lA 1 ?_
   refine fA ?_
   exact eE [2] [2]
 exact te (by obtain rfl := si H; exact fP [(true,[cL 3 (([] : List zC) ++ x0.Rows) zC.row,cL 1 (([] : List Int) ++ x0.Pv) intRow])])
def Z4 (n : Nat) (x0 : zA) : Option (zA) :=
  (bif (decide (([] : List Pt).length + x0.Ps.length ≤ 268435456)) then ((zCD n x0.F).bind fun r2 => ((zAs n x0.V).bind fun r3 => (some (⟨x0.Id,x0.Name,(([] : List Pt) ++ x0.Ps),r2,r3,x0.Tk,x0.Pa,x0.Wo,x0.Dr,x0.Ve⟩ : zA)))) else none)
theorem zCC (n : Nat) (x0 : zA) (r : zA) (H : Z4 n x0 = some r) : zD Tryz.prog 68 [.val true (CV.frzRow (zA.row x0))] [.val true (zA.row r)] [] := by
 refine cA Tryz.func68 (.seq (Rg Tryz.f68 0) (.seq (Rg Tryz.f68 1) (.seq (Rg Tryz.f68 2) (.seq (Rg Tryz.f68 3) (.seq (Rg Tryz.f68 4) (.seq (Rg Tryz.f68 5) .ret)))))) [.cell 2 41] fun cx => ?_
 unfold Z4 at H
 refine gA 2 6 6 ?_
 refine gA 3 14 14 ?_
 refine rA 3 ?_
 obtain ⟨hg1,H⟩ := gs H
 refine pD Pt.row hg1 ?_
 refine uA 2 14 14 ?_
 refine rA 2 ?_
 obtain ⟨r2,er2,H⟩ := bs H
 refine vA [.rd] (zLJ n x0.F r2 er2) ?_
 refine uA 2 14 14 ?_
 refine rA 2 ?_
 obtain ⟨r3,er3,H⟩ := bs H
 refine vA [.rd] (zLK n x0.V r3 er3) ?_
 refine uA 2 12 12 ?_
 refine gA 2 4 4 ?_
 exact te (by obtain rfl := si H; exact fP [(true,[cI x0.Id,cS x0.Name,cL 8 (([] : List Pt) ++ x0.Ps) Pt.row,cL 5 r2 zB.row,cL 3 r3.Rows zC.row,cL 1 r3.Pv intRow,cI x0.Tk,cI x0.Pa,cI x0.Wo,cI x0.Dr,cI x0.Ve])])
def zAT (n : Nat) (x0 : Net) (y5 : (List zA)) : Option (Net) :=
  (some (⟨y5,(([] : List Link) ++ x0.Ls),(([] : List Say) ++ x0.Said)⟩ : Net))
def Zp (n : Nat) : Nat → Net → Int → (List zA) → Option (((List zA)) ⊕ (Net))
  | 0,_,_,_ => none
  | mo6 + 1,x0,y3,y4 => (bif (decide (y3 < (x0.Bs.length : Int))) then ((idx x0.Bs y3).bind fun v7 => ((Z4 n v7).bind fun r8 => (bif (decide (y4.length + [r8].length ≤ 268435456)) then (Zp n mo6 x0 (IntKind.wrap .i64 (y3 + 1)) (y4 ++ [r8])) else none))) else (some (Sum.inl y4)))
def J6 (n : Nat) (x0 : Net) : Option (Net) :=
  (bif (decide (([] : List Link).length + x0.Ls.length ≤ 268435456)) then (bif (decide (([] : List Say).length + x0.Said.length ≤ 268435456)) then ((Zp n n x0 0 ([] : List zA)).bind fun o => match o with | .inl y5 => (zAT n x0 y5) | .inr r => some r) else none) else none)
def zNp : Tab := ⟨12,[0,1,0,4,0,24,32,64,128,386,1023,2047],[0,1,0,4,0,24,32,64,128,258,0,1536],[0,1,0,4,0,28,60,124,252,511,1023,2047]⟩
theorem zBv : zf (rg Tryz.f106 5) zNp = true := kr
theorem zIH (n : Nat) (x0 : Net) (hg1 : (decide (([] : List Link).length + x0.Ls.length ≤ 268435456)) = true) (hg2 : (decide (([] : List Say).length + x0.Said.length ≤ 268435456)) = true) (cx : Cx) : AT Tryz.prog cx (rg Tryz.f106 1) [] 11 [] ⟨33,0,[sA 2 2 3 0,sA 1 1 3 0],[(2,[cL 11 ([] : List zA) zA.row,cL 4 ([] : List Link) Link.row,cL 7 ([] : List Say) Say.row]),(1,(CV.frzRow (Net.row x0)))]⟩ (fun s => s = ⟨33,0,[sA 3 3 3 0,sA 2 2 3 0,sA 1 1 3 0],[(3,[cL 11 ([] : List zA) zA.row,cL 4 (([] : List Link) ++ x0.Ls) Link.row,cL 7 (([] : List Say) ++ x0.Said) Say.row]),(2,[cL 11 ([] : List zA) zA.row,cL 4 ([] : List Link) Link.row,cL 7 ([] : List Say) Say.row]),(1,(CV.frzRow (Net.row x0)))]⟩) := by
 refine aA [(1,[]),(2,[3,7,8,10]),(5,[]),(6,[7,8,10])] 7 [⟨[7,8,10],65,10,11⟩,⟨[3,7,8,10],64,6,7⟩] fun cx => ?_
 refine AT.big3 tOk 0 4 9 kr (And.intro kr ?_) (And.intro kr ?_) (And.intro kr ?_)
 ·refine lA 1 ?_
  refine fA ?_
  refine AT.big3 tOk 3 4 9 kr (And.intro kr ?_) (And.intro kr ?_) (And.intro kr ?_)
  ·refine pD Link.row hg1 ?_
   refine fA ?_
   refine AT.big2 tOk 4 9 kr (And.intro kr ?_) (And.intro kr ?_)
   ·refine lA 1 ?_
    refine fA ?_
    refine AT.big2 tOk 7 9 kr (And.intro kr ?_) (And.intro kr ?_)
    ·refine pD Say.row hg2 ?_
     refine fA ?_
     refine AT.big2 tOk 8 9 kr (And.intro kr ?_) (And.intro kr ?_)
     ·refine lA 1 ?_
      refine fA ?_
      refine bA 9 ?_
      refine lA 1 ?_
      refine fA ?_
      refine bA 10 ?_
      refine lA 1 ?_
      refine fA ?_
      exact eE [3,2,1] [3,2,1]
     ·refine lA 1 ?_
      refine fA ?_
      refine bA 8 ?_
      refine lA 1 ?_
      refine fA ?_
      refine bA 10 ?_
      refine lA 1 ?_
      refine fA ?_
      exact eE [3,2,1] [3,2,1]
    ·refine lA 1 ?_
     refine fA ?_
     refine bA 7 ?_
     refine pD Say.row hg2 ?_
     refine fA ?_
     refine bA 8 ?_
     refine lA 1 ?_
     refine fA ?_
     refine bA 10 ?_
     refine lA 1 ?_
     refine fA ?_
     exact eE [3,2,1] [3,2,1]
   ·refine lA 1 ?_
    refine fA ?_
    refine bA 4 ?_
    refine lA 1 ?_
    refine fA ?_
    refine bA 7 ?_
    refine pD Say.row hg2 ?_
    refine fA ?_
    refine bA 8 ?_
    refine lA 1 ?_
    refine fA ?_
    refine bA 10 ?_
    refine lA 1 ?_
    refine fA ?_
    exact eE [3,2,1] [3,2,1]
  ·refine lA 1 ?_
   refine fA ?_
   refine AT.big2 tOk 3 9 kr (And.intro kr ?_) (And.intro kr ?_)
   ·refine pD Link.row hg1 ?_
    refine fA ?_
    refine AT.big2 tOk 7 9 kr (And.intro kr ?_) (And.intro kr ?_)
    ·refine pD Say.row hg2 ?_
     refine fA ?_
     refine AT.big2 tOk 8 9 kr (And.intro kr ?_) (And.intro kr ?_)
     ·refine lA 1 ?_
      refine fA ?_
      refine bA 9 ?_
      refine lA 1 ?_
      refine fA ?_
      refine bA 10 ?_
      refine lA 1 ?_
      refine fA ?_
      exact eE [3,2,1] [3,2,1]
     ·refine lA 1 ?_
      refine fA ?_
      refine bA 8 ?_
      refine lA 1 ?_
      refine fA ?_
      refine bA 10 ?_
      refine lA 1 ?_
      refine fA ?_
      exact eE [3,2,1] [3,2,1]
    ·refine lA 1 ?_
     refine fA ?_
     refine bA 7 ?_
     refine pD Say.row hg2 ?_
     refine fA ?_
     refine bA 8 ?_
     refine lA 1 ?_
     refine fA ?_
     refine bA 10 ?_
     refine lA 1 ?_
     refine fA ?_
     exact eE [3,2,1] [3,2,1]
   ·refine lA 1 ?_
    refine fA ?_
    refine bA 3 ?_
    refine pD Link.row hg1 ?_
    refine fA ?_
    refine bA 7 ?_
    refine pD Say.row hg2 ?_
    refine fA ?_
    refine bA 8 ?_
    refine lA 1 ?_
    refine fA ?_
    refine bA 10 ?_
    refine lA 1 ?_
    refine fA ?_
    exact eE [3,2,1] [3,2,1]
  ·refine lA 1 ?_
   refine fA ?_
   refine AT.big2 tOk 3 4 kr (And.intro kr ?_) (And.intro kr ?_)
   ·refine pD Link.row hg1 ?_
    refine fA ?_
    refine bA 4 ?_
    refine lA 1 ?_
    refine fA ?_
    refine bA 7 ?_
    refine pD Say.row hg2 ?_
    refine fA ?_
    refine bA 8 ?_
    refine lA 1 ?_
    refine fA ?_
    refine bA 10 ?_
    refine lA 1 ?_
    refine fA ?_
    exact eE [3,2,1] [3,2,1]
   ·refine lA 1 ?_
    refine fA ?_
    refine bA 3 ?_
    refine pD Link.row hg1 ?_
    refine fA ?_
    refine bA 7 ?_
    refine pD Say.row hg2 ?_
    refine fA ?_
    refine bA 8 ?_
    refine lA 1 ?_
    refine fA ?_
    refine bA 10 ?_
    refine lA 1 ?_
    refine fA ?_
    exact eE [3,2,1] [3,2,1]
 ·refine lA 1 ?_
  refine fA ?_
  refine AT.big2 tOk 0 9 kr (And.intro kr ?_) (And.intro kr ?_)
  ·refine lA 1 ?_
   refine fA ?_
   refine AT.big2 tOk 3 9 kr (And.intro kr ?_) (And.intro kr ?_)
   ·refine pD Link.row hg1 ?_
    refine fA ?_
    refine AT.big2 tOk 7 9 kr (And.intro kr ?_) (And.intro kr ?_)
    ·refine pD Say.row hg2 ?_
     refine fA ?_
     refine AT.big2 tOk 8 9 kr (And.intro kr ?_) (And.intro kr ?_)
     ·refine lA 1 ?_
      refine fA ?_
      refine bA 9 ?_
      refine lA 1 ?_
      refine fA ?_
      refine bA 10 ?_
      refine lA 1 ?_
      refine fA ?_
      exact eE [3,2,1] [3,2,1]
     ·refine lA 1 ?_
      refine fA ?_
      refine bA 8 ?_
      refine lA 1 ?_
      refine fA ?_
      refine bA 10 ?_
      refine lA 1 ?_
      refine fA ?_
      exact eE [3,2,1] [3,2,1]
    ·refine lA 1 ?_
     refine fA ?_
     refine bA 7 ?_
     refine pD Say.row hg2 ?_
     refine fA ?_
     refine bA 8 ?_
     refine lA 1 ?_
     refine fA ?_
     refine bA 10 ?_
     refine lA 1 ?_
     refine fA ?_
     exact eE [3,2,1] [3,2,1]
   ·refine lA 1 ?_
    refine fA ?_
    refine bA 3 ?_
    refine pD Link.row hg1 ?_
    refine fA ?_
    refine bA 7 ?_
    refine pD Say.row hg2 ?_
    refine fA ?_
    refine bA 8 ?_
    refine lA 1 ?_
    refine fA ?_
    refine bA 10 ?_
    refine lA 1 ?_
    refine fA ?_
    exact eE [3,2,1] [3,2,1]
  ·refine lA 1 ?_
   refine fA ?_
   refine bA 0 ?_
   refine lA 1 ?_
   refine fA ?_
   refine bA 3 ?_
   refine pD Link.row hg1 ?_
   refine fA ?_
   refine bA 7 ?_
   refine pD Say.row hg2 ?_
   refine fA ?_
   refine bA 8 ?_
   refine lA 1 ?_
   refine fA ?_
   refine bA 10 ?_
   refine lA 1 ?_
   refine fA ?_
   exact eE [3,2,1] [3,2,1]
 ·refine lA 1 ?_
  refine fA ?_
  refine AT.big2 tOk 0 4 kr (And.intro kr ?_) (And.intro kr ?_)
  ·refine lA 1 ?_
   refine fA ?_
   refine AT.big2 tOk 3 4 kr (And.intro kr ?_) (And.intro kr ?_)
   ·refine pD Link.row hg1 ?_
    refine fA ?_
    refine bA 4 ?_
    refine lA 1 ?_
    refine fA ?_
    refine bA 7 ?_
    refine pD Say.row hg2 ?_
    refine fA ?_
    refine bA 8 ?_
    refine lA 1 ?_
    refine fA ?_
    refine bA 10 ?_
    refine lA 1 ?_
    refine fA ?_
    exact eE [3,2,1] [3,2,1]
   ·refine lA 1 ?_
    refine fA ?_
    refine bA 3 ?_
    refine pD Link.row hg1 ?_
    refine fA ?_
    refine bA 7 ?_
    refine pD Say.row hg2 ?_
    refine fA ?_
    refine bA 8 ?_
    refine lA 1 ?_
    refine fA ?_
    refine bA 10 ?_
    refine lA 1 ?_
    refine fA ?_
    exact eE [3,2,1] [3,2,1]
  ·refine lA 1 ?_
   refine fA ?_
   refine bA 0 ?_
   refine lA 1 ?_
   refine fA ?_
   refine bA 3 ?_
   refine pD Link.row hg1 ?_
   refine fA ?_
   refine bA 7 ?_
   refine pD Say.row hg2 ?_
   refine fA ?_
   refine bA 8 ?_
   refine lA 1 ?_
   refine fA ?_
   refine bA 10 ?_
   refine lA 1 ?_
   refine fA ?_
   exact eE [3,2,1] [3,2,1]
theorem zKg (n : Nat) (x0 : Net) (r : Net) (H : J6 n x0 = some r) : zD Tryz.prog 106 [.val true (CV.frzRow (Net.row x0))] [.val true (Net.row r)] [] := by
 refine cA Tryz.func106 (.seq (Rg Tryz.f106 0) (.seq (Rd Tryz.f106 1) (.seq (.seq (Rg Tryz.f106 2) (.block 0 (.loop (.seq (.seq (Rg Tryz.f106 3) (.cond (.tmp 18) .skip (.exit 0))) (.seq (.block 1 (Rd Tryz.f106 5)) (Rg Tryz.f106 4)))))) (.seq (Rg Tryz.f106 6) .ret)))) [.cell 2 67] fun cx => ?_
 unfold J6 at H
 refine gA 2 6 6 ?_
 obtain ⟨hg1,H⟩ := gs H
 obtain ⟨hg2,H⟩ := gs H
 refine sT ⟨33,0,[sA 2 2 3 0,sA 1 1 3 0],[(2,[cL 11 ([] : List zA) zA.row,cL 4 ([] : List Link) Link.row,cL 7 ([] : List Say) Say.row]),(1,(CV.frzRow (Net.row x0)))]⟩ ?_
 refine Tr.draws mixed 11 kr ⟨33,0,[sA 3 3 3 0,sA 2 2 3 0,sA 1 1 3 0],[(3,[cL 11 ([] : List zA) zA.row,cL 4 (([] : List Link) ++ x0.Ls) Link.row,cL 7 (([] : List Say) ++ x0.Said) Say.row]),(2,[cL 11 ([] : List zA) zA.row,cL 4 ([] : List Link) Link.row,cL 7 ([] : List Say) Say.row]),(1,(CV.frzRow (Net.row x0)))]⟩ (zIH n x0 hg1 hg2) ?_
 refine tS ?_
 refine gA 1 30 14 ?_
 obtain ⟨o6,eo6,Ho6⟩ := bs H
 clear H
 refine Tr.mid (ι := (List zA)) (fun v => ⟨33,0,[sA 3 3 3 0,sA 2 2 3 0],[(3,[cL 11 v zA.row,cL 4 (([] : List Link) ++ x0.Ls) Link.row,cL 7 (([] : List Say) ++ x0.Said) Say.row]),(2,[cL 11 ([] : List zA) zA.row,cL 4 ([] : List Link) Link.row,cL 7 ([] : List Say) Say.row])]⟩) (fun v => zAT n x0 v = some r) ?_ ?_
 ·refine tB ?_
  refine Tr.loop (ι := Nat × (Int × (List zA))) (fun v => ⟨33,0,[sI 4 v.2.1,sA 3 3 3 0,sA 2 2 3 0,sA 1 1 3 0],[(3,[cL 11 v.2.2 zA.row,cL 4 (([] : List Link) ++ x0.Ls) Link.row,cL 7 (([] : List Say) ++ x0.Said) Say.row]),(2,[cL 11 ([] : List zA) zA.row,cL 4 ([] : List Link) Link.row,cL 7 ([] : List Say) Say.row]),(1,(CV.frzRow (Net.row x0)))]⟩) (fun v => Zp n v.1 x0 v.2.1 v.2.2 = some o6) (fun v => v.1) (n,(0,([] : List zA))) eo6 (St.sub_of [4,3,2,1] [3,2,1] kr) ?_
  rintro ⟨mo6,y3,y4⟩ H
  have H : Zp n mo6 x0 y3 y4 = some o6 := H
  obtain _ | mo6 := mo6
  ·exact nN H
  rw [Zp] at H
  refine tS ?_
  refine rA 3 ?_
  refine kF x0.Bs zA.row ?_
  refine uA 1 262174 14 ?_
  obtain ⟨h1,H⟩ | ⟨h1,H⟩ := bC H
  ·refine nA h1 ?_
   refine Tr.exit ?_
   refine And.intro (fun _ => ?_) (fun h => absurd rfl h)
   obtain rfl := si H
   have H := Ho6
   dsimp only at H
   exact jA y4 H [3,2] [3,2]
  refine tA h1 ?_
  refine tK ?_
  refine tS ?_
  refine tB ?_
  obtain ⟨v7,ev7,H⟩ := bs H
  obtain ⟨r8,er8,H⟩ := bs H
  obtain ⟨hg9,H⟩ := gs H
  refine Tr.draw mixed 12 kr ⟨33,0,[sI 4 y3,sA 3 3 3 0,sA 2 2 3 0,sA 1 1 3 0],[(3,[cL 11 (y4 ++ [r8]) zA.row,cL 4 (([] : List Link) ++ x0.Ls) Link.row,cL 7 (([] : List Say) ++ x0.Said) Say.row]),(2,[cL 11 ([] : List zA) zA.row,cL 4 ([] : List Link) Link.row,cL 7 ([] : List Say) Say.row]),(1,(CV.frzRow (Net.row x0)))]⟩ (fun cx => ?_) ?_
  ·refine mA zBv [(0,[]),(1,[9,11]),(2,[]),(3,[7,8,9,11]),(4,[])] 7 [⟨[7,8,9,11],63,23,24⟩,⟨[9,11],63,21,22⟩] fun cx => ?_
   refine iN zBv 5 zA.row ev7 fun cx => ?_
   refine mA zBv [(6,[])] 5 [⟨[7,8,9,11],63,23,24⟩,⟨[9,11],63,21,22⟩] fun cx => ?_
   refine mC zBv 7 ?_
   refine vA [.rd] (zCC n v7 r8 er8) ?_
   refine fA ?_
   refine mC zBv 8 ?_
   refine lA 1 ?_
   refine fA ?_
   refine mC zBv 9 ?_
   refine LAt.appMU tOk (t := 63) (ty := 63) (e := 41) (x := (.tmp 22)) (y := (.tmp 29)) (d := 30) (g := none) (tI 41) zA.row y4 [r8] kr kr kr kr kr kr kr kr kr kr hg9 ?_
   refine fA ?_
   refine mA zBv [(10,[])] 1 [⟨[7,8,9,11],63,23,24⟩,⟨[9,11],63,21,22⟩] fun cx => ?_
   refine mC zBv 11 ?_
   refine lA 1 ?_
   refine fA ?_
   exact mE zBv [4,3,2,1] [3,2,1]
  refine eA 3 30 14 ?_
  exact jB mo6 ((IntKind.wrap .i64 (y3 + 1)),(y4 ++ [r8])) H [4,3,2,1] [3,2,1]
 rintro y5 H
 have H : (zAT n x0 y5) = some r := H
 unfold zAT at H
 refine gA 2 4 4 ?_
 exact te (by obtain rfl := si H; exact fP [(true,[cL 11 y5 zA.row,cL 4 (([] : List Link) ++ x0.Ls) Link.row,cL 7 (([] : List Say) ++ x0.Said) Say.row])])
def zP (n : Nat) (x0 : Int) (x1 : Int) (x2 : Int) : Option (Bool) :=
  (bif (decide (x0 ≥ x1)) then (some (decide (x0 ≤ x2))) else (some false))
theorem zO (n : Nat) (x0 : Int) (x1 : Int) (x2 : Int) (r : Bool) (H : zP n x0 x1 x2 = some r) : zD Tryz.prog 107 [.val false [.lit (.int .i64 x0)],.val false [.lit (.int .i64 x1)],.val false [.lit (.int .i64 x2)]] [.val false [.lit (.bool r)]] [] := by
 refine cA Tryz.func107 (.seq (Rg Tryz.f107 0) (.seq (Rg Tryz.f107 1) .ret)) [.tmp 6] fun cx => ?_
 unfold zP at H
 refine gA 1 7 0 ?_
 refine rA 4 ?_
 refine sL 1029 0 ⟨15,0,[sB 10 (decide (x0 ≥ x1)),sI 0 x0,sI 2 x2],[]⟩ ?_
 cases h1 : (decide (x0 ≥ x1))
 ·have H := zG h1 H
  refine uA 5 64 0 ?_
  exact te (by obtain rfl := si H; exact fP [(false,[cB false])])
 have H := zH h1 H
 refine uA 5 64 0 ?_
 exact te (by obtain rfl := si H; exact fP [(false,[cB (decide (x0 ≤ x2))])])
def zq (n : Nat) (x0 : Vec) : Option (Bool) :=
  ((zP n x0.Root 1 99).bind fun r1 => (bif r1 then ((zP n x0.Co 0 100000).bind fun r2 => (bif r2 then ((zP n x0.Hops 0 10).bind fun r3 => (bif r3 then ((zP n x0.Bridge 1 99).bind fun r4 => (bif r4 then ((zP n x0.Port 0 7).bind fun r5 => (some r5)) else (some false))) else (some false))) else (some false))) else (some false)))
theorem zCA (n : Nat) (x0 : Vec) (r : Bool) (H : zq n x0 = some r) : zD Tryz.prog 161 [.val true (CV.frzRow (Vec.row x0))] [.val false [.lit (.bool r)]] [] := by
 refine cA Tryz.func161 (.seq (Rg Tryz.f161 0) (.seq (Rg Tryz.f161 1) .ret)) [.tmp 2] fun cx => ?_
 unfold zq at H
 refine gA 2 2 2 ?_
 refine rA 2 ?_
 obtain ⟨r1,er1,H⟩ := bs H
 refine vA [.rd,.rd,.rd] (zO n x0.Root 1 99 r1 er1) ?_
 refine lA 1 ?_
 refine sL 66 2 ⟨26,0,[sB 6 r1,sA 1 1 5 0],[(1,(Vec.row x0))]⟩ ?_
 cases h1 : r1
 ·have H := zG h1 H
  refine uA 20 4 0 ?_
  exact te (by obtain rfl := si H; exact fP [(false,[cB false])])
 have H := zH h1 H
 refine lA 2 ?_
 obtain ⟨r2,er2,H⟩ := bs H
 refine vA [.rd,.rd,.rd] (zO n x0.Co 0 100000 r2 er2) ?_
 refine lA 2 ?_
 refine sL 2050 2 ⟨26,0,[sB 11 r2,sA 1 1 5 0],[(1,(Vec.row x0))]⟩ ?_
 cases h2 : r2
 ·have H := zG h2 H
  refine uA 15 4 0 ?_
  exact te (by obtain rfl := si H; exact fP [(false,[cB false])])
 have H := zH h2 H
 refine lA 2 ?_
 obtain ⟨r3,er3,H⟩ := bs H
 refine vA [.rd,.rd,.rd] (zO n x0.Hops 0 10 r3 er3) ?_
 refine lA 2 ?_
 refine sL 65538 2 ⟨26,0,[sB 16 r3,sA 1 1 5 0],[(1,(Vec.row x0))]⟩ ?_
 cases h3 : r3
 ·have H := zG h3 H
  refine uA 10 4 0 ?_
  exact te (by obtain rfl := si H; exact fP [(false,[cB false])])
 have H := zH h3 H
 refine lA 2 ?_
 obtain ⟨r4,er4,H⟩ := bs H
 refine vA [.rd,.rd,.rd] (zO n x0.Bridge 1 99 r4 er4) ?_
 refine lA 2 ?_
 refine sL 2097154 2 ⟨26,0,[sB 21 r4,sA 1 1 5 0],[(1,(Vec.row x0))]⟩ ?_
 cases h4 : r4
 ·have H := zG h4 H
  refine uA 5 4 0 ?_
  exact te (by obtain rfl := si H; exact fP [(false,[cB false])])
 have H := zH h4 H
 refine lA 2 ?_
 obtain ⟨r5,er5,H⟩ := bs H
 refine vA [.rd,.rd,.rd] (zO n x0.Port 0 7 r5 er5) ?_
 refine uA 2 4 0 ?_
 exact te (by obtain rfl := si H; exact fP [(false,[cB r5])])
def qF (n : Nat) (x0 : Pt) : Option (Bool) :=
  ((zP n x0.Co 1 1000).bind fun r1 => (bif (!r1) then (some false) else (bif (!x0.Up) then (bif x0.Has then (some false) else (some ((x0.Hd.Root == 0) && ((x0.Hd.Co == 0) && ((x0.Hd.Hops == 0) && ((x0.Hd.Bridge == 0) && ((x0.Hd.Port == 0) && true))))))) else (bif (!x0.Has) then (some ((x0.Hd.Root == 0) && ((x0.Hd.Co == 0) && ((x0.Hd.Hops == 0) && ((x0.Hd.Bridge == 0) && ((x0.Hd.Port == 0) && true)))))) else ((zq n x0.Hd).bind fun r2 => (some r2))))))
theorem zMk (n : Nat) (x0 : Pt) (r : Bool) (H : qF n x0 = some r) : zD Tryz.prog 226 [.val true (CV.frzRow (Pt.row x0))] [.val false [.lit (.bool r)]] [] := by
 refine cA Tryz.func226 (.seq (Rg Tryz.f226 0) (.seq (.seq (Rg Tryz.f226 1) (.cond (.tmp 15) (.seq (Rg Tryz.f226 2) .ret) .skip)) (.seq (.seq (Rg Tryz.f226 3) (.cond (.tmp 18) (.seq (Rg Tryz.f226 4) .ret) .skip)) (.seq (Rg Tryz.f226 5) .ret)))) [.tmp 2] fun cx => ?_
 unfold qF at H
 refine gA 2 2 2 ?_
 refine tS ?_
 refine rA 2 ?_
 obtain ⟨r1,er1,H⟩ := bs H
 refine vA [.rd,.rd,.rd] (zO n x0.Co 1 1000 r1 er1) ?_
 refine lA 2 ?_
 refine sL 130 2 ⟨26,0,[sB 7 (!r1),sA 1 1 8 0],[(1,(Pt.row x0))]⟩ ?_
 cases h1 : (!r1)
 ·have H := zG h1 H
  refine lA 4 ?_
  refine sL 2178 2 ⟨26,0,[sB 11 (!x0.Up),sB 7 false,sA 1 1 8 0],[(1,(Pt.row x0))]⟩ ?_
  cases h2 : (!x0.Up)
  ·have H := zG h2 H
   refine uA 4 32770 2 ?_
   refine nB_ ?_
   refine tK ?_
   refine tS ?_
   refine gA 3 262146 2 ?_
   obtain ⟨h3,H⟩ | ⟨h3,H⟩ := bC H
   ·refine nA h3 ?_
    refine tK ?_
    refine rA 2 ?_
    obtain ⟨r2,er2,H⟩ := bs H
    refine vA [.rd] (zCA n x0.Hd r2 er2) ?_
    refine uA 1 4 0 ?_
    exact te (by obtain rfl := si H; exact fP [(false,[cB r2])])
   refine tA h3 ?_
   refine rA 3 ?_
   refine LAt.eqSG false (t := 165) (ty := 165) (ty' := 4) (x := (.tmp 20)) (y := (.tmp 21)) (d := 22) (g := none) ((x0.Hd.Root == 0) && ((x0.Hd.Co == 0) && ((x0.Hd.Hops == 0) && ((x0.Hd.Bridge == 0) && ((x0.Hd.Port == 0) && true))))) _ kr kr kr kr rfl ?_
   refine uA 1 4 0 ?_
   exact te (by obtain rfl := si H; exact fP [(false,[cB ((x0.Hd.Root == 0) && ((x0.Hd.Co == 0) && ((x0.Hd.Hops == 0) && ((x0.Hd.Bridge == 0) && ((x0.Hd.Port == 0) && true)))))])])
  have H := zH h2 H
  refine uA 4 32770 2 ?_
  refine sT ⟨26,0,[sB 15 x0.Has,sA 1 1 8 0],[(1,(Pt.row x0))]⟩ ?_
  cases h4 : x0.Has
  ·have H := zG h4 H
   refine nB_ ?_
   refine tK ?_
   refine tS ?_
   refine gA 3 262146 2 ?_
   refine sT ⟨26,0,[sB 18 (!x0.Has),sA 1 1 8 0],[(1,(Pt.row x0))]⟩ ?_
   rw [h4]
   refine tB_ ?_
   refine rA 3 ?_
   refine LAt.eqSG false (t := 165) (ty := 165) (ty' := 4) (x := (.tmp 20)) (y := (.tmp 21)) (d := 22) (g := none) ((x0.Hd.Root == 0) && ((x0.Hd.Co == 0) && ((x0.Hd.Hops == 0) && ((x0.Hd.Bridge == 0) && ((x0.Hd.Port == 0) && true))))) _ kr kr kr kr rfl ?_
   refine uA 1 4 0 ?_
   exact te (by obtain rfl := si H; exact fP [(false,[cB ((x0.Hd.Root == 0) && ((x0.Hd.Co == 0) && ((x0.Hd.Hops == 0) && ((x0.Hd.Bridge == 0) && ((x0.Hd.Port == 0) && true)))))])])
  have H := zH h4 H
  refine tB_ ?_
  refine gA 1 4 0 ?_
  exact te (by obtain rfl := si H; exact fP [(false,[cB false])])
 have H := zH h1 H
 refine uA 8 32770 2 ?_
 refine tB_ ?_
 refine gA 1 4 0 ?_
 exact te (by obtain rfl := si H; exact fP [(false,[cB false])])
def Za (n : Nat) (x0 : zB) : Option (Bool) :=
  ((zP n x0.Tag 1 99).bind fun r1 => (bif r1 then ((zP n x0.Mac 1 9999).bind fun r2 => (bif r2 then ((zP n x0.Port 0 7).bind fun r3 => (bif r3 then ((zP n x0.Age 0 4).bind fun r4 => (bif r4 then (bif (!x0.Sc) then (some true) else (some (x0.Age == 0))) else (some false))) else (some false))) else (some false))) else (some false)))
theorem zE9 (n : Nat) (x0 : zB) (r : Bool) (H : Za n x0 = some r) : zD Tryz.prog 173 [.val true (CV.frzRow (zB.row x0))] [.val false [.lit (.bool r)]] [] := by
 refine cA Tryz.func173 (.seq (Rg Tryz.f173 0) (.seq (Rg Tryz.f173 1) .ret)) [.tmp 2] fun cx => ?_
 unfold Za at H
 refine gA 2 2 2 ?_
 refine rA 2 ?_
 obtain ⟨r1,er1,H⟩ := bs H
 refine vA [.rd,.rd,.rd] (zO n x0.Tag 1 99 r1 er1) ?_
 refine lA 1 ?_
 refine sL 66 2 ⟨31,0,[sB 6 r1,sA 1 1 5 0],[(1,(zB.row x0))]⟩ ?_
 cases h1 : r1
 ·have H := zG h1 H
  refine uA 25 4 0 ?_
  exact te (by obtain rfl := si H; exact fP [(false,[cB false])])
 have H := zH h1 H
 refine lA 2 ?_
 obtain ⟨r2,er2,H⟩ := bs H
 refine vA [.rd,.rd,.rd] (zO n x0.Mac 1 9999 r2 er2) ?_
 refine lA 2 ?_
 refine sL 2050 2 ⟨31,0,[sB 11 r2,sA 1 1 5 0],[(1,(zB.row x0))]⟩ ?_
 cases h2 : r2
 ·have H := zG h2 H
  refine uA 20 4 0 ?_
  exact te (by obtain rfl := si H; exact fP [(false,[cB false])])
 have H := zH h2 H
 refine lA 2 ?_
 obtain ⟨r3,er3,H⟩ := bs H
 refine vA [.rd,.rd,.rd] (zO n x0.Port 0 7 r3 er3) ?_
 refine lA 2 ?_
 refine sL 65538 2 ⟨31,0,[sB 16 r3,sA 1 1 5 0],[(1,(zB.row x0))]⟩ ?_
 cases h3 : r3
 ·have H := zG h3 H
  refine uA 15 4 0 ?_
  exact te (by obtain rfl := si H; exact fP [(false,[cB false])])
 have H := zH h3 H
 refine lA 2 ?_
 obtain ⟨r4,er4,H⟩ := bs H
 refine vA [.rd,.rd,.rd] (zO n x0.Age 0 4 r4 er4) ?_
 refine lA 2 ?_
 refine sL 2097154 2 ⟨31,0,[sB 21 r4,sA 1 1 5 0],[(1,(zB.row x0))]⟩ ?_
 cases h4 : r4
 ·have H := zG h4 H
  refine uA 10 4 0 ?_
  exact te (by obtain rfl := si H; exact fP [(false,[cB false])])
 have H := zH h4 H
 refine lA 4 ?_
 refine sL 35651586 2 ⟨31,0,[sB 25 (!x0.Sc),sB 21 true,sA 1 1 5 0],[(1,(zB.row x0))]⟩ ?_
 cases h5 : (!x0.Sc)
 ·have H := zG h5 H
  refine uA 6 4 0 ?_
  exact te (by obtain rfl := si H; exact fP [(false,[cB (x0.Age == 0)])])
 have H := zH h5 H
 refine uA 6 4 0 ?_
 exact te (by obtain rfl := si H; exact fP [(false,[cB true])])
def ZZ (n : Nat) (x0 : zB) (x1 : Int) (x2 : Int) : Option (Bool) :=
  (bif (x0.Tag != x1) then (some (decide (x0.Tag < x1))) else (some (decide (x0.Mac < x2))))
theorem zKk (n : Nat) (x0 : zB) (x1 : Int) (x2 : Int) (r : Bool) (H : ZZ n x0 x1 x2 = some r) : zD Tryz.prog 232 [.val true (CV.frzRow (zB.row x0)),.val false [.lit (.int .i64 x1)],.val false [.lit (.int .i64 x2)]] [.val false [.lit (.bool r)]] [] := by
 refine cA Tryz.func232 (.seq (Rg Tryz.f232 0) (.seq (.seq (Rg Tryz.f232 1) (.cond (.tmp 10) (.seq (Rg Tryz.f232 2) .ret) .skip)) (.seq (Rg Tryz.f232 3) .ret))) [.tmp 6] fun cx => ?_
 unfold ZZ at H
 refine gA 2 14 8 ?_
 refine tS ?_
 refine gA 4 1038 8 ?_
 obtain ⟨h1,H⟩ | ⟨h1,H⟩ := bC H
 ·refine nA h1 ?_
  refine tK ?_
  refine gA 5 64 0 ?_
  exact te (by obtain rfl := si H; exact fP [(false,[cB (decide (x0.Mac < x2))])])
 refine tA h1 ?_
 refine gA 5 64 0 ?_
 exact te (by obtain rfl := si H; exact fP [(false,[cB (decide (x0.Tag < x1))])])
def J5 (n : Nat) (x0 : (List zB)) : Option (Bool) :=
  (some (decide ((x0.length : Int) ≤ 12)))
def qC (n : Nat) : Nat → (List zB) → Int → Option ((Unit) ⊕ (Bool))
  | 0,_,_ => none
  | mo2 + 1,x0,y1 => (bif (decide (y1 < (x0.length : Int))) then ((idx x0 y1).bind fun v3 => ((Za n v3).bind fun r4 => (bif (!r4) then (some (Sum.inr false)) else (bif (decide (y1 > 0)) then ((idx x0 (IntKind.wrap .i64 (y1 - 1))).bind fun v5 => ((idx x0 y1).bind fun v6 => ((idx x0 y1).bind fun v7 => ((ZZ n v5 v6.Tag v7.Mac).bind fun r8 => (bif (!r8) then (some (Sum.inr false)) else (qC n mo2 x0 (IntKind.wrap .i64 (y1 + 1)))))))) else (qC n mo2 x0 (IntKind.wrap .i64 (y1 + 1))))))) else (some (Sum.inl ())))
def ZI (n : Nat) (x0 : (List zB)) : Option (Bool) :=
  ((qC n n x0 0).bind fun o => match o with | .inl _ => (J5 n x0) | .inr r => some r)
def zN8 : Tab := ⟨29,[0,0,3,4,8,16,48,64,192,320,512,512,2560,5632,8704,512,512,98816,131584,262656,512,512,3146240,4194816,8389120,17318400,33554944,67109440,134217792],[0,0,3,4,8,16,32,64,192,320,512,512,2560,5632,8704,512,512,98816,131584,262656,512,512,3146240,4194816,8389120,17318400,33554944,67109440,134217792],[0,0,3,7,15,31,63,127,255,511,1023,1023,3071,8191,16383,1023,1023,99327,230399,492543,1023,1023,3146751,7341055,15729663,33554431,67108863,134217727,268435455]⟩
theorem qX : zf (rg Tryz.f172 4) zN8 = true := kr
theorem zL9 (n : Nat) (x0 : (List zB)) (r : Bool) (H : ZI n x0 = some r) : zD Tryz.prog 172 [.val false [.sl false 5 (CV.frzEs (x0.map zB.row))]] [.val false [.lit (.bool r)]] [] := by
 refine cA Tryz.func172 (.seq (Rg Tryz.f172 0) (.seq (.seq (Rg Tryz.f172 1) (.block 0 (.loop (.seq (.seq (Rg Tryz.f172 2) (.cond (.tmp 7) .skip (.exit 0))) (.seq (.block 1 (.seq (Rd Tryz.f172 4) (.cond (.tmp 38) (.seq (Rg Tryz.f172 5) .ret) .skip))) (Rg Tryz.f172 3)))))) (.seq (Rg Tryz.f172 6) .ret))) [.tmp 2] fun cx => ?_
 unfold ZI at H
 refine gA 1 1 0 ?_
 refine tS ?_
 refine gA 1 9 0 ?_
 obtain ⟨o2,eo2,Ho2⟩ := bs H
 clear H
 refine Tr.mid (ι := Unit) (fun v => ⟨42,0,[sC 0 (cF 5 x0 zB.row)],[]⟩) (fun v => J5 n x0 = some r) ?_ ?_
 ·refine tB ?_
  refine Tr.loop (ι := Nat × (Int)) (fun v => ⟨42,0,[sI 3 v.2,sC 0 (cF 5 x0 zB.row)],[]⟩) (fun v => qC n v.1 x0 v.2 = some o2) (fun v => v.1) (n,0) eo2 (St.sub_of [3,0] [] kr) ?_
  rintro ⟨mo2,y1⟩ H
  have H : qC n mo2 x0 y1 = some o2 := H
  obtain _ | mo2 := mo2
  ·exact nN H
  rw [qC] at H
  refine tS ?_
  refine rA 2 ?_
  refine kF x0 zB.row ?_
  refine uA 1 137 0 ?_
  obtain ⟨h1,H⟩ | ⟨h1,H⟩ := bC H
  ·refine nA h1 ?_
   refine Tr.exit ?_
   refine And.intro (fun _ => ?_) (fun h => absurd rfl h)
   obtain rfl := si H
   have H := Ho2
   dsimp only at H
   exact jA () H [0] []
  refine tA h1 ?_
  refine tK ?_
  refine tS ?_
  refine tB ?_
  obtain ⟨v3,ev3,H⟩ := bs H
  obtain ⟨r4,er4,H⟩ := bs H
  refine sT ⟨42,0,[sB 7 (decide (y1 < (x0.length : Int))),sI 3 y1,sC 0 (cF 5 x0 zB.row)],[]⟩ ?_
  cases h2 : (!r4)
  ·have H := zG h2 H
   refine sT ⟨42,0,[sB 7 (decide (y1 < (x0.length : Int))),sI 3 y1,sC 0 (cF 5 x0 zB.row)],[]⟩ ?_
   cases h3 : (decide (y1 > 0))
   ·have H := zG h3 H
    refine Tr.draws mixed 29 kr ⟨42,0,[sB 38 false,sI 3 y1,sC 0 (cF 5 x0 zB.row)],[]⟩ (fun cx => ?_) ?_
    ·refine mA qX [(0,[]),(1,[])] 27 [] fun cx => ?_
     refine iN qX 2 zB.row ev3 fun cx => ?_
     refine mA qX [(3,[])] 25 [] fun cx => ?_
     refine mC qX 4 ?_
     refine vA [.rd] (zE9 n v3 r4 er4) ?_
     refine fA ?_
     refine mA qX [(5,[]),(6,[])] 22 [] fun cx => ?_
     refine sA_ 65545 0 ⟨42,0,[sB 16 (!r4),sI 3 y1,sC 0 (cF 5 x0 zB.row)],[]⟩ ?_
     rw [h2]
     refine mA qX [(7,[]),(8,[]),(9,[])] 19 [] fun cx => ?_
     refine sA_ 589833 0 ⟨42,0,[sB 19 (decide (y1 > 0)),sB 16 false,sI 3 y1,sC 0 (cF 5 x0 zB.row)],[]⟩ ?_
     rw [h3]
     refine mA qX [(10,[]),(11,[]),(12,[]),(13,[]),(14,[]),(15,[]),(16,[]),(17,[]),(18,[]),(19,[]),(20,[]),(21,[]),(22,[]),(23,[]),(24,[]),(25,[]),(26,[]),(27,[]),(28,[])] 0 [] fun cx => ?_
     exact mE qX [38,3,0] []
    refine nB_ ?_
    refine tK ?_
    refine eA 3 9 0 ?_
    exact jB mo2 (IntKind.wrap .i64 (y1 + 1)) H [3,0] []
   have H := zH h3 H
   obtain ⟨v5,ev5,H⟩ := bs H
   obtain ⟨v6,ev6,H⟩ := bs H
   obtain ⟨v7,ev7,H⟩ := bs H
   obtain ⟨r8,er8,H⟩ := bs H
   refine Tr.draws mixed 29 kr ⟨42,0,[sB 38 (!r8),sI 3 y1,sC 0 (cF 5 x0 zB.row)],[]⟩ (fun cx => ?_) ?_
   ·refine mA qX [(0,[]),(1,[])] 27 [] fun cx => ?_
    refine iN qX 2 zB.row ev3 fun cx => ?_
    refine mA qX [(3,[])] 25 [] fun cx => ?_
    refine mC qX 4 ?_
    refine vA [.rd] (zE9 n v3 r4 er4) ?_
    refine fA ?_
    refine mA qX [(5,[]),(6,[])] 22 [] fun cx => ?_
    refine sA_ 65545 0 ⟨42,0,[sB 16 (!r4),sI 3 y1,sC 0 (cF 5 x0 zB.row)],[]⟩ ?_
    rw [h2]
    refine mA qX [(7,[]),(8,[]),(9,[])] 19 [] fun cx => ?_
    refine sA_ 589833 0 ⟨42,0,[sB 19 (decide (y1 > 0)),sB 16 false,sI 3 y1,sC 0 (cF 5 x0 zB.row)],[]⟩ ?_
    rw [h3]
    refine mA qX [(10,[]),(11,[]),(12,[])] 16 [] fun cx => ?_
    refine iN qX 13 zB.row ev5 fun cx => ?_
    refine mA qX [(14,[]),(15,[]),(16,[])] 12 [] fun cx => ?_
    refine iN qX 17 zB.row ev6 fun cx => ?_
    refine mA qX [(18,[]),(19,[]),(20,[]),(21,[])] 7 [] fun cx => ?_
    refine iN qX 22 zB.row ev7 fun cx => ?_
    refine mA qX [(23,[]),(24,[])] 4 [] fun cx => ?_
    refine mC qX 25 ?_
    refine vA [.rd,.rd,.rd] (zKk n v5 v6.Tag v7.Mac r8 er8) ?_
    refine fA ?_
    refine mA qX [(26,[]),(27,[]),(28,[])] 0 [] fun cx => ?_
    exact mE qX [38,3,0] []
   refine sT ⟨42,0,[sB 38 (!r8),sI 3 y1,sC 0 (cF 5 x0 zB.row)],[]⟩ ?_
   cases h4 : (!r8)
   ·have H := zG h4 H
    refine nB_ ?_
    refine tK ?_
    refine eA 3 9 0 ?_
    exact jB mo2 (IntKind.wrap .i64 (y1 + 1)) H [3,0] []
   have H := zH h4 H
   refine tB_ ?_
   refine gA 1 4 0 ?_
   refine te ?_
   obtain rfl := si H
   have H := Ho2
   dsimp only at H
   obtain rfl := si H
   exact fP [(false,[cB false])]
  have H := zH h2 H
  refine Tr.draws mixed 29 kr ⟨42,0,[sB 38 true,sI 3 y1,sC 0 (cF 5 x0 zB.row)],[]⟩ (fun cx => ?_) ?_
  ·refine mA qX [(0,[]),(1,[])] 27 [] fun cx => ?_
   refine iN qX 2 zB.row ev3 fun cx => ?_
   refine mA qX [(3,[])] 25 [] fun cx => ?_
   refine mC qX 4 ?_
   refine vA [.rd] (zE9 n v3 r4 er4) ?_
   refine fA ?_
   refine mA qX [(5,[]),(6,[])] 22 [] fun cx => ?_
   refine sA_ 65545 0 ⟨42,0,[sB 16 (!r4),sI 3 y1,sC 0 (cF 5 x0 zB.row)],[]⟩ ?_
   rw [h2]
   refine mA qX [(7,[]),(8,[]),(9,[]),(10,[]),(11,[]),(12,[]),(13,[]),(14,[]),(15,[]),(16,[]),(17,[]),(18,[]),(19,[]),(20,[]),(21,[]),(22,[]),(23,[]),(24,[]),(25,[]),(26,[]),(27,[]),(28,[])] 0 [] fun cx => ?_
   exact mE qX [38,3,0] []
  refine tB_ ?_
  refine gA 1 4 0 ?_
  refine te ?_
  obtain rfl := si H
  have H := Ho2
  dsimp only at H
  obtain rfl := si H
  exact fP [(false,[cB false])]
 rintro _ H
 have H : (J5 n x0) = some r := H
 unfold J5 at H
 refine rA 1 ?_
 refine kF x0 zB.row ?_
 refine uA 2 4 0 ?_
 exact te (by obtain rfl := si H; exact fP [(false,[cB (decide ((x0.length : Int) ≤ 12))])])
def zBj (n : Nat) : Option (Int) :=
  (some (-1))
def ZW (n : Nat) : Nat → zF → Int → Int → Option ((Unit) ⊕ (Int))
  | 0,_,_,_ => none
  | mo2 + 1,x0,x1,y1 => (bif (decide (y1 < (x0.Rows.length : Int))) then ((idx x0.Rows y1).bind fun v3 => (bif (v3.Id == x1) then (some (Sum.inr y1)) else (ZW n mo2 x0 x1 (IntKind.wrap .i64 (y1 + 1))))) else (some (Sum.inl ())))
def Y1 (n : Nat) (x0 : zF) (x1 : Int) : Option (Int) :=
  ((ZW n n x0 x1 0).bind fun o => match o with | .inl _ => (zBj n) | .inr r => some r)
theorem zMB (n : Nat) (x0 : zF) (x1 : Int) (r : Int) (H : Y1 n x0 x1 = some r) : zD Tryz.prog 170 [.val true (CV.frzRow (zF.row x0)),.val false [.lit (.int .i64 x1)]] [.val false [.lit (.int .i64 r)]] [] := by
 refine cA Tryz.func170 (.seq (Rg Tryz.f170 0) (.seq (.seq (Rg Tryz.f170 1) (.block 0 (.loop (.seq (.seq (Rg Tryz.f170 2) (.cond (.tmp 10) .skip (.exit 0))) (.seq (.block 1 (.seq (Rg Tryz.f170 4) (.cond (.tmp 20) (.seq (Rg Tryz.f170 5) .ret) .skip))) (Rg Tryz.f170 3)))))) (.seq (Rg Tryz.f170 6) .ret))) [.tmp 4] fun cx => ?_
 unfold Y1 at H
 refine gA 2 6 4 ?_
 refine tS ?_
 refine gA 1 38 4 ?_
 obtain ⟨o2,eo2,Ho2⟩ := bs H
 clear H
 refine Tr.mid (ι := Unit) (fun v => ⟨22,0,[],[]⟩) (fun v => zBj n = some r) ?_ ?_
 ·refine tB ?_
  refine Tr.loop (ι := Nat × (Int)) (fun v => ⟨22,0,[sI 5 v.2,sA 2 2 2 0,sI 1 x1],[(2,(CV.frzRow (zF.row x0)))]⟩) (fun v => ZW n v.1 x0 x1 v.2 = some o2) (fun v => v.1) (n,0) eo2 (St.sub_of [5,2,1] [2] kr) ?_
  rintro ⟨mo2,y1⟩ H
  have H : ZW n mo2 x0 x1 y1 = some o2 := H
  obtain _ | mo2 := mo2
  ·exact nN H
  rw [ZW] at H
  refine tS ?_
  refine rA 3 ?_
  refine kF x0.Rows zC.row ?_
  refine uA 1 1062 4 ?_
  obtain ⟨h1,H⟩ | ⟨h1,H⟩ := bC H
  ·refine nA h1 ?_
   refine Tr.exit ?_
   refine And.intro (fun _ => ?_) (fun h => absurd rfl h)
   obtain rfl := si H
   have H := Ho2
   dsimp only at H
   exact jA () H [] []
  refine tA h1 ?_
  refine tK ?_
  refine tS ?_
  refine tB ?_
  refine rA 3 ?_
  obtain ⟨v3,ev3,H⟩ := bs H
  refine iA zC.row ev3 ?_
  refine uA 4 1048614 4 ?_
  obtain ⟨h2,H⟩ | ⟨h2,H⟩ := bC H
  ·refine nA h2 ?_
   refine tK ?_
   refine eA 3 38 4 ?_
   exact jB mo2 (IntKind.wrap .i64 (y1 + 1)) H [5,2,1] [2]
  refine tA h2 ?_
  refine gA 2 16 0 ?_
  refine te ?_
  obtain rfl := si H
  have H := Ho2
  dsimp only at H
  obtain rfl := si H
  exact fP [(false,[cI y1])]
 rintro _ H
 have H : (zBj n) = some r := H
 unfold zBj at H
 refine gA 1 16 0 ?_
 exact te (by obtain rfl := si H; exact fP [(false,[cI (-1)])])
def zBB (n : Nat) : Option (Bool) :=
  (some true)
def Ze (n : Nat) : Nat → zF → Int → Option ((Unit) ⊕ (Bool))
  | 0,_,_ => none
  | mo5 + 1,x0,y4 => (bif (decide (y4 < (x0.Pv.length : Int))) then ((idx x0.Pv y4).bind fun v6 => ((Y1 n x0 v6).bind fun r7 => (bif (decide (r7 < 0)) then (some (Sum.inr false)) else (Ze n mo5 x0 (IntKind.wrap .i64 (y4 + 1)))))) else (some (Sum.inl ())))
def JW (n : Nat) (x0 : zF) : Option (Bool) :=
  ((Ze n n x0 0).bind fun o => match o with | .inl _ => (zBB n) | .inr r => some r)
def ZJ (n : Nat) : Nat → zF → Int → Int → Option ((Unit) ⊕ (Bool))
  | 0,_,_,_ => none
  | mo8 + 1,x0,x1,y3 => (bif (decide (y3 < (x0.Rows.length : Int))) then ((idx x0.Rows y3).bind fun v9 => ((zP n v9.Id 1 99).bind fun r10 => (bif (!r10) then (some (Sum.inr false)) else ((zP n v9.Members 0 (IntKind.wrap .i64 ((IntKind.wrap .i64 (1 * 2 ^ min (((IntKind.wrap .u64 x1) : Int)).toNat (IntKind.bits .i64))) - 1))).bind fun r11 => (bif (!r11) then (some (Sum.inr false)) else ((zP n v9.Bare 0 (IntKind.wrap .i64 ((IntKind.wrap .i64 (1 * 2 ^ min (((IntKind.wrap .u64 x1) : Int)).toNat (IntKind.bits .i64))) - 1))).bind fun r12 => (bif (!r12) then (some (Sum.inr false)) else (bif ((IntKind.wrap .i64 (BitVec.ofInt (IntKind.bits .i64) v9.Bare &&& BitVec.ofInt (IntKind.bits .i64) v9.Members).toNat) != v9.Bare) then (some (Sum.inr false)) else (bif (decide (y3 > 0)) then ((idx x0.Rows (IntKind.wrap .i64 (y3 - 1))).bind fun v13 => (bif (decide (v13.Id ≥ v9.Id)) then (some (Sum.inr false)) else (ZJ n mo8 x0 x1 (IntKind.wrap .i64 (y3 + 1))))) else (ZJ n mo8 x0 x1 (IntKind.wrap .i64 (y3 + 1)))))))))))) else (some (Sum.inl ())))
def Zv (n : Nat) (x0 : zF) (x1 : Int) : Option (Bool) :=
  ((zP n x1 1 6).bind fun r1 => (bif (!r1) then (some false) else (bif ((x0.Pv.length : Int) != x1) then (some false) else (bif (decide ((x0.Rows.length : Int) > 6)) then (some false) else (bif (decide ((0 : Int) ≤ (IntKind.wrap .u64 x1))) then ((ZJ n n x0 x1 0).bind fun o => match o with | .inl _ => (JW n x0) | .inr r => some r) else none)))))
def zOF : Tab := ⟨44,[0,1,2,4,12,16,48,16,208,272,528,1280,2048,6144,2048,26624,34816,67584,163840,262144,786432,262144,2359296,5505024,262144,17039360,42205184,67371008,134479872,268435456,805306368,1342177280,2147483648,6442450944,2147483648,19327352832,45097156608,70866960384,139586437120,2147483648,551903297536,1376537018368,2201439174656,4398314946560],[0,1,2,4,8,16,48,16,208,272,528,1024,2048,6144,2048,26624,34816,67584,131072,262144,786432,262144,2359296,5505024,262144,17039360,42205184,67371008,134217728,268435456,805306368,1342177280,2147483648,6442450944,2147483648,19327352832,45097156608,70866960384,139586437120,2147483648,551903297536,1376537018368,2201439174656,4398314946560],[0,1,3,7,15,31,63,31,255,511,1023,2047,4095,8191,4095,32767,65535,131071,262143,524287,1048575,524287,2621439,8388607,524287,17301503,67108863,134217727,268435455,536870911,1073741823,2147483647,4294967295,8589934591,4294967295,21474836479,68719476735,137438953471,274877906943,4294967295,554050781183,2199023255551,4398046511103,8796093022207]⟩
theorem zU : zf (rg Tryz.f227 8) zOF = true := kr
theorem zIy (n : Nat) (y3 : Int) (v9 : zC) (x1 : Int) (x0 : zF) (h11 : (decide (y3 > 0)) = false) (cx : Cx) : AT Tryz.prog cx (rg Tryz.f227 8) [⟨[],3,65,66⟩,⟨[],3,62,63⟩,⟨[],3,60,61⟩,⟨[15],3,53,54⟩,⟨[8,15],3,46,47⟩,⟨[2,8,15],3,41,42⟩] 15 [28,27,26,25,24,23,22,21,20,19,18,17,16,15,14,13,12,11,10,9,8,7,6,5,4,3,2,1,0] ⟨100,0,[sB 69 false,sI 66 v9.Bare,sA 65 7 3 2,sI 63 v9.Members,sA 62 7 3 1,sI 61 v9.Bare,sA 60 7 3 2,sI 54 v9.Bare,sA 53 7 3 2,sI 47 v9.Members,sA 46 7 3 1,sI 42 v9.Id,sA 41 7 3 0,sA 7 7 3 0,sI 6 y3,sI 5 (IntKind.wrap .i64 ((IntKind.wrap .i64 (1 * 2 ^ min (((IntKind.wrap .u64 x1) : Int)).toNat (IntKind.bits .i64))) - 1)),sA 2 2 2 0],[(7,(zC.row v9)),(2,(CV.frzRow (zF.row x0)))]⟩ (fun s => s = ⟨100,0,[sB 84 false,sI 6 y3,sI 5 (IntKind.wrap .i64 ((IntKind.wrap .i64 (1 * 2 ^ min (((IntKind.wrap .u64 x1) : Int)).toNat (IntKind.bits .i64))) - 1)),sA 2 2 2 0],[(2,(CV.frzRow (zF.row x0)))]⟩) := by
 refine mA zU [(29,[]),(30,[]),(31,[])] 12 [⟨[],3,65,66⟩,⟨[],3,62,63⟩,⟨[],3,60,61⟩,⟨[15],3,53,54⟩,⟨[8,15],3,46,47⟩,⟨[2,8,15],3,41,42⟩] fun cx => ?_
 refine sA_ 0x126f060c600000000e4 132 ⟨100,0,[sB 72 (decide (y3 > 0)),sB 69 false,sI 66 v9.Bare,sA 65 7 3 2,sI 63 v9.Members,sA 62 7 3 1,sI 61 v9.Bare,sA 60 7 3 2,sI 54 v9.Bare,sA 53 7 3 2,sI 47 v9.Members,sA 46 7 3 1,sI 42 v9.Id,sA 41 7 3 0,sA 7 7 3 0,sI 6 y3,sI 5 (IntKind.wrap .i64 ((IntKind.wrap .i64 (1 * 2 ^ min (((IntKind.wrap .u64 x1) : Int)).toNat (IntKind.bits .i64))) - 1)),sA 2 2 2 0],[(7,(zC.row v9)),(2,(CV.frzRow (zF.row x0)))]⟩ ?_
 rw [h11]
 refine mA zU [(32,[]),(33,[]),(34,[]),(35,[]),(36,[]),(37,[]),(38,[]),(39,[]),(40,[]),(41,[]),(42,[]),(43,[])] 0 [⟨[],3,65,66⟩,⟨[],3,62,63⟩,⟨[],3,60,61⟩,⟨[15],3,53,54⟩,⟨[8,15],3,46,47⟩,⟨[2,8,15],3,41,42⟩] fun cx => ?_
 exact mE zU [84,6,5,2] [2]
theorem zIz (n : Nat) (y3 : Int) (v9 : zC) (x1 : Int) (x0 : zF) (v13 : zC) (h11 : (decide (y3 > 0)) = true) (ev13 : (idx x0.Rows (IntKind.wrap .i64 (y3 - 1))) = some v13) (cx : Cx) : AT Tryz.prog cx (rg Tryz.f227 8) [⟨[],3,65,66⟩,⟨[],3,62,63⟩,⟨[],3,60,61⟩,⟨[15],3,53,54⟩,⟨[8,15],3,46,47⟩,⟨[2,8,15],3,41,42⟩] 15 [28,27,26,25,24,23,22,21,20,19,18,17,16,15,14,13,12,11,10,9,8,7,6,5,4,3,2,1,0] ⟨100,0,[sB 69 false,sI 66 v9.Bare,sA 65 7 3 2,sI 63 v9.Members,sA 62 7 3 1,sI 61 v9.Bare,sA 60 7 3 2,sI 54 v9.Bare,sA 53 7 3 2,sI 47 v9.Members,sA 46 7 3 1,sI 42 v9.Id,sA 41 7 3 0,sA 7 7 3 0,sI 6 y3,sI 5 (IntKind.wrap .i64 ((IntKind.wrap .i64 (1 * 2 ^ min (((IntKind.wrap .u64 x1) : Int)).toNat (IntKind.bits .i64))) - 1)),sA 2 2 2 0],[(7,(zC.row v9)),(2,(CV.frzRow (zF.row x0)))]⟩ (fun s => s = ⟨100,0,[sB 84 (decide (v13.Id ≥ v9.Id)),sI 6 y3,sI 5 (IntKind.wrap .i64 ((IntKind.wrap .i64 (1 * 2 ^ min (((IntKind.wrap .u64 x1) : Int)).toNat (IntKind.bits .i64))) - 1)),sA 2 2 2 0],[(2,(CV.frzRow (zF.row x0)))]⟩) := by
 refine mA zU [(29,[]),(30,[]),(31,[])] 12 [⟨[],3,65,66⟩,⟨[],3,62,63⟩,⟨[],3,60,61⟩,⟨[15],3,53,54⟩,⟨[8,15],3,46,47⟩,⟨[2,8,15],3,41,42⟩] fun cx => ?_
 refine sA_ 0x126f060c600000000e4 132 ⟨100,0,[sB 72 (decide (y3 > 0)),sB 69 false,sI 66 v9.Bare,sA 65 7 3 2,sI 63 v9.Members,sA 62 7 3 1,sI 61 v9.Bare,sA 60 7 3 2,sI 54 v9.Bare,sA 53 7 3 2,sI 47 v9.Members,sA 46 7 3 1,sI 42 v9.Id,sA 41 7 3 0,sA 7 7 3 0,sI 6 y3,sI 5 (IntKind.wrap .i64 ((IntKind.wrap .i64 (1 * 2 ^ min (((IntKind.wrap .u64 x1) : Int)).toNat (IntKind.bits .i64))) - 1)),sA 2 2 2 0],[(7,(zC.row v9)),(2,(CV.frzRow (zF.row x0)))]⟩ ?_
 rw [h11]
 refine mA zU [(32,[]),(33,[]),(34,[]),(35,[])] 8 [⟨[],37,73,74⟩,⟨[],3,65,66⟩,⟨[],3,62,63⟩,⟨[],3,60,61⟩,⟨[15],3,53,54⟩,⟨[8,15],3,46,47⟩,⟨[2,8,15],3,41,42⟩] fun cx => ?_
 refine iN zU 36 zC.row ev13 fun cx => ?_
 refine mA zU [(37,[]),(38,[]),(39,[]),(40,[]),(41,[]),(42,[]),(43,[])] 0 [⟨[],3,80,81⟩,⟨[],37,73,74⟩,⟨[],3,65,66⟩,⟨[],3,62,63⟩,⟨[],3,60,61⟩,⟨[15],3,53,54⟩,⟨[8,15],3,46,47⟩,⟨[2,8,15],3,41,42⟩] fun cx => ?_
 exact mE zU [84,6,5,2] [2]
theorem zI0 (n : Nat) (v9 : zC) (y3 : Int) (x1 : Int) (x0 : zF) (cx : Cx) : AT Tryz.prog cx (rg Tryz.f227 8) [⟨[],3,65,66⟩,⟨[],3,62,63⟩,⟨[],3,60,61⟩,⟨[15],3,53,54⟩,⟨[8,15],3,46,47⟩,⟨[2,8,15],3,41,42⟩] 15 [28,27,26,25,24,23,22,21,20,19,18,17,16,15,14,13,12,11,10,9,8,7,6,5,4,3,2,1,0] ⟨100,0,[sB 69 true,sI 66 v9.Bare,sA 65 7 3 2,sI 63 v9.Members,sA 62 7 3 1,sI 61 v9.Bare,sA 60 7 3 2,sI 54 v9.Bare,sA 53 7 3 2,sI 47 v9.Members,sA 46 7 3 1,sI 42 v9.Id,sA 41 7 3 0,sA 7 7 3 0,sI 6 y3,sI 5 (IntKind.wrap .i64 ((IntKind.wrap .i64 (1 * 2 ^ min (((IntKind.wrap .u64 x1) : Int)).toNat (IntKind.bits .i64))) - 1)),sA 2 2 2 0],[(7,(zC.row v9)),(2,(CV.frzRow (zF.row x0)))]⟩ (fun s => s = ⟨100,0,[sB 84 true,sI 6 y3,sI 5 (IntKind.wrap .i64 ((IntKind.wrap .i64 (1 * 2 ^ min (((IntKind.wrap .u64 x1) : Int)).toNat (IntKind.bits .i64))) - 1)),sA 2 2 2 0],[(2,(CV.frzRow (zF.row x0)))]⟩) := by
 refine mA zU [(29,[]),(30,[]),(31,[]),(32,[]),(33,[]),(34,[]),(35,[]),(36,[]),(37,[]),(38,[]),(39,[]),(40,[]),(41,[]),(42,[]),(43,[])] 0 [⟨[],3,65,66⟩,⟨[],3,62,63⟩,⟨[],3,60,61⟩,⟨[15],3,53,54⟩,⟨[8,15],3,46,47⟩,⟨[2,8,15],3,41,42⟩] fun cx => ?_
 exact mE zU [84,6,5,2] [2]
theorem zLI (n : Nat) (x0 : zF) (x1 : Int) (r : Bool) (H : Zv n x0 x1 = some r) : zD Tryz.prog 227 [.val true (CV.frzRow (zF.row x0)),.val false [.lit (.int .i64 x1)]] [.val false [.lit (.bool r)]] [] := by
 refine cA Tryz.func227 (.seq (Rg Tryz.f227 0) (.seq (.seq (Rg Tryz.f227 1) (.cond (.tmp 24) (.seq (Rg Tryz.f227 2) .ret) .skip)) (.seq (Rg Tryz.f227 3) (.seq (.seq (Rg Tryz.f227 4) (.block 0 (.loop (.seq (.seq (Rg Tryz.f227 5) (.cond (.tmp 33) .skip (.exit 0))) (.seq (.block 1 (.seq (Rg Tryz.f227 7) (.seq (Rd Tryz.f227 8) (.cond (.tmp 84) (.seq (Rg Tryz.f227 9) .ret) .skip)))) (Rg Tryz.f227 6)))))) (.seq (.seq (Rg Tryz.f227 10) (.block 2 (.loop (.seq (.seq (Rg Tryz.f227 11) (.cond (.tmp 89) .skip (.exit 2))) (.seq (.block 3 (.seq (Rd Tryz.f227 13) (.cond (.tmp 99) (.seq (Rg Tryz.f227 14) .ret) .skip))) (Rg Tryz.f227 12)))))) (.seq (Rg Tryz.f227 15) .ret)))))) [.tmp 4] fun cx => ?_
 unfold Zv at H
 refine gA 2 6 4 ?_
 refine tS ?_
 refine rA 1 ?_
 obtain ⟨r1,er1,H⟩ := bs H
 refine vA [.rd,.rd,.rd] (zO n x1 1 6 r1 er1) ?_
 refine lA 2 ?_
 refine sL 4102 4 ⟨100,0,[sB 12 (!r1),sA 2 2 2 0,sI 1 x1],[(2,(CV.frzRow (zF.row x0)))]⟩ ?_
 cases h1 : (!r1)
 ·have H := zG h1 H
  refine lA 2 ?_
  refine kF x0.Pv intRow ?_
  refine lA 4 ?_
  refine sL 524294 4 ⟨100,0,[sB 19 ((x0.Pv.length : Int) != x1),sA 2 2 2 0,sI 1 x1],[(2,(CV.frzRow (zF.row x0)))]⟩ ?_
  cases h2 : ((x0.Pv.length : Int) != x1)
  ·have H := zG h2 H
   refine lA 2 ?_
   refine kF x0.Rows zC.row ?_
   refine uA 2 16777222 4 ?_
   obtain ⟨h3,H⟩ | ⟨h3,H⟩ := bC H
   ·refine nA h3 ?_
    refine tK ?_
    refine rA 2 ?_
    obtain ⟨hg2,H⟩ := gs H
    refine LAt.binC tOk (op := .shl) (t := 3) (ty := 124) (ty' := 3) (x := (.const (.int .i64 1))) (y := (.tmp 26)) (d := 27) (g := none) (.int .i64 1) (.int .u64 (IntKind.wrap .u64 x1)) (.int .i64 (IntKind.wrap .i64 (1 * 2 ^ min (((IntKind.wrap .u64 x1) : Int)).toNat (IntKind.bits .i64)))) _ kr kr kr kr kr (φ := (0 : Int) ≤ (IntKind.wrap .u64 x1)) kr (of_decide_eq_true hg2) rfl ?_
    refine uA 2 36 4 ?_
    refine tS ?_
    refine gA 1 100 4 ?_
    obtain ⟨o8,eo8,Ho8⟩ := bs H
    clear H
    refine Tr.mid (ι := Unit) (fun v => ⟨100,0,[sA 2 2 2 0],[(2,(CV.frzRow (zF.row x0)))]⟩) (fun v => JW n x0 = some r) ?_ ?_
    ·refine tB ?_
     refine Tr.loop (ι := Nat × (Int)) (fun v => ⟨100,0,[sI 6 v.2,sI 5 (IntKind.wrap .i64 ((IntKind.wrap .i64 (1 * 2 ^ min (((IntKind.wrap .u64 x1) : Int)).toNat (IntKind.bits .i64))) - 1)),sA 2 2 2 0],[(2,(CV.frzRow (zF.row x0)))]⟩) (fun v => ZJ n v.1 x0 x1 v.2 = some o8) (fun v => v.1) (n,0) eo8 (St.sub_of [6,5,2] [2] kr) ?_
     rintro ⟨mo8,y3⟩ H
     have H : ZJ n mo8 x0 x1 y3 = some o8 := H
     obtain _ | mo8 := mo8
     ·exact nN H
     rw [ZJ] at H
     refine tS ?_
     refine rA 3 ?_
     refine kF x0.Rows zC.row ?_
     refine uA 1 8589934692 4 ?_
     obtain ⟨h6,H⟩ | ⟨h6,H⟩ := bC H
     ·refine nA h6 ?_
      refine Tr.exit ?_
      refine And.intro (fun _ => ?_) (fun h => absurd rfl h)
      obtain rfl := si H
      have H := Ho8
      dsimp only at H
      exact jA () H [2] [2]
     refine tA h6 ?_
     refine tK ?_
     refine tS ?_
     refine tB ?_
     refine rA 3 ?_
     obtain ⟨v9,ev9,H⟩ := bs H
     refine iA zC.row ev9 ?_
     refine uA 3 228 132 ?_
     obtain ⟨r10,er10,H⟩ := bs H
     refine sT ⟨100,0,[sA 7 7 3 0,sI 6 y3,sI 5 (IntKind.wrap .i64 ((IntKind.wrap .i64 (1 * 2 ^ min (((IntKind.wrap .u64 x1) : Int)).toNat (IntKind.bits .i64))) - 1)),sA 2 2 2 0],[(7,(zC.row v9)),(2,(CV.frzRow (zF.row x0)))]⟩ ?_
     cases h7 : (!r10)
     ·have H := zG h7 H
      obtain ⟨r11,er11,H⟩ := bs H
      refine sT ⟨100,0,[sA 7 7 3 0,sI 6 y3,sI 5 (IntKind.wrap .i64 ((IntKind.wrap .i64 (1 * 2 ^ min (((IntKind.wrap .u64 x1) : Int)).toNat (IntKind.bits .i64))) - 1)),sA 2 2 2 0],[(7,(zC.row v9)),(2,(CV.frzRow (zF.row x0)))]⟩ ?_
      cases h8 : (!r11)
      ·have H := zG h8 H
       obtain ⟨r12,er12,H⟩ := bs H
       refine sT ⟨100,0,[sA 7 7 3 0,sI 6 y3,sI 5 (IntKind.wrap .i64 ((IntKind.wrap .i64 (1 * 2 ^ min (((IntKind.wrap .u64 x1) : Int)).toNat (IntKind.bits .i64))) - 1)),sA 2 2 2 0],[(7,(zC.row v9)),(2,(CV.frzRow (zF.row x0)))]⟩ ?_
       cases h9 : (!r12)
       ·have H := zG h9 H
        refine sT ⟨100,0,[sA 7 7 3 0,sI 6 y3,sI 5 (IntKind.wrap .i64 ((IntKind.wrap .i64 (1 * 2 ^ min (((IntKind.wrap .u64 x1) : Int)).toNat (IntKind.bits .i64))) - 1)),sA 2 2 2 0],[(7,(zC.row v9)),(2,(CV.frzRow (zF.row x0)))]⟩ ?_
        cases h10 : ((IntKind.wrap .i64 (BitVec.ofInt (IntKind.bits .i64) v9.Bare &&& BitVec.ofInt (IntKind.bits .i64) v9.Members).toNat) != v9.Bare)
        ·have H := zG h10 H
         refine sT ⟨100,0,[sA 7 7 3 0,sI 6 y3,sI 5 (IntKind.wrap .i64 ((IntKind.wrap .i64 (1 * 2 ^ min (((IntKind.wrap .u64 x1) : Int)).toNat (IntKind.bits .i64))) - 1)),sA 2 2 2 0],[(7,(zC.row v9)),(2,(CV.frzRow (zF.row x0)))]⟩ ?_
         cases h11 : (decide (y3 > 0))
         ·have H := zG h11 H
          refine Tr.draws mixed 44 kr ⟨100,0,[sB 84 false,sI 6 y3,sI 5 (IntKind.wrap .i64 ((IntKind.wrap .i64 (1 * 2 ^ min (((IntKind.wrap .u64 x1) : Int)).toNat (IntKind.bits .i64))) - 1)),sA 2 2 2 0],[(2,(CV.frzRow (zF.row x0)))]⟩ (fun cx => ?_) ?_
          ·refine mA zU [(0,[]),(1,[2,8,15])] 42 [⟨[2,8,15],3,41,42⟩] fun cx => ?_
           refine mC zU 2 ?_
           refine vA [.rd,.rd,.rd] (zO n v9.Id 1 99 r10 er10) ?_
           refine fA ?_
           refine mA zU [(3,[]),(4,[])] 39 [⟨[2,8,15],3,41,42⟩] fun cx => ?_
           refine sA_ 41781441855716 132 ⟨100,0,[sB 45 (!r10),sI 42 v9.Id,sA 41 7 3 0,sA 7 7 3 0,sI 6 y3,sI 5 (IntKind.wrap .i64 ((IntKind.wrap .i64 (1 * 2 ^ min (((IntKind.wrap .u64 x1) : Int)).toNat (IntKind.bits .i64))) - 1)),sA 2 2 2 0],[(7,(zC.row v9)),(2,(CV.frzRow (zF.row x0)))]⟩ ?_
           rw [h7]
           refine mA zU [(5,[]),(6,[8,15]),(7,[])] 36 [⟨[8,15],3,46,47⟩,⟨[2,8,15],3,41,42⟩] fun cx => ?_
           refine mC zU 8 ?_
           refine vA [.rd,.rd,.rd] (zO n v9.Members 0 (IntKind.wrap .i64 ((IntKind.wrap .i64 (1 * 2 ^ min (((IntKind.wrap .u64 x1) : Int)).toNat (IntKind.bits .i64))) - 1)) r11 er11) ?_
           refine fA ?_
           refine mA zU [(9,[]),(10,[]),(11,[])] 32 [⟨[8,15],3,46,47⟩,⟨[2,8,15],3,41,42⟩] fun cx => ?_
           refine sA_ 4721302929670372 132 ⟨100,0,[sB 52 (!r11),sI 47 v9.Members,sA 46 7 3 1,sI 42 v9.Id,sA 41 7 3 0,sA 7 7 3 0,sI 6 y3,sI 5 (IntKind.wrap .i64 ((IntKind.wrap .i64 (1 * 2 ^ min (((IntKind.wrap .u64 x1) : Int)).toNat (IntKind.bits .i64))) - 1)),sA 2 2 2 0],[(7,(zC.row v9)),(2,(CV.frzRow (zF.row x0)))]⟩ ?_
           rw [h8]
           refine mA zU [(12,[]),(13,[15]),(14,[])] 29 [⟨[15],3,53,54⟩,⟨[8,15],3,46,47⟩,⟨[2,8,15],3,41,42⟩] fun cx => ?_
           refine mC zU 15 ?_
           refine vA [.rd,.rd,.rd] (zO n v9.Bare 0 (IntKind.wrap .i64 ((IntKind.wrap .i64 (1 * 2 ^ min (((IntKind.wrap .u64 x1) : Int)).toNat (IntKind.bits .i64))) - 1)) r12 er12) ?_
           refine fA ?_
           refine mA zU [(16,[]),(17,[]),(18,[])] 25 [⟨[15],3,53,54⟩,⟨[8,15],3,46,47⟩,⟨[2,8,15],3,41,42⟩] fun cx => ?_
           refine sA_ 0x860c600000000e4 132 ⟨100,0,[sB 59 (!r12),sI 54 v9.Bare,sA 53 7 3 2,sI 47 v9.Members,sA 46 7 3 1,sI 42 v9.Id,sA 41 7 3 0,sA 7 7 3 0,sI 6 y3,sI 5 (IntKind.wrap .i64 ((IntKind.wrap .i64 (1 * 2 ^ min (((IntKind.wrap .u64 x1) : Int)).toNat (IntKind.bits .i64))) - 1)),sA 2 2 2 0],[(7,(zC.row v9)),(2,(CV.frzRow (zF.row x0)))]⟩ ?_
           rw [h9]
           refine mA zU [(19,[]),(20,[]),(21,[]),(22,[]),(23,[]),(24,[]),(25,[]),(26,[]),(27,[]),(28,[])] 15 [⟨[],3,65,66⟩,⟨[],3,62,63⟩,⟨[],3,60,61⟩,⟨[15],3,53,54⟩,⟨[8,15],3,46,47⟩,⟨[2,8,15],3,41,42⟩] fun cx => ?_
           refine sA_ 0x26f060c600000000e4 132 ⟨100,0,[sB 69 ((IntKind.wrap .i64 (BitVec.ofInt (IntKind.bits .i64) v9.Bare &&& BitVec.ofInt (IntKind.bits .i64) v9.Members).toNat) != v9.Bare),sI 66 v9.Bare,sA 65 7 3 2,sI 63 v9.Members,sA 62 7 3 1,sI 61 v9.Bare,sA 60 7 3 2,sI 54 v9.Bare,sA 53 7 3 2,sI 47 v9.Members,sA 46 7 3 1,sI 42 v9.Id,sA 41 7 3 0,sA 7 7 3 0,sI 6 y3,sI 5 (IntKind.wrap .i64 ((IntKind.wrap .i64 (1 * 2 ^ min (((IntKind.wrap .u64 x1) : Int)).toNat (IntKind.bits .i64))) - 1)),sA 2 2 2 0],[(7,(zC.row v9)),(2,(CV.frzRow (zF.row x0)))]⟩ ?_
           rw [h10]
           exact zIy n y3 v9 x1 x0 h11 cx
          refine nB_ ?_
          refine tK ?_
          refine eA 3 100 4 ?_
          exact jB mo8 (IntKind.wrap .i64 (y3 + 1)) H [6,5,2] [2]
         have H := zH h11 H
         obtain ⟨v13,ev13,H⟩ := bs H
         refine Tr.draws mixed 44 kr ⟨100,0,[sB 84 (decide (v13.Id ≥ v9.Id)),sI 6 y3,sI 5 (IntKind.wrap .i64 ((IntKind.wrap .i64 (1 * 2 ^ min (((IntKind.wrap .u64 x1) : Int)).toNat (IntKind.bits .i64))) - 1)),sA 2 2 2 0],[(2,(CV.frzRow (zF.row x0)))]⟩ (fun cx => ?_) ?_
         ·refine mA zU [(0,[]),(1,[2,8,15])] 42 [⟨[2,8,15],3,41,42⟩] fun cx => ?_
          refine mC zU 2 ?_
          refine vA [.rd,.rd,.rd] (zO n v9.Id 1 99 r10 er10) ?_
          refine fA ?_
          refine mA zU [(3,[]),(4,[])] 39 [⟨[2,8,15],3,41,42⟩] fun cx => ?_
          refine sA_ 41781441855716 132 ⟨100,0,[sB 45 (!r10),sI 42 v9.Id,sA 41 7 3 0,sA 7 7 3 0,sI 6 y3,sI 5 (IntKind.wrap .i64 ((IntKind.wrap .i64 (1 * 2 ^ min (((IntKind.wrap .u64 x1) : Int)).toNat (IntKind.bits .i64))) - 1)),sA 2 2 2 0],[(7,(zC.row v9)),(2,(CV.frzRow (zF.row x0)))]⟩ ?_
          rw [h7]
          refine mA zU [(5,[]),(6,[8,15]),(7,[])] 36 [⟨[8,15],3,46,47⟩,⟨[2,8,15],3,41,42⟩] fun cx => ?_
          refine mC zU 8 ?_
          refine vA [.rd,.rd,.rd] (zO n v9.Members 0 (IntKind.wrap .i64 ((IntKind.wrap .i64 (1 * 2 ^ min (((IntKind.wrap .u64 x1) : Int)).toNat (IntKind.bits .i64))) - 1)) r11 er11) ?_
          refine fA ?_
          refine mA zU [(9,[]),(10,[]),(11,[])] 32 [⟨[8,15],3,46,47⟩,⟨[2,8,15],3,41,42⟩] fun cx => ?_
          refine sA_ 4721302929670372 132 ⟨100,0,[sB 52 (!r11),sI 47 v9.Members,sA 46 7 3 1,sI 42 v9.Id,sA 41 7 3 0,sA 7 7 3 0,sI 6 y3,sI 5 (IntKind.wrap .i64 ((IntKind.wrap .i64 (1 * 2 ^ min (((IntKind.wrap .u64 x1) : Int)).toNat (IntKind.bits .i64))) - 1)),sA 2 2 2 0],[(7,(zC.row v9)),(2,(CV.frzRow (zF.row x0)))]⟩ ?_
          rw [h8]
          refine mA zU [(12,[]),(13,[15]),(14,[])] 29 [⟨[15],3,53,54⟩,⟨[8,15],3,46,47⟩,⟨[2,8,15],3,41,42⟩] fun cx => ?_
          refine mC zU 15 ?_
          refine vA [.rd,.rd,.rd] (zO n v9.Bare 0 (IntKind.wrap .i64 ((IntKind.wrap .i64 (1 * 2 ^ min (((IntKind.wrap .u64 x1) : Int)).toNat (IntKind.bits .i64))) - 1)) r12 er12) ?_
          refine fA ?_
          refine mA zU [(16,[]),(17,[]),(18,[])] 25 [⟨[15],3,53,54⟩,⟨[8,15],3,46,47⟩,⟨[2,8,15],3,41,42⟩] fun cx => ?_
          refine sA_ 0x860c600000000e4 132 ⟨100,0,[sB 59 (!r12),sI 54 v9.Bare,sA 53 7 3 2,sI 47 v9.Members,sA 46 7 3 1,sI 42 v9.Id,sA 41 7 3 0,sA 7 7 3 0,sI 6 y3,sI 5 (IntKind.wrap .i64 ((IntKind.wrap .i64 (1 * 2 ^ min (((IntKind.wrap .u64 x1) : Int)).toNat (IntKind.bits .i64))) - 1)),sA 2 2 2 0],[(7,(zC.row v9)),(2,(CV.frzRow (zF.row x0)))]⟩ ?_
          rw [h9]
          refine mA zU [(19,[]),(20,[]),(21,[]),(22,[]),(23,[]),(24,[]),(25,[]),(26,[]),(27,[]),(28,[])] 15 [⟨[],3,65,66⟩,⟨[],3,62,63⟩,⟨[],3,60,61⟩,⟨[15],3,53,54⟩,⟨[8,15],3,46,47⟩,⟨[2,8,15],3,41,42⟩] fun cx => ?_
          refine sA_ 0x26f060c600000000e4 132 ⟨100,0,[sB 69 ((IntKind.wrap .i64 (BitVec.ofInt (IntKind.bits .i64) v9.Bare &&& BitVec.ofInt (IntKind.bits .i64) v9.Members).toNat) != v9.Bare),sI 66 v9.Bare,sA 65 7 3 2,sI 63 v9.Members,sA 62 7 3 1,sI 61 v9.Bare,sA 60 7 3 2,sI 54 v9.Bare,sA 53 7 3 2,sI 47 v9.Members,sA 46 7 3 1,sI 42 v9.Id,sA 41 7 3 0,sA 7 7 3 0,sI 6 y3,sI 5 (IntKind.wrap .i64 ((IntKind.wrap .i64 (1 * 2 ^ min (((IntKind.wrap .u64 x1) : Int)).toNat (IntKind.bits .i64))) - 1)),sA 2 2 2 0],[(7,(zC.row v9)),(2,(CV.frzRow (zF.row x0)))]⟩ ?_
          rw [h10]
          exact zIz n y3 v9 x1 x0 v13 h11 ev13 cx
         refine sT ⟨100,0,[sB 84 (decide (v13.Id ≥ v9.Id)),sI 6 y3,sI 5 (IntKind.wrap .i64 ((IntKind.wrap .i64 (1 * 2 ^ min (((IntKind.wrap .u64 x1) : Int)).toNat (IntKind.bits .i64))) - 1)),sA 2 2 2 0],[(2,(CV.frzRow (zF.row x0)))]⟩ ?_
         cases h12 : (decide (v13.Id ≥ v9.Id))
         ·have H := zG h12 H
          refine nB_ ?_
          refine tK ?_
          refine eA 3 100 4 ?_
          exact jB mo8 (IntKind.wrap .i64 (y3 + 1)) H [6,5,2] [2]
         have H := zH h12 H
         refine tB_ ?_
         refine gA 1 16 0 ?_
         refine te ?_
         obtain rfl := si H
         have H := Ho8
         dsimp only at H
         obtain rfl := si H
         exact fP [(false,[cB false])]
        have H := zH h10 H
        refine Tr.draws mixed 44 kr ⟨100,0,[sB 84 true,sI 6 y3,sI 5 (IntKind.wrap .i64 ((IntKind.wrap .i64 (1 * 2 ^ min (((IntKind.wrap .u64 x1) : Int)).toNat (IntKind.bits .i64))) - 1)),sA 2 2 2 0],[(2,(CV.frzRow (zF.row x0)))]⟩ (fun cx => ?_) ?_
        ·refine mA zU [(0,[]),(1,[2,8,15])] 42 [⟨[2,8,15],3,41,42⟩] fun cx => ?_
         refine mC zU 2 ?_
         refine vA [.rd,.rd,.rd] (zO n v9.Id 1 99 r10 er10) ?_
         refine fA ?_
         refine mA zU [(3,[]),(4,[])] 39 [⟨[2,8,15],3,41,42⟩] fun cx => ?_
         refine sA_ 41781441855716 132 ⟨100,0,[sB 45 (!r10),sI 42 v9.Id,sA 41 7 3 0,sA 7 7 3 0,sI 6 y3,sI 5 (IntKind.wrap .i64 ((IntKind.wrap .i64 (1 * 2 ^ min (((IntKind.wrap .u64 x1) : Int)).toNat (IntKind.bits .i64))) - 1)),sA 2 2 2 0],[(7,(zC.row v9)),(2,(CV.frzRow (zF.row x0)))]⟩ ?_
         rw [h7]
         refine mA zU [(5,[]),(6,[8,15]),(7,[])] 36 [⟨[8,15],3,46,47⟩,⟨[2,8,15],3,41,42⟩] fun cx => ?_
         refine mC zU 8 ?_
         refine vA [.rd,.rd,.rd] (zO n v9.Members 0 (IntKind.wrap .i64 ((IntKind.wrap .i64 (1 * 2 ^ min (((IntKind.wrap .u64 x1) : Int)).toNat (IntKind.bits .i64))) - 1)) r11 er11) ?_
         refine fA ?_
         refine mA zU [(9,[]),(10,[]),(11,[])] 32 [⟨[8,15],3,46,47⟩,⟨[2,8,15],3,41,42⟩] fun cx => ?_
         refine sA_ 4721302929670372 132 ⟨100,0,[sB 52 (!r11),sI 47 v9.Members,sA 46 7 3 1,sI 42 v9.Id,sA 41 7 3 0,sA 7 7 3 0,sI 6 y3,sI 5 (IntKind.wrap .i64 ((IntKind.wrap .i64 (1 * 2 ^ min (((IntKind.wrap .u64 x1) : Int)).toNat (IntKind.bits .i64))) - 1)),sA 2 2 2 0],[(7,(zC.row v9)),(2,(CV.frzRow (zF.row x0)))]⟩ ?_
         rw [h8]
         refine mA zU [(12,[]),(13,[15]),(14,[])] 29 [⟨[15],3,53,54⟩,⟨[8,15],3,46,47⟩,⟨[2,8,15],3,41,42⟩] fun cx => ?_
         refine mC zU 15 ?_
         refine vA [.rd,.rd,.rd] (zO n v9.Bare 0 (IntKind.wrap .i64 ((IntKind.wrap .i64 (1 * 2 ^ min (((IntKind.wrap .u64 x1) : Int)).toNat (IntKind.bits .i64))) - 1)) r12 er12) ?_
         refine fA ?_
         refine mA zU [(16,[]),(17,[]),(18,[])] 25 [⟨[15],3,53,54⟩,⟨[8,15],3,46,47⟩,⟨[2,8,15],3,41,42⟩] fun cx => ?_
         refine sA_ 0x860c600000000e4 132 ⟨100,0,[sB 59 (!r12),sI 54 v9.Bare,sA 53 7 3 2,sI 47 v9.Members,sA 46 7 3 1,sI 42 v9.Id,sA 41 7 3 0,sA 7 7 3 0,sI 6 y3,sI 5 (IntKind.wrap .i64 ((IntKind.wrap .i64 (1 * 2 ^ min (((IntKind.wrap .u64 x1) : Int)).toNat (IntKind.bits .i64))) - 1)),sA 2 2 2 0],[(7,(zC.row v9)),(2,(CV.frzRow (zF.row x0)))]⟩ ?_
         rw [h9]
         refine mA zU [(19,[]),(20,[]),(21,[]),(22,[]),(23,[]),(24,[]),(25,[]),(26,[]),(27,[]),(28,[])] 15 [⟨[],3,65,66⟩,⟨[],3,62,63⟩,⟨[],3,60,61⟩,⟨[15],3,53,54⟩,⟨[8,15],3,46,47⟩,⟨[2,8,15],3,41,42⟩] fun cx => ?_
         refine sA_ 0x26f060c600000000e4 132 ⟨100,0,[sB 69 ((IntKind.wrap .i64 (BitVec.ofInt (IntKind.bits .i64) v9.Bare &&& BitVec.ofInt (IntKind.bits .i64) v9.Members).toNat) != v9.Bare),sI 66 v9.Bare,sA 65 7 3 2,sI 63 v9.Members,sA 62 7 3 1,sI 61 v9.Bare,sA 60 7 3 2,sI 54 v9.Bare,sA 53 7 3 2,sI 47 v9.Members,sA 46 7 3 1,sI 42 v9.Id,sA 41 7 3 0,sA 7 7 3 0,sI 6 y3,sI 5 (IntKind.wrap .i64 ((IntKind.wrap .i64 (1 * 2 ^ min (((IntKind.wrap .u64 x1) : Int)).toNat (IntKind.bits .i64))) - 1)),sA 2 2 2 0],[(7,(zC.row v9)),(2,(CV.frzRow (zF.row x0)))]⟩ ?_
         rw [h10]
         exact zI0 n v9 y3 x1 x0 cx
        refine tB_ ?_
        refine gA 1 16 0 ?_
        refine te ?_
        obtain rfl := si H
        have H := Ho8
        dsimp only at H
        obtain rfl := si H
        exact fP [(false,[cB false])]
       have H := zH h9 H
       refine Tr.draws mixed 44 kr ⟨100,0,[sB 84 true,sI 6 y3,sI 5 (IntKind.wrap .i64 ((IntKind.wrap .i64 (1 * 2 ^ min (((IntKind.wrap .u64 x1) : Int)).toNat (IntKind.bits .i64))) - 1)),sA 2 2 2 0],[(2,(CV.frzRow (zF.row x0)))]⟩ (fun cx => ?_) ?_
       ·refine mA zU [(0,[]),(1,[2,8,15])] 42 [⟨[2,8,15],3,41,42⟩] fun cx => ?_
        refine mC zU 2 ?_
        refine vA [.rd,.rd,.rd] (zO n v9.Id 1 99 r10 er10) ?_
        refine fA ?_
        refine mA zU [(3,[]),(4,[])] 39 [⟨[2,8,15],3,41,42⟩] fun cx => ?_
        refine sA_ 41781441855716 132 ⟨100,0,[sB 45 (!r10),sI 42 v9.Id,sA 41 7 3 0,sA 7 7 3 0,sI 6 y3,sI 5 (IntKind.wrap .i64 ((IntKind.wrap .i64 (1 * 2 ^ min (((IntKind.wrap .u64 x1) : Int)).toNat (IntKind.bits .i64))) - 1)),sA 2 2 2 0],[(7,(zC.row v9)),(2,(CV.frzRow (zF.row x0)))]⟩ ?_
        rw [h7]
        refine mA zU [(5,[]),(6,[8,15]),(7,[])] 36 [⟨[8,15],3,46,47⟩,⟨[2,8,15],3,41,42⟩] fun cx => ?_
        refine mC zU 8 ?_
        refine vA [.rd,.rd,.rd] (zO n v9.Members 0 (IntKind.wrap .i64 ((IntKind.wrap .i64 (1 * 2 ^ min (((IntKind.wrap .u64 x1) : Int)).toNat (IntKind.bits .i64))) - 1)) r11 er11) ?_
        refine fA ?_
        refine mA zU [(9,[]),(10,[]),(11,[])] 32 [⟨[8,15],3,46,47⟩,⟨[2,8,15],3,41,42⟩] fun cx => ?_
        refine sA_ 4721302929670372 132 ⟨100,0,[sB 52 (!r11),sI 47 v9.Members,sA 46 7 3 1,sI 42 v9.Id,sA 41 7 3 0,sA 7 7 3 0,sI 6 y3,sI 5 (IntKind.wrap .i64 ((IntKind.wrap .i64 (1 * 2 ^ min (((IntKind.wrap .u64 x1) : Int)).toNat (IntKind.bits .i64))) - 1)),sA 2 2 2 0],[(7,(zC.row v9)),(2,(CV.frzRow (zF.row x0)))]⟩ ?_
        rw [h8]
        refine mA zU [(12,[]),(13,[15]),(14,[])] 29 [⟨[15],3,53,54⟩,⟨[8,15],3,46,47⟩,⟨[2,8,15],3,41,42⟩] fun cx => ?_
        refine mC zU 15 ?_
        refine vA [.rd,.rd,.rd] (zO n v9.Bare 0 (IntKind.wrap .i64 ((IntKind.wrap .i64 (1 * 2 ^ min (((IntKind.wrap .u64 x1) : Int)).toNat (IntKind.bits .i64))) - 1)) r12 er12) ?_
        refine fA ?_
        refine mA zU [(16,[]),(17,[]),(18,[])] 25 [⟨[15],3,53,54⟩,⟨[8,15],3,46,47⟩,⟨[2,8,15],3,41,42⟩] fun cx => ?_
        refine sA_ 0x860c600000000e4 132 ⟨100,0,[sB 59 (!r12),sI 54 v9.Bare,sA 53 7 3 2,sI 47 v9.Members,sA 46 7 3 1,sI 42 v9.Id,sA 41 7 3 0,sA 7 7 3 0,sI 6 y3,sI 5 (IntKind.wrap .i64 ((IntKind.wrap .i64 (1 * 2 ^ min (((IntKind.wrap .u64 x1) : Int)).toNat (IntKind.bits .i64))) - 1)),sA 2 2 2 0],[(7,(zC.row v9)),(2,(CV.frzRow (zF.row x0)))]⟩ ?_
        rw [h9]
        refine mA zU [(19,[]),(20,[]),(21,[]),(22,[]),(23,[]),(24,[]),(25,[]),(26,[]),(27,[]),(28,[]),(29,[]),(30,[]),(31,[]),(32,[]),(33,[]),(34,[]),(35,[]),(36,[]),(37,[]),(38,[]),(39,[]),(40,[]),(41,[]),(42,[]),(43,[])] 0 [⟨[15],3,53,54⟩,⟨[8,15],3,46,47⟩,⟨[2,8,15],3,41,42⟩] fun cx => ?_
        exact mE zU [84,6,5,2] [2]
       refine tB_ ?_
       refine gA 1 16 0 ?_
       refine te ?_
       obtain rfl := si H
       have H := Ho8
       dsimp only at H
       obtain rfl := si H
       exact fP [(false,[cB false])]
      have H := zH h8 H
      refine Tr.draws mixed 44 kr ⟨100,0,[sB 84 true,sI 6 y3,sI 5 (IntKind.wrap .i64 ((IntKind.wrap .i64 (1 * 2 ^ min (((IntKind.wrap .u64 x1) : Int)).toNat (IntKind.bits .i64))) - 1)),sA 2 2 2 0],[(2,(CV.frzRow (zF.row x0)))]⟩ (fun cx => ?_) ?_
      ·refine mA zU [(0,[]),(1,[2,8])] 42 [⟨[2,8],3,41,42⟩] fun cx => ?_
       refine mC zU 2 ?_
       refine vA [.rd,.rd,.rd] (zO n v9.Id 1 99 r10 er10) ?_
       refine fA ?_
       refine mA zU [(3,[]),(4,[])] 39 [⟨[2,8],3,41,42⟩] fun cx => ?_
       refine sA_ 41781441855716 132 ⟨100,0,[sB 45 (!r10),sI 42 v9.Id,sA 41 7 3 0,sA 7 7 3 0,sI 6 y3,sI 5 (IntKind.wrap .i64 ((IntKind.wrap .i64 (1 * 2 ^ min (((IntKind.wrap .u64 x1) : Int)).toNat (IntKind.bits .i64))) - 1)),sA 2 2 2 0],[(7,(zC.row v9)),(2,(CV.frzRow (zF.row x0)))]⟩ ?_
       rw [h7]
       refine mA zU [(5,[]),(6,[8]),(7,[])] 36 [⟨[8],3,46,47⟩,⟨[2,8],3,41,42⟩] fun cx => ?_
       refine mC zU 8 ?_
       refine vA [.rd,.rd,.rd] (zO n v9.Members 0 (IntKind.wrap .i64 ((IntKind.wrap .i64 (1 * 2 ^ min (((IntKind.wrap .u64 x1) : Int)).toNat (IntKind.bits .i64))) - 1)) r11 er11) ?_
       refine fA ?_
       refine mA zU [(9,[]),(10,[]),(11,[])] 32 [⟨[8],3,46,47⟩,⟨[2,8],3,41,42⟩] fun cx => ?_
       refine sA_ 4721302929670372 132 ⟨100,0,[sB 52 (!r11),sI 47 v9.Members,sA 46 7 3 1,sI 42 v9.Id,sA 41 7 3 0,sA 7 7 3 0,sI 6 y3,sI 5 (IntKind.wrap .i64 ((IntKind.wrap .i64 (1 * 2 ^ min (((IntKind.wrap .u64 x1) : Int)).toNat (IntKind.bits .i64))) - 1)),sA 2 2 2 0],[(7,(zC.row v9)),(2,(CV.frzRow (zF.row x0)))]⟩ ?_
       rw [h8]
       refine mA zU [(12,[]),(13,[]),(14,[]),(15,[]),(16,[]),(17,[]),(18,[]),(19,[]),(20,[]),(21,[]),(22,[]),(23,[]),(24,[]),(25,[]),(26,[]),(27,[]),(28,[]),(29,[]),(30,[]),(31,[]),(32,[]),(33,[]),(34,[]),(35,[]),(36,[]),(37,[]),(38,[]),(39,[]),(40,[]),(41,[]),(42,[]),(43,[])] 0 [⟨[8],3,46,47⟩,⟨[2,8],3,41,42⟩] fun cx => ?_
       exact mE zU [84,6,5,2] [2]
      refine tB_ ?_
      refine gA 1 16 0 ?_
      refine te ?_
      obtain rfl := si H
      have H := Ho8
      dsimp only at H
      obtain rfl := si H
      exact fP [(false,[cB false])]
     have H := zH h7 H
     refine Tr.draws mixed 44 kr ⟨100,0,[sB 84 true,sI 6 y3,sI 5 (IntKind.wrap .i64 ((IntKind.wrap .i64 (1 * 2 ^ min (((IntKind.wrap .u64 x1) : Int)).toNat (IntKind.bits .i64))) - 1)),sA 2 2 2 0],[(2,(CV.frzRow (zF.row x0)))]⟩ (fun cx => ?_) ?_
     ·refine mA zU [(0,[]),(1,[2])] 42 [⟨[2],3,41,42⟩] fun cx => ?_
      refine mC zU 2 ?_
      refine vA [.rd,.rd,.rd] (zO n v9.Id 1 99 r10 er10) ?_
      refine fA ?_
      refine mA zU [(3,[]),(4,[])] 39 [⟨[2],3,41,42⟩] fun cx => ?_
      refine sA_ 41781441855716 132 ⟨100,0,[sB 45 (!r10),sI 42 v9.Id,sA 41 7 3 0,sA 7 7 3 0,sI 6 y3,sI 5 (IntKind.wrap .i64 ((IntKind.wrap .i64 (1 * 2 ^ min (((IntKind.wrap .u64 x1) : Int)).toNat (IntKind.bits .i64))) - 1)),sA 2 2 2 0],[(7,(zC.row v9)),(2,(CV.frzRow (zF.row x0)))]⟩ ?_
      rw [h7]
      refine mA zU [(5,[]),(6,[]),(7,[]),(8,[]),(9,[]),(10,[]),(11,[]),(12,[]),(13,[]),(14,[]),(15,[]),(16,[]),(17,[]),(18,[]),(19,[]),(20,[]),(21,[]),(22,[]),(23,[]),(24,[]),(25,[]),(26,[]),(27,[]),(28,[]),(29,[]),(30,[]),(31,[]),(32,[]),(33,[]),(34,[]),(35,[]),(36,[]),(37,[]),(38,[]),(39,[]),(40,[]),(41,[]),(42,[]),(43,[])] 0 [⟨[2],3,41,42⟩] fun cx => ?_
      exact mE zU [84,6,5,2] [2]
     refine tB_ ?_
     refine gA 1 16 0 ?_
     refine te ?_
     obtain rfl := si H
     have H := Ho8
     dsimp only at H
     obtain rfl := si H
     exact fP [(false,[cB false])]
    rintro _ H
    have H : (JW n x0) = some r := H
    unfold JW at H
    refine tS ?_
    refine gA 1 260 4 ?_
    obtain ⟨o5,eo5,Ho5⟩ := bs H
    clear H
    refine Tr.mid (ι := Unit) (fun v => ⟨100,0,[],[]⟩) (fun v => zBB n = some r) ?_ ?_
    ·refine tB ?_
     refine Tr.loop (ι := Nat × (Int)) (fun v => ⟨100,0,[sI 8 v.2,sA 2 2 2 0],[(2,(CV.frzRow (zF.row x0)))]⟩) (fun v => Ze n v.1 x0 v.2 = some o5) (fun v => v.1) (n,0) eo5 (St.sub_of [8,2] [2] kr) ?_
     rintro ⟨mo5,y4⟩ H
     have H : Ze n mo5 x0 y4 = some o5 := H
     obtain _ | mo5 := mo5
     ·exact nN H
     rw [Ze] at H
     refine tS ?_
     refine rA 3 ?_
     refine kF x0.Pv intRow ?_
     refine uA 1 0x20000000000000000000104 4 ?_
     obtain ⟨h4,H⟩ | ⟨h4,H⟩ := bC H
     ·refine nA h4 ?_
      refine Tr.exit ?_
      refine And.intro (fun _ => ?_) (fun h => absurd rfl h)
      obtain rfl := si H
      have H := Ho5
      dsimp only at H
      exact jA () H [] []
     refine tA h4 ?_
     refine tK ?_
     refine tS ?_
     refine tB ?_
     obtain ⟨v6,ev6,H⟩ := bs H
     obtain ⟨r7,er7,H⟩ := bs H
     refine Tr.draws mixed 8 kr ⟨100,0,[sB 99 (decide (r7 < 0)),sI 8 y4,sA 2 2 2 0],[(2,(CV.frzRow (zF.row x0)))]⟩ (fun cx => ?_) ?_
     ·refine aA [(0,[6]),(1,[]),(2,[6]),(3,[])] 4 [⟨[6],25,93,94⟩,⟨[6],39,2,92⟩] fun cx => ?_
      refine aI tOk 4 25 0 94 95 96 none ⟨(.box 2),[(0,0)],1,false,1,(CV.frzEs (x0.Pv.map intRow))⟩ y4 [cI v6] _ kr kr kr kr kr kr rfl (Zq ev6) rfl (fun cx => ?_)
      refine aA [(5,[])] 2 [⟨[6],25,93,94⟩,⟨[6],39,2,92⟩] fun cx => ?_
      refine bA 6 ?_
      refine vA [.rd,.rd] (zMB n x0 v6 r7 er7) ?_
      refine fA ?_
      refine aA [(7,[])] 0 [⟨[6],25,93,94⟩,⟨[6],39,2,92⟩] fun cx => ?_
      exact eE [99,8,2] [2]
     refine sT ⟨100,0,[sB 99 (decide (r7 < 0)),sI 8 y4,sA 2 2 2 0],[(2,(CV.frzRow (zF.row x0)))]⟩ ?_
     cases h5 : (decide (r7 < 0))
     ·have H := zG h5 H
      refine nB_ ?_
      refine tK ?_
      refine eA 3 260 4 ?_
      exact jB mo5 (IntKind.wrap .i64 (y4 + 1)) H [8,2] [2]
     have H := zH h5 H
     refine tB_ ?_
     refine gA 1 16 0 ?_
     refine te ?_
     obtain rfl := si H
     have H := Ho5
     dsimp only at H
     obtain rfl := si H
     exact fP [(false,[cB false])]
    rintro _ H
    have H : (zBB n) = some r := H
    unfold zBB at H
    refine gA 1 16 0 ?_
    exact te (by obtain rfl := si H; exact fP [(false,[cB true])])
   refine tA h3 ?_
   refine gA 1 16 0 ?_
   exact te (by obtain rfl := si H; exact fP [(false,[cB false])])
  have H := zH h2 H
  refine uA 5 16777222 4 ?_
  refine tB_ ?_
  refine gA 1 16 0 ?_
  exact te (by obtain rfl := si H; exact fP [(false,[cB false])])
 have H := zH h1 H
 refine uA 12 16777222 4 ?_
 refine tB_ ?_
 refine gA 1 16 0 ?_
 exact te (by obtain rfl := si H; exact fP [(false,[cB false])])
def Qm (n : Nat) (x0 : zA) : Option (Bool) :=
  ((zP n x0.Tk 0 1000000).bind fun r1 => (bif r1 then ((zP n x0.Pa 0 1000000).bind fun r2 => (bif r2 then ((zP n x0.Wo 0 1000000).bind fun r3 => (bif r3 then ((zP n x0.Dr 0 1000000).bind fun r4 => (bif r4 then ((zP n x0.Ve 0 1000000).bind fun r5 => (some r5)) else (some false))) else (some false))) else (some false))) else (some false)))
theorem zI1 (n : Nat) (x0 : zA) (r : Bool) (H : Qm n x0 = some r) : zD Tryz.prog 228 [.val true (CV.frzRow (zA.row x0))] [.val false [.lit (.bool r)]] [] := by
 refine cA Tryz.func228 (.seq (Rg Tryz.f228 0) (.seq (Rg Tryz.f228 1) .ret)) [.tmp 2] fun cx => ?_
 unfold Qm at H
 refine gA 2 2 2 ?_
 refine rA 2 ?_
 obtain ⟨r1,er1,H⟩ := bs H
 refine vA [.rd,.rd,.rd] (zO n x0.Tk 0 1000000 r1 er1) ?_
 refine lA 1 ?_
 refine sL 66 2 ⟨26,0,[sB 6 r1,sA 1 1 11 0],[(1,(CV.frzRow (zA.row x0)))]⟩ ?_
 cases h1 : r1
 ·have H := zG h1 H
  refine uA 20 4 0 ?_
  exact te (by obtain rfl := si H; exact fP [(false,[cB false])])
 have H := zH h1 H
 refine lA 2 ?_
 obtain ⟨r2,er2,H⟩ := bs H
 refine vA [.rd,.rd,.rd] (zO n x0.Pa 0 1000000 r2 er2) ?_
 refine lA 2 ?_
 refine sL 2050 2 ⟨26,0,[sB 11 r2,sA 1 1 11 0],[(1,(CV.frzRow (zA.row x0)))]⟩ ?_
 cases h2 : r2
 ·have H := zG h2 H
  refine uA 15 4 0 ?_
  exact te (by obtain rfl := si H; exact fP [(false,[cB false])])
 have H := zH h2 H
 refine lA 2 ?_
 obtain ⟨r3,er3,H⟩ := bs H
 refine vA [.rd,.rd,.rd] (zO n x0.Wo 0 1000000 r3 er3) ?_
 refine lA 2 ?_
 refine sL 65538 2 ⟨26,0,[sB 16 r3,sA 1 1 11 0],[(1,(CV.frzRow (zA.row x0)))]⟩ ?_
 cases h3 : r3
 ·have H := zG h3 H
  refine uA 10 4 0 ?_
  exact te (by obtain rfl := si H; exact fP [(false,[cB false])])
 have H := zH h3 H
 refine lA 2 ?_
 obtain ⟨r4,er4,H⟩ := bs H
 refine vA [.rd,.rd,.rd] (zO n x0.Dr 0 1000000 r4 er4) ?_
 refine lA 2 ?_
 refine sL 2097154 2 ⟨26,0,[sB 21 r4,sA 1 1 11 0],[(1,(CV.frzRow (zA.row x0)))]⟩ ?_
 cases h4 : r4
 ·have H := zG h4 H
  refine uA 5 4 0 ?_
  exact te (by obtain rfl := si H; exact fP [(false,[cB false])])
 have H := zH h4 H
 refine lA 2 ?_
 obtain ⟨r5,er5,H⟩ := bs H
 refine vA [.rd,.rd,.rd] (zO n x0.Ve 0 1000000 r5 er5) ?_
 refine uA 2 4 0 ?_
 exact te (by obtain rfl := si H; exact fP [(false,[cB r5])])
def Z9 (n : Nat) (x0 : zA) : Option (Bool) :=
  ((zP n x0.Id 1 99).bind fun r2 => (bif r2 then (bif (decide ((x0.Name.size : Int) ≤ 10)) then ((zP n (x0.Ps.length : Int) 1 6).bind fun r3 => (bif r3 then ((ZI n x0.F).bind fun r4 => (bif r4 then ((Zv n x0.V (x0.Ps.length : Int)).bind fun r5 => (bif r5 then ((Qm n x0).bind fun r6 => (some r6)) else (some false))) else (some false))) else (some false))) else (some false)) else (some false)))
def zn (n : Nat) : Nat → zA → Int → Option ((Unit) ⊕ (Bool))
  | 0,_,_ => none
  | mo7 + 1,x0,y1 => (bif (decide (y1 < (x0.Ps.length : Int))) then ((idx x0.Ps y1).bind fun v8 => ((qF n v8).bind fun r9 => (bif (!r9) then (some (Sum.inr false)) else (zn n mo7 x0 (IntKind.wrap .i64 (y1 + 1)))))) else (some (Sum.inl ())))
def zS (n : Nat) (x0 : zA) : Option (Bool) :=
  ((zn n n x0 0).bind fun o => match o with | .inl _ => (Z9 n x0) | .inr r => some r)
theorem zDD (n : Nat) (x0 : zA) (r : Bool) (H : zS n x0 = some r) : zD Tryz.prog 168 [.val true (CV.frzRow (zA.row x0))] [.val false [.lit (.bool r)]] [] := by
 refine cA Tryz.func168 (.seq (Rg Tryz.f168 0) (.seq (.seq (Rg Tryz.f168 1) (.block 0 (.loop (.seq (.seq (Rg Tryz.f168 2) (.cond (.tmp 8) .skip (.exit 0))) (.seq (.block 1 (.seq (Rg Tryz.f168 4) (.cond (.tmp 17) (.seq (Rg Tryz.f168 5) .ret) .skip))) (Rg Tryz.f168 3)))))) (.seq (Rg Tryz.f168 6) .ret))) [.tmp 2] fun cx => ?_
 unfold zS at H
 refine gA 2 2 2 ?_
 refine tS ?_
 refine gA 1 10 2 ?_
 obtain ⟨o7,eo7,Ho7⟩ := bs H
 clear H
 refine Tr.mid (ι := Unit) (fun v => ⟨50,0,[sA 1 1 11 0],[(1,(CV.frzRow (zA.row x0)))]⟩) (fun v => Z9 n x0 = some r) ?_ ?_
 ·refine tB ?_
  refine Tr.loop (ι := Nat × (Int)) (fun v => ⟨50,0,[sI 3 v.2,sA 1 1 11 0],[(1,(CV.frzRow (zA.row x0)))]⟩) (fun v => zn n v.1 x0 v.2 = some o7) (fun v => v.1) (n,0) eo7 (St.sub_of [3,1] [1] kr) ?_
  rintro ⟨mo7,y1⟩ H
  have H : zn n mo7 x0 y1 = some o7 := H
  obtain _ | mo7 := mo7
  ·exact nN H
  rw [zn] at H
  refine tS ?_
  refine rA 3 ?_
  refine kF x0.Ps Pt.row ?_
  refine uA 1 266 2 ?_
  obtain ⟨h6,H⟩ | ⟨h6,H⟩ := bC H
  ·refine nA h6 ?_
   refine Tr.exit ?_
   refine And.intro (fun _ => ?_) (fun h => absurd rfl h)
   obtain rfl := si H
   have H := Ho7
   dsimp only at H
   exact jA () H [1] [1]
  refine tA h6 ?_
  refine tK ?_
  refine tS ?_
  refine tB ?_
  refine rA 3 ?_
  obtain ⟨v8,ev8,H⟩ := bs H
  refine iA Pt.row ev8 ?_
  refine lA 1 ?_
  obtain ⟨r9,er9,H⟩ := bs H
  refine vA [.rd] (zMk n v8 r9 er9) ?_
  refine uA 1 131082 2 ?_
  obtain ⟨h7,H⟩ | ⟨h7,H⟩ := bC H
  ·refine nA h7 ?_
   refine tK ?_
   refine eA 3 10 2 ?_
   exact jB mo7 (IntKind.wrap .i64 (y1 + 1)) H [3,1] [1]
  refine tA h7 ?_
  refine gA 1 4 0 ?_
  refine te ?_
  obtain rfl := si H
  have H := Ho7
  dsimp only at H
  obtain rfl := si H
  exact fP [(false,[cB false])]
 rintro _ H
 have H : (Z9 n x0) = some r := H
 unfold Z9 at H
 refine rA 2 ?_
 obtain ⟨r2,er2,H⟩ := bs H
 refine vA [.rd,.rd,.rd] (zO n x0.Id 1 99 r2 er2) ?_
 refine lA 1 ?_
 refine sL 2097154 2 ⟨50,0,[sB 21 r2,sA 1 1 11 0],[(1,(CV.frzRow (zA.row x0)))]⟩ ?_
 cases h1 : r2
 ·have H := zG h1 H
  refine uA 29 4 0 ?_
  exact te (by obtain rfl := si H; exact fP [(false,[cB false])])
 have H := zH h1 H
 refine lA 6 ?_
 refine sL 134217730 2 ⟨50,0,[sB 27 (decide ((x0.Name.size : Int) ≤ 10)),sA 1 1 11 0],[(1,(CV.frzRow (zA.row x0)))]⟩ ?_
 cases h2 : (decide ((x0.Name.size : Int) ≤ 10))
 ·have H := zG h2 H
  refine uA 23 4 0 ?_
  exact te (by obtain rfl := si H; exact fP [(false,[cB false])])
 have H := zH h2 H
 refine lA 2 ?_
 refine kF x0.Ps Pt.row ?_
 obtain ⟨r3,er3,H⟩ := bs H
 refine vA [.rd,.rd,.rd] (zO n (x0.Ps.length : Int) 1 6 r3 er3) ?_
 refine lA 2 ?_
 refine sL 8589934594 2 ⟨50,0,[sB 33 r3,sA 1 1 11 0],[(1,(CV.frzRow (zA.row x0)))]⟩ ?_
 cases h3 : r3
 ·have H := zG h3 H
  refine uA 17 4 0 ?_
  exact te (by obtain rfl := si H; exact fP [(false,[cB false])])
 have H := zH h3 H
 refine lA 2 ?_
 obtain ⟨r4,er4,H⟩ := bs H
 refine vA [.rd] (zL9 n x0.F r4 er4) ?_
 refine lA 2 ?_
 refine sL 274877906946 2 ⟨50,0,[sB 38 r4,sA 1 1 11 0],[(1,(CV.frzRow (zA.row x0)))]⟩ ?_
 cases h4 : r4
 ·have H := zG h4 H
  refine uA 12 4 0 ?_
  exact te (by obtain rfl := si H; exact fP [(false,[cB false])])
 have H := zH h4 H
 refine lA 4 ?_
 refine kF x0.Ps Pt.row ?_
 obtain ⟨r5,er5,H⟩ := bs H
 refine vA [.rd,.rd] (zLI n x0.V (x0.Ps.length : Int) r5 er5) ?_
 refine lA 2 ?_
 refine sL 70368744177666 2 ⟨50,0,[sB 46 r5,sA 1 1 11 0],[(1,(CV.frzRow (zA.row x0)))]⟩ ?_
 cases h5 : r5
 ·have H := zG h5 H
  refine uA 4 4 0 ?_
  exact te (by obtain rfl := si H; exact fP [(false,[cB false])])
 have H := zH h5 H
 refine lA 1 ?_
 obtain ⟨r6,er6,H⟩ := bs H
 refine vA [.rd] (zI1 n x0 r6 er6) ?_
 refine uA 2 4 0 ?_
 exact te (by obtain rfl := si H; exact fP [(false,[cB r6])])
def zAU (n : Nat) (y3 : Int) : Option (Int) :=
  (some y3)
def QP (n : Nat) (k : (Int × Int → Option ((Int) ⊕ (Int)))) (v5 : Link) (x1 : Int) (x2 : Int) (y1 : Int) (y6 : Int) : Option ((Int) ⊕ (Int)) :=
  (bif (v5.B == x1) then (bif (v5.Q == x2) then (k ((IntKind.wrap .i64 (y1 + 1)),(IntKind.wrap .i64 (y6 + 1)))) else (k ((IntKind.wrap .i64 (y1 + 1)),y6))) else (k ((IntKind.wrap .i64 (y1 + 1)),y6)))
def qW (n : Nat) : Nat → Net → Int → Int → Int → Int → Option ((Int) ⊕ (Int))
  | 0,_,_,_,_,_ => none
  | mo4 + 1,x0,x1,x2,y1,y2 => (bif (decide (y1 < (x0.Ls.length : Int))) then ((idx x0.Ls y1).bind fun v5 => (bif (v5.A == x1) then (bif (v5.P == x2) then (QP n (fun v => qW n mo4 x0 x1 x2 v.1 v.2) v5 x1 x2 y1 (IntKind.wrap .i64 (y2 + 1))) else (QP n (fun v => qW n mo4 x0 x1 x2 v.1 v.2) v5 x1 x2 y1 y2)) else (QP n (fun v => qW n mo4 x0 x1 x2 v.1 v.2) v5 x1 x2 y1 y2))) else (some (Sum.inl y2)))
def Yd (n : Nat) (x0 : Net) (x1 : Int) (x2 : Int) : Option (Int) :=
  ((qW n n x0 x1 x2 0 0).bind fun o => match o with | .inl y3 => (zAU n y3) | .inr r => some r)
theorem zF5 (n : Nat) (x0 : Net) (x1 : Int) (x2 : Int) (r : Int) (H : Yd n x0 x1 x2 = some r) : zD Tryz.prog 221 [.val true (CV.frzRow (Net.row x0)),.val false [.lit (.int .i64 x1)],.val false [.lit (.int .i64 x2)]] [.val false [.lit (.int .i64 r)]] [] := by
 refine cA Tryz.func221 (.seq (Rg Tryz.f221 0) (.seq (Rg Tryz.f221 1) (.seq (.seq (Rg Tryz.f221 2) (.block 0 (.loop (.seq (.seq (Rg Tryz.f221 3) (.cond (.tmp 14) .skip (.exit 0))) (.seq (.block 1 (.seq (Rg Tryz.f221 5) (.seq (.seq (Rg Tryz.f221 6) (.cond (.tmp 31) (Rg Tryz.f221 7) .skip)) (.seq (Rg Tryz.f221 8) (.cond (.tmp 43) (Rg Tryz.f221 9) .skip))))) (Rg Tryz.f221 4)))))) (.seq (Rg Tryz.f221 10) .ret)))) [.tmp 6] fun cx => ?_
 unfold Yd at H
 refine gA 2 14 8 ?_
 refine gA 1 142 8 ?_
 refine tS ?_
 refine gA 1 398 8 ?_
 obtain ⟨o4,eo4,Ho4⟩ := bs H
 clear H
 refine Tr.mid (ι := Int) (fun v => ⟨47,0,[sI 7 v],[]⟩) (fun v => zAU n v = some r) ?_ ?_
 ·refine tB ?_
  refine Tr.loop (ι := Nat × (Int × Int)) (fun v => ⟨47,0,[sI 8 v.2.1,sI 7 v.2.2,sA 3 3 3 0,sI 1 x1,sI 2 x2],[(3,(CV.frzRow (Net.row x0)))]⟩) (fun v => qW n v.1 x0 x1 x2 v.2.1 v.2.2 = some o4) (fun v => v.1) (n,(0,0)) eo4 (St.sub_of [8,7,3,1,2] [3] kr) ?_
  rintro ⟨mo4,y1,y2⟩ H
  have H : qW n mo4 x0 x1 x2 y1 y2 = some o4 := H
  obtain _ | mo4 := mo4
  ·exact nN H
  rw [qW] at H
  refine tS ?_
  refine rA 3 ?_
  refine kF x0.Ls Link.row ?_
  refine uA 1 16782 8 ?_
  obtain ⟨h1,H⟩ | ⟨h1,H⟩ := bC H
  ·refine nA h1 ?_
   refine Tr.exit ?_
   refine And.intro (fun _ => ?_) (fun h => absurd rfl h)
   obtain rfl := si H
   have H := Ho4
   dsimp only at H
   exact jA y2 H [7] []
  refine tA h1 ?_
  refine tK ?_
  refine tS ?_
  refine tB ?_
  refine rA 3 ?_
  obtain ⟨v5,ev5,H⟩ := bs H
  refine iA Link.row ev5 ?_
  refine uA 3 910 520 ?_
  refine tS ?_
  refine Tr.mid (ι := Int) (fun v => ⟨47,0,[sA 9 9 4 0,sI 8 y1,sI 7 v,sA 3 3 3 0,sI 1 x1,sI 2 x2],[(9,(Link.row v5)),(3,(CV.frzRow (Net.row x0)))]⟩) (fun v => QP n (fun v => qW n mo4 x0 x1 x2 v.1 v.2) v5 x1 x2 y1 v = some o4) ?_ ?_
  ·refine rA 5 ?_
   refine sL 67109774 520 ⟨47,0,[sB 26 (v5.A == x1),sA 9 9 4 0,sI 8 y1,sI 7 y2,sA 3 3 3 0,sI 1 x1,sI 2 x2],[(9,(Link.row v5)),(3,(CV.frzRow (Net.row x0)))]⟩ ?_
   cases h4 : (v5.A == x1)
   ·have H := zG h4 H
    refine uA 5 2147484558 520 ?_
    refine nB_ ?_
    refine tK ?_
    exact jA y2 H [9,8,7,3,1,2] [9,3]
   have H := zH h4 H
   refine uA 5 2147484558 520 ?_
   obtain ⟨h5,H⟩ | ⟨h5,H⟩ := bC H
   ·refine nA h5 ?_
    refine tK ?_
    exact jA y2 H [9,8,7,3,1,2] [9,3]
   refine tA h5 ?_
   refine eA 3 910 520 ?_
   exact jA (IntKind.wrap .i64 (y2 + 1)) H [9,8,7,3,1,2] [9,3]
  rintro y6 H
  have H : (QP n (fun v => qW n mo4 x0 x1 x2 v.1 v.2) v5 x1 x2 y1 y6) = some o4 := H
  unfold QP at H
  refine rA 5 ?_
  refine sL 274877907854 520 ⟨47,0,[sB 38 (v5.B == x1),sA 9 9 4 0,sI 8 y1,sI 7 y6,sA 3 3 3 0,sI 1 x1,sI 2 x2],[(9,(Link.row v5)),(3,(CV.frzRow (Net.row x0)))]⟩ ?_
  cases h2 : (v5.B == x1)
  ·have H := zG h2 H
   refine uA 5 8796093022606 8 ?_
   refine nB_ ?_
   refine tK ?_
   refine eA 3 398 8 ?_
   exact jB mo4 ((IntKind.wrap .i64 (y1 + 1)),y6) H [8,7,3,1,2] [3]
  have H := zH h2 H
  refine uA 5 8796093022606 8 ?_
  obtain ⟨h3,H⟩ | ⟨h3,H⟩ := bC H
  ·refine nA h3 ?_
   refine tK ?_
   refine eA 3 398 8 ?_
   exact jB mo4 ((IntKind.wrap .i64 (y1 + 1)),y6) H [8,7,3,1,2] [3]
  refine tA h3 ?_
  refine eA 3 398 8 ?_
  refine eA 3 398 8 ?_
  exact jB mo4 ((IntKind.wrap .i64 (y1 + 1)),(IntKind.wrap .i64 (y6 + 1))) H [8,7,3,1,2] [3]
 rintro y3 H
 have H : (zAU n y3) = some r := H
 unfold zAU at H
 refine gA 2 64 0 ?_
 exact te (by obtain rfl := si H; exact fP [(false,[cI y3])])
def Qf (n : Nat) (x0 : Net) : Option (Bool) :=
  ((zP n (x0.Bs.length : Int) 1 6).bind fun r2 => (some r2))
def Qh (n : Nat) (k : (Int → Option ((Unit) ⊕ (Bool)))) (y1 : Int) : Option ((Unit) ⊕ (Bool)) :=
  (k (IntKind.wrap .i64 (y1 + 1)))
def qI (n : Nat) : Nat → Net → Int → Int → Option ((Unit) ⊕ (Bool))
  | 0,_,_,_ => none
  | mo8 + 1,x0,y1,y7 => ((idx x0.Bs y1).bind fun v9 => (bif (decide (y7 < (v9.Ps.length : Int))) then ((idx x0.Bs y1).bind fun v10 => ((idx v10.Ps y7).bind fun v11 => (bif v11.Has then ((Yd n x0 y1 y7).bind fun r12 => (bif (r12 == 0) then (some (Sum.inr false)) else (qI n mo8 x0 y1 (IntKind.wrap .i64 (y7 + 1))))) else (qI n mo8 x0 y1 (IntKind.wrap .i64 (y7 + 1)))))) else (some (Sum.inl ()))))
def Qg (n : Nat) (k : (Int → Option ((Unit) ⊕ (Bool)))) (x0 : Net) (y1 : Int) : Option ((Unit) ⊕ (Bool)) :=
  ((qI n n x0 y1 0).bind fun o => match o with | .inl _ => (Qh n k y1) | .inr r => some (Sum.inr r))
def qU (n : Nat) : Nat → Net → Int → Int → Option ((Unit) ⊕ (Bool))
  | 0,_,_,_ => none
  | mo13 + 1,x0,y1,y6 => (bif (decide (y6 < y1)) then ((idx x0.Bs y6).bind fun v14 => ((idx x0.Bs y1).bind fun v15 => (bif (v14.Id == v15.Id) then (some (Sum.inr false)) else (qU n mo13 x0 y1 (IntKind.wrap .i64 (y6 + 1)))))) else (some (Sum.inl ())))
def zb (n : Nat) : Nat → Net → Int → Option ((Unit) ⊕ (Bool))
  | 0,_,_ => none
  | mo3 + 1,x0,y1 => (bif (decide (y1 < (x0.Bs.length : Int))) then ((idx x0.Bs y1).bind fun v4 => ((zS n v4).bind fun r5 => (bif (!r5) then (some (Sum.inr false)) else ((qU n n x0 y1 0).bind fun o => match o with | .inl _ => (Qg n (fun v => zb n mo3 x0 v) x0 y1) | .inr r => some (Sum.inr r))))) else (some (Sum.inl ())))
def YP (n : Nat) (x0 : Net) : Option (Bool) :=
  ((zb n n x0 0).bind fun o => match o with | .inl _ => (Qf n x0) | .inr r => some r)
def zN6 : Tab := ⟨13,[0,1,0,6,8,16,0,64,0,384,512,1024,2080],[0,1,0,6,8,16,0,64,0,384,512,1024,2080],[0,1,0,7,15,31,0,64,0,448,960,1984,4095]⟩
theorem zEX : zf (rg Tryz.f159 9) zN6 = true := kr
theorem zIG (n : Nat) (x0 : Net) (r : Bool) (H : YP n x0 = some r) : zD Tryz.prog 159 [.val true (CV.frzRow (Net.row x0))] [.val false [.lit (.bool r)]] [] := by
 refine cA Tryz.func159 (.seq (Rg Tryz.f159 0) (.seq (.seq (Rg Tryz.f159 1) (.block 0 (.loop (.seq (.seq (Rg Tryz.f159 2) (.cond (.tmp 10) .skip (.exit 0))) (.seq (.block 1 (.seq (.seq (Rg Tryz.f159 4) (.cond (.tmp 19) (.seq (Rg Tryz.f159 5) .ret) .skip)) (.seq (.seq (Rg Tryz.f159 6) (.block 2 (.loop (.seq (.seq (Rg Tryz.f159 7) (.cond (.tmp 22) .skip (.exit 2))) (.seq (.block 3 (.seq (Rd Tryz.f159 9) (.cond (.tmp 37) (.seq (Rg Tryz.f159 10) .ret) .skip))) (Rg Tryz.f159 8)))))) (.seq (Rg Tryz.f159 11) (.block 4 (.loop (.seq (.seq (Rg Tryz.f159 12) (.cond (.tmp 46) .skip (.exit 4))) (.seq (.block 5 (.seq (Rg Tryz.f159 14) (.cond (.tmp 65) (.seq (Rg Tryz.f159 15) .ret) .skip))) (Rg Tryz.f159 13))))))))) (Rg Tryz.f159 3)))))) (.seq (Rg Tryz.f159 16) .ret))) [.tmp 2] fun cx => ?_
 unfold YP at H
 refine gA 2 2 2 ?_
 refine tS ?_
 refine gA 1 10 2 ?_
 obtain ⟨o3,eo3,Ho3⟩ := bs H
 clear H
 refine Tr.mid (ι := Unit) (fun v => ⟨70,0,[sA 1 1 3 0],[(1,(CV.frzRow (Net.row x0)))]⟩) (fun v => Qf n x0 = some r) ?_ ?_
 ·refine tB ?_
  refine Tr.loop (ι := Nat × (Int)) (fun v => ⟨70,0,[sI 3 v.2,sA 1 1 3 0],[(1,(CV.frzRow (Net.row x0)))]⟩) (fun v => zb n v.1 x0 v.2 = some o3) (fun v => v.1) (n,0) eo3 (St.sub_of [3,1] [1] kr) ?_
  rintro ⟨mo3,y1⟩ H
  have H : zb n mo3 x0 y1 = some o3 := H
  obtain _ | mo3 := mo3
  ·exact nN H
  rw [zb] at H
  refine tS ?_
  refine rA 3 ?_
  refine kF x0.Bs zA.row ?_
  refine uA 1 1034 2 ?_
  obtain ⟨h1,H⟩ | ⟨h1,H⟩ := bC H
  ·refine nA h1 ?_
   refine Tr.exit ?_
   refine And.intro (fun _ => ?_) (fun h => absurd rfl h)
   obtain rfl := si H
   have H := Ho3
   dsimp only at H
   exact jA () H [1] [1]
  refine tA h1 ?_
  refine tK ?_
  refine tS ?_
  refine tB ?_
  refine tS ?_
  refine rA 3 ?_
  obtain ⟨v4,ev4,H⟩ := bs H
  refine iA zA.row ev4 ?_
  refine lA 1 ?_
  obtain ⟨r5,er5,H⟩ := bs H
  refine vA [.rd] (zDD n v4 r5 er5) ?_
  refine uA 1 524298 2 ?_
  obtain ⟨h2,H⟩ | ⟨h2,H⟩ := bC H
  ·refine nA h2 ?_
   refine tK ?_
   refine tS ?_
   refine gA 1 26 2 ?_
   obtain ⟨o13,eo13,Ho13⟩ := bs H
   clear H
   refine Tr.mid (ι := Unit) (fun v => ⟨70,0,[sI 3 y1,sA 1 1 3 0],[(1,(CV.frzRow (Net.row x0)))]⟩) (fun v => Qg n (fun v => zb n mo3 x0 v) x0 y1 = some o3) ?_ ?_
   ·refine tB ?_
    refine Tr.loop (ι := Nat × (Int)) (fun v => ⟨70,0,[sI 4 v.2,sI 3 y1,sA 1 1 3 0],[(1,(CV.frzRow (Net.row x0)))]⟩) (fun v => qU n v.1 x0 y1 v.2 = some o13) (fun v => v.1) (n,0) eo13 (St.sub_of [4,3,1] [1] kr) ?_
    rintro ⟨mo13,y6⟩ H
    have H : qU n mo13 x0 y1 y6 = some o13 := H
    obtain _ | mo13 := mo13
    ·exact nN H
    rw [qU] at H
    refine tS ?_
    refine gA 3 4194330 2 ?_
    obtain ⟨h6,H⟩ | ⟨h6,H⟩ := bC H
    ·refine nA h6 ?_
     refine Tr.exit ?_
     refine And.intro (fun _ => ?_) (fun h => absurd rfl h)
     obtain rfl := si H
     have H := Ho13
     dsimp only at H
     exact jA () H [3,1] [1]
    refine tA h6 ?_
    refine tK ?_
    refine tS ?_
    refine tB ?_
    obtain ⟨v14,ev14,H⟩ := bs H
    obtain ⟨v15,ev15,H⟩ := bs H
    refine Tr.draws mixed 13 kr ⟨70,0,[sB 37 (v14.Id == v15.Id),sI 4 y6,sI 3 y1,sA 1 1 3 0],[(1,(CV.frzRow (Net.row x0)))]⟩ (fun cx => ?_) ?_
    ·refine mA zEX [(0,[]),(1,[]),(2,[])] 10 [⟨[],63,25,26⟩] fun cx => ?_
     refine iN zEX 3 zA.row ev14 fun cx => ?_
     refine mA zEX [(4,[]),(5,[]),(6,[]),(7,[]),(8,[])] 4 [⟨[],63,31,32⟩,⟨[],63,25,26⟩] fun cx => ?_
     refine iN zEX 9 zA.row ev15 fun cx => ?_
     refine mA zEX [(10,[]),(11,[]),(12,[])] 0 [⟨[],63,31,32⟩,⟨[],63,25,26⟩] fun cx => ?_
     exact mE zEX [37,4,3,1] [1]
    refine sT ⟨70,0,[sB 37 (v14.Id == v15.Id),sI 4 y6,sI 3 y1,sA 1 1 3 0],[(1,(CV.frzRow (Net.row x0)))]⟩ ?_
    cases h7 : (v14.Id == v15.Id)
    ·have H := zG h7 H
     refine nB_ ?_
     refine tK ?_
     refine eA 3 26 2 ?_
     exact jB mo13 (IntKind.wrap .i64 (y6 + 1)) H [4,3,1] [1]
    have H := zH h7 H
    refine tB_ ?_
    refine gA 1 4 0 ?_
    refine te ?_
    obtain rfl := si H
    have H := Ho13
    dsimp only at H
    obtain rfl := si H
    have H := Ho3
    dsimp only at H
    obtain rfl := si H
    exact fP [(false,[cB false])]
   rintro _ H
   have H : (Qg n (fun v => zb n mo3 x0 v) x0 y1) = some o3 := H
   unfold Qg at H
   refine gA 1 42 2 ?_
   obtain ⟨o8,eo8,Ho8⟩ := bs H
   clear H
   refine Tr.mid (ι := Unit) (fun v => ⟨70,0,[sI 3 y1,sA 1 1 3 0],[(1,(CV.frzRow (Net.row x0)))]⟩) (fun v => Qh n (fun v => zb n mo3 x0 v) y1 = some o3) ?_ ?_
   ·refine tB ?_
    refine Tr.loop (ι := Nat × (Int)) (fun v => ⟨70,0,[sI 5 v.2,sI 3 y1,sA 1 1 3 0],[(1,(CV.frzRow (Net.row x0)))]⟩) (fun v => qI n v.1 x0 y1 v.2 = some o8) (fun v => v.1) (n,0) eo8 (St.sub_of [5,3,1] [1] kr) ?_
    rintro ⟨mo8,y7⟩ H
    have H : qI n mo8 x0 y1 y7 = some o8 := H
    obtain _ | mo8 := mo8
    ·exact nN H
    rw [qI] at H
    refine tS ?_
    refine rA 4 ?_
    obtain ⟨v9,ev9,H⟩ := bs H
    refine iA zA.row ev9 ?_
    refine lA 2 ?_
    refine kF v9.Ps Pt.row ?_
    refine uA 1 70368744177706 2 ?_
    obtain ⟨h3,H⟩ | ⟨h3,H⟩ := bC H
    ·refine nA h3 ?_
     refine Tr.exit ?_
     refine And.intro (fun _ => ?_) (fun h => absurd rfl h)
     obtain rfl := si H
     have H := Ho8
     dsimp only at H
     exact jA () H [3,1] [1]
    refine tA h3 ?_
    refine tK ?_
    refine tS ?_
    refine tB ?_
    refine rA 3 ?_
    obtain ⟨v10,ev10,H⟩ := bs H
    refine iA zA.row ev10 ?_
    refine lA 3 ?_
    obtain ⟨v11,ev11,H⟩ := bs H
    refine iA Pt.row ev11 ?_
    refine lA 3 ?_
    refine sL 0x80000000000002a 2 ⟨70,0,[sB 59 v11.Has,sI 5 y7,sI 3 y1,sA 1 1 3 0],[(1,(CV.frzRow (Net.row x0)))]⟩ ?_
    cases h4 : v11.Has
    ·have H := zG h4 H
     refine uA 6 0x2000000000000002a 2 ?_
     refine nB_ ?_
     refine tK ?_
     refine eA 3 42 2 ?_
     exact jB mo8 (IntKind.wrap .i64 (y7 + 1)) H [5,3,1] [1]
    have H := zH h4 H
    refine lA 3 ?_
    obtain ⟨r12,er12,H⟩ := bs H
    refine vA [.rd,.rd,.rd] (zF5 n x0 y1 y7 r12 er12) ?_
    refine uA 2 0x2000000000000002a 2 ?_
    obtain ⟨h5,H⟩ | ⟨h5,H⟩ := bC H
    ·refine nA h5 ?_
     refine tK ?_
     refine eA 3 42 2 ?_
     exact jB mo8 (IntKind.wrap .i64 (y7 + 1)) H [5,3,1] [1]
    refine tA h5 ?_
    refine gA 1 4 0 ?_
    refine te ?_
    obtain rfl := si H
    have H := Ho8
    dsimp only at H
    obtain rfl := si H
    have H := Ho3
    dsimp only at H
    obtain rfl := si H
    exact fP [(false,[cB false])]
   rintro _ H
   have H : (Qh n (fun v => zb n mo3 x0 v) y1) = some o3 := H
   unfold Qh at H
   refine eA 3 10 2 ?_
   exact jB mo3 (IntKind.wrap .i64 (y1 + 1)) H [3,1] [1]
  refine tA h2 ?_
  refine gA 1 4 0 ?_
  refine te ?_
  obtain rfl := si H
  have H := Ho3
  dsimp only at H
  obtain rfl := si H
  exact fP [(false,[cB false])]
 rintro _ H
 have H : (Qf n x0) = some r := H
 unfold Qf at H
 refine rA 2 ?_
 refine kF x0.Bs zA.row ?_
 obtain ⟨r2,er2,H⟩ := bs H
 refine vA [.rd,.rd,.rd] (zO n (x0.Bs.length : Int) 1 6 r2 er2) ?_
 refine uA 1 4 0 ?_
 exact te (by obtain rfl := si H; exact fP [(false,[cB r2])])
def JY (n : Nat) (x0 : Net) (x1 : Int) (x2 : Int) : Option (Bool) :=
  ((zP n x1 0 (IntKind.wrap .i64 ((x0.Bs.length : Int) - 1))).bind fun r1 => (bif r1 then ((idx x0.Bs x1).bind fun v2 => ((zP n x2 0 (IntKind.wrap .i64 ((v2.Ps.length : Int) - 1))).bind fun r3 => (bif r3 then ((Yd n x0 x1 x2).bind fun r4 => (some (r4 == 1))) else (some false)))) else (some false)))
theorem zBR (n : Nat) (x0 : Net) (x1 : Int) (x2 : Int) (r : Bool) (H : JY n x0 x1 x2 = some r) : zD Tryz.prog 160 [.val true (CV.frzRow (Net.row x0)),.val false [.lit (.int .i64 x1)],.val false [.lit (.int .i64 x2)]] [.val false [.lit (.bool r)]] [] := by
 refine cA Tryz.func160 (.seq (Rg Tryz.f160 0) (.seq (Rg Tryz.f160 1) .ret)) [.tmp 6] fun cx => ?_
 unfold JY at H
 refine gA 2 14 8 ?_
 refine rA 3 ?_
 refine kF x0.Bs zA.row ?_
 refine lA 1 ?_
 obtain ⟨r1,er1,H⟩ := bs H
 refine vA [.rd,.rd,.rd] (zO n x1 0 (IntKind.wrap .i64 ((x0.Bs.length : Int) - 1)) r1 er1) ?_
 refine lA 1 ?_
 refine sL 8206 8 ⟨32,0,[sB 13 r1,sA 3 3 3 0,sI 1 x1,sI 2 x2],[(3,(CV.frzRow (Net.row x0)))]⟩ ?_
 cases h1 : r1
 ·have H := zG h1 H
  refine uA 19 64 0 ?_
  exact te (by obtain rfl := si H; exact fP [(false,[cB false])])
 have H := zH h1 H
 refine lA 4 ?_
 obtain ⟨v2,ev2,H⟩ := bs H
 refine iA zA.row ev2 ?_
 refine lA 2 ?_
 refine kF v2.Ps Pt.row ?_
 refine lA 1 ?_
 obtain ⟨r3,er3,H⟩ := bs H
 refine vA [.rd,.rd,.rd] (zO n x2 0 (IntKind.wrap .i64 ((v2.Ps.length : Int) - 1)) r3 er3) ?_
 refine lA 2 ?_
 refine sL 33554446 8 ⟨32,0,[sB 25 r3,sA 3 3 3 0,sI 1 x1,sI 2 x2],[(3,(CV.frzRow (Net.row x0)))]⟩ ?_
 cases h2 : r3
 ·have H := zG h2 H
  refine uA 7 64 0 ?_
  exact te (by obtain rfl := si H; exact fP [(false,[cB false])])
 have H := zH h2 H
 refine lA 3 ?_
 obtain ⟨r4,er4,H⟩ := bs H
 refine vA [.rd,.rd,.rd] (zF5 n x0 x1 x2 r4 er4) ?_
 refine uA 3 64 0 ?_
 exact te (by obtain rfl := si H; exact fP [(false,[cB (r4 == 1)])])
def zBi (n : Nat) : Option (Bool) :=
  (some true)
def qz (n : Nat) : Nat → Net → Int → Option ((Unit) ⊕ (Bool))
  | 0,_,_ => none
  | mo4 + 1,x0,y3 => (bif (decide (y3 < (x0.Said.length : Int))) then ((idx x0.Said y3).bind fun v5 => ((zP n v5.Link 0 (IntKind.wrap .i64 ((x0.Ls.length : Int) - 1))).bind fun r6 => (bif (!r6) then (some (Sum.inr false)) else ((idx x0.Said y3).bind fun v7 => ((zq n v7.V).bind fun r8 => (bif (!r8) then (some (Sum.inr false)) else (qz n mo4 x0 (IntKind.wrap .i64 (y3 + 1))))))))) else (some (Sum.inl ())))
def Yc (n : Nat) (x0 : Net) : Option (Bool) :=
  ((qz n n x0 0).bind fun o => match o with | .inl _ => (zBi n) | .inr r => some r)
def qg (n : Nat) : Nat → Net → Int → Option ((Unit) ⊕ (Bool))
  | 0,_,_ => none
  | mo9 + 1,x0,y2 => (bif (decide (y2 < (x0.Ls.length : Int))) then ((idx x0.Ls y2).bind fun v10 => (bif (v10.A == v10.B) then (some (Sum.inr false)) else ((JY n x0 v10.A v10.P).bind fun r11 => (bif (!r11) then (some (Sum.inr false)) else ((JY n x0 v10.B v10.Q).bind fun r12 => (bif (!r12) then (some (Sum.inr false)) else ((idx x0.Bs v10.A).bind fun v13 => ((idx v13.Ps v10.P).bind fun v14 => ((idx x0.Bs v10.B).bind fun v15 => ((idx v15.Ps v10.Q).bind fun v16 => (bif (!(v14.Up == v16.Up)) then (some (Sum.inr false)) else (qg n mo9 x0 (IntKind.wrap .i64 (y2 + 1)))))))))))))) else (some (Sum.inl ())))
def Q6 (n : Nat) (x0 : Net) : Option (Bool) :=
  ((YP n x0).bind fun r1 => (bif (!r1) then (some false) else (bif (decide ((x0.Ls.length : Int) > 9)) then (some false) else (bif (decide ((x0.Said.length : Int) > 40)) then (some false) else ((qg n n x0 0).bind fun o => match o with | .inl _ => (Yc n x0) | .inr r => some r)))))
def zOa : Tab := ⟨50,[0,1,0,4,10,16,32,32,160,32,544,1376,2080,4128,10240,16384,16384,81920,16384,278528,704512,1064960,2113536,5242880,8388608,25165824,8388608,75497472,176160768,276824064,545259520,8388608,2155872256,5377097728,8598323200,17188257792,8388608,68727865344,8388608,274886295552,687203155968,1099520016384,2199031644160,8388608,8796101410816,21990240944128,35184380477440,70368752566272,0x800800800000,281474985099264],[0,1,0,4,10,16,32,32,160,32,544,1376,2080,4128,8192,16384,16384,81920,16384,278528,704512,1064960,2113536,4194304,8388608,25165824,8388608,75497472,176160768,276824064,545259520,8388608,2155872256,5377097728,8598323200,17188257792,8388608,68727865344,8388608,274886295552,687203155968,1099520016384,2199031644160,8388608,8796101410816,21990240944128,35184380477440,70368752566272,0x800800800000,281474985099264],[0,1,0,4,15,31,63,63,191,63,575,2047,4095,8191,16383,32767,32767,98303,32767,294911,1048575,2097151,4194303,8388607,16777215,33554431,16777215,83886079,268435455,536870911,1073741823,16777215,2164260863,8589934591,17179869183,34359738367,16777215,68736253951,16777215,274894684159,0xf000ffffff,2130320556031,4329343811583,16777215,8796109799423,35115669389311,70300041478143,0x7ff000ffffff,0xffffffffffff,562949953421311]⟩
theorem qh : zf (rg Tryz.f61 7) zOa = true := kr
def zOK : Tab := ⟨22,[0,1,0,6,8,16,0,64,128,256,544,1024,3072,4096,12288,4096,53248,69632,135168,266240,528384,1052672],[0,1,0,6,8,16,0,64,128,256,544,1024,2048,4096,12288,4096,53248,69632,135168,266240,528384,1052672],[0,1,0,7,15,31,0,64,192,448,1023,2047,4095,8191,16383,8191,65535,131071,262143,524287,1048575,2097151]⟩
theorem Zf : zf (rg Tryz.f61 12) zOK = true := kr
theorem zMA (n : Nat) (x0 : Net) (r : Bool) (H : Q6 n x0 = some r) : zD Tryz.prog 61 [.val true (CV.frzRow (Net.row x0))] [.val false [.lit (.bool r)]] [] := by
 refine cA Tryz.func61 (.seq (Rg Tryz.f61 0) (.seq (.seq (Rg Tryz.f61 1) (.cond (.tmp 20) (.seq (Rg Tryz.f61 2) .ret) .skip)) (.seq (.seq (Rg Tryz.f61 3) (.block 0 (.loop (.seq (.seq (Rg Tryz.f61 4) (.cond (.tmp 25) .skip (.exit 0))) (.seq (.block 1 (.seq (Rg Tryz.f61 6) (.seq (Rd Tryz.f61 7) (.cond (.tmp 82) (.seq (Rg Tryz.f61 8) .ret) .skip)))) (Rg Tryz.f61 5)))))) (.seq (.seq (Rg Tryz.f61 9) (.block 2 (.loop (.seq (.seq (Rg Tryz.f61 10) (.cond (.tmp 87) .skip (.exit 2))) (.seq (.block 3 (.seq (Rd Tryz.f61 12) (.cond (.tmp 111) (.seq (Rg Tryz.f61 13) .ret) .skip))) (Rg Tryz.f61 11)))))) (.seq (Rg Tryz.f61 14) .ret))))) [.tmp 2] fun cx => ?_
 unfold Q6 at H
 refine gA 2 2 2 ?_
 refine tS ?_
 refine rA 1 ?_
 obtain ⟨r1,er1,H⟩ := bs H
 refine vA [.rd] (zIG n x0 r1 er1) ?_
 refine lA 2 ?_
 refine sL 514 2 ⟨112,0,[sB 9 (!r1),sA 1 1 3 0],[(1,(CV.frzRow (Net.row x0)))]⟩ ?_
 cases h1 : (!r1)
 ·have H := zG h1 H
  refine lA 2 ?_
  refine kF x0.Ls Link.row ?_
  refine lA 3 ?_
  refine sL 32770 2 ⟨112,0,[sB 15 (decide ((x0.Ls.length : Int) > 9)),sA 1 1 3 0],[(1,(CV.frzRow (Net.row x0)))]⟩ ?_
  cases h2 : (decide ((x0.Ls.length : Int) > 9))
  ·have H := zG h2 H
   refine lA 2 ?_
   refine kF x0.Said Say.row ?_
   refine uA 2 1048578 2 ?_
   obtain ⟨h3,H⟩ | ⟨h3,H⟩ := bC H
   ·refine nA h3 ?_
    refine tK ?_
    refine tS ?_
    refine gA 1 10 2 ?_
    obtain ⟨o9,eo9,Ho9⟩ := bs H
    clear H
    refine Tr.mid (ι := Unit) (fun v => ⟨112,0,[sA 1 1 3 0],[(1,(CV.frzRow (Net.row x0)))]⟩) (fun v => Yc n x0 = some r) ?_ ?_
    ·refine tB ?_
     refine Tr.loop (ι := Nat × (Int)) (fun v => ⟨112,0,[sI 3 v.2,sA 1 1 3 0],[(1,(CV.frzRow (Net.row x0)))]⟩) (fun v => qg n v.1 x0 v.2 = some o9) (fun v => v.1) (n,0) eo9 (St.sub_of [3,1] [1] kr) ?_
     rintro ⟨mo9,y2⟩ H
     have H : qg n mo9 x0 y2 = some o9 := H
     obtain _ | mo9 := mo9
     ·exact nN H
     rw [qg] at H
     refine tS ?_
     refine rA 3 ?_
     refine kF x0.Ls Link.row ?_
     refine uA 1 33554442 2 ?_
     obtain ⟨h7,H⟩ | ⟨h7,H⟩ := bC H
     ·refine nA h7 ?_
      refine Tr.exit ?_
      refine And.intro (fun _ => ?_) (fun h => absurd rfl h)
      obtain rfl := si H
      have H := Ho9
      dsimp only at H
      exact jA () H [1] [1]
     refine tA h7 ?_
     refine tK ?_
     refine tS ?_
     refine tB ?_
     refine rA 3 ?_
     obtain ⟨v10,ev10,H⟩ := bs H
     refine iA Link.row ev10 ?_
     refine uA 3 26 18 ?_
     refine sT ⟨112,0,[sA 4 4 4 0,sI 3 y2,sA 1 1 3 0],[(4,(Link.row v10)),(1,(CV.frzRow (Net.row x0)))]⟩ ?_
     cases h8 : (v10.A == v10.B)
     ·have H := zG h8 H
      obtain ⟨r11,er11,H⟩ := bs H
      refine sT ⟨112,0,[sA 4 4 4 0,sI 3 y2,sA 1 1 3 0],[(4,(Link.row v10)),(1,(CV.frzRow (Net.row x0)))]⟩ ?_
      cases h9 : (!r11)
      ·have H := zG h9 H
       obtain ⟨r12,er12,H⟩ := bs H
       refine sT ⟨112,0,[sA 4 4 4 0,sI 3 y2,sA 1 1 3 0],[(4,(Link.row v10)),(1,(CV.frzRow (Net.row x0)))]⟩ ?_
       cases h10 : (!r12)
       ·have H := zG h10 H
        obtain ⟨v13,ev13,H⟩ := bs H
        obtain ⟨v14,ev14,H⟩ := bs H
        obtain ⟨v15,ev15,H⟩ := bs H
        obtain ⟨v16,ev16,H⟩ := bs H
        refine Tr.draws mixed 50 kr ⟨112,0,[sB 82 (!(v14.Up == v16.Up)),sI 3 y2,sA 1 1 3 0],[(1,(CV.frzRow (Net.row x0)))]⟩ (fun cx => ?_) ?_
        ·refine mA qh [(0,[]),(1,[11,20]),(2,[]),(3,[11,20]),(4,[]),(5,[])] 44 [⟨[11,20],3,35,36⟩,⟨[11,20],3,33,34⟩] fun cx => ?_
         refine sA_ 403726925850 18 ⟨112,0,[sB 38 (v10.A == v10.B),sI 36 v10.B,sA 35 4 4 2,sI 34 v10.A,sA 33 4 4 0,sA 4 4 4 0,sI 3 y2,sA 1 1 3 0],[(4,(Link.row v10)),(1,(CV.frzRow (Net.row x0)))]⟩ ?_
         rw [h8]
         refine mA qh [(6,[11,20]),(7,[]),(8,[11,20]),(9,[]),(10,[11,20])] 39 [⟨[11,20],3,42,43⟩,⟨[11,20],3,40,41⟩,⟨[11,20],67,1,39⟩,⟨[11,20],3,35,36⟩,⟨[11,20],3,33,34⟩] fun cx => ?_
         refine mC qh 11 ?_
         refine vA [.rd,.rd,.rd] (zBR n x0 v10.A v10.P r11 er11) ?_
         refine fA ?_
         refine mA qh [(12,[]),(13,[]),(14,[])] 35 [⟨[11,20],3,42,43⟩,⟨[11,20],3,40,41⟩,⟨[11,20],67,1,39⟩,⟨[11,20],3,35,36⟩,⟨[11,20],3,33,34⟩] fun cx => ?_
         refine sA_ 0x8f9e0000001a 18 ⟨112,0,[sB 47 (!r11),sI 43 v10.P,sA 42 4 4 1,sI 41 v10.A,sA 40 4 4 0,sR 39 1 3 0 3 true,sI 36 v10.B,sA 35 4 4 2,sI 34 v10.A,sA 33 4 4 0,sA 4 4 4 0,sI 3 y2,sA 1 1 3 0],[(4,(Link.row v10)),(1,(CV.frzRow (Net.row x0)))]⟩ ?_
         rw [h9]
         refine mA qh [(15,[20]),(16,[]),(17,[20]),(18,[]),(19,[20])] 30 [⟨[20],3,51,52⟩,⟨[20],3,49,50⟩,⟨[20],67,1,48⟩,⟨[11,20],3,42,43⟩,⟨[11,20],3,40,41⟩,⟨[11,20],67,1,39⟩,⟨[11,20],3,35,36⟩,⟨[11,20],3,33,34⟩] fun cx => ?_
         refine mC qh 20 ?_
         refine vA [.rd,.rd,.rd] (zBR n x0 v10.B v10.Q r12 er12) ?_
         refine fA ?_
         refine mA qh [(21,[]),(22,[]),(23,[])] 26 [⟨[20],3,51,52⟩,⟨[20],3,49,50⟩,⟨[20],67,1,48⟩,⟨[11,20],3,42,43⟩,⟨[11,20],3,40,41⟩,⟨[11,20],67,1,39⟩,⟨[11,20],3,35,36⟩,⟨[11,20],3,33,34⟩] fun cx => ?_
         refine sA_ 80800489595207706 18 ⟨112,0,[sB 56 (!r12),sI 52 v10.Q,sA 51 4 4 3,sI 50 v10.B,sA 49 4 4 2,sR 48 1 3 0 3 true,sI 43 v10.P,sA 42 4 4 1,sI 41 v10.A,sA 40 4 4 0,sR 39 1 3 0 3 true,sI 36 v10.B,sA 35 4 4 2,sI 34 v10.A,sA 33 4 4 0,sA 4 4 4 0,sI 3 y2,sA 1 1 3 0],[(4,(Link.row v10)),(1,(CV.frzRow (Net.row x0)))]⟩ ?_
         rw [h10]
         refine mA qh [(24,[]),(25,[]),(26,[]),(27,[])] 22 [⟨[],3,59,60⟩,⟨[],63,57,58⟩,⟨[20],3,51,52⟩,⟨[20],3,49,50⟩,⟨[20],67,1,48⟩,⟨[11,20],3,42,43⟩,⟨[11,20],3,40,41⟩,⟨[11,20],67,1,39⟩,⟨[11,20],3,35,36⟩,⟨[11,20],3,33,34⟩] fun cx => ?_
         refine iN qh 28 zA.row ev13 fun cx => ?_
         refine mA qh [(29,[]),(30,[]),(31,[]),(32,[])] 17 [⟨[],3,64,65⟩,⟨[],3,59,60⟩,⟨[],63,57,58⟩,⟨[20],3,51,52⟩,⟨[20],3,49,50⟩,⟨[20],67,1,48⟩,⟨[11,20],3,42,43⟩,⟨[11,20],3,40,41⟩,⟨[11,20],67,1,39⟩,⟨[11,20],3,35,36⟩,⟨[11,20],3,33,34⟩] fun cx => ?_
         refine iN qh 33 Pt.row ev14 fun cx => ?_
         refine mA qh [(34,[]),(35,[]),(36,[]),(37,[]),(38,[]),(39,[])] 10 [⟨[],3,71,72⟩,⟨[],63,69,70⟩,⟨[],3,64,65⟩,⟨[],3,59,60⟩,⟨[],63,57,58⟩,⟨[20],3,51,52⟩,⟨[20],3,49,50⟩,⟨[20],67,1,48⟩,⟨[11,20],3,42,43⟩,⟨[11,20],3,40,41⟩,⟨[11,20],67,1,39⟩,⟨[11,20],3,35,36⟩,⟨[11,20],3,33,34⟩] fun cx => ?_
         refine iN qh 40 zA.row ev15 fun cx => ?_
         refine mA qh [(41,[]),(42,[]),(43,[]),(44,[])] 5 [⟨[],3,76,77⟩,⟨[],3,71,72⟩,⟨[],63,69,70⟩,⟨[],3,64,65⟩,⟨[],3,59,60⟩,⟨[],63,57,58⟩,⟨[20],3,51,52⟩,⟨[20],3,49,50⟩,⟨[20],67,1,48⟩,⟨[11,20],3,42,43⟩,⟨[11,20],3,40,41⟩,⟨[11,20],67,1,39⟩,⟨[11,20],3,35,36⟩,⟨[11,20],3,33,34⟩] fun cx => ?_
         refine iN qh 45 Pt.row ev16 fun cx => ?_
         refine mA qh [(46,[]),(47,[]),(48,[]),(49,[])] 0 [⟨[],3,76,77⟩,⟨[],3,71,72⟩,⟨[],63,69,70⟩,⟨[],3,64,65⟩,⟨[],3,59,60⟩,⟨[],63,57,58⟩,⟨[20],3,51,52⟩,⟨[20],3,49,50⟩,⟨[20],67,1,48⟩,⟨[11,20],3,42,43⟩,⟨[11,20],3,40,41⟩,⟨[11,20],67,1,39⟩,⟨[11,20],3,35,36⟩,⟨[11,20],3,33,34⟩] fun cx => ?_
         exact mE qh [82,3,1] [1]
        refine sT ⟨112,0,[sB 82 (!(v14.Up == v16.Up)),sI 3 y2,sA 1 1 3 0],[(1,(CV.frzRow (Net.row x0)))]⟩ ?_
        cases h11 : (!(v14.Up == v16.Up))
        ·have H := zG h11 H
         refine nB_ ?_
         refine tK ?_
         refine eA 3 10 2 ?_
         exact jB mo9 (IntKind.wrap .i64 (y2 + 1)) H [3,1] [1]
        have H := zH h11 H
        refine tB_ ?_
        refine gA 1 4 0 ?_
        refine te ?_
        obtain rfl := si H
        have H := Ho9
        dsimp only at H
        obtain rfl := si H
        exact fP [(false,[cB false])]
       have H := zH h10 H
       refine Tr.draws mixed 50 kr ⟨112,0,[sB 82 true,sI 3 y2,sA 1 1 3 0],[(1,(CV.frzRow (Net.row x0)))]⟩ (fun cx => ?_) ?_
       ·refine mA qh [(0,[]),(1,[11,20]),(2,[]),(3,[11,20]),(4,[]),(5,[])] 44 [⟨[11,20],3,35,36⟩,⟨[11,20],3,33,34⟩] fun cx => ?_
        refine sA_ 403726925850 18 ⟨112,0,[sB 38 (v10.A == v10.B),sI 36 v10.B,sA 35 4 4 2,sI 34 v10.A,sA 33 4 4 0,sA 4 4 4 0,sI 3 y2,sA 1 1 3 0],[(4,(Link.row v10)),(1,(CV.frzRow (Net.row x0)))]⟩ ?_
        rw [h8]
        refine mA qh [(6,[11,20]),(7,[]),(8,[11,20]),(9,[]),(10,[11,20])] 39 [⟨[11,20],3,42,43⟩,⟨[11,20],3,40,41⟩,⟨[11,20],67,1,39⟩,⟨[11,20],3,35,36⟩,⟨[11,20],3,33,34⟩] fun cx => ?_
        refine mC qh 11 ?_
        refine vA [.rd,.rd,.rd] (zBR n x0 v10.A v10.P r11 er11) ?_
        refine fA ?_
        refine mA qh [(12,[]),(13,[]),(14,[])] 35 [⟨[11,20],3,42,43⟩,⟨[11,20],3,40,41⟩,⟨[11,20],67,1,39⟩,⟨[11,20],3,35,36⟩,⟨[11,20],3,33,34⟩] fun cx => ?_
        refine sA_ 0x8f9e0000001a 18 ⟨112,0,[sB 47 (!r11),sI 43 v10.P,sA 42 4 4 1,sI 41 v10.A,sA 40 4 4 0,sR 39 1 3 0 3 true,sI 36 v10.B,sA 35 4 4 2,sI 34 v10.A,sA 33 4 4 0,sA 4 4 4 0,sI 3 y2,sA 1 1 3 0],[(4,(Link.row v10)),(1,(CV.frzRow (Net.row x0)))]⟩ ?_
        rw [h9]
        refine mA qh [(15,[20]),(16,[]),(17,[20]),(18,[]),(19,[20])] 30 [⟨[20],3,51,52⟩,⟨[20],3,49,50⟩,⟨[20],67,1,48⟩,⟨[11,20],3,42,43⟩,⟨[11,20],3,40,41⟩,⟨[11,20],67,1,39⟩,⟨[11,20],3,35,36⟩,⟨[11,20],3,33,34⟩] fun cx => ?_
        refine mC qh 20 ?_
        refine vA [.rd,.rd,.rd] (zBR n x0 v10.B v10.Q r12 er12) ?_
        refine fA ?_
        refine mA qh [(21,[]),(22,[]),(23,[])] 26 [⟨[20],3,51,52⟩,⟨[20],3,49,50⟩,⟨[20],67,1,48⟩,⟨[11,20],3,42,43⟩,⟨[11,20],3,40,41⟩,⟨[11,20],67,1,39⟩,⟨[11,20],3,35,36⟩,⟨[11,20],3,33,34⟩] fun cx => ?_
        refine sA_ 80800489595207706 18 ⟨112,0,[sB 56 (!r12),sI 52 v10.Q,sA 51 4 4 3,sI 50 v10.B,sA 49 4 4 2,sR 48 1 3 0 3 true,sI 43 v10.P,sA 42 4 4 1,sI 41 v10.A,sA 40 4 4 0,sR 39 1 3 0 3 true,sI 36 v10.B,sA 35 4 4 2,sI 34 v10.A,sA 33 4 4 0,sA 4 4 4 0,sI 3 y2,sA 1 1 3 0],[(4,(Link.row v10)),(1,(CV.frzRow (Net.row x0)))]⟩ ?_
        rw [h10]
        refine mA qh [(24,[]),(25,[]),(26,[]),(27,[]),(28,[]),(29,[]),(30,[]),(31,[]),(32,[]),(33,[]),(34,[]),(35,[]),(36,[]),(37,[]),(38,[]),(39,[]),(40,[]),(41,[]),(42,[]),(43,[]),(44,[]),(45,[]),(46,[]),(47,[]),(48,[]),(49,[])] 0 [⟨[20],3,51,52⟩,⟨[20],3,49,50⟩,⟨[20],67,1,48⟩,⟨[11,20],3,42,43⟩,⟨[11,20],3,40,41⟩,⟨[11,20],67,1,39⟩,⟨[11,20],3,35,36⟩,⟨[11,20],3,33,34⟩] fun cx => ?_
        exact mE qh [82,3,1] [1]
       refine tB_ ?_
       refine gA 1 4 0 ?_
       refine te ?_
       obtain rfl := si H
       have H := Ho9
       dsimp only at H
       obtain rfl := si H
       exact fP [(false,[cB false])]
      have H := zH h9 H
      refine Tr.draws mixed 50 kr ⟨112,0,[sB 82 true,sI 3 y2,sA 1 1 3 0],[(1,(CV.frzRow (Net.row x0)))]⟩ (fun cx => ?_) ?_
      ·refine mA qh [(0,[]),(1,[11]),(2,[]),(3,[11]),(4,[]),(5,[])] 44 [⟨[11],3,35,36⟩,⟨[11],3,33,34⟩] fun cx => ?_
       refine sA_ 403726925850 18 ⟨112,0,[sB 38 (v10.A == v10.B),sI 36 v10.B,sA 35 4 4 2,sI 34 v10.A,sA 33 4 4 0,sA 4 4 4 0,sI 3 y2,sA 1 1 3 0],[(4,(Link.row v10)),(1,(CV.frzRow (Net.row x0)))]⟩ ?_
       rw [h8]
       refine mA qh [(6,[11]),(7,[]),(8,[11]),(9,[]),(10,[11])] 39 [⟨[11],3,42,43⟩,⟨[11],3,40,41⟩,⟨[11],67,1,39⟩,⟨[11],3,35,36⟩,⟨[11],3,33,34⟩] fun cx => ?_
       refine mC qh 11 ?_
       refine vA [.rd,.rd,.rd] (zBR n x0 v10.A v10.P r11 er11) ?_
       refine fA ?_
       refine mA qh [(12,[]),(13,[]),(14,[])] 35 [⟨[11],3,42,43⟩,⟨[11],3,40,41⟩,⟨[11],67,1,39⟩,⟨[11],3,35,36⟩,⟨[11],3,33,34⟩] fun cx => ?_
       refine sA_ 0x8f9e0000001a 18 ⟨112,0,[sB 47 (!r11),sI 43 v10.P,sA 42 4 4 1,sI 41 v10.A,sA 40 4 4 0,sR 39 1 3 0 3 true,sI 36 v10.B,sA 35 4 4 2,sI 34 v10.A,sA 33 4 4 0,sA 4 4 4 0,sI 3 y2,sA 1 1 3 0],[(4,(Link.row v10)),(1,(CV.frzRow (Net.row x0)))]⟩ ?_
       rw [h9]
       refine mA qh [(15,[]),(16,[]),(17,[]),(18,[]),(19,[]),(20,[]),(21,[]),(22,[]),(23,[]),(24,[]),(25,[]),(26,[]),(27,[]),(28,[]),(29,[]),(30,[]),(31,[]),(32,[]),(33,[]),(34,[]),(35,[]),(36,[]),(37,[]),(38,[]),(39,[]),(40,[]),(41,[]),(42,[]),(43,[]),(44,[]),(45,[]),(46,[]),(47,[]),(48,[]),(49,[])] 0 [⟨[11],3,42,43⟩,⟨[11],3,40,41⟩,⟨[11],67,1,39⟩,⟨[11],3,35,36⟩,⟨[11],3,33,34⟩] fun cx => ?_
       exact mE qh [82,3,1] [1]
      refine tB_ ?_
      refine gA 1 4 0 ?_
      refine te ?_
      obtain rfl := si H
      have H := Ho9
      dsimp only at H
      obtain rfl := si H
      exact fP [(false,[cB false])]
     have H := zH h8 H
     refine Tr.draws mixed 50 kr ⟨112,0,[sB 82 true,sI 3 y2,sA 1 1 3 0],[(1,(CV.frzRow (Net.row x0)))]⟩ (fun cx => ?_) ?_
     ·refine mA qh [(0,[]),(1,[]),(2,[]),(3,[]),(4,[]),(5,[])] 44 [⟨[],3,35,36⟩,⟨[],3,33,34⟩] fun cx => ?_
      refine sA_ 403726925850 18 ⟨112,0,[sB 38 (v10.A == v10.B),sI 36 v10.B,sA 35 4 4 2,sI 34 v10.A,sA 33 4 4 0,sA 4 4 4 0,sI 3 y2,sA 1 1 3 0],[(4,(Link.row v10)),(1,(CV.frzRow (Net.row x0)))]⟩ ?_
      rw [h8]
      refine mA qh [(6,[]),(7,[]),(8,[]),(9,[]),(10,[]),(11,[]),(12,[]),(13,[]),(14,[]),(15,[]),(16,[]),(17,[]),(18,[]),(19,[]),(20,[]),(21,[]),(22,[]),(23,[]),(24,[]),(25,[]),(26,[]),(27,[]),(28,[]),(29,[]),(30,[]),(31,[]),(32,[]),(33,[]),(34,[]),(35,[]),(36,[]),(37,[]),(38,[]),(39,[]),(40,[]),(41,[]),(42,[]),(43,[]),(44,[]),(45,[]),(46,[]),(47,[]),(48,[]),(49,[])] 0 [⟨[],3,35,36⟩,⟨[],3,33,34⟩] fun cx => ?_
      exact mE qh [82,3,1] [1]
     refine tB_ ?_
     refine gA 1 4 0 ?_
     refine te ?_
     obtain rfl := si H
     have H := Ho9
     dsimp only at H
     obtain rfl := si H
     exact fP [(false,[cB false])]
    rintro _ H
    have H : (Yc n x0) = some r := H
    unfold Yc at H
    refine tS ?_
    refine gA 1 34 2 ?_
    obtain ⟨o4,eo4,Ho4⟩ := bs H
    clear H
    refine Tr.mid (ι := Unit) (fun v => ⟨112,0,[],[]⟩) (fun v => zBi n = some r) ?_ ?_
    ·refine tB ?_
     refine Tr.loop (ι := Nat × (Int)) (fun v => ⟨112,0,[sI 5 v.2,sA 1 1 3 0],[(1,(CV.frzRow (Net.row x0)))]⟩) (fun v => qz n v.1 x0 v.2 = some o4) (fun v => v.1) (n,0) eo4 (St.sub_of [5,1] [1] kr) ?_
     rintro ⟨mo4,y3⟩ H
     have H : qz n mo4 x0 y3 = some o4 := H
     obtain _ | mo4 := mo4
     ·exact nN H
     rw [qz] at H
     refine tS ?_
     refine rA 3 ?_
     refine kF x0.Said Say.row ?_
     refine uA 1 0x8000000000000000000022 2 ?_
     obtain ⟨h4,H⟩ | ⟨h4,H⟩ := bC H
     ·refine nA h4 ?_
      refine Tr.exit ?_
      refine And.intro (fun _ => ?_) (fun h => absurd rfl h)
      obtain rfl := si H
      have H := Ho4
      dsimp only at H
      exact jA () H [] []
     refine tA h4 ?_
     refine tK ?_
     refine tS ?_
     refine tB ?_
     obtain ⟨v5,ev5,H⟩ := bs H
     obtain ⟨r6,er6,H⟩ := bs H
     refine sT ⟨112,0,[sB 87 (decide (y3 < (x0.Said.length : Int))),sI 5 y3,sA 1 1 3 0],[(1,(CV.frzRow (Net.row x0)))]⟩ ?_
     cases h5 : (!r6)
     ·have H := zG h5 H
      obtain ⟨v7,ev7,H⟩ := bs H
      obtain ⟨r8,er8,H⟩ := bs H
      refine Tr.draws mixed 22 kr ⟨112,0,[sB 111 (!r8),sI 5 y3,sA 1 1 3 0],[(1,(CV.frzRow (Net.row x0)))]⟩ (fun cx => ?_) ?_
      ·refine mA Zf [(0,[]),(1,[10,19]),(2,[])] 19 [⟨[10,19],65,90,91⟩] fun cx => ?_
       refine iN Zf 3 Say.row ev5 fun cx => ?_
       refine mA Zf [(4,[]),(5,[]),(6,[]),(7,[10,19])] 14 [⟨[10,19],64,96,97⟩,⟨[10,19],65,90,91⟩] fun cx => ?_
       refine kFN Zf 8 x0.Ls Link.row fun cx => ?_
       refine mA Zf [(9,[])] 12 [⟨[10,19],64,96,97⟩,⟨[10,19],65,90,91⟩] fun cx => ?_
       refine mC Zf 10 ?_
       refine vA [.rd,.rd,.rd] (zO n v5.Link 0 (IntKind.wrap .i64 ((x0.Ls.length : Int) - 1)) r6 er6) ?_
       refine fA ?_
       refine mA Zf [(11,[]),(12,[])] 9 [⟨[10,19],64,96,97⟩,⟨[10,19],65,90,91⟩] fun cx => ?_
       refine sA_ 0x430c0000000000000000000022 2 ⟨112,0,[sB 102 (!r6),sR 97 1 3 1 1 false,sA 96 1 3 1,sR 91 1 3 2 1 false,sA 90 1 3 2,sI 5 y3,sA 1 1 3 0],[(1,(CV.frzRow (Net.row x0)))]⟩ ?_
       rw [h5]
       refine mA Zf [(13,[]),(14,[19]),(15,[])] 6 [⟨[19],65,103,104⟩,⟨[10,19],64,96,97⟩,⟨[10,19],65,90,91⟩] fun cx => ?_
       refine iN Zf 16 Say.row ev7 fun cx => ?_
       refine mA Zf [(17,[]),(18,[])] 3 [⟨[19],65,103,104⟩,⟨[10,19],64,96,97⟩,⟨[10,19],65,90,91⟩] fun cx => ?_
       refine mC Zf 19 ?_
       refine vA [.rd] (zCA n v7.V r8 er8) ?_
       refine fA ?_
       refine mA Zf [(20,[]),(21,[])] 0 [⟨[19],65,103,104⟩,⟨[10,19],64,96,97⟩,⟨[10,19],65,90,91⟩] fun cx => ?_
       exact mE Zf [111,5,1] [1]
      refine sT ⟨112,0,[sB 111 (!r8),sI 5 y3,sA 1 1 3 0],[(1,(CV.frzRow (Net.row x0)))]⟩ ?_
      cases h6 : (!r8)
      ·have H := zG h6 H
       refine nB_ ?_
       refine tK ?_
       refine eA 3 34 2 ?_
       exact jB mo4 (IntKind.wrap .i64 (y3 + 1)) H [5,1] [1]
      have H := zH h6 H
      refine tB_ ?_
      refine gA 1 4 0 ?_
      refine te ?_
      obtain rfl := si H
      have H := Ho4
      dsimp only at H
      obtain rfl := si H
      exact fP [(false,[cB false])]
     have H := zH h5 H
     refine Tr.draws mixed 22 kr ⟨112,0,[sB 111 true,sI 5 y3,sA 1 1 3 0],[(1,(CV.frzRow (Net.row x0)))]⟩ (fun cx => ?_) ?_
     ·refine mA Zf [(0,[]),(1,[10]),(2,[])] 19 [⟨[10],65,90,91⟩] fun cx => ?_
      refine iN Zf 3 Say.row ev5 fun cx => ?_
      refine mA Zf [(4,[]),(5,[]),(6,[]),(7,[10])] 14 [⟨[10],64,96,97⟩,⟨[10],65,90,91⟩] fun cx => ?_
      refine kFN Zf 8 x0.Ls Link.row fun cx => ?_
      refine mA Zf [(9,[])] 12 [⟨[10],64,96,97⟩,⟨[10],65,90,91⟩] fun cx => ?_
      refine mC Zf 10 ?_
      refine vA [.rd,.rd,.rd] (zO n v5.Link 0 (IntKind.wrap .i64 ((x0.Ls.length : Int) - 1)) r6 er6) ?_
      refine fA ?_
      refine mA Zf [(11,[]),(12,[])] 9 [⟨[10],64,96,97⟩,⟨[10],65,90,91⟩] fun cx => ?_
      refine sA_ 0x430c0000000000000000000022 2 ⟨112,0,[sB 102 (!r6),sR 97 1 3 1 1 false,sA 96 1 3 1,sR 91 1 3 2 1 false,sA 90 1 3 2,sI 5 y3,sA 1 1 3 0],[(1,(CV.frzRow (Net.row x0)))]⟩ ?_
      rw [h5]
      refine mA Zf [(13,[]),(14,[]),(15,[]),(16,[]),(17,[]),(18,[]),(19,[]),(20,[]),(21,[])] 0 [⟨[10],64,96,97⟩,⟨[10],65,90,91⟩] fun cx => ?_
      exact mE Zf [111,5,1] [1]
     refine tB_ ?_
     refine gA 1 4 0 ?_
     refine te ?_
     obtain rfl := si H
     have H := Ho4
     dsimp only at H
     obtain rfl := si H
     exact fP [(false,[cB false])]
    rintro _ H
    have H : (zBi n) = some r := H
    unfold zBi at H
    refine gA 1 4 0 ?_
    exact te (by obtain rfl := si H; exact fP [(false,[cB true])])
   refine tA h3 ?_
   refine gA 1 4 0 ?_
   exact te (by obtain rfl := si H; exact fP [(false,[cB false])])
  have H := zH h2 H
  refine uA 5 1048578 2 ?_
  refine tB_ ?_
  refine gA 1 4 0 ?_
  exact te (by obtain rfl := si H; exact fP [(false,[cB false])])
 have H := zH h1 H
 refine uA 11 1048578 2 ?_
 refine tB_ ?_
 refine gA 1 4 0 ?_
 exact te (by obtain rfl := si H; exact fP [(false,[cB false])])
def YO (n : Nat) (x0 : Int) : Option (Int) :=
  (bif (decide (x0 ≥ 1000000)) then (some x0) else (some (IntKind.wrap .i64 (x0 + 1))))
theorem zGu (n : Nat) (x0 : Int) (r : Int) (H : YO n x0 = some r) : zD Tryz.prog 74 [.val false [.lit (.int .i64 x0)]] [.val false [.lit (.int .i64 r)]] [] := by
 refine cA Tryz.func74 (.seq (Rg Tryz.f74 0) (.seq (.seq (Rg Tryz.f74 1) (.cond (.tmp 4) (.seq (Rg Tryz.f74 2) .ret) .skip)) (.seq (Rg Tryz.f74 3) .ret))) [.tmp 2] fun cx => ?_
 unfold YO at H
 refine gA 1 1 0 ?_
 refine tS ?_
 refine gA 2 17 0 ?_
 obtain ⟨h1,H⟩ | ⟨h1,H⟩ := bC H
 ·refine nA h1 ?_
  refine tK ?_
  refine gA 3 4 0 ?_
  exact te (by obtain rfl := si H; exact fP [(false,[cI (IntKind.wrap .i64 (x0 + 1))])])
 refine tA h1 ?_
 refine gA 2 4 0 ?_
 exact te (by obtain rfl := si H; exact fP [(false,[cI x0])])
def zA9 (n : Nat) (y3 : (List zB)) : Option ((List zB)) :=
  (some y3)
def qV (n : Nat) : Nat → (List zB) → Int → (List zB) → Option (((List zB)) ⊕ ((List zB)))
  | 0,_,_,_ => none
  | mo4 + 1,x0,y1,y2 => (bif (decide (y1 < (x0.length : Int))) then ((idx x0 y1).bind fun v5 => (bif v5.Sc then (bif (decide (y2.length + [v5].length ≤ 268435456)) then (qV n mo4 x0 (IntKind.wrap .i64 (y1 + 1)) (y2 ++ [v5])) else none) else (bif (decide (v5.Age < 4)) then (bif (decide (y2.length + [(⟨v5.Tag,v5.Mac,v5.Port,(IntKind.wrap .i64 (v5.Age + 1)),v5.Sc⟩ : zB)].length ≤ 268435456)) then (qV n mo4 x0 (IntKind.wrap .i64 (y1 + 1)) (y2 ++ [(⟨v5.Tag,v5.Mac,v5.Port,(IntKind.wrap .i64 (v5.Age + 1)),false⟩ : zB)])) else none) else (qV n mo4 x0 (IntKind.wrap .i64 (y1 + 1)) y2)))) else (some (Sum.inl y2)))
def YM (n : Nat) (x0 : (List zB)) : Option ((List zB)) :=
  ((qV n n x0 0 ([] : List zB)).bind fun o => match o with | .inl y3 => (zA9 n y3) | .inr r => some r)
theorem zLG (n : Nat) (x0 : (List zB)) (r : (List zB)) (H : YM n x0 = some r) : zD Tryz.prog 194 [.val false [.sl false 5 (CV.frzEs (x0.map zB.row))]] [.val false [.sl true 5 (r.map zB.row)]] [] := by
 refine cA Tryz.func194 (.seq (Rg Tryz.f194 0) (.seq (Rg Tryz.f194 1) (.seq (.seq (Rg Tryz.f194 2) (.block 0 (.loop (.seq (.seq (Rg Tryz.f194 3) (.cond (.tmp 10) .skip (.exit 0))) (.seq (.block 1 (.seq (Rg Tryz.f194 5) (.seq (.seq (Rg Tryz.f194 6) (.cond (.tmp 18) (.seq (Rg Tryz.f194 7) (.exit 1)) .skip)) (.seq (Rg Tryz.f194 8) (.cond (.tmp 25) (.seq (Rg Tryz.f194 9) (Rg Tryz.f194 10)) .skip))))) (Rg Tryz.f194 4)))))) (.seq (Rg Tryz.f194 11) .ret)))) [.tmp 2] fun cx => ?_
 unfold YM at H
 refine gA 1 1 0 ?_
 refine rA 1 ?_
 refine LAt.moveU (T := lk tab) (ty := 36) (x := (.tmp 6)) (d := 3) (g := none) false [cL 5 ([] : List zB) zB.row] kr kr kr kr kr ?_
 refine dA 9 0 ?_
 refine tS ?_
 refine gA 1 25 0 ?_
 obtain ⟨o4,eo4,Ho4⟩ := bs H
 clear H
 refine Tr.mid (ι := (List zB)) (fun v => ⟨35,0,[sC 3 (cL 5 v zB.row)],[]⟩) (fun v => zA9 n v = some r) ?_ ?_
 ·refine tB ?_
  refine Tr.loop (ι := Nat × (Int × (List zB))) (fun v => ⟨35,0,[sI 4 v.2.1,sC 3 (cL 5 v.2.2 zB.row),sC 0 (cF 5 x0 zB.row)],[]⟩) (fun v => qV n v.1 x0 v.2.1 v.2.2 = some o4) (fun v => v.1) (n,(0,([] : List zB))) eo4 (St.sub_of [4,3,0] [] kr) ?_
  rintro ⟨mo4,y1,y2⟩ H
  have H : qV n mo4 x0 y1 y2 = some o4 := H
  obtain _ | mo4 := mo4
  ·exact nN H
  rw [qV] at H
  refine tS ?_
  refine rA 2 ?_
  refine kF x0 zB.row ?_
  refine uA 1 1049 0 ?_
  obtain ⟨h1,H⟩ | ⟨h1,H⟩ := bC H
  ·refine nA h1 ?_
   refine Tr.exit ?_
   refine And.intro (fun _ => ?_) (fun h => absurd rfl h)
   obtain rfl := si H
   have H := Ho4
   dsimp only at H
   exact jA y2 H [3] []
  refine tA h1 ?_
  refine tK ?_
  refine tS ?_
  refine tB ?_
  refine rA 2 ?_
  obtain ⟨v5,ev5,H⟩ := bs H
  refine iA zB.row ev5 ?_
  refine uA 3 57 32 ?_
  refine tS ?_
  refine gA 2 262201 32 ?_
  refine sT ⟨35,0,[sB 18 v5.Sc,sA 5 5 5 0,sI 4 y1,sC 3 (cL 5 y2 zB.row),sC 0 (cF 5 x0 zB.row)],[(5,(zB.row v5))]⟩ ?_
  cases h2 : v5.Sc
  ·have H := zG h2 H
   refine nB_ ?_
   refine tK ?_
   refine gA 3 33554489 32 ?_
   obtain ⟨h3,H⟩ | ⟨h3,H⟩ := bC H
   ·refine nA h3 ?_
    refine tK ?_
    refine eA 3 25 0 ?_
    exact jB mo4 ((IntKind.wrap .i64 (y1 + 1)),y2) H [4,3,0] []
   refine tA h3 ?_
   refine gA 5 57 32 ?_
   refine Tr.at ?_
   refine lA 3 ?_
   obtain ⟨hg6,H⟩ := gs H
   refine LAt.appMU tOk (t := 36) (ty := 36) (e := 169) (x := (.tmp 30)) (y := (.tmp 32)) (d := 33) (g := none) (tI 169) zB.row y2 [(⟨v5.Tag,v5.Mac,v5.Port,(IntKind.wrap .i64 (v5.Age + 1)),v5.Sc⟩ : zB)] kr kr kr kr kr kr kr kr kr kr hg6 ?_
   refine LAt.moveU (T := lk tab) (ty := 36) (x := (.tmp 33)) (d := 3) (g := none) false [cL 5 (y2 ++ [(⟨v5.Tag,v5.Mac,v5.Port,(IntKind.wrap .i64 (v5.Age + 1)),v5.Sc⟩ : zB)]) zB.row] kr kr kr kr kr ?_
   refine dA 25 0 ?_
   refine eA 3 25 0 ?_
   refine sC' 25 0 ⟨35,0,[sI 4 (IntKind.wrap .i64 (y1 + 1)),sC 3 (cL 5 (y2 ++ [(⟨v5.Tag,v5.Mac,v5.Port,(IntKind.wrap .i64 (v5.Age + 1)),v5.Sc⟩ : zB)]) zB.row),sC 0 (cF 5 x0 zB.row)],[]⟩ ?_
   rw [h2]
   exact jB mo4 ((IntKind.wrap .i64 (y1 + 1)),(y2 ++ [(⟨v5.Tag,v5.Mac,v5.Port,(IntKind.wrap .i64 (v5.Age + 1)),false⟩ : zB)])) H [4,3,0] []
  have H := zH h2 H
  refine tB_ ?_
  refine rA 3 ?_
  obtain ⟨hg7,H⟩ := gs H
  refine LAt.appMU tOk (t := 36) (ty := 36) (e := 169) (x := (.tmp 19)) (y := (.tmp 21)) (d := 22) (g := none) (tI 169) zB.row y2 [v5] kr kr kr kr kr kr kr kr kr kr hg7 ?_
  refine LAt.moveU (T := lk tab) (ty := 36) (x := (.tmp 22)) (d := 3) (g := none) false [cL 5 (y2 ++ [v5]) zB.row] kr kr kr kr kr ?_
  refine dA 25 0 ?_
  refine Tr.exit ?_
  refine And.intro (fun _ => ?_) (fun h => absurd rfl h)
  refine eA 3 25 0 ?_
  exact jB mo4 ((IntKind.wrap .i64 (y1 + 1)),(y2 ++ [v5])) H [4,3,0] []
 rintro y3 H
 have H : (zA9 n y3) = some r := H
 unfold zA9 at H
 refine gA 2 12 0 ?_
 exact te (by obtain rfl := si H; exact fP [(false,[cL 5 y3 zB.row])])
def QS (n : Nat) (x0 : Vec) (x1 : Int) : Option (Vec × Bool) :=
  ((zq n x0).bind fun r1 => (bif (!r1) then (some (x0,false)) else ((zP n x1 1 1000).bind fun r2 => (bif (!r2) then (some (x0,false)) else ((zq n (⟨x0.Root,(IntKind.wrap .i64 (x0.Co + x1)),(IntKind.wrap .i64 (x0.Hops + 1)),x0.Bridge,x0.Port⟩ : Vec)).bind fun r3 => (bif (!r3) then (some (x0,false)) else (some ((⟨x0.Root,(IntKind.wrap .i64 (x0.Co + x1)),(IntKind.wrap .i64 (x0.Hops + 1)),x0.Bridge,x0.Port⟩ : Vec),true))))))))
theorem zF4 (n : Nat) (x0 : Vec) (x1 : Int) (r : Vec × Bool) (H : QS n x0 x1 = some r) : zD Tryz.prog 253 [.val true (CV.frzRow (Vec.row x0)),.val false [.lit (.int .i64 x1)]] [.val true (Vec.row r.1),.val false [.lit (.bool r.2)]] [] := by
 refine cA Tryz.func253 (.seq (Rg Tryz.f253 0) (.seq (.seq (Rg Tryz.f253 1) (.cond (.tmp 14) (.seq (Rg Tryz.f253 2) .ret) .skip)) (.seq (Rg Tryz.f253 3) (.seq (Rg Tryz.f253 4) (.seq (Rg Tryz.f253 5) (.seq (.seq (Rg Tryz.f253 6) (.cond (.tmp 28) (.seq (Rg Tryz.f253 7) .ret) .skip)) (.seq (Rg Tryz.f253 8) .ret))))))) [.cell 4 165,.tmp 5] fun cx => ?_
 unfold QS at H
 refine gA 3 22 20 ?_
 refine tS ?_
 refine rA 1 ?_
 obtain ⟨r1,er1,H⟩ := bs H
 refine vA [.rd] (zCA n x0 r1 er1) ?_
 refine lA 2 ?_
 refine sL 1046 20 ⟨31,0,[sB 10 (!r1),sA 4 4 5 0,sA 2 2 5 0,sI 1 x1],[(4,[cI 0,cI 0,cI 0,cI 0,cI 0]),(2,(Vec.row x0))]⟩ ?_
 cases h1 : (!r1)
 ·have H := zG h1 H
  refine lA 1 ?_
  obtain ⟨r2,er2,H⟩ := bs H
  refine vA [.rd,.rd,.rd] (zO n x1 1 1000 r2 er2) ?_
  refine uA 2 16406 20 ?_
  obtain ⟨h2,H⟩ | ⟨h2,H⟩ := bC H
  ·refine nA h2 ?_
   refine tK ?_
   refine gA 3 86 84 ?_
   refine gA 6 84 84 ?_
   refine gA 5 84 84 ?_
   refine tS ?_
   refine rA 1 ?_
   obtain ⟨r3,er3,H⟩ := bs H
   refine vA [.rd] (zCA n (⟨x0.Root,(IntKind.wrap .i64 (x0.Co + x1)),(IntKind.wrap .i64 (x0.Hops + 1)),x0.Bridge,x0.Port⟩ : Vec) r3 er3) ?_
   refine uA 1 268435540 84 ?_
   obtain ⟨h3,H⟩ | ⟨h3,H⟩ := bC H
   ·refine nA h3 ?_
    refine tK ?_
    refine gA 3 48 16 ?_
    exact te (by obtain rfl := si H; exact fP [(true,[cI x0.Root,cI (IntKind.wrap .i64 (x0.Co + x1)),cI (IntKind.wrap .i64 (x0.Hops + 1)),cI x0.Bridge,cI x0.Port]),(false,[cB true])])
   refine tA h3 ?_
   refine gA 3 48 16 ?_
   exact te (by obtain rfl := si H; exact fP [(true,(Vec.row x0)),(false,[cB false])])
  refine tA h2 ?_
  refine gA 3 48 16 ?_
  exact te (by obtain rfl := si H; exact fP [(true,(Vec.row x0)),(false,[cB false])])
 have H := zH h1 H
 refine uA 4 16406 20 ?_
 refine tB_ ?_
 refine gA 3 48 16 ?_
 exact te (by obtain rfl := si H; exact fP [(true,(Vec.row x0)),(false,[cB false])])
def Qt (n : Nat) (x0 : Vec) (x1 : Vec) : Option (Bool) :=
  (bif (x0.Root != x1.Root) then (some (decide (x0.Root < x1.Root))) else (bif (x0.Co != x1.Co) then (some (decide (x0.Co < x1.Co))) else (bif (x0.Bridge != x1.Bridge) then (some (decide (x0.Bridge < x1.Bridge))) else (some (decide (x0.Port < x1.Port))))))
theorem zF2 (n : Nat) (x0 : Vec) (x1 : Vec) (r : Bool) (H : Qt n x0 x1 = some r) : zD Tryz.prog 230 [.val true (CV.frzRow (Vec.row x0)),.val true (CV.frzRow (Vec.row x1))] [.val false [.lit (.bool r)]] [] := by
 refine cA Tryz.func230 (.seq (Rg Tryz.f230 0) (.seq (.block 0 (.seq (Rg Tryz.f230 1) (.cond (.tmp 5) (.seq (Rg Tryz.f230 2) .ret) (.seq (Rg Tryz.f230 3) (.cond (.tmp 16) (.seq (Rg Tryz.f230 4) .ret) (.seq (Rg Tryz.f230 5) (.cond (.tmp 27) (.seq (Rg Tryz.f230 6) .ret) .skip))))))) (.seq (Rg Tryz.f230 7) .ret))) [.tmp 4] fun cx => ?_
 unfold Qt at H
 refine gA 3 12 12 ?_
 refine tS ?_
 refine tB ?_
 refine gA 6 44 12 ?_
 obtain ⟨h1,H⟩ | ⟨h1,H⟩ := bC H
 ·refine nA h1 ?_
  refine gA 6 65548 12 ?_
  obtain ⟨h2,H⟩ | ⟨h2,H⟩ := bC H
  ·refine nA h2 ?_
   refine gA 6 134217740 12 ?_
   obtain ⟨h3,H⟩ | ⟨h3,H⟩ := bC H
   ·refine nA h3 ?_
    refine tK ?_
    refine gA 6 16 0 ?_
    exact te (by obtain rfl := si H; exact fP [(false,[cB (decide (x0.Port < x1.Port))])])
   refine tA h3 ?_
   refine gA 6 16 0 ?_
   exact te (by obtain rfl := si H; exact fP [(false,[cB (decide (x0.Bridge < x1.Bridge))])])
  refine tA h2 ?_
  refine gA 6 16 0 ?_
  exact te (by obtain rfl := si H; exact fP [(false,[cB (decide (x0.Co < x1.Co))])])
 refine tA h1 ?_
 refine gA 6 16 0 ?_
 exact te (by obtain rfl := si H; exact fP [(false,[cB (decide (x0.Root < x1.Root))])])
def zAS (n : Nat) (x0 : Int) (y11 : Int) (y12 : Int) (y13 : Int) (y14 : Int) : Option (Vec × Int) :=
  (some ((⟨y12,y13,y14,x0,0⟩ : Vec),y11))
def ZP (n : Nat) (k : (Int × Int × Int × Int × Int × Int × Int × Int × Int × Int → Option ((Int × Int × Int × Int) ⊕ (Vec × Int)))) (r20 : Vec × Bool) (y1 : Int) (y10 : Int) (y2 : Int) (y3 : Int) (y4 : Int) (y5 : Int) (y6 : Int) (y7 : Int) (y8 : Int) (y9 : Int) (y21 : Bool) (y22 : Bool) (y23 : Bool) (y24 : Bool) (y25 : Bool) (y26 : Bool) (y27 : Bool) : Option ((Int × Int × Int × Int) ⊕ (Vec × Int)) :=
  (bif y21 then (k ((IntKind.wrap .i64 (y1 + 1)),y1,r20.1.Root,r20.1.Co,r20.1.Hops,r20.1.Bridge,r20.1.Port,r20.1.Root,r20.1.Co,r20.1.Hops)) else (k ((IntKind.wrap .i64 (y1 + 1)),y2,y3,y4,y5,y6,y7,y8,y9,y10)))
def zo (n : Nat) : Nat → Int → (List Pt) → Int → Int → Int → Int → Int → Int → Int → Int → Int → Int → Option ((Int × Int × Int × Int) ⊕ (Vec × Int))
  | 0,_,_,_,_,_,_,_,_,_,_,_,_ => none
  | mo15 + 1,x0,x1,y1,y2,y3,y4,y5,y6,y7,y8,y9,y10 => (bif (decide (y1 < (x1.length : Int))) then ((idx x1 y1).bind fun v16 => (bif (!v16.Up) then (zo n mo15 x0 x1 (IntKind.wrap .i64 (y1 + 1)) y2 y3 y4 y5 y6 y7 y8 y9 y10) else ((idx x1 y1).bind fun v17 => (bif (!v17.Has) then (zo n mo15 x0 x1 (IntKind.wrap .i64 (y1 + 1)) y2 y3 y4 y5 y6 y7 y8 y9 y10) else ((idx x1 y1).bind fun v18 => ((idx x1 y1).bind fun v19 => ((QS n v18.Hd v19.Co).bind fun r20 => (bif r20.2 then (bif (decide (r20.1.Root < x0)) then (bif (decide (y2 < 0)) then (ZP n (fun v => zo n mo15 x0 x1 v.1 v.2.1 v.2.2.1 v.2.2.2.1 v.2.2.2.2.1 v.2.2.2.2.2.1 v.2.2.2.2.2.2.1 v.2.2.2.2.2.2.2.1 v.2.2.2.2.2.2.2.2.1 v.2.2.2.2.2.2.2.2.2) r20 y1 y10 y2 y3 y4 y5 y6 y7 y8 y9 true true true true true true true) else ((Qt n r20.1 (⟨y3,y4,y5,y6,y7⟩ : Vec)).bind fun r28 => (ZP n (fun v => zo n mo15 x0 x1 v.1 v.2.1 v.2.2.1 v.2.2.2.1 v.2.2.2.2.1 v.2.2.2.2.2.1 v.2.2.2.2.2.2.1 v.2.2.2.2.2.2.2.1 v.2.2.2.2.2.2.2.2.1 v.2.2.2.2.2.2.2.2.2) r20 y1 y10 y2 y3 y4 y5 y6 y7 y8 y9 r28 true true true true true true))) else (ZP n (fun v => zo n mo15 x0 x1 v.1 v.2.1 v.2.2.1 v.2.2.2.1 v.2.2.2.2.1 v.2.2.2.2.2.1 v.2.2.2.2.2.2.1 v.2.2.2.2.2.2.2.1 v.2.2.2.2.2.2.2.2.1 v.2.2.2.2.2.2.2.2.2) r20 y1 y10 y2 y3 y4 y5 y6 y7 y8 y9 false false false true true true true)) else (ZP n (fun v => zo n mo15 x0 x1 v.1 v.2.1 v.2.2.1 v.2.2.2.1 v.2.2.2.2.1 v.2.2.2.2.2.1 v.2.2.2.2.2.2.1 v.2.2.2.2.2.2.2.1 v.2.2.2.2.2.2.2.2.1 v.2.2.2.2.2.2.2.2.2) r20 y1 y10 y2 y3 y4 y5 y6 y7 y8 y9 false false false false false false false))))))))) else (some (Sum.inl (y2,y8,y9,y10))))
def Zz (n : Nat) (x0 : Int) (x1 : (List Pt)) : Option (Vec × Int) :=
  ((zo n n x0 x1 0 (-1) 0 0 0 0 0 x0 0 0).bind fun o => match o with | .inl (y11,y12,y13,y14) => (zAS n x0 y11 y12 y13 y14) | .inr r => some r)
def zOG : Tab := ⟨17,[0,0,3,4,8,0,0,96,128,256,528,1024,2048,2048,0,24575,65535],[0,0,3,4,8,0,0,96,128,256,528,1024,2048,2048,0,20480,8192],[0,0,3,7,15,0,0,96,224,480,1023,2047,4095,4095,0,24575,65535]⟩
theorem QA : zf (rg Tryz.f229 8) zOG = true := kr
theorem zFz (n : Nat) (x0 : Int) (x1 : (List Pt)) (r : Vec × Int) (H : Zz n x0 x1 = some r) : zD Tryz.prog 229 [.val false [.lit (.int .i64 x0)],.val false [.sl false 8 (CV.frzEs (x1.map Pt.row))]] [.val true (Vec.row r.1),.val false [.lit (.int .i64 r.2)]] [] := by
 refine cA Tryz.func229 (.seq (Rg Tryz.f229 0) (.seq (Rg Tryz.f229 1) (.seq (Rg Tryz.f229 2) (.seq (Rg Tryz.f229 3) (.seq (.seq (Rg Tryz.f229 4) (.block 0 (.loop (.seq (.seq (Rg Tryz.f229 5) (.cond (.tmp 19) .skip (.exit 0))) (.seq (.block 1 (.seq (.seq (Rg Tryz.f229 7) (.cond (.tmp 35) (.exit 1) .skip)) (.seq (Rd Tryz.f229 8) (.seq (Rg Tryz.f229 9) (.cond (.tmp 65) (.seq (Rg Tryz.f229 10) (.seq (Rg Tryz.f229 11) (Rg Tryz.f229 12))) .skip))))) (Rg Tryz.f229 6)))))) (.seq (Rg Tryz.f229 13) .ret)))))) [.cell 4 165,.tmp 5] fun cx => ?_
 unfold Zz at H
 refine gA 2 51 16 ?_
 refine gA 5 115 80 ?_
 refine gA 3 243 208 ?_
 refine gA 1 499 208 ?_
 refine tS ?_
 refine gA 1 1011 208 ?_
 obtain ⟨o15,eo15,Ho15⟩ := bs H
 clear H
 refine Tr.mid (ι := Int × Int × Int × Int) (fun v => ⟨78,0,[sI 8 v.1,sA 6 6 5 0,sI 5 0,sA 4 4 5 0],[(6,[cI v.2.1,cI v.2.2.1,cI v.2.2.2,cI x0,cI 0]),(4,[cI 0,cI 0,cI 0,cI 0,cI 0])]⟩) (fun v => zAS n x0 v.1 v.2.1 v.2.2.1 v.2.2.2 = some r) ?_ ?_
 ·refine tB ?_
  refine Tr.loop (ι := Nat × (Int × Int × Int × Int × Int × Int × Int × Int × Int × Int)) (fun v => ⟨78,0,[sI 9 v.2.1,sI 8 v.2.2.1,sA 7 7 5 0,sA 6 6 5 0,sI 5 0,sA 4 4 5 0,sI 0 x0,sC 1 (cF 8 x1 Pt.row)],[(7,[cI v.2.2.2.1,cI v.2.2.2.2.1,cI v.2.2.2.2.2.1,cI v.2.2.2.2.2.2.1,cI v.2.2.2.2.2.2.2.1]),(6,[cI v.2.2.2.2.2.2.2.2.1,cI v.2.2.2.2.2.2.2.2.2.1,cI v.2.2.2.2.2.2.2.2.2.2,cI x0,cI 0]),(4,[cI 0,cI 0,cI 0,cI 0,cI 0])]⟩) (fun v => zo n v.1 x0 x1 v.2.1 v.2.2.1 v.2.2.2.1 v.2.2.2.2.1 v.2.2.2.2.2.1 v.2.2.2.2.2.2.1 v.2.2.2.2.2.2.2.1 v.2.2.2.2.2.2.2.2.1 v.2.2.2.2.2.2.2.2.2.1 v.2.2.2.2.2.2.2.2.2.2 = some o15) (fun v => v.1) (n,(0,(-1),0,0,0,0,0,x0,0,0)) eo15 (St.sub_of [9,8,7,6,5,4,0,1] [7,6,4] kr) ?_
  rintro ⟨mo15,y1,y2,y3,y4,y5,y6,y7,y8,y9,y10⟩ H
  have H : zo n mo15 x0 x1 y1 y2 y3 y4 y5 y6 y7 y8 y9 y10 = some o15 := H
  obtain _ | mo15 := mo15
  ·exact nN H
  rw [zo] at H
  refine tS ?_
  refine rA 2 ?_
  refine kF x1 Pt.row ?_
  refine uA 1 984051 208 ?_
  obtain ⟨h1,H⟩ | ⟨h1,H⟩ := bC H
  ·refine nA h1 ?_
   refine Tr.exit ?_
   refine And.intro (fun _ => ?_) (fun h => absurd rfl h)
   obtain rfl := si H
   have H := Ho15
   dsimp only at H
   exact jA (y2,y8,y9,y10) H [8,6,5,4] [6,4]
  refine tA h1 ?_
  refine tK ?_
  refine tS ?_
  refine tB ?_
  refine tS ?_
  refine rA 2 ?_
  obtain ⟨v16,ev16,H⟩ := bs H
  refine iA Pt.row ev16 ?_
  refine lA 4 ?_
  refine sL 533660659 208 ⟨78,0,[sB 28 (!v16.Up),sB 27 (!v16.Up),sB 26 v16.Up,(25,.fad ((Pt.row v16))),(24,.fad ((Pt.row v16))),sI 23 y1,sC 22 (cF 8 x1 Pt.row),sB 19 (decide (y1 < (x1.length : Int))),sI 18 (x1.length : Int),sC 17 (cF 8 x1 Pt.row),sI 16 y1,sI 9 y1,sI 8 y2,sA 7 7 5 0,sA 6 6 5 0,sI 5 0,sA 4 4 5 0,sI 0 x0,sC 1 (cF 8 x1 Pt.row)],[(7,[cI y3,cI y4,cI y5,cI y6,cI y7]),(6,[cI y8,cI y9,cI y10,cI x0,cI 0]),(4,[cI 0,cI 0,cI 0,cI 0,cI 0])]⟩ ?_
  cases h2 : (!v16.Up)
  ·have H := zG h2 H
   refine lA 2 ?_
   obtain ⟨v17,ev17,H⟩ := bs H
   refine iA Pt.row ev17 ?_
   refine uA 4 68716266483 208 ?_
   obtain ⟨h3,H⟩ | ⟨h3,H⟩ := bC H
   ·refine nA h3 ?_
    refine tK ?_
    obtain ⟨v18,ev18,H⟩ := bs H
    obtain ⟨v19,ev19,H⟩ := bs H
    obtain ⟨r20,er20,H⟩ := bs H
    refine Tr.draws mixed 17 kr ⟨78,0,[sB 11 r20.2,sA 10 10 5 0,sB 49 r20.2,(36,.tup [(true,[.dead,.dead,.dead,.dead,.dead]),(false,[.dead])]),sV 48 (Vec.row r20.1),sI 46 v19.Co,(45,.fad (((Pt.row v19).drop 1))),(44,.fad ((Pt.row v19))),sI 43 y1,sC 42 (cF 8 x1 Pt.row),sV 41 ((Pt.row v18).drop 3),(40,.fad (((Pt.row v18).drop 3))),(39,.fad ((Pt.row v18))),sI 38 y1,sC 37 (cF 8 x1 Pt.row),sB 35 (!v17.Has),sB 34 (!v17.Has),sB 33 v17.Has,(32,.fad (((Pt.row v17).drop 2))),(31,.fad ((Pt.row v17))),sI 30 y1,sC 29 (cF 8 x1 Pt.row),sB 28 false,sB 27 false,sB 26 v16.Up,(25,.fad ((Pt.row v16))),(24,.fad ((Pt.row v16))),sI 23 y1,sC 22 (cF 8 x1 Pt.row),sB 19 (decide (y1 < (x1.length : Int))),sI 18 (x1.length : Int),sC 17 (cF 8 x1 Pt.row),sI 16 y1,sI 9 y1,sI 8 y2,sA 7 7 5 0,sA 6 6 5 0,sI 5 0,sA 4 4 5 0,sI 0 x0,sC 1 (cF 8 x1 Pt.row)],[(10,(Vec.row r20.1)),(7,[cI y3,cI y4,cI y5,cI y6,cI y7]),(6,[cI y8,cI y9,cI y10,cI x0,cI 0]),(4,[cI 0,cI 0,cI 0,cI 0,cI 0])]⟩ (fun cx => ?_) ?_
    ·refine mA QA [(0,[]),(1,[])] 15 [] fun cx => ?_
     refine iN QA 2 Pt.row ev18 fun cx => ?_
     refine mA QA [(3,[]),(4,[]),(5,[]),(6,[])] 10 [] fun cx => ?_
     refine iN QA 7 Pt.row ev19 fun cx => ?_
     refine mA QA [(8,[]),(9,[])] 7 [] fun cx => ?_
     refine mB2 tOk QA 10 14 kr (And.intro kr ?_) (And.intro kr ?_)
     ·refine vA [.rd,.rd] (zF4 n v18.Hd v19.Co r20 er20) ?_
      refine fA ?_
      refine AT.movT tOk 11 (ty := 255) (t := 47) (d := 36) (g := none) [(true,(Vec.row r20.1)),(false,[cB r20.2])] _ kr (oM QA kr) (dM QA kr) (.inl rfl) kr kr kr kr rfl (fun cx => ?_)
      refine mA QA [(12,[]),(13,[])] 3 [] fun cx => ?_
      refine mC QA 14 ?_
      refine lA 1 ?_
      refine fA ?_
      refine mC QA 15 ?_
      refine lA 1 ?_
      refine fA ?_
      refine mA QA [(16,[])] 0 [] fun cx => ?_
      exact mE QA [11,10,49,36,48,46,45,44,43,42,41,40,39,38,37,35,34,33,32,31,30,29,28,27,26,25,24,23,22,19,18,17,16,9,8,7,6,5,4,0,1] [10,7,6,4]
     ·refine lA 1 ?_
      refine fA ?_
      refine mC QA 10 ?_
      refine vA [.rd,.rd] (zF4 n v18.Hd v19.Co r20 er20) ?_
      refine fA ?_
      refine AT.movT tOk 11 (ty := 255) (t := 47) (d := 36) (g := none) [(true,(Vec.row r20.1)),(false,[cB r20.2])] _ kr (oM QA kr) (dM QA kr) (.inl rfl) kr kr kr kr rfl (fun cx => ?_)
      refine mA QA [(12,[]),(13,[])] 2 [] fun cx => ?_
      refine mC QA 15 ?_
      refine lA 1 ?_
      refine fA ?_
      refine mA QA [(16,[])] 0 [] fun cx => ?_
      exact mE QA [11,10,49,36,48,46,45,44,43,42,41,40,39,38,37,35,34,33,32,31,30,29,28,27,26,25,24,23,22,19,18,17,16,9,8,7,6,5,4,0,1] [10,7,6,4]
    refine tS ?_
    refine Tr.mid (ι := Bool × Bool × Bool × Bool × Bool × Bool × Bool) (fun v => ⟨78,0,[sB 65 v.1,sB 57 v.2.1,sB 56 v.2.2.1,sB 51 v.2.2.2.1,sB 50 v.2.2.2.2.1,sB 11 v.2.2.2.2.2.1,sA 10 10 5 0,sB 49 v.2.2.2.2.2.2,(36,.tup [(true,[.dead,.dead,.dead,.dead,.dead]),(false,[.dead])]),sV 48 (Vec.row r20.1),sI 46 v19.Co,(45,.fad (((Pt.row v19).drop 1))),(44,.fad ((Pt.row v19))),sI 43 y1,sC 42 (cF 8 x1 Pt.row),sV 41 ((Pt.row v18).drop 3),(40,.fad (((Pt.row v18).drop 3))),(39,.fad ((Pt.row v18))),sI 38 y1,sC 37 (cF 8 x1 Pt.row),sB 35 false,sB 34 false,sB 33 v17.Has,(32,.fad (((Pt.row v17).drop 2))),(31,.fad ((Pt.row v17))),sI 30 y1,sC 29 (cF 8 x1 Pt.row),sB 28 false,sB 27 false,sB 26 v16.Up,(25,.fad ((Pt.row v16))),(24,.fad ((Pt.row v16))),sI 23 y1,sC 22 (cF 8 x1 Pt.row),sB 19 true,sI 18 (x1.length : Int),sC 17 (cF 8 x1 Pt.row),sI 16 y1,sI 9 y1,sI 8 y2,sA 7 7 5 0,sA 6 6 5 0,sI 5 0,sA 4 4 5 0,sI 0 x0,sC 1 (cF 8 x1 Pt.row)],[(10,(Vec.row r20.1)),(7,[cI y3,cI y4,cI y5,cI y6,cI y7]),(6,[cI y8,cI y9,cI y10,cI x0,cI 0]),(4,[cI 0,cI 0,cI 0,cI 0,cI 0])]⟩) (fun v => ZP n (fun v => zo n mo15 x0 x1 v.1 v.2.1 v.2.2.1 v.2.2.2.1 v.2.2.2.2.1 v.2.2.2.2.2.1 v.2.2.2.2.2.2.1 v.2.2.2.2.2.2.2.1 v.2.2.2.2.2.2.2.2.1 v.2.2.2.2.2.2.2.2.2) r20 y1 y10 y2 y3 y4 y5 y6 y7 y8 y9 v.1 v.2.1 v.2.2.1 v.2.2.2.1 v.2.2.2.2.1 v.2.2.2.2.2.1 v.2.2.2.2.2.2 = some o15) ?_ ?_
    ·refine Tr.at ?_
     refine lA 2 ?_
     refine sL 0xf7fffffcf0ff3 1232 ⟨78,0,[sB 51 r20.2,sB 50 r20.2,sB 11 r20.2,sA 10 10 5 0,sB 49 r20.2,(36,.tup [(true,[.dead,.dead,.dead,.dead,.dead]),(false,[.dead])]),sV 48 (Vec.row r20.1),sI 46 v19.Co,(45,.fad (((Pt.row v19).drop 1))),(44,.fad ((Pt.row v19))),sI 43 y1,sC 42 (cF 8 x1 Pt.row),sV 41 ((Pt.row v18).drop 3),(40,.fad (((Pt.row v18).drop 3))),(39,.fad ((Pt.row v18))),sI 38 y1,sC 37 (cF 8 x1 Pt.row),sB 35 (!v17.Has),sB 34 (!v17.Has),sB 33 v17.Has,(32,.fad (((Pt.row v17).drop 2))),(31,.fad ((Pt.row v17))),sI 30 y1,sC 29 (cF 8 x1 Pt.row),sB 28 false,sB 27 false,sB 26 v16.Up,(25,.fad ((Pt.row v16))),(24,.fad ((Pt.row v16))),sI 23 y1,sC 22 (cF 8 x1 Pt.row),sB 19 (decide (y1 < (x1.length : Int))),sI 18 (x1.length : Int),sC 17 (cF 8 x1 Pt.row),sI 16 y1,sI 9 y1,sI 8 y2,sA 7 7 5 0,sA 6 6 5 0,sI 5 0,sA 4 4 5 0,sI 0 x0,sC 1 (cF 8 x1 Pt.row)],[(10,(Vec.row r20.1)),(7,[cI y3,cI y4,cI y5,cI y6,cI y7]),(6,[cI y8,cI y9,cI y10,cI x0,cI 0]),(4,[cI 0,cI 0,cI 0,cI 0,cI 0])]⟩ ?_
     cases h5 : r20.2
     ·have H := zG h5 H
      refine uA 14 0x3ffff7fffffcf0ff3 1232 ?_
      refine sB' 0x3ffff7fffffcf0ff3 1232 ⟨78,0,[sB 65 false,(64,.tup []),(63,.tup []),(62,.tup []),(61,.tup []),(60,.tup []),(59,.tup []),(58,.tup []),sB 57 false,sB 56 false,(55,.tup []),(54,.tup []),(53,.tup []),(52,.tup []),sB 51 false,sB 50 false,sB 11 false,sA 10 10 5 0,sB 49 false,(36,.tup [(true,[.dead,.dead,.dead,.dead,.dead]),(false,[.dead])]),sV 48 (Vec.row r20.1),sI 46 v19.Co,(45,.fad (((Pt.row v19).drop 1))),(44,.fad ((Pt.row v19))),sI 43 y1,sC 42 (cF 8 x1 Pt.row),sV 41 ((Pt.row v18).drop 3),(40,.fad (((Pt.row v18).drop 3))),(39,.fad ((Pt.row v18))),sI 38 y1,sC 37 (cF 8 x1 Pt.row),sB 35 (!v17.Has),sB 34 (!v17.Has),sB 33 v17.Has,(32,.fad (((Pt.row v17).drop 2))),(31,.fad ((Pt.row v17))),sI 30 y1,sC 29 (cF 8 x1 Pt.row),sB 28 false,sB 27 false,sB 26 v16.Up,(25,.fad ((Pt.row v16))),(24,.fad ((Pt.row v16))),sI 23 y1,sC 22 (cF 8 x1 Pt.row),sB 19 (decide (y1 < (x1.length : Int))),sI 18 (x1.length : Int),sC 17 (cF 8 x1 Pt.row),sI 16 y1,sI 9 y1,sI 8 y2,sA 7 7 5 0,sA 6 6 5 0,sI 5 0,sA 4 4 5 0,sI 0 x0,sC 1 (cF 8 x1 Pt.row)],[(10,(Vec.row r20.1)),(7,[cI y3,cI y4,cI y5,cI y6,cI y7]),(6,[cI y8,cI y9,cI y10,cI x0,cI 0]),(4,[cI 0,cI 0,cI 0,cI 0,cI 0])]⟩ ?_
      rw [h1]
      rw [h3]
      exact jA (false,false,false,false,false,false,false) H [65,57,56,51,50,11,10,49,36,48,46,45,44,43,42,41,40,39,38,37,35,34,33,32,31,30,29,28,27,26,25,24,23,22,19,18,17,16,9,8,7,6,5,4,0,1] [10,7,6,4]
     have H := zH h5 H
     refine lA 6 ?_
     refine sL 0x3ff7fffffcf0ff3 1232 ⟨78,0,[sB 57 (decide (r20.1.Root < x0)),sB 56 (decide (r20.1.Root < x0)),sB 55 (decide (r20.1.Root < x0)),sI 54 x0,sI 53 r20.1.Root,sA 52 10 5 0,sB 51 true,sB 50 true,sB 11 true,sA 10 10 5 0,sB 49 true,(36,.tup [(true,[.dead,.dead,.dead,.dead,.dead]),(false,[.dead])]),sV 48 (Vec.row r20.1),sI 46 v19.Co,(45,.fad (((Pt.row v19).drop 1))),(44,.fad ((Pt.row v19))),sI 43 y1,sC 42 (cF 8 x1 Pt.row),sV 41 ((Pt.row v18).drop 3),(40,.fad (((Pt.row v18).drop 3))),(39,.fad ((Pt.row v18))),sI 38 y1,sC 37 (cF 8 x1 Pt.row),sB 35 (!v17.Has),sB 34 (!v17.Has),sB 33 v17.Has,(32,.fad (((Pt.row v17).drop 2))),(31,.fad ((Pt.row v17))),sI 30 y1,sC 29 (cF 8 x1 Pt.row),sB 28 false,sB 27 false,sB 26 v16.Up,(25,.fad ((Pt.row v16))),(24,.fad ((Pt.row v16))),sI 23 y1,sC 22 (cF 8 x1 Pt.row),sB 19 (decide (y1 < (x1.length : Int))),sI 18 (x1.length : Int),sC 17 (cF 8 x1 Pt.row),sI 16 y1,sI 9 y1,sI 8 y2,sA 7 7 5 0,sA 6 6 5 0,sI 5 0,sA 4 4 5 0,sI 0 x0,sC 1 (cF 8 x1 Pt.row)],[(10,(Vec.row r20.1)),(7,[cI y3,cI y4,cI y5,cI y6,cI y7]),(6,[cI y8,cI y9,cI y10,cI x0,cI 0]),(4,[cI 0,cI 0,cI 0,cI 0,cI 0])]⟩ ?_
     cases h6 : (decide (r20.1.Root < x0))
     ·have H := zG h6 H
      refine uA 8 0x3ffff7fffffcf0ff3 1232 ?_
      refine sB' 0x3ffff7fffffcf0ff3 1232 ⟨78,0,[sB 65 false,(64,.tup []),(63,.tup []),(62,.tup []),(61,.tup []),(60,.tup []),(59,.tup []),(58,.tup []),sB 57 false,sB 56 false,sB 55 false,sI 54 x0,sI 53 r20.1.Root,sA 52 10 5 0,sB 51 true,sB 50 true,sB 11 true,sA 10 10 5 0,sB 49 true,(36,.tup [(true,[.dead,.dead,.dead,.dead,.dead]),(false,[.dead])]),sV 48 (Vec.row r20.1),sI 46 v19.Co,(45,.fad (((Pt.row v19).drop 1))),(44,.fad ((Pt.row v19))),sI 43 y1,sC 42 (cF 8 x1 Pt.row),sV 41 ((Pt.row v18).drop 3),(40,.fad (((Pt.row v18).drop 3))),(39,.fad ((Pt.row v18))),sI 38 y1,sC 37 (cF 8 x1 Pt.row),sB 35 (!v17.Has),sB 34 (!v17.Has),sB 33 v17.Has,(32,.fad (((Pt.row v17).drop 2))),(31,.fad ((Pt.row v17))),sI 30 y1,sC 29 (cF 8 x1 Pt.row),sB 28 false,sB 27 false,sB 26 v16.Up,(25,.fad ((Pt.row v16))),(24,.fad ((Pt.row v16))),sI 23 y1,sC 22 (cF 8 x1 Pt.row),sB 19 (decide (y1 < (x1.length : Int))),sI 18 (x1.length : Int),sC 17 (cF 8 x1 Pt.row),sI 16 y1,sI 9 y1,sI 8 y2,sA 7 7 5 0,sA 6 6 5 0,sI 5 0,sA 4 4 5 0,sI 0 x0,sC 1 (cF 8 x1 Pt.row)],[(10,(Vec.row r20.1)),(7,[cI y3,cI y4,cI y5,cI y6,cI y7]),(6,[cI y8,cI y9,cI y10,cI x0,cI 0]),(4,[cI 0,cI 0,cI 0,cI 0,cI 0])]⟩ ?_
      rw [h1]
      rw [h3]
      exact jA (false,false,false,true,true,true,true) H [65,57,56,51,50,11,10,49,36,48,46,45,44,43,42,41,40,39,38,37,35,34,33,32,31,30,29,28,27,26,25,24,23,22,19,18,17,16,9,8,7,6,5,4,0,1] [10,7,6,4]
     have H := zH h6 H
     refine lA 3 ?_
     refine sL 0x1fff7fffffcf0ff3 1232 ⟨78,0,[sB 60 (decide (y2 < 0)),sB 59 (decide (y2 < 0)),sI 58 y2,sB 57 true,sB 56 true,sB 55 true,sI 54 x0,sI 53 r20.1.Root,sA 52 10 5 0,sB 51 true,sB 50 true,sB 11 true,sA 10 10 5 0,sB 49 true,(36,.tup [(true,[.dead,.dead,.dead,.dead,.dead]),(false,[.dead])]),sV 48 (Vec.row r20.1),sI 46 v19.Co,(45,.fad (((Pt.row v19).drop 1))),(44,.fad ((Pt.row v19))),sI 43 y1,sC 42 (cF 8 x1 Pt.row),sV 41 ((Pt.row v18).drop 3),(40,.fad (((Pt.row v18).drop 3))),(39,.fad ((Pt.row v18))),sI 38 y1,sC 37 (cF 8 x1 Pt.row),sB 35 (!v17.Has),sB 34 (!v17.Has),sB 33 v17.Has,(32,.fad (((Pt.row v17).drop 2))),(31,.fad ((Pt.row v17))),sI 30 y1,sC 29 (cF 8 x1 Pt.row),sB 28 false,sB 27 false,sB 26 v16.Up,(25,.fad ((Pt.row v16))),(24,.fad ((Pt.row v16))),sI 23 y1,sC 22 (cF 8 x1 Pt.row),sB 19 (decide (y1 < (x1.length : Int))),sI 18 (x1.length : Int),sC 17 (cF 8 x1 Pt.row),sI 16 y1,sI 9 y1,sI 8 y2,sA 7 7 5 0,sA 6 6 5 0,sI 5 0,sA 4 4 5 0,sI 0 x0,sC 1 (cF 8 x1 Pt.row)],[(10,(Vec.row r20.1)),(7,[cI y3,cI y4,cI y5,cI y6,cI y7]),(6,[cI y8,cI y9,cI y10,cI x0,cI 0]),(4,[cI 0,cI 0,cI 0,cI 0,cI 0])]⟩ ?_
     cases h7 : (decide (y2 < 0))
     ·have H := zG h7 H
      refine lA 2 ?_
      obtain ⟨r28,er28,H⟩ := bs H
      refine vA [.rd,.rd] (zF2 n r20.1 (⟨y3,y4,y5,y6,y7⟩ : Vec) r28 er28) ?_
      refine uA 2 0x3ffff7fffffcf0ff3 1232 ?_
      refine sB' 0x3ffff7fffffcf0ff3 1232 ⟨78,0,[sB 65 r28,sB 64 r28,sB 63 r28,sV 62 [cI y3,cI y4,cI y5,cI y6,cI y7],sV 61 (Vec.row r20.1),sB 60 false,sB 59 false,sI 58 y2,sB 57 true,sB 56 true,sB 55 true,sI 54 x0,sI 53 r20.1.Root,sA 52 10 5 0,sB 51 true,sB 50 true,sB 11 true,sA 10 10 5 0,sB 49 true,(36,.tup [(true,[.dead,.dead,.dead,.dead,.dead]),(false,[.dead])]),sV 48 (Vec.row r20.1),sI 46 v19.Co,(45,.fad (((Pt.row v19).drop 1))),(44,.fad ((Pt.row v19))),sI 43 y1,sC 42 (cF 8 x1 Pt.row),sV 41 ((Pt.row v18).drop 3),(40,.fad (((Pt.row v18).drop 3))),(39,.fad ((Pt.row v18))),sI 38 y1,sC 37 (cF 8 x1 Pt.row),sB 35 (!v17.Has),sB 34 (!v17.Has),sB 33 v17.Has,(32,.fad (((Pt.row v17).drop 2))),(31,.fad ((Pt.row v17))),sI 30 y1,sC 29 (cF 8 x1 Pt.row),sB 28 false,sB 27 false,sB 26 v16.Up,(25,.fad ((Pt.row v16))),(24,.fad ((Pt.row v16))),sI 23 y1,sC 22 (cF 8 x1 Pt.row),sB 19 (decide (y1 < (x1.length : Int))),sI 18 (x1.length : Int),sC 17 (cF 8 x1 Pt.row),sI 16 y1,sI 9 y1,sI 8 y2,sA 7 7 5 0,sA 6 6 5 0,sI 5 0,sA 4 4 5 0,sI 0 x0,sC 1 (cF 8 x1 Pt.row)],[(10,(Vec.row r20.1)),(7,[cI y3,cI y4,cI y5,cI y6,cI y7]),(6,[cI y8,cI y9,cI y10,cI x0,cI 0]),(4,[cI 0,cI 0,cI 0,cI 0,cI 0])]⟩ ?_
      rw [h1]
      rw [h3]
      exact jA (r28,true,true,true,true,true,true) H [65,57,56,51,50,11,10,49,36,48,46,45,44,43,42,41,40,39,38,37,35,34,33,32,31,30,29,28,27,26,25,24,23,22,19,18,17,16,9,8,7,6,5,4,0,1] [10,7,6,4]
     have H := zH h7 H
     refine uA 5 0x3ffff7fffffcf0ff3 1232 ?_
     refine sB' 0x3ffff7fffffcf0ff3 1232 ⟨78,0,[sB 65 true,sB 64 true,(63,.tup []),(62,.tup []),(61,.tup []),sB 60 true,sB 59 true,sI 58 y2,sB 57 true,sB 56 true,sB 55 true,sI 54 x0,sI 53 r20.1.Root,sA 52 10 5 0,sB 51 true,sB 50 true,sB 11 true,sA 10 10 5 0,sB 49 true,(36,.tup [(true,[.dead,.dead,.dead,.dead,.dead]),(false,[.dead])]),sV 48 (Vec.row r20.1),sI 46 v19.Co,(45,.fad (((Pt.row v19).drop 1))),(44,.fad ((Pt.row v19))),sI 43 y1,sC 42 (cF 8 x1 Pt.row),sV 41 ((Pt.row v18).drop 3),(40,.fad (((Pt.row v18).drop 3))),(39,.fad ((Pt.row v18))),sI 38 y1,sC 37 (cF 8 x1 Pt.row),sB 35 (!v17.Has),sB 34 (!v17.Has),sB 33 v17.Has,(32,.fad (((Pt.row v17).drop 2))),(31,.fad ((Pt.row v17))),sI 30 y1,sC 29 (cF 8 x1 Pt.row),sB 28 false,sB 27 false,sB 26 v16.Up,(25,.fad ((Pt.row v16))),(24,.fad ((Pt.row v16))),sI 23 y1,sC 22 (cF 8 x1 Pt.row),sB 19 (decide (y1 < (x1.length : Int))),sI 18 (x1.length : Int),sC 17 (cF 8 x1 Pt.row),sI 16 y1,sI 9 y1,sI 8 y2,sA 7 7 5 0,sA 6 6 5 0,sI 5 0,sA 4 4 5 0,sI 0 x0,sC 1 (cF 8 x1 Pt.row)],[(10,(Vec.row r20.1)),(7,[cI y3,cI y4,cI y5,cI y6,cI y7]),(6,[cI y8,cI y9,cI y10,cI x0,cI 0]),(4,[cI 0,cI 0,cI 0,cI 0,cI 0])]⟩ ?_
     rw [h1]
     rw [h3]
     exact jA (true,true,true,true,true,true,true) H [65,57,56,51,50,11,10,49,36,48,46,45,44,43,42,41,40,39,38,37,35,34,33,32,31,30,29,28,27,26,25,24,23,22,19,18,17,16,9,8,7,6,5,4,0,1] [10,7,6,4]
    rintro ⟨y21,y22,y23,y24,y25,y26,y27⟩ H
    have H : (ZP n (fun v => zo n mo15 x0 x1 v.1 v.2.1 v.2.2.1 v.2.2.2.1 v.2.2.2.2.1 v.2.2.2.2.2.1 v.2.2.2.2.2.2.1 v.2.2.2.2.2.2.2.1 v.2.2.2.2.2.2.2.2.1 v.2.2.2.2.2.2.2.2.2) r20 y1 y10 y2 y3 y4 y5 y6 y7 y8 y9 y21 y22 y23 y24 y25 y26 y27) = some o15 := H
    unfold ZP at H
    cases h4 : y21
    ·have H := zG h4 H
     refine nB_ ?_
     refine tK ?_
     refine eA 3 0x2030f7fffffff0ff3 1232 ?_
     exact jB mo15 ((IntKind.wrap .i64 (y1 + 1)),y2,y3,y4,y5,y6,y7,y8,y9,y10) H [9,8,7,6,5,4,0,1] [7,6,4]
    have H := zH h4 H
    refine tB_ ?_
    refine gA 2 0x6030f7fffffcf0ff3 1232 ?_
    refine gA 2 0xe030f7fffffcf0ff3 1232 ?_
    refine eA 9 0xffe030f7fffffcf0ff3 1232 ?_
    refine eA 3 0xffe030f7fffffff0ff3 1232 ?_
    exact jB mo15 ((IntKind.wrap .i64 (y1 + 1)),y1,r20.1.Root,r20.1.Co,r20.1.Hops,r20.1.Bridge,r20.1.Port,r20.1.Root,r20.1.Co,r20.1.Hops) H [9,8,7,6,5,4,0,1] [7,6,4]
   refine tA h3 ?_
   refine Tr.exit ?_
   refine And.intro (fun _ => ?_) (fun h => absurd rfl h)
   refine eA 3 68719412211 208 ?_
   exact jB mo15 ((IntKind.wrap .i64 (y1 + 1)),y2,y3,y4,y5,y6,y7,y8,y9,y10) H [9,8,7,6,5,4,0,1] [7,6,4]
  have H := zH h2 H
  refine uA 7 68716266483 208 ?_
  refine tB_ ?_
  refine Tr.exit ?_
  refine And.intro (fun _ => ?_) (fun h => absurd rfl h)
  refine eA 3 68719412211 208 ?_
  exact jB mo15 ((IntKind.wrap .i64 (y1 + 1)),y2,y3,y4,y5,y6,y7,y8,y9,y10) H [9,8,7,6,5,4,0,1] [7,6,4]
 rintro ⟨y11,y12,y13,y14⟩ H
 have H : (zAS n x0 y11 y12 y13 y14) = some r := H
 unfold zAS at H
 refine gA 4 48 16 ?_
 exact te (by obtain rfl := si H; exact fP [(true,[cI y12,cI y13,cI y14,cI x0,cI 0]),(false,[cI y11])])
def qH (n : Nat) (x0 : Int) (x1 : (List Pt)) (x2 : Int) : Option (Vec) :=
  ((Zz n x0 x1).bind fun r1 => (some (⟨r1.1.Root,r1.1.Co,r1.1.Hops,r1.1.Bridge,x2⟩ : Vec)))
theorem zET (n : Nat) (x0 : Int) (x1 : (List Pt)) (x2 : Int) (r : Vec) (H : qH n x0 x1 x2 = some r) : zD Tryz.prog 231 [.val false [.lit (.int .i64 x0)],.val false [.sl false 8 (CV.frzEs (x1.map Pt.row))],.val false [.lit (.int .i64 x2)]] [.val true (Vec.row r)] [] := by
 refine cA Tryz.func231 (.seq (Rg Tryz.f231 0) (.seq (Rg Tryz.f231 1) (.seq (Rg Tryz.f231 2) (.seq (Rg Tryz.f231 3) .ret)))) [.cell 6 165] fun cx => ?_
 unfold qH at H
 refine gA 1 71 64 ?_
 refine rA 2 ?_
 obtain ⟨r1,er1,H⟩ := bs H
 refine vA [.rd,.rd] (zFz n x0 x1 r1 er1) ?_
 refine LAt.movT tOk (ty := 233) (t := 12) (d := 9) (g := none) [(true,(Vec.row r1.1)),(false,[cI r1.2])] _ kr (.inl rfl) kr kr kr kr rfl ?_
 refine uA 5 196 192 ?_
 refine gA 3 192 192 ?_
 refine gA 2 64 64 ?_
 exact te (by obtain rfl := si H; exact fP [(true,[cI r1.1.Root,cI r1.1.Co,cI r1.1.Hops,cI r1.1.Bridge,cI x2])])
end Go.Proofs.YtcegokjpmppdbaaGreat.Tw
