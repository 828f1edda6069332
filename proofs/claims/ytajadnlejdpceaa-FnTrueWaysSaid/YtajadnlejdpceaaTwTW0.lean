import Derived.Test.YtajadnlejdpceaaProg
import Derived.Test.YtajadnlejdpceaaTlRule
import Derived.Test.YtajadnlejdpceaaTlU16
import Derived.WalkKit
set_option linter.unusedVariables false
set_option linter.unusedSimpArgs false
set_option maxRecDepth 100000
set_option maxHeartbeats 1000000
namespace Go.Proofs.Ytajadnlejdpceaa.Tw
open Go Go.TL Go.Proofs
def tab : List (Nat × TI) := [(2,⟨.int .i64,1,8,[.lit (.int .i64 0)]⟩),
  (3,⟨.int .i64,1,8,[.lit (.int .i64 0)]⟩),
  (4,⟨.bool,1,1,[.lit (.bool false)]⟩),
  (5,⟨.int .u8,1,1,[.lit (.int .u8 0)]⟩),
  (6,⟨.int .u8,1,1,[.lit (.int .u8 0)]⟩),
  (7,⟨.st [(0,1,2),(1,1,3),(2,1,4),(3,1,6)],4,24,[.lit (.int .i64 0),.lit (.int .i64 0),.lit (.bool false),.lit (.int .u8 0)]⟩),
  (8,⟨.st [(0,1,2),(1,1,3),(2,1,4),(3,1,6)],4,24,[.lit (.int .i64 0),.lit (.int .i64 0),.lit (.bool false),.lit (.int .u8 0)]⟩),
  (9,⟨.str,1,16,[.lit (.string ⟨#[]⟩)]⟩),
  (11,⟨.str,1,16,[.lit (.string ⟨#[]⟩)]⟩),
  (33,⟨.sl 5,1,24,[.sl true 1 []]⟩),
  (35,⟨.sl 55,1,24,[.sl true 8 []]⟩),
  (36,⟨.sl 60,1,24,[.sl true 5 []]⟩),
  (37,⟨.sl 114,1,24,[.sl true 3 []]⟩),
  (38,⟨.sl 3,1,24,[.sl true 1 []]⟩),
  (40,⟨.st [(0,1,37),(1,1,38)],2,48,[.sl true 3 [],.sl true 1 []]⟩),
  (42,⟨.st [(0,1,3),(1,1,9),(2,1,35),(3,1,36),(4,2,40),(6,1,3),(7,1,3),(8,1,3),(9,1,3),(10,1,3)],11,160,[.lit (.int .i64 0),.lit (.string ⟨#[]⟩),.sl true 8 [],.sl true 5 [],.sl true 3 [],.sl true 1 [],.lit (.int .i64 0),.lit (.int .i64 0),.lit (.int .i64 0),.lit (.int .i64 0),.lit (.int .i64 0)]⟩),
  (46,⟨.st [(0,1,3),(1,1,3),(2,1,3),(3,1,3),(4,1,3)],5,40,[.lit (.int .i64 0),.lit (.int .i64 0),.lit (.int .i64 0),.lit (.int .i64 0),.lit (.int .i64 0)]⟩),
  (53,⟨.sl 42,1,24,[.sl true 11 []]⟩),
  (55,⟨.st [(0,1,4),(1,1,3),(2,1,4),(3,5,46)],8,64,[.lit (.bool false),.lit (.int .i64 0),.lit (.bool false),.lit (.int .i64 0),.lit (.int .i64 0),.lit (.int .i64 0),.lit (.int .i64 0),.lit (.int .i64 0)]⟩),
  (60,⟨.st [(0,1,3),(1,1,3),(2,1,3),(3,1,3),(4,1,4)],5,40,[.lit (.int .i64 0),.lit (.int .i64 0),.lit (.int .i64 0),.lit (.int .i64 0),.lit (.bool false)]⟩),
  (73,⟨.sl 119,1,24,[.sl true 4 []]⟩),
  (74,⟨.sl 177,1,24,[.sl true 7 []]⟩),
  (76,⟨.st [(0,1,53),(1,1,73),(2,1,74)],3,72,[.sl true 11 [],.sl true 4 [],.sl true 7 []]⟩),
  (77,⟨.sl 172,1,24,[.sl true 2 []]⟩),
  (103,⟨.int .u64,1,8,[.lit (.int .u64 0)]⟩),
  (114,⟨.st [(0,1,3),(1,1,3),(2,1,3)],3,24,[.lit (.int .i64 0),.lit (.int .i64 0),.lit (.int .i64 0)]⟩),
  (119,⟨.st [(0,1,3),(1,1,3),(2,1,3),(3,1,3)],4,32,[.lit (.int .i64 0),.lit (.int .i64 0),.lit (.int .i64 0),.lit (.int .i64 0)]⟩),
  (139,⟨.st [(0,1,33),(1,1,3),(2,1,3)],3,40,[.sl true 1 [],.lit (.int .i64 0),.lit (.int .i64 0)]⟩),
  (172,⟨.st [(0,1,3),(1,1,3)],2,16,[.lit (.int .i64 0),.lit (.int .i64 0)]⟩),
  (177,⟨.st [(0,1,3),(1,1,4),(2,5,46)],7,56,[.lit (.int .i64 0),.lit (.bool false),.lit (.int .i64 0),.lit (.int .i64 0),.lit (.int .i64 0),.lit (.int .i64 0),.lit (.int .i64 0)]⟩),
  (206,⟨.sl 4,1,24,[.sl true 1 []]⟩)]
def tI (t : Nat) : TI := (lk tab t).getD ⟨.bool,1,1,[]⟩
theorem mixed : Try.prog.follows .mixedOrders = true := by kernel_rfl
theorem tOk : TOk Try.prog (lk tab) := zM0 (by kernel_rfl)
instance : TC Try.prog (lk tab) := ⟨tOk⟩
structure Src where
  b : (List Int)
  i : Int
  h : Int
def Src.row (v : Src) : List CV := [.sl true 1 (v.b.map zx),.lit (.int .i64 v.i),.lit (.int .i64 v.h)]
def Src.wf (v : Src) : Prop := Q7 zIq v.b ∧ zu v.i ∧ zu v.h ∧ True
theorem Src.enc : Enc Src [.sl 1 [.int .u8],.int .i64,.int .i64] Src.row Src.wf := fun cs h => by
  obtain ⟨c0,r0,rfl,k0,h⟩ := zH h
  obtain ⟨c1,r1,rfl,k1,h⟩ := zH h
  obtain ⟨c2,r2,rfl,k2,h⟩ := zH h
  obtain rfl := QF h
  obtain ⟨x0,rfl,w0⟩ := Enc.sl zJt k0
  obtain ⟨x1,rfl,w1⟩ := zZ k1
  obtain ⟨x2,rfl,w2⟩ := zZ k2
  exact ⟨⟨x0,x1,x2⟩,rfl,⟨w0,w1,w2,trivial⟩⟩
theorem Src.row_mine (v : Src) : CV.mineRow (Src.row v) := zE (JC (Q5 zIp _)) (zE zI (zE zI (z5)))
structure Vec where
  Root : Int
  Co : Int
  Hops : Int
  Bridge : Int
  Port : Int
def Vec.row (v : Vec) : List CV := [.lit (.int .i64 v.Root),.lit (.int .i64 v.Co),.lit (.int .i64 v.Hops),.lit (.int .i64 v.Bridge),.lit (.int .i64 v.Port)]
def Vec.wf (v : Vec) : Prop := zu v.Root ∧ zu v.Co ∧ zu v.Hops ∧ zu v.Bridge ∧ zu v.Port ∧ True
theorem Vec.enc : Enc Vec [.int .i64,.int .i64,.int .i64,.int .i64,.int .i64] Vec.row Vec.wf := fun cs h => by
  obtain ⟨c0,r0,rfl,k0,h⟩ := zH h
  obtain ⟨c1,r1,rfl,k1,h⟩ := zH h
  obtain ⟨c2,r2,rfl,k2,h⟩ := zH h
  obtain ⟨c3,r3,rfl,k3,h⟩ := zH h
  obtain ⟨c4,r4,rfl,k4,h⟩ := zH h
  obtain rfl := QF h
  obtain ⟨x0,rfl,w0⟩ := zZ k0
  obtain ⟨x1,rfl,w1⟩ := zZ k1
  obtain ⟨x2,rfl,w2⟩ := zZ k2
  obtain ⟨x3,rfl,w3⟩ := zZ k3
  obtain ⟨x4,rfl,w4⟩ := zZ k4
  exact ⟨⟨x0,x1,x2,x3,x4⟩,rfl,⟨w0,w1,w2,w3,w4,trivial⟩⟩
theorem Vec.row_mine (v : Vec) : CV.mineRow (Vec.row v) := zE zI (zE zI (zE zI (zE zI (zE zI (z5)))))
structure Pt where
  Up : Bool
  Co : Int
  Has : Bool
  Hd : Vec
def Pt.row (v : Pt) : List CV := [.lit (.bool v.Up),.lit (.int .i64 v.Co),.lit (.bool v.Has),.lit (.int .i64 v.Hd.Root),.lit (.int .i64 v.Hd.Co),.lit (.int .i64 v.Hd.Hops),.lit (.int .i64 v.Hd.Bridge),.lit (.int .i64 v.Hd.Port)]
def Pt.wf (v : Pt) : Prop := zu v.Co ∧ zu v.Hd.Root ∧ zu v.Hd.Co ∧ zu v.Hd.Hops ∧ zu v.Hd.Bridge ∧ zu v.Hd.Port ∧ True
theorem Pt.enc : Enc Pt [.bool,.int .i64,.bool,.int .i64,.int .i64,.int .i64,.int .i64,.int .i64] Pt.row Pt.wf := fun cs h => by
  obtain ⟨c0,r0,rfl,k0,h⟩ := zH h
  obtain ⟨c1,r1,rfl,k1,h⟩ := zH h
  obtain ⟨c2,r2,rfl,k2,h⟩ := zH h
  obtain ⟨c3,r3,rfl,k3,h⟩ := zH h
  obtain ⟨c4,r4,rfl,k4,h⟩ := zH h
  obtain ⟨c5,r5,rfl,k5,h⟩ := zH h
  obtain ⟨c6,r6,rfl,k6,h⟩ := zH h
  obtain ⟨c7,r7,rfl,k7,h⟩ := zH h
  obtain rfl := QF h
  obtain ⟨x0,rfl⟩ := zB1 k0
  obtain ⟨x1,rfl,w1⟩ := zZ k1
  obtain ⟨x2,rfl⟩ := zB1 k2
  obtain ⟨x3,rfl,w3⟩ := zZ k3
  obtain ⟨x4,rfl,w4⟩ := zZ k4
  obtain ⟨x5,rfl,w5⟩ := zZ k5
  obtain ⟨x6,rfl,w6⟩ := zZ k6
  obtain ⟨x7,rfl,w7⟩ := zZ k7
  exact ⟨⟨x0,x1,x2,⟨x3,x4,x5,x6,x7⟩⟩,rfl,⟨w1,w3,w4,w5,w6,w7,trivial⟩⟩
theorem Pt.row_mine (v : Pt) : CV.mineRow (Pt.row v) := zE zI (zE zI (zE zI (zE zI (zE zI (zE zI (zE zI (zE zI (z5))))))))
structure zC where
  Tag : Int
  Mac : Int
  Port : Int
  Age : Int
  Sc : Bool
def zC.row (v : zC) : List CV := [.lit (.int .i64 v.Tag),.lit (.int .i64 v.Mac),.lit (.int .i64 v.Port),.lit (.int .i64 v.Age),.lit (.bool v.Sc)]
def zC.wf (v : zC) : Prop := zu v.Tag ∧ zu v.Mac ∧ zu v.Port ∧ zu v.Age ∧ True
theorem zC.enc : Enc zC [.int .i64,.int .i64,.int .i64,.int .i64,.bool] zC.row zC.wf := fun cs h => by
  obtain ⟨c0,r0,rfl,k0,h⟩ := zH h
  obtain ⟨c1,r1,rfl,k1,h⟩ := zH h
  obtain ⟨c2,r2,rfl,k2,h⟩ := zH h
  obtain ⟨c3,r3,rfl,k3,h⟩ := zH h
  obtain ⟨c4,r4,rfl,k4,h⟩ := zH h
  obtain rfl := QF h
  obtain ⟨x0,rfl,w0⟩ := zZ k0
  obtain ⟨x1,rfl,w1⟩ := zZ k1
  obtain ⟨x2,rfl,w2⟩ := zZ k2
  obtain ⟨x3,rfl,w3⟩ := zZ k3
  obtain ⟨x4,rfl⟩ := zB1 k4
  exact ⟨⟨x0,x1,x2,x3,x4⟩,rfl,⟨w0,w1,w2,w3,trivial⟩⟩
theorem zC.row_mine (v : zC) : CV.mineRow (zC.row v) := zE zI (zE zI (zE zI (zE zI (zE zI (z5)))))
structure zT where
  Id : Int
  Members : Int
  Bare : Int
def zT.row (v : zT) : List CV := [.lit (.int .i64 v.Id),.lit (.int .i64 v.Members),.lit (.int .i64 v.Bare)]
def zT.wf (v : zT) : Prop := zu v.Id ∧ zu v.Members ∧ zu v.Bare ∧ True
theorem zT.enc : Enc zT [.int .i64,.int .i64,.int .i64] zT.row zT.wf := fun cs h => by
  obtain ⟨c0,r0,rfl,k0,h⟩ := zH h
  obtain ⟨c1,r1,rfl,k1,h⟩ := zH h
  obtain ⟨c2,r2,rfl,k2,h⟩ := zH h
  obtain rfl := QF h
  obtain ⟨x0,rfl,w0⟩ := zZ k0
  obtain ⟨x1,rfl,w1⟩ := zZ k1
  obtain ⟨x2,rfl,w2⟩ := zZ k2
  exact ⟨⟨x0,x1,x2⟩,rfl,⟨w0,w1,w2,trivial⟩⟩
theorem zT.row_mine (v : zT) : CV.mineRow (zT.row v) := zE zI (zE zI (zE zI (z5)))
structure zR where
  Rows : (List zT)
  Pv : (List Int)
def zR.row (v : zR) : List CV := [.sl true 3 (v.Rows.map zT.row),.sl true 1 (v.Pv.map intRow)]
def zR.wf (v : zR) : Prop := Q7 zT.wf v.Rows ∧ Q7 zu v.Pv ∧ True
theorem zR.enc : Enc zR [.sl 3 [.int .i64,.int .i64,.int .i64],.sl 1 [.int .i64]] zR.row zR.wf := fun cs h => by
  obtain ⟨c0,r0,rfl,k0,h⟩ := zH h
  obtain ⟨c1,r1,rfl,k1,h⟩ := zH h
  obtain rfl := QF h
  obtain ⟨x0,rfl,w0⟩ := Enc.sl zT.enc k0
  obtain ⟨x1,rfl,w1⟩ := Enc.sl zKr k1
  exact ⟨⟨x0,x1⟩,rfl,⟨w0,w1,trivial⟩⟩
theorem zR.row_mine (v : zR) : CV.mineRow (zR.row v) := zE (JC (Q5 zT.row_mine _)) (zE (JC (Q5 zF3 _)) (z5))
structure zA where
  Id : Int
  Name : ByteArray
  Ps : (List Pt)
  F : (List zC)
  V : zR
  Tk : Int
  Pa : Int
  Wo : Int
  Dr : Int
  Ve : Int
def zA.row (v : zA) : List CV := [.lit (.int .i64 v.Id),.lit (.string v.Name),.sl true 8 (v.Ps.map Pt.row),.sl true 5 (v.F.map zC.row),.sl true 3 (v.V.Rows.map zT.row),.sl true 1 (v.V.Pv.map intRow),.lit (.int .i64 v.Tk),.lit (.int .i64 v.Pa),.lit (.int .i64 v.Wo),.lit (.int .i64 v.Dr),.lit (.int .i64 v.Ve)]
def zA.wf (v : zA) : Prop := zu v.Id ∧ v.Name.size ≤ maxLen ∧ Q7 Pt.wf v.Ps ∧ Q7 zC.wf v.F ∧ Q7 zT.wf v.V.Rows ∧ Q7 zu v.V.Pv ∧ zu v.Tk ∧ zu v.Pa ∧ zu v.Wo ∧ zu v.Dr ∧ zu v.Ve ∧ True
theorem zA.enc : Enc zA [.int .i64,.str,.sl 8 [.bool,.int .i64,.bool,.int .i64,.int .i64,.int .i64,.int .i64,.int .i64],.sl 5 [.int .i64,.int .i64,.int .i64,.int .i64,.bool],.sl 3 [.int .i64,.int .i64,.int .i64],.sl 1 [.int .i64],.int .i64,.int .i64,.int .i64,.int .i64,.int .i64] zA.row zA.wf := fun cs h => by
  obtain ⟨c0,r0,rfl,k0,h⟩ := zH h
  obtain ⟨c1,r1,rfl,k1,h⟩ := zH h
  obtain ⟨c2,r2,rfl,k2,h⟩ := zH h
  obtain ⟨c3,r3,rfl,k3,h⟩ := zH h
  obtain ⟨c4,r4,rfl,k4,h⟩ := zH h
  obtain ⟨c5,r5,rfl,k5,h⟩ := zH h
  obtain ⟨c6,r6,rfl,k6,h⟩ := zH h
  obtain ⟨c7,r7,rfl,k7,h⟩ := zH h
  obtain ⟨c8,r8,rfl,k8,h⟩ := zH h
  obtain ⟨c9,r9,rfl,k9,h⟩ := zH h
  obtain ⟨c10,r10,rfl,k10,h⟩ := zH h
  obtain rfl := QF h
  obtain ⟨x0,rfl,w0⟩ := zZ k0
  obtain ⟨x1,rfl,w1⟩ := zLS k1
  obtain ⟨x2,rfl,w2⟩ := Enc.sl Pt.enc k2
  obtain ⟨x3,rfl,w3⟩ := Enc.sl zC.enc k3
  obtain ⟨x4,rfl,w4⟩ := Enc.sl zT.enc k4
  obtain ⟨x5,rfl,w5⟩ := Enc.sl zKr k5
  obtain ⟨x6,rfl,w6⟩ := zZ k6
  obtain ⟨x7,rfl,w7⟩ := zZ k7
  obtain ⟨x8,rfl,w8⟩ := zZ k8
  obtain ⟨x9,rfl,w9⟩ := zZ k9
  obtain ⟨x10,rfl,w10⟩ := zZ k10
  exact ⟨⟨x0,x1,x2,x3,⟨x4,x5⟩,x6,x7,x8,x9,x10⟩,rfl,⟨w0,w1,w2,w3,w4,w5,w6,w7,w8,w9,w10,trivial⟩⟩
theorem zA.row_mine (v : zA) : CV.mineRow (zA.row v) := zE zI (zE zI (zE (JC (Q5 Pt.row_mine _)) (zE (JC (Q5 zC.row_mine _)) (zE (JC (Q5 zT.row_mine _)) (zE (JC (Q5 zF3 _)) (zE zI (zE zI (zE zI (zE zI (zE zI (z5)))))))))))
structure Link where
  A : Int
  P : Int
  B : Int
  Q : Int
def Link.row (v : Link) : List CV := [.lit (.int .i64 v.A),.lit (.int .i64 v.P),.lit (.int .i64 v.B),.lit (.int .i64 v.Q)]
def Link.wf (v : Link) : Prop := zu v.A ∧ zu v.P ∧ zu v.B ∧ zu v.Q ∧ True
theorem Link.enc : Enc Link [.int .i64,.int .i64,.int .i64,.int .i64] Link.row Link.wf := fun cs h => by
  obtain ⟨c0,r0,rfl,k0,h⟩ := zH h
  obtain ⟨c1,r1,rfl,k1,h⟩ := zH h
  obtain ⟨c2,r2,rfl,k2,h⟩ := zH h
  obtain ⟨c3,r3,rfl,k3,h⟩ := zH h
  obtain rfl := QF h
  obtain ⟨x0,rfl,w0⟩ := zZ k0
  obtain ⟨x1,rfl,w1⟩ := zZ k1
  obtain ⟨x2,rfl,w2⟩ := zZ k2
  obtain ⟨x3,rfl,w3⟩ := zZ k3
  exact ⟨⟨x0,x1,x2,x3⟩,rfl,⟨w0,w1,w2,w3,trivial⟩⟩
theorem Link.row_mine (v : Link) : CV.mineRow (Link.row v) := zE zI (zE zI (zE zI (zE zI (z5))))
structure Say where
  Link : Int
  Back : Bool
  V : Vec
def Say.row (v : Say) : List CV := [.lit (.int .i64 v.Link),.lit (.bool v.Back),.lit (.int .i64 v.V.Root),.lit (.int .i64 v.V.Co),.lit (.int .i64 v.V.Hops),.lit (.int .i64 v.V.Bridge),.lit (.int .i64 v.V.Port)]
def Say.wf (v : Say) : Prop := zu v.Link ∧ zu v.V.Root ∧ zu v.V.Co ∧ zu v.V.Hops ∧ zu v.V.Bridge ∧ zu v.V.Port ∧ True
theorem Say.enc : Enc Say [.int .i64,.bool,.int .i64,.int .i64,.int .i64,.int .i64,.int .i64] Say.row Say.wf := fun cs h => by
  obtain ⟨c0,r0,rfl,k0,h⟩ := zH h
  obtain ⟨c1,r1,rfl,k1,h⟩ := zH h
  obtain ⟨c2,r2,rfl,k2,h⟩ := zH h
  obtain ⟨c3,r3,rfl,k3,h⟩ := zH h
  obtain ⟨c4,r4,rfl,k4,h⟩ := zH h
  obtain ⟨c5,r5,rfl,k5,h⟩ := zH h
  obtain ⟨c6,r6,rfl,k6,h⟩ := zH h
  obtain rfl := QF h
  obtain ⟨x0,rfl,w0⟩ := zZ k0
  obtain ⟨x1,rfl⟩ := zB1 k1
  obtain ⟨x2,rfl,w2⟩ := zZ k2
  obtain ⟨x3,rfl,w3⟩ := zZ k3
  obtain ⟨x4,rfl,w4⟩ := zZ k4
  obtain ⟨x5,rfl,w5⟩ := zZ k5
  obtain ⟨x6,rfl,w6⟩ := zZ k6
  exact ⟨⟨x0,x1,⟨x2,x3,x4,x5,x6⟩⟩,rfl,⟨w0,w2,w3,w4,w5,w6,trivial⟩⟩
theorem Say.row_mine (v : Say) : CV.mineRow (Say.row v) := zE zI (zE zI (zE zI (zE zI (zE zI (zE zI (zE zI (z5)))))))
structure Net where
  Bs : (List zA)
  Ls : (List Link)
  Said : (List Say)
def Net.row (v : Net) : List CV := [.sl true 11 (v.Bs.map zA.row),.sl true 4 (v.Ls.map Link.row),.sl true 7 (v.Said.map Say.row)]
def Net.wf (v : Net) : Prop := Q7 zA.wf v.Bs ∧ Q7 Link.wf v.Ls ∧ Q7 Say.wf v.Said ∧ True
theorem Net.enc : Enc Net [.sl 11 [.int .i64,.str,.sl 8 [.bool,.int .i64,.bool,.int .i64,.int .i64,.int .i64,.int .i64,.int .i64],.sl 5 [.int .i64,.int .i64,.int .i64,.int .i64,.bool],.sl 3 [.int .i64,.int .i64,.int .i64],.sl 1 [.int .i64],.int .i64,.int .i64,.int .i64,.int .i64,.int .i64],.sl 4 [.int .i64,.int .i64,.int .i64,.int .i64],.sl 7 [.int .i64,.bool,.int .i64,.int .i64,.int .i64,.int .i64,.int .i64]] Net.row Net.wf := fun cs h => by
  obtain ⟨c0,r0,rfl,k0,h⟩ := zH h
  obtain ⟨c1,r1,rfl,k1,h⟩ := zH h
  obtain ⟨c2,r2,rfl,k2,h⟩ := zH h
  obtain rfl := QF h
  obtain ⟨x0,rfl,w0⟩ := Enc.sl zA.enc k0
  obtain ⟨x1,rfl,w1⟩ := Enc.sl Link.enc k1
  obtain ⟨x2,rfl,w2⟩ := Enc.sl Say.enc k2
  exact ⟨⟨x0,x1,x2⟩,rfl,⟨w0,w1,w2,trivial⟩⟩
theorem Net.row_mine (v : Net) : CV.mineRow (Net.row v) := zE (JC (Q5 zA.row_mine _)) (zE (JC (Q5 Link.row_mine _)) (zE (JC (Q5 Say.row_mine _)) (z5)))
structure Event where
  Ki : Int
  At : Int
def Event.row (v : Event) : List CV := [.lit (.int .i64 v.Ki),.lit (.int .i64 v.At)]
def Event.wf (v : Event) : Prop := zu v.Ki ∧ zu v.At ∧ True
theorem Event.enc : Enc Event [.int .i64,.int .i64] Event.row Event.wf := fun cs h => by
  obtain ⟨c0,r0,rfl,k0,h⟩ := zH h
  obtain ⟨c1,r1,rfl,k1,h⟩ := zH h
  obtain rfl := QF h
  obtain ⟨x0,rfl,w0⟩ := zZ k0
  obtain ⟨x1,rfl,w1⟩ := zZ k1
  exact ⟨⟨x0,x1⟩,rfl,⟨w0,w1,trivial⟩⟩
theorem Event.row_mine (v : Event) : CV.mineRow (Event.row v) := zE zI (zE zI (z5))
def zDN (n : Nat) (x0 : (List Int)) : Option (Bool) :=
  (some (decide ((x0.length : Int) > 1048576)))
theorem zLU (n : Nat) (x0 : (List Int)) (r : Bool) (H : zDN n x0 = some r) : zG Try.prog 13 [.val false [.sl false 1 (CV.frzEs (x0.map zx))]] [.val false [.lit (.bool r)]] [] := by
 refine cW Try.func13 (fun g d => sl [g 0,g 1] .ret) [.tmp 2] fun cx=>?_
 unfold zDN at H
 exact gA 1 1 0<|rA 1<|kF x0 zx<|uA 2 4 0<|te (fJ [(false,[cB (decide ((x0.length : Int) > 1048576))])] H)
def zAl (n : Nat) (x0 : (List Int)) (y3 : Int) : Option (Src) :=
  (some (⟨x0,0,y3⟩ : Src))
def Qd (n : Nat) : Nat → (List Int) → Int → Int → Option ((Int) ⊕ (Src))
  | 0,_,_,_ => none
  | mo4 + 1,x0,y1,y2 => (bif (decide (y1 < (x0.length : Int))) then (bif (decide (y1 < 4000)) then ((idx x0 y1).bind fun v5 => (Qd n mo4 x0 (IntKind.wrap .i64 (y1 + 1)) (IntKind.wrap .i64 (BitVec.ofInt (IntKind.bits .i64) (IntKind.wrap .i64 ((IntKind.wrap .i64 ((IntKind.wrap .i64 (y2 * 137)) + (IntKind.wrap .i64 v5))) + 11)) &&& BitVec.ofInt (IntKind.bits .i64) 1073741823).toNat))) else (some (Sum.inl y2))) else (some (Sum.inl y2)))
def zAW (n : Nat) (x0 : (List Int)) : Option (Src) :=
  ((Qd n n x0 0 (IntKind.wrap .i64 (762762 + (x0.length : Int)))).bind fun o => match o with | .inl y3 => (zAl n x0 y3) | .inr r => some r)
noncomputable abbrev G47 (k : Nat) := Rg Try.f47 k
theorem zKW (n : Nat) (x0 : (List Int)) (r : Src) (H : zAW n x0 = some r) : zG Try.prog 47 [.val false [.sl false 1 (CV.frzEs (x0.map zx))]] [.ptr (fR (Src.row r))] [] := by
 refine zG.of_body_ptr tOk Try.func47 rfl (c := (.seq (G47 0) (.seq (G47 1) (.seq (.seq (G47 2) (.block 0 (.loop (.seq (.seq (G47 3) (.cond (.tmp 15) .skip (.exit 0))) (.seq (.block 1 (G47 5)) (G47 4)))))) (.seq (G47 6) .ret))))) kr (Nat.le_of_ble_eq_true kr) 2 31 rfl (fR (Src.row r)) fun cx=>?_
 show Tr _ _ _ ⟨32,0,[sC 0 (cF 1 x0 zx)],[]⟩ _
 unfold zAW at H
 refine gA 1 1 0<|rA 1<|kF x0 zx<|uA 2 9 0<|tS<|gA 1 25 0 ?_
 obtain ⟨o4,eo4,Ho4⟩ := bs H
 clear H
 refine Tr.mid (ι := Int) (fun v => ⟨32,0,[sI 3 v,sC 0 (cF 1 x0 zx)],[]⟩) (fun v => zAl n x0 v = some r) ?_ ?_
 ·refine tB<|Tr.loop (ι := Nat × (Int × Int)) (fun v => ⟨32,0,[sI 4 v.2.1,sI 3 v.2.2,sC 0 (cF 1 x0 zx)],[]⟩) (fun v => Qd n v.1 x0 v.2.1 v.2.2 = some o4) (fun v => v.1) (n,(0,(wI (762762 + (x0.length : Int))))) eo4 (St.sub_of [4,3,0] [] kr) ?_
  rintro ⟨_ | mo4,y1,y2⟩ H
  ·exact nN H
  have H : Qd n (mo4+1) x0 y1 y2 = some o4 := H
  rw [Qd] at H
  refine tS<|rA 2<|kF x0 zx<|lA 2 ?_
  obtain ⟨h1,H⟩ | ⟨h1,H⟩ := bC H
  ·refine qL 4121 0 [12] h1<|uA 3 32793 0<|nB_<|Tr.exit<|aJ ?_
   cases H
   exact jA y2 Ho4 [3,0] []
  refine qL 4121 0 [12] h1<|uA 3 32793 0 ?_
  obtain ⟨h2,H⟩ | ⟨h2,H⟩ := bC H
  ·refine nA h2<|Tr.exit<|aJ ?_
   cases H
   exact jA y2 Ho4 [3,0] []
  exact tA h2<|tK<|tS<|tB<|Tr.at<|lA 4<|bE H fun v5 ev5 H=> iA zx ev5<|uA 6 25 0<|eA 3 25 0<|jB mo4 ((wI (y1 + 1)),(wI (bO (wI ((wI ((wI (y2 * 137)) + (wI v5))) + 11)) &&& bO 1073741823).toNat)) H [4,3,0] []
 rintro y3 H
 have H : (zAl n x0 y3) = some r := H
 unfold zAl at H
 refine gA 5 4 2147483648<|te ?_
 obtain rfl := si H
 exact And.intro kr kr
def J6 (n : Nat) (x0 : (List Int)) (x1 : Int) : Option (Int) :=
  (bif (decide ((12 : Int) ≠ 0)) then (bif (decide ((IntKind.wrap .i64 (3 + (IntKind.wrap .i64 (Int.tdiv (x0.length : Int) 12)))) > x1)) then (some x1) else (some (IntKind.wrap .i64 (3 + (IntKind.wrap .i64 (Int.tdiv (x0.length : Int) 12)))))) else none)
theorem zJk (n : Nat) (x0 : (List Int)) (x1 : Int) (r : Int) (H : J6 n x0 x1 = some r) : zG Try.prog 70 [.val false [.sl false 1 (CV.frzEs (x0.map zx))],.val false [.lit (.int .i64 x1)]] [.val false [.lit (.int .i64 r)]] [] := by
 refine cW Try.func70 (fun g d => sl [g 0,g 1,sl [g 2] (cn 12 (sl [g 3] .ret) .skip),g 4] .ret) [.tmp 4] fun cx=>?_
 unfold J6 at H
 refine gA 1 3 0<|rA 1<|kF x0 zx<|gE H fun hg1 H=> LAt.binC tOk (op := .quo) (t := 3) (ty := 3) (ty' := 3) (x := (.tmp 7)) (y := (.const (.int .i64 12))) (d := 8) (g := none) (.int .i64 (x0.length : Int)) (.int .i64 12) (.int .i64 (wI (Int.tdiv (x0.length : Int) 12))) _ kr kr kr kr kr (φ := (IntKind.i64 = IntKind.i64 ∧ (12 : Int) ≠ 0)) kr (⟨rfl,of_decide_eq_true hg1⟩) rfl<|uA 2 34 0<|tS<|gA 3 4130 0 ?_
 obtain ⟨h1,H⟩ | ⟨h1,H⟩ := bC H
 ·exact nA h1<|tK<|gA 2 16 0<|te (fJ [(false,[cI (wI (3 + (wI (Int.tdiv (x0.length : Int) 12))))])] H)
 exact tA h1<|gA 2 16 0<|te (fJ [(false,[cI x1])] H)
def Qv (n : Nat) (x0 : Src) : Option (Int × Src) :=
  (bif (decide ((0 : Int) ≤ 33)) then (bif (decide ((0 : Int) ≤ 47)) then (bif (decide (x0.i < (x0.b.length : Int))) then ((idx x0.b x0.i).bind fun v3 => (some ((IntKind.wrap .i64 (BitVec.ofInt (IntKind.bits .i64) (IntKind.wrap .i64 ((IntKind.wrap .i64 (BitVec.ofInt (IntKind.bits .i64) (IntKind.wrap .i64 (BitVec.ofInt (IntKind.bits .i64) (Int.fdiv (IntKind.wrap .i64 ((IntKind.wrap .i64 (x0.h * 6364136223846793005)) + 1442695040888963407)) (2 ^ min ((33 : Int)).toNat (IntKind.bits .i64))) ^^^ BitVec.ofInt (IntKind.bits .i64) (Int.fdiv (IntKind.wrap .i64 ((IntKind.wrap .i64 (x0.h * 6364136223846793005)) + 1442695040888963407)) (2 ^ min ((47 : Int)).toNat (IntKind.bits .i64)))).toNat) &&& BitVec.ofInt (IntKind.bits .i64) 255).toNat) + (IntKind.wrap .i64 v3))) &&& BitVec.ofInt (IntKind.bits .i64) 255).toNat),(⟨x0.b,(IntKind.wrap .i64 (x0.i + 1)),(IntKind.wrap .i64 ((IntKind.wrap .i64 (x0.h * 6364136223846793005)) + 1442695040888963407))⟩ : Src)))) else (some ((IntKind.wrap .i64 (BitVec.ofInt (IntKind.bits .i64) (IntKind.wrap .i64 (BitVec.ofInt (IntKind.bits .i64) (Int.fdiv (IntKind.wrap .i64 ((IntKind.wrap .i64 (x0.h * 6364136223846793005)) + 1442695040888963407)) (2 ^ min ((33 : Int)).toNat (IntKind.bits .i64))) ^^^ BitVec.ofInt (IntKind.bits .i64) (Int.fdiv (IntKind.wrap .i64 ((IntKind.wrap .i64 (x0.h * 6364136223846793005)) + 1442695040888963407)) (2 ^ min ((47 : Int)).toNat (IntKind.bits .i64)))).toNat) &&& BitVec.ofInt (IntKind.bits .i64) 255).toNat),(⟨x0.b,x0.i,(IntKind.wrap .i64 ((IntKind.wrap .i64 (x0.h * 6364136223846793005)) + 1442695040888963407))⟩ : Src)))) else none) else none)
def zMQ : Tab := ⟨13,[0,1,2,4,8,0,32,64,128,256,528,1024,4095],[0,1,2,4,8,0,32,64,128,256,528,1024,2048],[0,1,3,7,15,0,32,96,224,480,1023,2047,4095]⟩
noncomputable abbrev zJ7 (k : Nat) := Rg Try.f102 k
noncomputable abbrev zLG (k : Nat) := Rd Try.f102 k
theorem zBr : zk (rg Try.f102 2) zMQ = true := kr
def zMR : Tab := ⟨15,[0,0,2,4,8,0,32,64,128,272,512,1024,2049,4096,16383],[0,0,2,4,8,0,32,64,128,272,512,1024,2049,4096,8193],[0,0,2,6,14,0,32,96,224,510,1022,2046,4095,8191,16383]⟩
theorem zGi : zk (rg Try.f102 4) zMR = true := kr
theorem zBo (n : Nat) (x0 : Src) (r : Int × Src) (H : Qv n x0 = some r) : zG Try.prog 102 [.ptr (fR (Src.row x0))] [.val false [.lit (.int .i64 r.1)]] [(0,(fR (Src.row r.2)))] := by
 refine zG.of_body tOk Try.func102 rfl (c := (.seq (zJ7 0) (.seq (zJ7 1) (.seq (zLG 2) (.seq (.seq (zLG 3) (.cond (.tmp 34) (.seq (zLG 4) (zJ7 5)) .skip)) (.seq (zJ7 6) .ret)))))) kr (Nat.le_of_ble_eq_true kr) 1 (rs := [.tmp 2]) rfl [] .nil [(false,[.lit (.int .i64 r.1)])] [] [(0,(fR (Src.row r.2)))] fun cx=>?_
 show Tr _ _ _ ⟨58,1,[sA 0 0 3 0],[(0,(fR (Src.row x0)))]⟩ _
 unfold Qv at H
 refine gA 1 1 1<|gA 10 1 1<|gE H fun hg1 H=> gE H fun hg2 H=> Tr.draws mixed 13 kr ⟨58,1,[sI 3 (wI (bO (wI (bO (Int.fdiv (wI ((wI (x0.h * 0x5851f42d4c957f2d)) + 0x14057b7ef767814f)) (2 ^ min ((33 : Int)).toNat (IntKind.bits .i64))) ^^^ bO (Int.fdiv (wI ((wI (x0.h * 0x5851f42d4c957f2d)) + 0x14057b7ef767814f)) (2 ^ min ((47 : Int)).toNat (IntKind.bits .i64)))).toNat) &&& bO 255).toNat),sA 0 0 3 0],[(0,[cF 1 x0.b zx,cI x0.i,cI (wI ((wI (x0.h * 0x5851f42d4c957f2d)) + 0x14057b7ef767814f))])]⟩ (fun cx=>?_) ?_
 ·refine mA zBr (zl [0,1,2]++[(3,[4])]++zl [5,6,7]++[(8,[9])]) 5 [⟨[9],3,20,21⟩,⟨[4],3,15,16⟩] fun cx=>mB2 tOk zBr 4 9 kr (And.intro kr ?_) (And.intro kr ?_)
  ·exact LAt.binC tOk (op := .shr) (t := 3) (ty := 103) (ty' := 3) (x := (.tmp 16)) (y := (.const (.int .u64 33))) (d := 17) (g := none) (.int .i64 (wI ((wI (x0.h * 0x5851f42d4c957f2d)) + 0x14057b7ef767814f))) (.int .u64 33) (.int .i64 (Int.fdiv (wI ((wI (x0.h * 0x5851f42d4c957f2d)) + 0x14057b7ef767814f)) (2 ^ min ((33 : Int)).toNat (IntKind.bits .i64)))) _ kr kr kr kr kr (φ := (0 : Int) ≤ 33) kr (of_decide_eq_true hg1) rfl<|fA<|mC zBr 9<|LAt.binC tOk (op := .shr) (t := 3) (ty := 103) (ty' := 3) (x := (.tmp 21)) (y := (.const (.int .u64 47))) (d := 22) (g := none) (.int .i64 (wI ((wI (x0.h * 0x5851f42d4c957f2d)) + 0x14057b7ef767814f))) (.int .u64 47) (.int .i64 (Int.fdiv (wI ((wI (x0.h * 0x5851f42d4c957f2d)) + 0x14057b7ef767814f)) (2 ^ min ((47 : Int)).toNat (IntKind.bits .i64)))) _ kr kr kr kr kr (φ := (0 : Int) ≤ 47) kr (of_decide_eq_true hg2) rfl<|fA<|mA zBr (zl [10,11,12]) 0 [⟨[9],3,20,21⟩,⟨[4],3,15,16⟩] fun cx=>mE zBr [3,0] [0]
  ·exact LAt.binC tOk (op := .shr) (t := 3) (ty := 103) (ty' := 3) (x := (.tmp 21)) (y := (.const (.int .u64 47))) (d := 22) (g := none) (.int .i64 (wI ((wI (x0.h * 0x5851f42d4c957f2d)) + 0x14057b7ef767814f))) (.int .u64 47) (.int .i64 (Int.fdiv (wI ((wI (x0.h * 0x5851f42d4c957f2d)) + 0x14057b7ef767814f)) (2 ^ min ((47 : Int)).toNat (IntKind.bits .i64)))) _ kr kr kr kr kr (φ := (0 : Int) ≤ 47) kr (of_decide_eq_true hg2) rfl<|fA<|mC zBr 4<|LAt.binC tOk (op := .shr) (t := 3) (ty := 103) (ty' := 3) (x := (.tmp 16)) (y := (.const (.int .u64 33))) (d := 17) (g := none) (.int .i64 (wI ((wI (x0.h * 0x5851f42d4c957f2d)) + 0x14057b7ef767814f))) (.int .u64 33) (.int .i64 (Int.fdiv (wI ((wI (x0.h * 0x5851f42d4c957f2d)) + 0x14057b7ef767814f)) (2 ^ min ((33 : Int)).toNat (IntKind.bits .i64)))) _ kr kr kr kr kr (φ := (0 : Int) ≤ 33) kr (of_decide_eq_true hg1) rfl<|fA<|mA zBr (zl [10,11,12]) 0 [⟨[9],3,20,21⟩,⟨[4],3,15,16⟩] fun cx=>mE zBr [3,0] [0]
 refine tS<|Tr.draws mixed 10 kr ⟨58,1,[sB 34 (decide (x0.i < (x0.b.length : Int))),sI 3 (wI (bO (wI (bO (Int.fdiv (wI ((wI (x0.h * 0x5851f42d4c957f2d)) + 0x14057b7ef767814f)) (2 ^ min ((33 : Int)).toNat (IntKind.bits .i64))) ^^^ bO (Int.fdiv (wI ((wI (x0.h * 0x5851f42d4c957f2d)) + 0x14057b7ef767814f)) (2 ^ min ((47 : Int)).toNat (IntKind.bits .i64)))).toNat) &&& bO 255).toNat),sA 0 0 3 0],[(0,[cF 1 x0.b zx,cI x0.i,cI (wI ((wI (x0.h * 0x5851f42d4c957f2d)) + 0x14057b7ef767814f))])]⟩ (fun cx=>?_) ?_
 ·refine aA (zl [0,1,2,3,4,5,6,7]) 2 [⟨[],33,31,32⟩,⟨[],3,27,28⟩] fun cx=>aL tOk 8 33 3 5 32 33 none ⟨(.box 0),[(0,0)],0,false,1,(CV.frzEs (x0.b.map zx))⟩ (x0.b).length _ kr kr kr kr kr kr kr (zFc _ _) rfl (fun cx=>?_)
  exact aA [(9,[])] 0 [⟨[],33,31,32⟩,⟨[],3,27,28⟩] fun cx=>eE [34,3,0] [0]
 obtain ⟨h1,H⟩ | ⟨h1,H⟩ := bC H
 ·exact qT [34] h1<|nB_<|tK<|gA 2 5 1<|te<|fY [(false,[cI (wI (bO (wI (bO (Int.fdiv (wI ((wI (x0.h * 0x5851f42d4c957f2d)) + 0x14057b7ef767814f)) (2 ^ min ((33 : Int)).toNat (IntKind.bits .i64))) ^^^ bO (Int.fdiv (wI ((wI (x0.h * 0x5851f42d4c957f2d)) + 0x14057b7ef767814f)) (2 ^ min ((47 : Int)).toNat (IntKind.bits .i64)))).toNat) &&& bO 255).toNat)])] [(0,[cF 1 x0.b zx,cI x0.i,cI (wI ((wI (x0.h * 0x5851f42d4c957f2d)) + 0x14057b7ef767814f))])] H
 refine qT [34] h1<|tB_<|bE H fun v3 ev3 H=> Tr.draws mixed 15 kr ⟨58,1,[sI 3 (wI (bO (wI ((wI (bO (wI (bO (Int.fdiv (wI ((wI (x0.h * 0x5851f42d4c957f2d)) + 0x14057b7ef767814f)) (2 ^ min ((33 : Int)).toNat (IntKind.bits .i64))) ^^^ bO (Int.fdiv (wI ((wI (x0.h * 0x5851f42d4c957f2d)) + 0x14057b7ef767814f)) (2 ^ min ((47 : Int)).toNat (IntKind.bits .i64)))).toNat) &&& bO 255).toNat) + (wI v3))) &&& bO 255).toNat),sA 0 0 3 0],[(0,[cF 1 x0.b zx,cI x0.i,cI (wI ((wI (x0.h * 0x5851f42d4c957f2d)) + 0x14057b7ef767814f))])]⟩ (fun cx=>?_) ?_
 ·exact mA zGi (zl [0,1,2,3,4,5,6,7,8]) 6 [⟨[],3,42,43⟩,⟨[],33,38,39⟩] fun cx=>iN zGi 9 zx ev3 fun cx=>mA zGi (zl [10,11,12,13,14]) 0 [⟨[],3,42,43⟩,⟨[],33,38,39⟩] fun cx=>mE zGi [3,0] [0]
 exact eA 9 9 1<|gA 2 5 1<|te<|fY [(false,[cI (wI (bO (wI ((wI (bO (wI (bO (Int.fdiv (wI ((wI (x0.h * 0x5851f42d4c957f2d)) + 0x14057b7ef767814f)) (2 ^ min ((33 : Int)).toNat (IntKind.bits .i64))) ^^^ bO (Int.fdiv (wI ((wI (x0.h * 0x5851f42d4c957f2d)) + 0x14057b7ef767814f)) (2 ^ min ((47 : Int)).toNat (IntKind.bits .i64)))).toNat) &&& bO 255).toNat) + (wI v3))) &&& bO 255).toNat)])] [(0,[cF 1 x0.b zx,cI (wI (x0.i + 1)),cI (wI ((wI (x0.h * 0x5851f42d4c957f2d)) + 0x14057b7ef767814f))])] H
def ze (n : Nat) (x0 : Src) (x1 : Int) : Option (Int × Src) :=
  (bif (decide (x1 ≤ 0)) then (some (0,x0)) else (bif (decide (x1 ≤ 256)) then ((Qv n x0).bind fun r5 => (bif (decide ((x1 : Int) ≠ 0)) then (some ((Int.tmod r5.1 x1),r5.2)) else none)) else ((Qv n x0).bind fun r1 => ((Qv n r1.2).bind fun r2 => ((Qv n r2.2).bind fun r3 => (bif (decide ((x1 : Int) ≠ 0)) then (some ((Int.tmod (IntKind.wrap .i64 ((IntKind.wrap .i64 ((IntKind.wrap .i64 (r1.1 * 65536)) + (IntKind.wrap .i64 (r2.1 * 256)))) + r3.1)) x1),r3.2)) else none))))))
noncomputable abbrev G49 (k : Nat) := Rg Try.f49 k
theorem qh (n : Nat) (x0 : Src) (x1 : Int) (r : Int × Src) (H : ze n x0 x1 = some r) : zG Try.prog 49 [.ptr (fR (Src.row x0)),.val false [.lit (.int .i64 x1)]] [.val false [.lit (.int .i64 r.1)]] [(0,(fR (Src.row r.2)))] := by
 refine zG.of_body tOk Try.func49 rfl (c := (.seq (G49 0) (.seq (.seq (G49 1) (.cond (.tmp 9) (.seq (G49 2) .ret) .skip)) (.seq (.seq (G49 3) (.cond (.tmp 11) (.seq (G49 4) .ret) .skip)) (.seq (G49 5) (.seq (G49 6) (.seq (G49 7) (.seq (G49 8) .ret)))))))) kr (Nat.le_of_ble_eq_true kr) 1 (rs := [.tmp 4]) rfl [] .nil [(false,[.lit (.int .i64 r.1)])] [] [(0,(fR (Src.row r.2)))] fun cx=>?_
 show Tr _ _ _ ⟨31,1,[sA 0 0 3 0,sI 1 x1],[(0,(fR (Src.row x0)))]⟩ _
 unfold ze at H
 refine gA 1 3 1<|tS<|gA 2 515 1 ?_
 obtain ⟨h1,H⟩ | ⟨h1,H⟩ := bC H
 ·refine nA h1<|tK<|tS<|gA 2 2051 1 ?_
  obtain ⟨h2,H⟩ | ⟨h2,H⟩ := bC H
  ·exact nA h2<|tK<|rA 1<|bE H fun r1 er1 H=> vL [.lend] (zBo n x0 r1 er1)<|uA 1 35 1<|rA 1<|bE H fun r2 er2 H=> vL [.lend] (zBo n r1.2 r2 er2)<|uA 1 99 1<|rA 1<|bE H fun r3 er3 H=> vL [.lend] (zBo n r2.2 r3 er3)<|uA 1 227 1<|rA 8<|gE H fun hg4 H=> LAt.binC tOk (op := .rem) (t := 3) (ty := 3) (ty' := 3) (x := (.tmp 28)) (y := (.tmp 29)) (d := 30) (g := none) (.int .i64 (wI ((wI ((wI (r1.1 * 65536)) + (wI (r2.1 * 256)))) + r3.1))) (.int .i64 x1) (.int .i64 (Int.tmod (wI ((wI ((wI (r1.1 * 65536)) + (wI (r2.1 * 256)))) + r3.1)) x1)) _ kr kr kr kr kr (φ := (IntKind.i64 = IntKind.i64 ∧ (x1 : Int) ≠ 0)) kr (⟨rfl,of_decide_eq_true hg4⟩) rfl<|uA 1 17 1<|te<|fY [(false,[cI (Int.tmod (wI ((wI ((wI (r1.1 * 65536)) + (wI (r2.1 * 256)))) + r3.1)) x1)])] [(0,(fR (Src.row r3.2)))] H
  exact tA h2<|rA 1<|bE H fun r5 er5 H=> vL [.lend] (zBo n x0 r5 er5)<|lA 1<|gE H fun hg6 H=> LAt.binC tOk (op := .rem) (t := 3) (ty := 3) (ty' := 3) (x := (.tmp 13)) (y := (.tmp 14)) (d := 15) (g := none) (.int .i64 r5.1) (.int .i64 x1) (.int .i64 (Int.tmod r5.1 x1)) _ kr kr kr kr kr (φ := (IntKind.i64 = IntKind.i64 ∧ (x1 : Int) ≠ 0)) kr (⟨rfl,of_decide_eq_true hg6⟩) rfl<|uA 1 17 1<|te<|fY [(false,[cI (Int.tmod r5.1 x1)])] [(0,(fR (Src.row r5.2)))] H
 exact tA h1<|gA 1 17 1<|te<|fY [(false,[cI 0])] [(0,(fR (Src.row x0)))] H
def zAI (n : Nat) (r1 : Int × Src) (y4 : (List Int)) : Option ((List Int) × Src) :=
  (some (y4,r1.2))
def QO (n : Nat) : Nat → Int × Src → Int → Int → (List Int) → Option (((List Int)) ⊕ ((List Int) × Src))
  | 0,_,_,_,_ => none
  | mo5 + 1,r1,x1,y2,y3 => (bif (decide (y2 < x1)) then (bif (decide ((7 : Int) ≠ 0)) then (bif (decide (y3.length + [(IntKind.wrap .i64 (1 + (Int.tmod (IntKind.wrap .i64 (r1.1 + (IntKind.wrap .i64 (y2 * 3)))) 7)))].length ≤ 268435456)) then (QO n mo5 r1 x1 (IntKind.wrap .i64 (y2 + 1)) (y3 ++ [(IntKind.wrap .i64 (1 + (Int.tmod (IntKind.wrap .i64 (r1.1 + (IntKind.wrap .i64 (y2 * 3)))) 7)))])) else none) else none) else (some (Sum.inl y3)))
def J5 (n : Nat) (x0 : Src) (x1 : Int) : Option ((List Int) × Src) :=
  ((ze n x0 7).bind fun r1 => ((QO n n r1 x1 0 ([] : List Int)).bind fun o => match o with | .inl y4 => (zAI n r1 y4) | .inr r => some r))
noncomputable abbrev zEz (k : Nat) := Rg Try.f123 k
theorem zJj (n : Nat) (x0 : Src) (x1 : Int) (r : (List Int) × Src) (H : J5 n x0 x1 = some r) : zG Try.prog 123 [.ptr (fR (Src.row x0)),.val false [.lit (.int .i64 x1)]] [.val false [.sl true 1 (r.1.map intRow)]] [(0,(fR (Src.row r.2)))] := by
 refine zG.of_body tOk Try.func123 rfl (c := (.seq (zEz 0) (.seq (zEz 1) (.seq (zEz 2) (.seq (.seq (zEz 3) (.block 0 (.loop (.seq (.seq (zEz 4) (.cond (.tmp 13) .skip (.exit 0))) (.seq (.block 1 (zEz 6)) (zEz 5)))))) (.seq (zEz 7) .ret)))))) kr (Nat.le_of_ble_eq_true kr) 1 (rs := [.tmp 4]) rfl [] .nil [(false,[.sl true 1 (r.1.map intRow)])] [] [(0,(fR (Src.row r.2)))] fun cx=>?_
 show Tr _ _ _ ⟨26,1,[sA 0 0 3 0,sI 1 x1],[(0,(fR (Src.row x0)))]⟩ _
 unfold J5 at H
 refine gA 1 3 1<|rA 1<|LAt.moveU (T := lk tab) (ty := 38) (x := (.tmp 8)) (d := 5) (g := none) false [cL 1 ([] : List Int) intRow] kr kr kr kr kr<|dA 35 1<|rA 1<|bE H fun r1 er1 H=> vL [.lend,.rd] (qh n x0 7 r1 er1)<|uA 1 99 1<|tS<|gA 1 227 1 ?_
 obtain ⟨o5,eo5,Ho5⟩ := bs H
 clear H
 refine Tr.mid (ι := (List Int)) (fun v => ⟨26,1,[sC 5 (cL 1 v intRow),sA 0 0 3 0],[(0,(fR (Src.row r1.2)))]⟩) (fun v => zAI n r1 v = some r) ?_ ?_
 ·refine tB<|Tr.loop (ι := Nat × (Int × (List Int))) (fun v => ⟨26,1,[sI 7 v.2.1,sI 6 r1.1,sC 5 (cL 1 v.2.2 intRow),sA 0 0 3 0,sI 1 x1],[(0,(fR (Src.row r1.2)))]⟩) (fun v => QO n v.1 r1 x1 v.2.1 v.2.2 = some o5) (fun v => v.1) (n,(0,([] : List Int))) eo5 (St.sub_of [7,6,5,0,1] [0] kr) ?_
  rintro ⟨_ | mo5,y2,y3⟩ H
  ·exact nN H
  have H : QO n (mo5+1) r1 x1 y2 y3 = some o5 := H
  rw [QO] at H
  refine tS<|gA 3 8419 1 ?_
  obtain ⟨h1,H⟩ | ⟨h1,H⟩ := bC H
  ·refine nA h1<|Tr.exit<|aJ ?_
   cases H
   exact jA y3 Ho5 [5,0] [0]
  exact tA h1<|tK<|tS<|tB<|Tr.at<|lA 5<|gE H fun hg6 H=> LAt.binC tOk (op := .rem) (t := 3) (ty := 3) (ty' := 3) (x := (.tmp 20)) (y := (.const (.int .i64 7))) (d := 21) (g := none) (.int .i64 (wI (r1.1 + (wI (y2 * 3))))) (.int .i64 7) (.int .i64 (Int.tmod (wI (r1.1 + (wI (y2 * 3)))) 7)) _ kr kr kr kr kr (φ := (IntKind.i64 = IntKind.i64 ∧ (7 : Int) ≠ 0)) kr (⟨rfl,of_decide_eq_true hg6⟩) rfl<|lA 2<|gE H fun hg7 H=> LAt.appMU tOk (t := 38) (ty := 38) (e := 3) (x := (.tmp 16)) (y := (.tmp 23)) (d := 24) (g := none) (tI 3) intRow y3 [(wI (1 + (Int.tmod (wI (r1.1 + (wI (y2 * 3)))) 7)))] kr kr kr kr kr kr kr kr kr kr hg7<|LAt.moveU (T := lk tab) (ty := 38) (x := (.tmp 24)) (d := 5) (g := none) false [cL 1 (y3 ++ [(wI (1 + (Int.tmod (wI (r1.1 + (wI (y2 * 3)))) 7)))]) intRow] kr kr kr kr kr<|dA 227 1<|eA 3 227 1<|jB mo5 ((wI (y2 + 1)),(y3 ++ [(wI (1 + (Int.tmod (wI (r1.1 + (wI (y2 * 3)))) 7)))])) H [7,6,5,0,1] [0]
 rintro y4 H
 have H : (zAI n r1 y4) = some r := H
 unfold zAI at H
 exact gA 2 49 1<|te<|fY [(false,[cL 1 y4 intRow])] [(0,(fR (Src.row r1.2)))] H
def JM (n : Nat) (x0 : Src) (x1 : Int) : Option (Bool × Src) :=
  ((ze n x0 x1).bind fun r1 => (some ((r1.1 == 0),r1.2)))
noncomputable abbrev zMN (k : Nat) := Rg Try.f100 k
theorem zGD (n : Nat) (x0 : Src) (x1 : Int) (r : Bool × Src) (H : JM n x0 x1 = some r) : zG Try.prog 100 [.ptr (fR (Src.row x0)),.val false [.lit (.int .i64 x1)]] [.val false [.lit (.bool r.1)]] [(0,(fR (Src.row r.2)))] := by
 refine zG.of_body tOk Try.func100 rfl (c := (.seq (zMN 0) (.seq (zMN 1) .ret))) kr (Nat.le_of_ble_eq_true kr) 1 (rs := [.tmp 4]) rfl [] .nil [(false,[.lit (.bool r.1)])] [] [(0,(fR (Src.row r.2)))] fun cx=>?_
 show Tr _ _ _ ⟨9,1,[sA 0 0 3 0,sI 1 x1],[(0,(fR (Src.row x0)))]⟩ _
 unfold JM at H
 exact gA 1 3 1<|rA 2<|bE H fun r1 er1 H=> vL [.lend,.rd] (qh n x0 x1 r1 er1)<|uA 2 17 1<|te<|fY [(false,[cB (r1.1 == 0)])] [(0,(fR (Src.row r1.2)))] H
def Jp (n : Nat) (y3 : Int) : Option (Int) :=
  (some y3)
def QY (n : Nat) (k : (Int × Int → Option ((Int) ⊕ (Int)))) (v5 : Link) (x1 : Int) (x2 : Int) (y1 : Int) (y6 : Int) : Option ((Int) ⊕ (Int)) :=
  (bif (v5.B == x1) then (bif (v5.Q == x2) then (k ((IntKind.wrap .i64 (y1 + 1)),(IntKind.wrap .i64 (y6 + 1)))) else (k ((IntKind.wrap .i64 (y1 + 1)),y6))) else (k ((IntKind.wrap .i64 (y1 + 1)),y6)))
def qn (n : Nat) : Nat → Net → Int → Int → Int → Int → Option ((Int) ⊕ (Int))
  | 0,_,_,_,_,_ => none
  | mo4 + 1,x0,x1,x2,y1,y2 => (bif (decide (y1 < (x0.Ls.length : Int))) then ((idx x0.Ls y1).bind fun v5 => (bif (v5.A == x1) then (bif (v5.P == x2) then (QY n (fun v => qn n mo4 x0 x1 x2 v.1 v.2) v5 x1 x2 y1 (IntKind.wrap .i64 (y2 + 1))) else (QY n (fun v => qn n mo4 x0 x1 x2 v.1 v.2) v5 x1 x2 y1 y2)) else (QY n (fun v => qn n mo4 x0 x1 x2 v.1 v.2) v5 x1 x2 y1 y2))) else (some (Sum.inl y2)))
def Zh (n : Nat) (x0 : Net) (x1 : Int) (x2 : Int) : Option (Int) :=
  ((qn n n x0 x1 x2 0 0).bind fun o => match o with | .inl y3 => (Jp n y3) | .inr r => some r)
theorem JJ (n : Nat) (x0 : Net) (x1 : Int) (x2 : Int) (r : Int) (H : Zh n x0 x1 x2 = some r) : zG Try.prog 167 [.val true (fR (Net.row x0)),.val false [.lit (.int .i64 x1)],.val false [.lit (.int .i64 x2)]] [.val false [.lit (.int .i64 r)]] [] := by
 refine cW Try.func167 (fun g d => sl [g 0,g 1,sl [g 2] (.block 0 (.loop (sl [sl [g 3] (cn 14 .skip (.exit 0)),.block 1 (sl [g 5,sl [g 6] (cn 31 (g 7) .skip),g 8] (cn 43 (g 9) .skip))] (g 4)))),g 10] .ret) [.tmp 6] fun cx=>?_
 unfold Zh at H
 refine gA 2 14 8<|gA 1 142 8<|tS<|gA 1 398 8 ?_
 obtain ⟨o4,eo4,Ho4⟩ := bs H
 clear H
 refine Tr.mid (ι := Int) (fun v => ⟨47,0,[sI 7 v],[]⟩) (fun v => Jp n v = some r) ?_ ?_
 ·refine tB<|Tr.loop (ι := Nat × (Int × Int)) (fun v => ⟨47,0,[sI 8 v.2.1,sI 7 v.2.2,sA 3 3 3 0,sI 1 x1,sI 2 x2],[(3,(fR (Net.row x0)))]⟩) (fun v => qn n v.1 x0 x1 x2 v.2.1 v.2.2 = some o4) (fun v => v.1) (n,(0,0)) eo4 (St.sub_of [8,7,3,1,2] [3] kr) ?_
  rintro ⟨_ | mo4,y1,y2⟩ H
  ·exact nN H
  have H : qn n (mo4+1) x0 x1 x2 y1 y2 = some o4 := H
  rw [qn] at H
  refine tS<|rA 3<|kF x0.Ls Link.row<|uA 1 16782 8 ?_
  obtain ⟨h1,H⟩ | ⟨h1,H⟩ := bC H
  ·refine nA h1<|Tr.exit<|aJ ?_
   cases H
   exact jA y2 Ho4 [7] []
  refine tA h1<|tK<|tS<|tB<|rA 3<|bE H fun v5 ev5 H=> iA Link.row ev5<|uA 3 910 520<|tS<|Tr.mid (ι := Int) (fun v => ⟨47,0,[sA 9 9 4 0,sI 8 y1,sI 7 v,sA 3 3 3 0,sI 1 x1,sI 2 x2],[(9,(Link.row v5)),(3,(fR (Net.row x0)))]⟩) (fun v => QY n (fun v => qn n mo4 x0 x1 x2 v.1 v.2) v5 x1 x2 y1 v = some o4) ?_ ?_
  ·refine rA 5 ?_
   obtain ⟨h4,H⟩ | ⟨h4,H⟩ := bC H
   ·exact qL 67109774 520 [26] h4<|uA 5 2147484558 520<|nB_<|tK<|jA y2 H [9,8,7,3,1,2] [9,3]
   refine qL 67109774 520 [26] h4<|uA 5 2147484558 520 ?_
   obtain ⟨h5,H⟩ | ⟨h5,H⟩ := bC H
   ·exact nA h5<|tK<|jA y2 H [9,8,7,3,1,2] [9,3]
   exact tA h5<|eA 3 910 520<|jA (wI (y2 + 1)) H [9,8,7,3,1,2] [9,3]
  rintro y6 H
  have H : (QY n (fun v => qn n mo4 x0 x1 x2 v.1 v.2) v5 x1 x2 y1 y6) = some o4 := H
  unfold QY at H
  refine rA 5 ?_
  obtain ⟨h2,H⟩ | ⟨h2,H⟩ := bC H
  ·exact qL 274877907854 520 [38] h2<|uA 5 8796093022606 8<|nB_<|tK<|eA 3 398 8<|jB mo4 ((wI (y1 + 1)),y6) H [8,7,3,1,2] [3]
  refine qL 274877907854 520 [38] h2<|uA 5 8796093022606 8 ?_
  obtain ⟨h3,H⟩ | ⟨h3,H⟩ := bC H
  ·exact nA h3<|tK<|eA 3 398 8<|jB mo4 ((wI (y1 + 1)),y6) H [8,7,3,1,2] [3]
  exact tA h3<|eA 3 398 8<|eA 3 398 8<|jB mo4 ((wI (y1 + 1)),(wI (y6 + 1))) H [8,7,3,1,2] [3]
 rintro y3 H
 have H : (Jp n y3) = some r := H
 unfold Jp at H
 exact gA 2 64 0<|te (fJ [(false,[cI y3])] H)
def JX (n : Nat) (y6 : (List Int)) (y7 : Int) (y8 : Int) (y9 : (List Link)) : Option ((List Link) × Src) :=
  (some (y9,(⟨y6,y7,y8⟩ : Src)))
def Zb (n : Nat) (k : (Int × (List Int) × Int × Int × (List Link) → Option (((List Int) × Int × Int × (List Link)) ⊕ ((List Link) × Src)))) (r21 : Int × Src) (y1 : Int) (y15 : Int) (y16 : Int) (y23 : Int) (y25 : Int) (y5 : (List Link)) (y26 : Bool) : Option (((List Int) × Int × Int × (List Link)) ⊕ ((List Link) × Src)) :=
  (bif y26 then (bif (decide (y5.length + [(⟨y16,y23,y15,y25⟩ : Link)].length ≤ 268435456)) then (k ((IntKind.wrap .i64 (y1 + 1)),r21.2.b,r21.2.i,r21.2.h,(y5 ++ [(⟨y16,y23,y15,y25⟩ : Link)]))) else none) else (k ((IntKind.wrap .i64 (y1 + 1)),r21.2.b,r21.2.i,r21.2.h,y5)))
def YV (n : Nat) (k : (Int × (List Int) × Int × Int × (List Link) → Option (((List Int) × Int × Int × (List Link)) ⊕ ((List Link) × Src)))) (r21 : Int × Src) (y1 : Int) (y15 : Int) (y16 : Int) (y23 : Int) (y5 : (List Link)) (y25 : Int) : Option (((List Int) × Int × Int × (List Link)) ⊕ ((List Link) × Src)) :=
  (bif (y16 != y15) then ((Zh n (⟨([] : List zA),y5,([] : List Say)⟩ : Net) y16 y23).bind fun r28 => (bif (r28 == 0) then ((Zh n (⟨([] : List zA),y5,([] : List Say)⟩ : Net) y15 y25).bind fun r29 => (bif (r29 == 0) then (Zb n k r21 y1 y15 y16 y23 y25 y5 (decide ((y5.length : Int) < 9))) else (Zb n k r21 y1 y15 y16 y23 y25 y5 false))) else (Zb n k r21 y1 y15 y16 y23 y25 y5 false))) else (Zb n k r21 y1 y15 y16 y23 y25 y5 false))
def QJ (n : Nat) : Nat → Int → Int → (List Link) → Int → Option ((Int) ⊕ ((List Link) × Src))
  | 0,_,_,_,_ => none
  | mo30 + 1,x2,y15,y5,y24 => ((Zh n (⟨([] : List zA),y5,([] : List Say)⟩ : Net) y15 y24).bind fun r31 => (bif (decide (r31 > 0)) then (bif (decide ((IntKind.wrap .i64 (y24 + 1)) < x2)) then (QJ n mo30 x2 y15 y5 (IntKind.wrap .i64 (y24 + 1))) else (some (Sum.inl y24))) else (some (Sum.inl y24))))
def YU (n : Nat) (k : (Int × (List Int) × Int × Int × (List Link) → Option (((List Int) × Int × Int × (List Link)) ⊕ ((List Link) × Src)))) (r21 : Int × Src) (x2 : Int) (y1 : Int) (y15 : Int) (y16 : Int) (y5 : (List Link)) (y23 : Int) : Option (((List Int) × Int × Int × (List Link)) ⊕ ((List Link) × Src)) :=
  ((QJ n n x2 y15 y5 r21.1).bind fun o => match o with | .inl y25 => (YV n k r21 y1 y15 y16 y23 y5 y25) | .inr r => some (Sum.inr r))
def QK (n : Nat) : Nat → Int → Int → (List Link) → Int → Option ((Int) ⊕ ((List Link) × Src))
  | 0,_,_,_,_ => none
  | mo32 + 1,x2,y16,y5,y22 => ((Zh n (⟨([] : List zA),y5,([] : List Say)⟩ : Net) y16 y22).bind fun r33 => (bif (decide (r33 > 0)) then (bif (decide ((IntKind.wrap .i64 (y22 + 1)) < x2)) then (QK n mo32 x2 y16 y5 (IntKind.wrap .i64 (y22 + 1))) else (some (Sum.inl y22))) else (some (Sum.inl y22))))
def ZG (n : Nat) (k : (Int × (List Int) × Int × Int × (List Link) → Option (((List Int) × Int × Int × (List Link)) ⊕ ((List Link) × Src)))) (x2 : Int) (y1 : Int) (y5 : (List Link)) (y15 : Int) (y16 : Int) (y17 : (List Int)) (y18 : Int) (y19 : Int) : Option (((List Int) × Int × Int × (List Link)) ⊕ ((List Link) × Src)) :=
  ((ze n (⟨y17,y18,y19⟩ : Src) x2).bind fun r20 => ((ze n r20.2 x2).bind fun r21 => ((QK n n x2 y16 y5 r20.1).bind fun o => match o with | .inl y23 => (YU n k r21 x2 y1 y15 y16 y5 y23) | .inr r => some (Sum.inr r))))
def zY (n : Nat) : Nat → Int → Int → Int → (List Int) → Int → Int → (List Link) → Option (((List Int) × Int × Int × (List Link)) ⊕ ((List Link) × Src))
  | 0,_,_,_,_,_,_,_ => none
  | mo10 + 1,x1,x2,y1,y2,y3,y4,y5 => ((ze n (⟨y2,y3,y4⟩ : Src) 4).bind fun r11 => (bif (decide (y1 < (IntKind.wrap .i64 (x1 + r11.1)))) then ((ze n r11.2 x1).bind fun r12 => ((ze n r12.2 2).bind fun r13 => (bif (decide ((x1 : Int) ≠ 0)) then (bif (decide (y1 < (IntKind.wrap .i64 (x1 - 1)))) then ((JM n r13.2 5).bind fun r34 => (bif (!r34.1) then (ZG n (fun v => zY n mo10 x1 x2 v.1 v.2.1 v.2.2.1 v.2.2.2.1 v.2.2.2.2) x2 y1 y5 (IntKind.wrap .i64 (y1 + 1)) y1 r34.2.b r34.2.i r34.2.h) else (ZG n (fun v => zY n mo10 x1 x2 v.1 v.2.1 v.2.2.1 v.2.2.2.1 v.2.2.2.2) x2 y1 y5 (Int.tmod (IntKind.wrap .i64 ((IntKind.wrap .i64 (r12.1 + 1)) + r13.1)) x1) r12.1 r34.2.b r34.2.i r34.2.h))) else (ZG n (fun v => zY n mo10 x1 x2 v.1 v.2.1 v.2.2.1 v.2.2.2.1 v.2.2.2.2) x2 y1 y5 (Int.tmod (IntKind.wrap .i64 ((IntKind.wrap .i64 (r12.1 + 1)) + r13.1)) x1) r12.1 r13.2.b r13.2.i r13.2.h)) else none))) else (some (Sum.inl (r11.2.b,r11.2.i,r11.2.h,y5)))))
def JI (n : Nat) (x0 : Src) (x1 : Int) (x2 : Int) : Option ((List Link) × Src) :=
  ((zY n n x1 x2 0 x0.b x0.i x0.h ([] : List Link)).bind fun o => match o with | .inl (y6,y7,y8,y9) => (JX n y6 y7 y8 y9) | .inr r => some r)
noncomputable abbrev JP (k : Nat) := Rg Try.f124 k
theorem zIa (n : Nat) (x0 : Src) (x1 : Int) (x2 : Int) (r : (List Link) × Src) (H : JI n x0 x1 x2 = some r) : zG Try.prog 124 [.ptr (fR (Src.row x0)),.val false [.lit (.int .i64 x1)],.val false [.lit (.int .i64 x2)]] [.val false [.sl true 4 (r.1.map Link.row)]] [(0,(fR (Src.row r.2)))] := by
 refine zG.of_body tOk Try.func124 rfl (c := (.seq (JP 0) (.seq (JP 1) (.seq (.seq (JP 2) (.block 0 (.loop (.seq (.seq (JP 3) (.cond (.tmp 19) .skip (.exit 0))) (.seq (.block 1 (.seq (JP 5) (.seq (JP 6) (.seq (.seq (JP 7) (.cond (.tmp 40) (.seq (JP 8) (JP 9)) .skip)) (.seq (JP 10) (.seq (JP 11) (.seq (.block 2 (.loop (.seq (.seq (JP 12) (.cond (.tmp 60) .skip (.exit 2))) (.block 3 (JP 13))))) (.seq (.block 4 (.loop (.seq (.seq (JP 14) (.cond (.tmp 73) .skip (.exit 4))) (.block 5 (JP 15))))) (.seq (JP 16) (.cond (.tmp 98) (JP 17) .skip)))))))))) (JP 4)))))) (.seq (JP 18) .ret))))) kr (Nat.le_of_ble_eq_true kr) 1 (rs := [.tmp 6]) rfl [] .nil [(false,[.sl true 4 (r.1.map Link.row)])] [] [(0,(fR (Src.row r.2)))] fun cx=>?_
 show Tr _ _ _ ⟨111,1,[sA 0 0 3 0,sI 1 x1,sI 2 x2],[(0,(fR (Src.row x0)))]⟩ _
 unfold JI at H
 refine gA 1 7 1<|gA 3 135 129<|tS<|gA 1 391 129 ?_
 obtain ⟨o10,eo10,Ho10⟩ := bs H
 clear H
 refine Tr.mid (ι := (List Int) × Int × Int × (List Link)) (fun v => ⟨111,1,[sA 7 7 3 0,sA 0 0 3 0],[(0,[cF 1 v.1 zx,cI v.2.1,cI v.2.2.1]),(7,[cL 11 ([] : List zA) zA.row,cL 4 v.2.2.2 Link.row,cL 7 ([] : List Say) Say.row])]⟩) (fun v => JX n v.1 v.2.1 v.2.2.1 v.2.2.2 = some r) ?_ ?_
 ·refine tB<|Tr.loop (ι := Nat × (Int × (List Int) × Int × Int × (List Link))) (fun v => ⟨111,1,[sI 8 v.2.1,sA 7 7 3 0,sA 0 0 3 0,sI 1 x1,sI 2 x2],[(7,[cL 11 ([] : List zA) zA.row,cL 4 v.2.2.2.2.2 Link.row,cL 7 ([] : List Say) Say.row]),(0,[cF 1 v.2.2.1 zx,cI v.2.2.2.1,cI v.2.2.2.2.1])]⟩) (fun v => zY n v.1 x1 x2 v.2.1 v.2.2.1 v.2.2.2.1 v.2.2.2.2.1 v.2.2.2.2.2 = some o10) (fun v => v.1) (n,(0,x0.b,x0.i,x0.h,([] : List Link))) eo10 (St.sub_of [8,7,0,1,2] [7,0] kr) ?_
  rintro ⟨_ | mo10,y1,y2,y3,y4,y5⟩ H
  ·exact nN H
  have H : zY n (mo10+1) x1 x2 y1 y2 y3 y4 y5 = some o10 := H
  rw [zY] at H
  refine tS<|rA 3<|bE H fun r11 er11 H=> vL [.lend,.rd] (qh n (⟨y2,y3,y4⟩ : Src) 4 r11 er11)<|uA 2 524679 129 ?_
  obtain ⟨h1,H⟩ | ⟨h1,H⟩ := bC H
  ·refine nA h1<|Tr.exit<|aJ ?_
   cases H
   exact jA (r11.2.b,r11.2.i,r11.2.h,y5) Ho10 [7,0] [0,7]
  refine tA h1<|tK<|tS<|tB<|rA 2<|bE H fun r12 er12 H=> vL [.lend,.rd] (qh n r11.2 x1 r12 er12)<|uA 1 903 129<|rA 3<|bE H fun r13 er13 H=> vL [.lend,.rd] (qh n r12.2 2 r13 er13)<|lA 2<|gE H fun hg14 H=> LAt.binC tOk (op := .rem) (t := 3) (ty := 3) (ty' := 3) (x := (.tmp 29)) (y := (.tmp 30)) (d := 31) (g := none) (.int .i64 (wI ((wI (r12.1 + 1)) + r13.1))) (.int .i64 x1) (.int .i64 (Int.tmod (wI ((wI (r12.1 + 1)) + r13.1)) x1)) _ kr kr kr kr kr (φ := (IntKind.i64 = IntKind.i64 ∧ (x1 : Int) ≠ 0)) kr (⟨rfl,of_decide_eq_true hg14⟩) rfl<|uA 1 1927 129<|tS<|Tr.mid (ι := Int × Int × (List Int) × Int × Int) (fun v => ⟨111,1,[sI 10 v.1,sI 9 v.2.1,sI 8 y1,sA 7 7 3 0,sA 0 0 3 0,sI 1 x1,sI 2 x2],[(0,[cF 1 v.2.2.1 zx,cI v.2.2.2.1,cI v.2.2.2.2]),(7,[cL 11 ([] : List zA) zA.row,cL 4 y5 Link.row,cL 7 ([] : List Say) Say.row])]⟩) (fun v => ZG n (fun v => zY n mo10 x1 x2 v.1 v.2.1 v.2.2.1 v.2.2.2.1 v.2.2.2.2) x2 y1 y5 v.1 v.2.1 v.2.2.1 v.2.2.2.1 v.2.2.2.2 = some o10) ?_ ?_
  ·refine rA 5 ?_
   obtain ⟨h10,H⟩ | ⟨h10,H⟩ := bC H
   ·exact qL 68719478663 129 [36] h10<|uA 4 1099511629703 129<|nB_<|tK<|jA ((Int.tmod (wI ((wI (r12.1 + 1)) + r13.1)) x1),r12.1,r13.2.b,r13.2.i,r13.2.h) H [10,9,8,7,0,1,2] [0,7]
   refine qL 68719478663 129 [36] h10<|lA 1<|bE H fun r34 er34 H=> vL [.lend,.rd] (zGD n r13.2 5 r34 er34)<|uA 2 1099511629703 129 ?_
   obtain ⟨h11,H⟩ | ⟨h11,H⟩ := bC H
   ·exact nA h11<|tK<|jA ((Int.tmod (wI ((wI (r12.1 + 1)) + r13.1)) x1),r12.1,r34.2.b,r34.2.i,r34.2.h) H [10,9,8,7,0,1,2] [0,7]
   exact tA h11<|gA 2 903 129<|eA 3 1927 129<|jA ((wI (y1 + 1)),y1,r34.2.b,r34.2.i,r34.2.h) H [10,9,8,7,0,1,2] [0,7]
  rintro ⟨y15,y16,y17,y18,y19⟩ H
  have H : (ZG n (fun v => zY n mo10 x1 x2 v.1 v.2.1 v.2.2.1 v.2.2.2.1 v.2.2.2.2) x2 y1 y5 y15 y16 y17 y18 y19) = some o10 := H
  unfold ZG at H
  refine rA 2<|bE H fun r20 er20 H=> vL [.lend,.rd] (qh n (⟨y17,y18,y19⟩ : Src) x2 r20 er20)<|uA 1 3975 129<|rA 2<|bE H fun r21 er21 H=> vL [.lend,.rd] (qh n r20.2 x2 r21 er21)<|uA 1 8071 129<|tS ?_
  obtain ⟨o32,eo32,Ho32⟩ := bs H
  clear H
  refine Tr.mid (ι := Int) (fun v => ⟨111,1,[sI 12 r21.1,sI 11 v,sI 10 y15,sI 9 y16,sI 8 y1,sA 7 7 3 0,sA 0 0 3 0,sI 1 x1,sI 2 x2],[(0,(fR (Src.row r21.2))),(7,[cL 11 ([] : List zA) zA.row,cL 4 y5 Link.row,cL 7 ([] : List Say) Say.row])]⟩) (fun v => YU n (fun v => zY n mo10 x1 x2 v.1 v.2.1 v.2.2.1 v.2.2.2.1 v.2.2.2.2) r21 x2 y1 y15 y16 y5 v = some o10) ?_ ?_
  ·refine tB<|Tr.loop (ι := Nat × (Int)) (fun v => ⟨111,1,[sI 12 r21.1,sI 11 v.2,sI 10 y15,sI 9 y16,sI 8 y1,sA 7 7 3 0,sA 0 0 3 0,sI 1 x1,sI 2 x2],[(0,(fR (Src.row r21.2))),(7,[cL 11 ([] : List zA) zA.row,cL 4 y5 Link.row,cL 7 ([] : List Say) Say.row])]⟩) (fun v => QK n v.1 x2 y16 y5 v.2 = some o32) (fun v => v.1) (n,r20.1) eo32 (St.sub_of [12,11,10,9,8,7,0,1,2] [0,7] kr) ?_
   rintro ⟨_ | mo32,y22⟩ H
   ·exact nN H
   have H : QK n (mo32+1) x2 y16 y5 y22 = some o32 := H
   rw [QK] at H
   refine tS<|rA 3<|bE H fun r33 er33 H=> vB [.rd,.rd,.rd] [.box 7] (JJ n (⟨([] : List zA),y5,([] : List Say)⟩ : Net) y16 y22 r33 er33) (.inr (qF (zE zI z5) qe))<|lA 2 ?_
   obtain ⟨h8,H⟩ | ⟨h8,H⟩ := bC H
   ·refine qL 0x80000000001f87 129 [55] h8<|uA 5 0x1000000000001f87 129<|nB_<|Tr.exit<|aJ ?_
    cases H
    exact jA y22 Ho32 [12,11,10,9,8,7,0,1,2] [0,7]
   refine qL 0x80000000001f87 129 [55] h8<|uA 5 0x1000000000001f87 129 ?_
   obtain ⟨h9,H⟩ | ⟨h9,H⟩ := bC H
   ·refine nA h9<|Tr.exit<|aJ ?_
    cases H
    exact jA y22 Ho32 [12,11,10,9,8,7,0,1,2] [0,7]
   exact tA h9<|tK<|tB<|eA 3 8071 129<|jB mo32 (wI (y22 + 1)) H [12,11,10,9,8,7,0,1,2] [0,7]
  rintro y23 H
  have H : (YU n (fun v => zY n mo10 x1 x2 v.1 v.2.1 v.2.2.1 v.2.2.2.1 v.2.2.2.2) r21 x2 y1 y15 y16 y5 y23) = some o10 := H
  unfold YU at H
  refine tS ?_
  obtain ⟨o30,eo30,Ho30⟩ := bs H
  clear H
  refine Tr.mid (ι := Int) (fun v => ⟨111,1,[sI 12 v,sI 11 y23,sI 10 y15,sI 9 y16,sI 8 y1,sA 7 7 3 0,sA 0 0 3 0,sI 1 x1,sI 2 x2],[(0,(fR (Src.row r21.2))),(7,[cL 11 ([] : List zA) zA.row,cL 4 y5 Link.row,cL 7 ([] : List Say) Say.row])]⟩) (fun v => YV n (fun v => zY n mo10 x1 x2 v.1 v.2.1 v.2.2.1 v.2.2.2.1 v.2.2.2.2) r21 y1 y15 y16 y23 y5 v = some o10) ?_ ?_
  ·refine tB<|Tr.loop (ι := Nat × (Int)) (fun v => ⟨111,1,[sI 12 v.2,sI 11 y23,sI 10 y15,sI 9 y16,sI 8 y1,sA 7 7 3 0,sA 0 0 3 0,sI 1 x1,sI 2 x2],[(0,(fR (Src.row r21.2))),(7,[cL 11 ([] : List zA) zA.row,cL 4 y5 Link.row,cL 7 ([] : List Say) Say.row])]⟩) (fun v => QJ n v.1 x2 y15 y5 v.2 = some o30) (fun v => v.1) (n,r21.1) eo30 (St.sub_of [12,11,10,9,8,7,0,1,2] [0,7] kr) ?_
   rintro ⟨_ | mo30,y24⟩ H
   ·exact nN H
   have H : QJ n (mo30+1) x2 y15 y5 y24 = some o30 := H
   rw [QJ] at H
   refine tS<|rA 3<|bE H fun r31 er31 H=> vB [.rd,.rd,.rd] [.box 7] (JJ n (⟨([] : List zA),y5,([] : List Say)⟩ : Net) y15 y24 r31 er31) (.inr (qF (zE zI z5) qe))<|lA 2 ?_
   obtain ⟨h6,H⟩ | ⟨h6,H⟩ := bC H
   ·refine qL 0x100000000000001f87 129 [68] h6<|uA 5 0x2000000000000001f87 129<|nB_<|Tr.exit<|aJ ?_
    cases H
    exact jA y24 Ho30 [12,11,10,9,8,7,0,1,2] [0,7]
   refine qL 0x100000000000001f87 129 [68] h6<|uA 5 0x2000000000000001f87 129 ?_
   obtain ⟨h7,H⟩ | ⟨h7,H⟩ := bC H
   ·refine nA h7<|Tr.exit<|aJ ?_
    cases H
    exact jA y24 Ho30 [12,11,10,9,8,7,0,1,2] [0,7]
   exact tA h7<|tK<|tB<|eA 3 8071 129<|jB mo30 (wI (y24 + 1)) H [12,11,10,9,8,7,0,1,2] [0,7]
  rintro y25 H
  have H : (YV n (fun v => zY n mo10 x1 x2 v.1 v.2.1 v.2.2.1 v.2.2.2.1 v.2.2.2.2) r21 y1 y15 y16 y23 y5 y25) = some o10 := H
  unfold YV at H
  refine tS<|Tr.mid (ι := Bool) (fun v => ⟨111,1,[sB 98 v,sI 12 y25,sI 11 y23,sI 10 y15,sI 9 y16,sI 8 y1,sA 7 7 3 0,sA 0 0 3 0,sI 1 x1,sI 2 x2],[(0,(fR (Src.row r21.2))),(7,[cL 11 ([] : List zA) zA.row,cL 4 y5 Link.row,cL 7 ([] : List Say) Say.row])]⟩) (fun v => Zb n (fun v => zY n mo10 x1 x2 v.1 v.2.1 v.2.2.1 v.2.2.2.1 v.2.2.2.2) r21 y1 y15 y16 y23 y25 y5 v = some o10) ?_ ?_
  ·refine Tr.at<|lA 4 ?_
   obtain ⟨h3,H⟩ | ⟨h3,H⟩ := bC H
   ·exact qL 0x80000000000000001f87 129 [79] h3<|uA 19 0x4000000000000000000001f87 129<|jA false H [98,12,11,10,9,8,7,0,1,2] [0,7]
   refine qL 0x80000000000000001f87 129 [79] h3<|lA 3<|bE H fun r28 er28 H=> vB [.rd,.rd,.rd] [.box 7] (JJ n (⟨([] : List zA),y5,([] : List Say)⟩ : Net) y16 y23 r28 er28) (.inr (qF (zE zI z5) qe))<|lA 3 ?_
   obtain ⟨h4,H⟩ | ⟨h4,H⟩ := bC H
   ·exact qL 0x4000000000000000001f87 129 [86] h4<|uA 12 0x4000000000000000000001f87 129<|jA false H [98,12,11,10,9,8,7,0,1,2] [0,7]
   refine qL 0x4000000000000000001f87 129 [86] h4<|lA 3<|bE H fun r29 er29 H=> vB [.rd,.rd,.rd] [.box 7] (JJ n (⟨([] : List zA),y5,([] : List Say)⟩ : Net) y15 y25 r29 er29) (.inr (qF (zE zI z5) qe))<|lA 3 ?_
   obtain ⟨h5,H⟩ | ⟨h5,H⟩ := bC H
   ·exact qL 0x200000000000000000001f87 129 [93] h5<|uA 5 0x4000000000000000000001f87 129<|jA false H [98,12,11,10,9,8,7,0,1,2] [0,7]
   exact qL 0x200000000000000000001f87 129 [93] h5<|lA 2<|kO y5 Link.row<|uA 2 0x4000000000000000000001f87 129<|jA (decide ((y5.length : Int) < 9)) H [98,12,11,10,9,8,7,0,1,2] [0,7]
  rintro y26 H
  have H : (Zb n (fun v => zY n mo10 x1 x2 v.1 v.2.1 v.2.2.1 v.2.2.2.1 v.2.2.2.2) r21 y1 y15 y16 y23 y25 y5 y26) = some o10 := H
  unfold Zb at H
  cases h2 : y26
  ·have H := Z6 h2 H
   exact nB_<|tK<|eA 3 391 129<|jB mo10 ((wI (y1 + 1)),r21.2.b,r21.2.i,r21.2.h,y5) H [8,7,0,1,2] [7,0]
  have H := Z7 h2 H
  exact tB_<|Tr.at<|lA 8<|gE H fun hg27 H=> LAt.appMU tOk (t := 73) (ty := 73) (e := 119) (x := (.tmp 100)) (y := (.tmp 106)) (d := 107) (g := none) (tI 119) Link.row y5 [(⟨y16,y23,y15,y25⟩ : Link)] kr kr kr kr kr kr kr kr kr kr hg27<|uA 2 391 129<|eA 3 391 129<|jB mo10 ((wI (y1 + 1)),r21.2.b,r21.2.i,r21.2.h,(y5 ++ [(⟨y16,y23,y15,y25⟩ : Link)])) H [8,7,0,1,2] [7,0]
 rintro ⟨y6,y7,y8,y9⟩ H
 have H : (JX n y6 y7 y8 y9) = some r := H
 unfold JX at H
 exact gA 3 65 129<|te<|fY [(false,[cL 4 y9 Link.row])] [(0,[cF 1 y6 zx,cI y7,cI y8])] H
def zL (n : Nat) (x0 : Int) (x1 : Int) (x2 : Int) : Option (Bool) :=
  (bif (decide (x0 ≥ x1)) then (some (decide (x0 ≤ x2))) else (some false))
theorem zM (n : Nat) (x0 : Int) (x1 : Int) (x2 : Int) (r : Bool) (H : zL n x0 x1 x2 = some r) : zG Try.prog 41 [.val false [.lit (.int .i64 x0)],.val false [.lit (.int .i64 x1)],.val false [.lit (.int .i64 x2)]] [.val false [.lit (.bool r)]] [] := by
 refine cW Try.func41 (fun g d => sl [g 0,g 1] .ret) [.tmp 6] fun cx=>?_
 unfold zL at H
 refine gA 1 7 0<|rA 4 ?_
 obtain ⟨h1,H⟩ | ⟨h1,H⟩ := bC H
 ·exact qL 1029 0 [10] h1<|uA 5 64 0<|te (fF H)
 exact qL 1029 0 [10] h1<|uA 5 64 0<|te (fJ [(false,[cB (decide (x0 ≤ x2))])] H)
def Jm (n : Nat) (x0 : Int) (y5 : (List Int)) : Option (zR) :=
  (some (⟨[(⟨1,(IntKind.wrap .i64 ((IntKind.wrap .i64 (1 * 2 ^ min (((IntKind.wrap .u64 x0) : Int)).toNat (IntKind.bits .i64))) - 1)),(IntKind.wrap .i64 ((IntKind.wrap .i64 (1 * 2 ^ min (((IntKind.wrap .u64 x0) : Int)).toNat (IntKind.bits .i64))) - 1))⟩ : zT)],y5⟩ : zR))
def Yr (n : Nat) : Nat → Int → Int → (List Int) → Option (((List Int)) ⊕ (zR))
  | 0,_,_,_ => none
  | mo6 + 1,x0,y3,y4 => (bif (decide (y3 < x0)) then (bif (decide (y4.length + [1].length ≤ 268435456)) then (Yr n mo6 x0 (IntKind.wrap .i64 (y3 + 1)) (y4 ++ [1])) else none) else (some (Sum.inl y4)))
def zAk (n : Nat) (x0 : Int) : Option (zR) :=
  ((zL n x0 1 6).bind fun r1 => (bif (!r1) then (some (⟨([] : List zT),([] : List Int)⟩ : zR)) else (bif (decide ((0 : Int) ≤ (IntKind.wrap .u64 x0))) then ((Yr n n x0 0 ([] : List Int)).bind fun o => match o with | .inl y5 => (Jm n x0 y5) | .inr r => some r) else none)))
theorem zJK (n : Nat) (x0 : Int) (r : zR) (H : zAk n x0 = some r) : zG Try.prog 148 [.val false [.lit (.int .i64 x0)]] [.val true (zR.row r)] [] := by
 refine cW Try.func148 (fun g d => sl [g 0,sl [g 1] (cn 8 (sl [g 2] .ret) .skip),g 3,g 4,sl [g 5] (.block 0 (.loop (sl [sl [g 6] (cn 21 .skip (.exit 0)),.block 1 (g 8)] (g 7)))),g 9] .ret) [.cell 2 40] fun cx=>?_
 unfold zAk at H
 refine gA 1 5 4<|tS<|rA 1<|bE H fun r1 er1 H=> vA [.rd,.rd,.rd] (zM n x0 1 6 r1 er1)<|uA 1 261 4 ?_
 obtain ⟨h1,H⟩ | ⟨h1,H⟩ := bC H
 ·refine nA h1<|tK<|rA 2<|gE H fun hg2 H=> LAt.binC tOk (op := .shl) (t := 3) (ty := 103) (ty' := 3) (x := (.const (.int .i64 1))) (y := (.tmp 11)) (d := 12) (g := none) (.int .i64 1) (.int .u64 (IntKind.wrap .u64 x0)) (.int .i64 (wI (1 * 2 ^ min (((IntKind.wrap .u64 x0) : Int)).toNat (IntKind.bits .i64)))) _ kr kr kr kr kr (φ := (0 : Int) ≤ (IntKind.wrap .u64 x0)) kr (of_decide_eq_true hg2) rfl<|uA 2 13 4<|gA 7 21 20<|tS<|gA 1 53 20 ?_
  obtain ⟨o6,eo6,Ho6⟩ := bs H
  clear H
  refine Tr.mid (ι := (List Int)) (fun v => ⟨30,0,[sA 4 4 2 0,sA 2 2 2 0],[(4,[cL 3 [(⟨1,(wI ((wI (1 * 2 ^ min (((IntKind.wrap .u64 x0) : Int)).toNat (IntKind.bits .i64))) - 1)),(wI ((wI (1 * 2 ^ min (((IntKind.wrap .u64 x0) : Int)).toNat (IntKind.bits .i64))) - 1))⟩ : zT)] zT.row,cL 1 v intRow]),(2,[cL 3 ([] : List zT) zT.row,cL 1 ([] : List Int) intRow])]⟩) (fun v => Jm n x0 v = some r) ?_ ?_
  ·refine tB<|Tr.loop (ι := Nat × (Int × (List Int))) (fun v => ⟨30,0,[sI 5 v.2.1,sA 4 4 2 0,sA 2 2 2 0,sI 0 x0],[(4,[cL 3 [(⟨1,(wI ((wI (1 * 2 ^ min (((IntKind.wrap .u64 x0) : Int)).toNat (IntKind.bits .i64))) - 1)),(wI ((wI (1 * 2 ^ min (((IntKind.wrap .u64 x0) : Int)).toNat (IntKind.bits .i64))) - 1))⟩ : zT)] zT.row,cL 1 v.2.2 intRow]),(2,[cL 3 ([] : List zT) zT.row,cL 1 ([] : List Int) intRow])]⟩) (fun v => Yr n v.1 x0 v.2.1 v.2.2 = some o6) (fun v => v.1) (n,(0,([] : List Int))) eo6 (St.sub_of [5,4,2,0] [4,2] kr) ?_
   rintro ⟨_ | mo6,y3,y4⟩ H
   ·exact nN H
   have H : Yr n (mo6+1) x0 y3 y4 = some o6 := H
   rw [Yr] at H
   refine tS<|gA 3 2097205 20 ?_
   obtain ⟨h2,H⟩ | ⟨h2,H⟩ := bC H
   ·refine nA h2<|Tr.exit<|aJ ?_
    cases H
    exact jA y4 Ho6 [4,2] [4,2]
   exact tA h2<|tK<|tS<|tB<|Tr.at<|lA 3<|gE H fun hg7 H=> LAt.appMU tOk (t := 38) (ty := 38) (e := 3) (x := (.tmp 25)) (y := (.tmp 26)) (d := 27) (g := none) (tI 3) intRow y4 [1] kr kr kr kr kr kr kr kr kr kr hg7<|uA 2 53 20<|eA 3 53 20<|jB mo6 ((wI (y3 + 1)),(y4 ++ [1])) H [5,4,2,0] [4,2]
  rintro y5 H
  have H : (Jm n x0 y5) = some r := H
  unfold Jm at H
  exact gA 2 4 4<|te (fJ [(true,[cL 3 [(⟨1,(wI ((wI (1 * 2 ^ min (((IntKind.wrap .u64 x0) : Int)).toNat (IntKind.bits .i64))) - 1)),(wI ((wI (1 * 2 ^ min (((IntKind.wrap .u64 x0) : Int)).toNat (IntKind.bits .i64))) - 1))⟩ : zT)] zT.row,cL 1 y5 intRow])] H)
 exact tA h1<|gA 2 4 4<|te (fJ [(true,[cL 3 ([] : List zT) zT.row,cL 1 ([] : List Int) intRow])] H)
def Y1 (n : Nat) (r3 : zR) (x0 : Int) (y6 : (List Pt)) : Option (zA) :=
  (some (⟨x0,(⟨#[]⟩ : ByteArray),y6,([] : List zC),r3,0,0,0,0,0⟩ : zA))
def QZ (n : Nat) : Nat → Int → Int → (List Pt) → Option (((List Pt)) ⊕ (zA))
  | 0,_,_,_ => none
  | mo7 + 1,x1,y4,y5 => (bif (decide (y4 < x1)) then (bif (decide (y5.length + [(⟨false,1,false,(⟨0,0,0,0,0⟩ : Vec)⟩ : Pt)].length ≤ 268435456)) then (QZ n mo7 x1 (IntKind.wrap .i64 (y4 + 1)) (y5 ++ [(⟨false,1,false,(⟨0,0,0,0,0⟩ : Vec)⟩ : Pt)])) else none) else (some (Sum.inl y5)))
def ZW (n : Nat) (x0 : Int) (x1 : Int) : Option (zA) :=
  ((zL n x0 1 99).bind fun r1 => (bif (!r1) then (some (⟨0,(⟨#[]⟩ : ByteArray),([] : List Pt),([] : List zC),(⟨([] : List zT),([] : List Int)⟩ : zR),0,0,0,0,0⟩ : zA)) else ((zL n x1 1 6).bind fun r2 => (bif (!r2) then (some (⟨0,(⟨#[]⟩ : ByteArray),([] : List Pt),([] : List zC),(⟨([] : List zT),([] : List Int)⟩ : zR),0,0,0,0,0⟩ : zA)) else ((zAk n x1).bind fun r3 => ((QZ n n x1 0 ([] : List Pt)).bind fun o => match o with | .inl y6 => (Y1 n r3 x0 y6) | .inr r => some r))))))
theorem zHp (n : Nat) (x0 : Int) (x1 : Int) (r : zA) (H : ZW n x0 x1 = some r) : zG Try.prog 94 [.val false [.lit (.int .i64 x0)],.val false [.lit (.int .i64 x1)]] [.val true (zA.row r)] [] := by
 refine cW Try.func94 (fun g d => sl [g 0,sl [g 1] (cn 14 (sl [g 2] .ret) .skip),g 3,sl [g 4] (.block 0 (.loop (sl [sl [g 5] (cn 22 .skip (.exit 0)),.block 1 (g 7)] (g 6)))),g 8] .ret) [.cell 4 42] fun cx=>?_
 unfold ZW at H
 refine gA 1 19 16<|tS<|rA 1<|bE H fun r1 er1 H=> vA [.rd,.rd,.rd] (zM n x0 1 99 r1 er1)<|lA 2 ?_
 obtain ⟨h1,H⟩ | ⟨h1,H⟩ := bC H
 ·refine qL 1043 16 [10] h1<|lA 1<|bE H fun r2 er2 H=> vA [.rd,.rd,.rd] (zM n x1 1 6 r2 er2)<|uA 2 16403 16 ?_
  obtain ⟨h2,H⟩ | ⟨h2,H⟩ := bC H
  ·refine nA h2<|tK<|rA 2<|bE H fun r3 er3 H=> vA [.rd] (zJK n x1 r3 er3)<|uA 3 50 48<|tS<|gA 1 114 48 ?_
   obtain ⟨o7,eo7,Ho7⟩ := bs H
   clear H
   refine Tr.mid (ι := (List Pt)) (fun v => ⟨32,0,[sA 5 5 11 0,sA 4 4 11 0],[(5,[cI x0,cS (⟨#[]⟩ : ByteArray),cL 8 v Pt.row,cL 5 ([] : List zC) zC.row,cL 3 r3.Rows zT.row,cL 1 r3.Pv intRow,cI 0,cI 0,cI 0,cI 0,cI 0]),(4,[cI 0,cS (⟨#[]⟩ : ByteArray),cL 8 ([] : List Pt) Pt.row,cL 5 ([] : List zC) zC.row,cL 3 ([] : List zT) zT.row,cL 1 ([] : List Int) intRow,cI 0,cI 0,cI 0,cI 0,cI 0])]⟩) (fun v => Y1 n r3 x0 v = some r) ?_ ?_
   ·refine tB<|Tr.loop (ι := Nat × (Int × (List Pt))) (fun v => ⟨32,0,[sI 6 v.2.1,sA 5 5 11 0,sA 4 4 11 0,sI 1 x1],[(5,[cI x0,cS (⟨#[]⟩ : ByteArray),cL 8 v.2.2 Pt.row,cL 5 ([] : List zC) zC.row,cL 3 r3.Rows zT.row,cL 1 r3.Pv intRow,cI 0,cI 0,cI 0,cI 0,cI 0]),(4,[cI 0,cS (⟨#[]⟩ : ByteArray),cL 8 ([] : List Pt) Pt.row,cL 5 ([] : List zC) zC.row,cL 3 ([] : List zT) zT.row,cL 1 ([] : List Int) intRow,cI 0,cI 0,cI 0,cI 0,cI 0])]⟩) (fun v => QZ n v.1 x1 v.2.1 v.2.2 = some o7) (fun v => v.1) (n,(0,([] : List Pt))) eo7 (St.sub_of [6,5,4,1] [5,4] kr) ?_
    rintro ⟨_ | mo7,y4,y5⟩ H
    ·exact nN H
    have H : QZ n (mo7+1) x1 y4 y5 = some o7 := H
    rw [QZ] at H
    refine tS<|gA 3 4194418 48 ?_
    obtain ⟨h3,H⟩ | ⟨h3,H⟩ := bC H
    ·refine nA h3<|Tr.exit<|aJ ?_
     cases H
     exact jA y5 Ho7 [5,4] [5,4]
    exact tA h3<|tK<|tS<|tB<|Tr.at<|lA 4<|gE H fun hg8 H=> LAt.appMU tOk (t := 35) (ty := 35) (e := 55) (x := (.tmp 26)) (y := (.tmp 28)) (d := 29) (g := none) (tI 55) Pt.row y5 [(⟨false,1,false,(⟨0,0,0,0,0⟩ : Vec)⟩ : Pt)] kr kr kr kr kr kr kr kr kr kr hg8<|uA 2 114 48<|eA 3 114 48<|jB mo7 ((wI (y4 + 1)),(y5 ++ [(⟨false,1,false,(⟨0,0,0,0,0⟩ : Vec)⟩ : Pt)])) H [6,5,4,1] [5,4]
   rintro y6 H
   have H : (Y1 n r3 x0 y6) = some r := H
   unfold Y1 at H
   exact gA 2 16 16<|te (fJ [(true,[cI x0,cS (⟨#[]⟩ : ByteArray),cL 8 y6 Pt.row,cL 5 ([] : List zC) zC.row,cL 3 r3.Rows zT.row,cL 1 r3.Pv intRow,cI 0,cI 0,cI 0,cI 0,cI 0])] H)
  exact tA h2<|gA 2 16 16<|te (fJ [(true,[cI 0,cS (⟨#[]⟩ : ByteArray),cL 8 ([] : List Pt) Pt.row,cL 5 ([] : List zC) zC.row,cL 3 ([] : List zT) zT.row,cL 1 ([] : List Int) intRow,cI 0,cI 0,cI 0,cI 0,cI 0])] H)
 exact qL 1043 16 [10] h1<|uA 4 16403 16<|tB_<|gA 2 16 16<|te (fJ [(true,[cI 0,cS (⟨#[]⟩ : ByteArray),cL 8 ([] : List Pt) Pt.row,cL 5 ([] : List zC) zC.row,cL 3 ([] : List zT) zT.row,cL 1 ([] : List Int) intRow,cI 0,cI 0,cI 0,cI 0,cI 0])] H)
def zw (n : Nat) (x0 : Vec) : Option (Bool) :=
  ((zL n x0.Root 1 99).bind fun r1 => (bif r1 then ((zL n x0.Co 0 100000).bind fun r2 => (bif r2 then ((zL n x0.Hops 0 10).bind fun r3 => (bif r3 then ((zL n x0.Bridge 1 99).bind fun r4 => (bif r4 then ((zL n x0.Port 0 7).bind fun r5 => (some r5)) else (some false))) else (some false))) else (some false))) else (some false)))
theorem zBC (n : Nat) (x0 : Vec) (r : Bool) (H : zw n x0 = some r) : zG Try.prog 187 [.val true (fR (Vec.row x0))] [.val false [.lit (.bool r)]] [] := by
 refine cW Try.func187 (fun g d => sl [g 0,g 1] .ret) [.tmp 2] fun cx=>?_
 unfold zw at H
 refine gA 2 2 2<|rA 2<|bE H fun r1 er1 H=> vA [.rd,.rd,.rd] (zM n x0.Root 1 99 r1 er1)<|lA 1 ?_
 obtain ⟨h1,H⟩ | ⟨h1,H⟩ := bC H
 ·exact qL 66 2 [6] h1<|uA 20 4 0<|te (fF H)
 refine qL 66 2 [6] h1<|lA 2<|bE H fun r2 er2 H=> vA [.rd,.rd,.rd] (zM n x0.Co 0 100000 r2 er2)<|lA 2 ?_
 obtain ⟨h2,H⟩ | ⟨h2,H⟩ := bC H
 ·exact qL 2050 2 [11] h2<|uA 15 4 0<|te (fF H)
 refine qL 2050 2 [11] h2<|lA 2<|bE H fun r3 er3 H=> vA [.rd,.rd,.rd] (zM n x0.Hops 0 10 r3 er3)<|lA 2 ?_
 obtain ⟨h3,H⟩ | ⟨h3,H⟩ := bC H
 ·exact qL 65538 2 [16] h3<|uA 10 4 0<|te (fF H)
 refine qL 65538 2 [16] h3<|lA 2<|bE H fun r4 er4 H=> vA [.rd,.rd,.rd] (zM n x0.Bridge 1 99 r4 er4)<|lA 2 ?_
 obtain ⟨h4,H⟩ | ⟨h4,H⟩ := bC H
 ·exact qL 2097154 2 [21] h4<|uA 5 4 0<|te (fF H)
 exact qL 2097154 2 [21] h4<|lA 2<|bE H fun r5 er5 H=> vA [.rd,.rd,.rd] (zM n x0.Port 0 7 r5 er5)<|uA 2 4 0<|te (fJ [(false,[cB r5])] H)
def qE (n : Nat) (x0 : Pt) : Option (Bool) :=
  ((zL n x0.Co 1 1000).bind fun r1 => (bif (!r1) then (some false) else (bif (!x0.Up) then (bif x0.Has then (some false) else (some ((x0.Hd.Root == 0) && ((x0.Hd.Co == 0) && ((x0.Hd.Hops == 0) && ((x0.Hd.Bridge == 0) && ((x0.Hd.Port == 0) && true))))))) else (bif (!x0.Has) then (some ((x0.Hd.Root == 0) && ((x0.Hd.Co == 0) && ((x0.Hd.Hops == 0) && ((x0.Hd.Bridge == 0) && ((x0.Hd.Port == 0) && true)))))) else ((zw n x0.Hd).bind fun r2 => (some r2))))))
theorem zK9 (n : Nat) (x0 : Pt) (r : Bool) (H : qE n x0 = some r) : zG Try.prog 181 [.val true (fR (Pt.row x0))] [.val false [.lit (.bool r)]] [] := by
 refine cW Try.func181 (fun g d => sl [g 0,sl [g 1] (cn 15 (sl [g 2] .ret) .skip),sl [g 3] (cn 18 (sl [g 4] .ret) .skip),g 5] .ret) [.tmp 2] fun cx=>?_
 unfold qE at H
 refine gA 2 2 2<|tS<|rA 2<|bE H fun r1 er1 H=> vA [.rd,.rd,.rd] (zM n x0.Co 1 1000 r1 er1)<|lA 2 ?_
 obtain ⟨h1,H⟩ | ⟨h1,H⟩ := bC H
 ·refine qL 130 2 [7] h1<|lA 4 ?_
  obtain ⟨h2,H⟩ | ⟨h2,H⟩ := bC H
  ·refine qL 2178 2 [11] h2<|uA 4 32770 2<|nB_<|tK<|tS<|gA 3 262146 2 ?_
   obtain ⟨h3,H⟩ | ⟨h3,H⟩ := bC H
   ·exact nA h3<|tK<|rA 2<|bE H fun r2 er2 H=> vA [.rd] (zBC n x0.Hd r2 er2)<|uA 1 4 0<|te (fJ [(false,[cB r2])] H)
   exact tA h3<|rA 3<|LAt.eqSG false (t := 46) (ty := 46) (ty' := 4) (x := (.tmp 20)) (y := (.tmp 21)) (d := 22) (g := none) ((x0.Hd.Root == 0) && ((x0.Hd.Co == 0) && ((x0.Hd.Hops == 0) && ((x0.Hd.Bridge == 0) && ((x0.Hd.Port == 0) && true))))) _ kr kr kr kr rfl<|uA 1 4 0<|te (fJ [(false,[cB ((x0.Hd.Root == 0) && ((x0.Hd.Co == 0) && ((x0.Hd.Hops == 0) && ((x0.Hd.Bridge == 0) && ((x0.Hd.Port == 0) && true)))))])] H)
  refine qL 2178 2 [11] h2<|uA 4 32770 2 ?_
  obtain ⟨h4,H⟩ | ⟨h4,H⟩ := bC H
  ·exact qT [15] h4<|nB_<|tK<|tS<|gA 3 262146 2<|qT [18] (congrArg not h4)<|tB_<|rA 3<|LAt.eqSG false (t := 46) (ty := 46) (ty' := 4) (x := (.tmp 20)) (y := (.tmp 21)) (d := 22) (g := none) ((x0.Hd.Root == 0) && ((x0.Hd.Co == 0) && ((x0.Hd.Hops == 0) && ((x0.Hd.Bridge == 0) && ((x0.Hd.Port == 0) && true))))) _ kr kr kr kr rfl<|uA 1 4 0<|te (fJ [(false,[cB ((x0.Hd.Root == 0) && ((x0.Hd.Co == 0) && ((x0.Hd.Hops == 0) && ((x0.Hd.Bridge == 0) && ((x0.Hd.Port == 0) && true)))))])] H)
  exact qT [15] h4<|tB_<|gA 1 4 0<|te (fF H)
 exact qL 130 2 [7] h1<|uA 8 32770 2<|tB_<|gA 1 4 0<|te (fF H)
def Zk (n : Nat) (x0 : zC) : Option (Bool) :=
  ((zL n x0.Tag 1 99).bind fun r1 => (bif r1 then ((zL n x0.Mac 1 9999).bind fun r2 => (bif r2 then ((zL n x0.Port 0 7).bind fun r3 => (bif r3 then ((zL n x0.Age 0 4).bind fun r4 => (bif r4 then (bif (!x0.Sc) then (some true) else (some (x0.Age == 0))) else (some false))) else (some false))) else (some false))) else (some false)))
theorem zEc (n : Nat) (x0 : zC) (r : Bool) (H : Zk n x0 = some r) : zG Try.prog 155 [.val true (fR (zC.row x0))] [.val false [.lit (.bool r)]] [] := by
 refine cW Try.func155 (fun g d => sl [g 0,g 1] .ret) [.tmp 2] fun cx=>?_
 unfold Zk at H
 refine gA 2 2 2<|rA 2<|bE H fun r1 er1 H=> vA [.rd,.rd,.rd] (zM n x0.Tag 1 99 r1 er1)<|lA 1 ?_
 obtain ⟨h1,H⟩ | ⟨h1,H⟩ := bC H
 ·exact qL 66 2 [6] h1<|uA 25 4 0<|te (fF H)
 refine qL 66 2 [6] h1<|lA 2<|bE H fun r2 er2 H=> vA [.rd,.rd,.rd] (zM n x0.Mac 1 9999 r2 er2)<|lA 2 ?_
 obtain ⟨h2,H⟩ | ⟨h2,H⟩ := bC H
 ·exact qL 2050 2 [11] h2<|uA 20 4 0<|te (fF H)
 refine qL 2050 2 [11] h2<|lA 2<|bE H fun r3 er3 H=> vA [.rd,.rd,.rd] (zM n x0.Port 0 7 r3 er3)<|lA 2 ?_
 obtain ⟨h3,H⟩ | ⟨h3,H⟩ := bC H
 ·exact qL 65538 2 [16] h3<|uA 15 4 0<|te (fF H)
 refine qL 65538 2 [16] h3<|lA 2<|bE H fun r4 er4 H=> vA [.rd,.rd,.rd] (zM n x0.Age 0 4 r4 er4)<|lA 2 ?_
 obtain ⟨h4,H⟩ | ⟨h4,H⟩ := bC H
 ·exact qL 2097154 2 [21] h4<|uA 10 4 0<|te (fF H)
 refine qL 2097154 2 [21] h4<|lA 4 ?_
 obtain ⟨h5,H⟩ | ⟨h5,H⟩ := bC H
 ·exact qL 35651586 2 [25] h5<|uA 6 4 0<|te (fJ [(false,[cB (x0.Age == 0)])] H)
 exact qL 35651586 2 [25] h5<|uA 6 4 0<|te (fT H)
def Zj (n : Nat) (x0 : zC) (x1 : Int) (x2 : Int) : Option (Bool) :=
  (bif (x0.Tag != x1) then (some (decide (x0.Tag < x1))) else (some (decide (x0.Mac < x2))))
theorem zJQ (n : Nat) (x0 : zC) (x1 : Int) (x2 : Int) (r : Bool) (H : Zj n x0 x1 x2 = some r) : zG Try.prog 179 [.val true (fR (zC.row x0)),.val false [.lit (.int .i64 x1)],.val false [.lit (.int .i64 x2)]] [.val false [.lit (.bool r)]] [] := by
 refine cW Try.func179 (fun g d => sl [g 0,sl [g 1] (cn 10 (sl [g 2] .ret) .skip),g 3] .ret) [.tmp 6] fun cx=>?_
 unfold Zj at H
 refine gA 2 14 8<|tS<|gA 4 1038 8 ?_
 obtain ⟨h1,H⟩ | ⟨h1,H⟩ := bC H
 ·exact nA h1<|tK<|gA 5 64 0<|te (fJ [(false,[cB (decide (x0.Mac < x2))])] H)
 exact tA h1<|gA 5 64 0<|te (fJ [(false,[cB (decide (x0.Tag < x1))])] H)
def Ja (n : Nat) (x0 : (List zC)) : Option (Bool) :=
  (some (decide ((x0.length : Int) ≤ 12)))
def qN (n : Nat) : Nat → (List zC) → Int → Option ((Unit) ⊕ (Bool))
  | 0,_,_ => none
  | mo2 + 1,x0,y1 => (bif (decide (y1 < (x0.length : Int))) then ((idx x0 y1).bind fun v3 => ((Zk n v3).bind fun r4 => (bif (!r4) then (some (Sum.inr false)) else (bif (decide (y1 > 0)) then ((idx x0 (IntKind.wrap .i64 (y1 - 1))).bind fun v5 => ((idx x0 y1).bind fun v6 => ((idx x0 y1).bind fun v7 => ((Zj n v5 v6.Tag v7.Mac).bind fun r8 => (bif (!r8) then (some (Sum.inr false)) else (qN n mo2 x0 (IntKind.wrap .i64 (y1 + 1)))))))) else (qN n mo2 x0 (IntKind.wrap .i64 (y1 + 1))))))) else (some (Sum.inl ())))
def ZK (n : Nat) (x0 : (List zC)) : Option (Bool) :=
  ((qN n n x0 0).bind fun o => match o with | .inl _ => (Ja n x0) | .inr r => some r)
def zMT : Tab := ⟨29,[0,0,3,4,8,16,48,64,192,320,512,512,2560,5632,8704,512,512,98816,131584,262656,512,512,3146240,4194816,8389120,17318400,33554944,67109440,134217792],[0,0,3,4,8,16,32,64,192,320,512,512,2560,5632,8704,512,512,98816,131584,262656,512,512,3146240,4194816,8389120,17318400,33554944,67109440,134217792],[0,0,3,7,15,31,63,127,255,511,1023,1023,3071,8191,16383,1023,1023,99327,230399,492543,1023,1023,3146751,7341055,15729663,33554431,67108863,134217727,268435455]⟩
theorem qo : zk (rg Try.f154 4) zMT = true := kr
theorem zKT (n : Nat) (x0 : (List zC)) (r : Bool) (H : ZK n x0 = some r) : zG Try.prog 154 [.val false [.sl false 5 (CV.frzEs (x0.map zC.row))]] [.val false [.lit (.bool r)]] [] := by
 refine cW Try.func154 (fun g d => sl [g 0,sl [g 1] (.block 0 (.loop (sl [sl [g 2] (cn 7 .skip (.exit 0)),.block 1 (sl [d 4] (cn 38 (sl [g 5] .ret) .skip))] (g 3)))),g 6] .ret) [.tmp 2] fun cx=>?_
 unfold ZK at H
 refine gA 1 1 0<|tS<|gA 1 9 0 ?_
 obtain ⟨o2,eo2,Ho2⟩ := bs H
 clear H
 refine Tr.mid (ι := Unit) (fun v => ⟨42,0,[sC 0 (cF 5 x0 zC.row)],[]⟩) (fun v => Ja n x0 = some r) ?_ ?_
 ·refine tB<|Tr.loop (ι := Nat × (Int)) (fun v => ⟨42,0,[sI 3 v.2,sC 0 (cF 5 x0 zC.row)],[]⟩) (fun v => qN n v.1 x0 v.2 = some o2) (fun v => v.1) (n,0) eo2 (St.sub_of [3,0] [] kr) ?_
  rintro ⟨_ | mo2,y1⟩ H
  ·exact nN H
  have H : qN n (mo2+1) x0 y1 = some o2 := H
  rw [qN] at H
  refine tS<|rA 2<|kF x0 zC.row<|uA 1 137 0 ?_
  obtain ⟨h1,H⟩ | ⟨h1,H⟩ := bC H
  ·refine nA h1<|Tr.exit<|aJ ?_
   cases H
   exact jA () Ho2 [0] []
  refine tA h1<|tK<|tS<|tB<|bE H fun v3 ev3 H=> bE H fun r4 er4 H=> sT ⟨42,0,[sB 7 (decide (y1 < (x0.length : Int))),sI 3 y1,sC 0 (cF 5 x0 zC.row)],[]⟩ ?_
  cases h2 : (!r4)
  ·have H := Z6 h2 H
   refine sT ⟨42,0,[sB 7 (decide (y1 < (x0.length : Int))),sI 3 y1,sC 0 (cF 5 x0 zC.row)],[]⟩ ?_
   cases h3 : (decide (y1 > 0))
   ·have H := Z6 h3 H
    refine Tr.draws mixed 29 kr ⟨42,0,[sB 38 false,sI 3 y1,sC 0 (cF 5 x0 zC.row)],[]⟩ (fun cx=>?_) ?_
    ·exact mA qo [(0,[]),(1,[])] 27 [] fun cx=>iN qo 2 zC.row ev3 fun cx=>mA qo [(3,[])] 25 [] fun cx=>mC qo 4<|vA [.rd] (zEc n v3 r4 er4)<|fA<|mA qo [(5,[]),(6,[])] 22 [] fun cx=>qA 65545 0 [16] h2<|mA qo (zl [7,8,9]) 19 [] fun cx=>qA 589833 0 [19] h3<|mA qo (zl [10,11,12,13,14,15,16,17,18,19,20,21,22,23,24,25,26,27,28]) 0 [] fun cx=>mE qo [38,3,0] []
    exact nB_<|tK<|eA 3 9 0<|jB mo2 (wI (y1 + 1)) H [3,0] []
   have H := Z7 h3 H
   refine bE H fun v5 ev5 H=> bE H fun v6 ev6 H=> bE H fun v7 ev7 H=> bE H fun r8 er8 H=> Tr.draws mixed 29 kr ⟨42,0,[sB 38 (!r8),sI 3 y1,sC 0 (cF 5 x0 zC.row)],[]⟩ (fun cx=>?_) ?_
   ·exact mA qo [(0,[]),(1,[])] 27 [] fun cx=>iN qo 2 zC.row ev3 fun cx=>mA qo [(3,[])] 25 [] fun cx=>mC qo 4<|vA [.rd] (zEc n v3 r4 er4)<|fA<|mA qo [(5,[]),(6,[])] 22 [] fun cx=>qA 65545 0 [16] h2<|mA qo (zl [7,8,9]) 19 [] fun cx=>qA 589833 0 [19] h3<|mA qo (zl [10,11,12]) 16 [] fun cx=>iN qo 13 zC.row ev5 fun cx=>mA qo (zl [14,15,16]) 12 [] fun cx=>iN qo 17 zC.row ev6 fun cx=>mA qo (zl [18,19,20,21]) 7 [] fun cx=>iN qo 22 zC.row ev7 fun cx=>mA qo [(23,[]),(24,[])] 4 [] fun cx=>mC qo 25<|vA [.rd,.rd,.rd] (zJQ n v5 v6.Tag v7.Mac r8 er8)<|fA<|mA qo (zl [26,27,28]) 0 [] fun cx=>mE qo [38,3,0] []
   obtain ⟨h4,H⟩ | ⟨h4,H⟩ := bC H
   ·exact qT [38] h4<|nB_<|tK<|eA 3 9 0<|jB mo2 (wI (y1 + 1)) H [3,0] []
   refine qT [38] h4<|tB_<|gA 1 4 0<|te ?_
   cases H
   exact fF Ho2
  have H := Z7 h2 H
  refine Tr.draws mixed 29 kr ⟨42,0,[sB 38 true,sI 3 y1,sC 0 (cF 5 x0 zC.row)],[]⟩ (fun cx=>?_) ?_
  ·exact mA qo [(0,[]),(1,[])] 27 [] fun cx=>iN qo 2 zC.row ev3 fun cx=>mA qo [(3,[])] 25 [] fun cx=>mC qo 4<|vA [.rd] (zEc n v3 r4 er4)<|fA<|mA qo [(5,[]),(6,[])] 22 [] fun cx=>qA 65545 0 [16] h2<|mA qo (zl [7,8,9,10,11,12,13,14,15,16,17,18,19,20,21,22,23,24,25,26,27,28]) 0 [] fun cx=>mE qo [38,3,0] []
  refine tB_<|gA 1 4 0<|te ?_
  cases H
  exact fF Ho2
 rintro _ H
 have H : (Ja n x0) = some r := H
 unfold Ja at H
 exact rA 1<|kF x0 zC.row<|uA 2 4 0<|te (fJ [(false,[cB (decide ((x0.length : Int) ≤ 12))])] H)
def zAi (n : Nat) : Option (Int) :=
  (some (-1))
def Ze (n : Nat) : Nat → zR → Int → Int → Option ((Unit) ⊕ (Int))
  | 0,_,_,_ => none
  | mo2 + 1,x0,x1,y1 => (bif (decide (y1 < (x0.Rows.length : Int))) then ((idx x0.Rows y1).bind fun v3 => (bif (v3.Id == x1) then (some (Sum.inr y1)) else (Ze n mo2 x0 x1 (IntKind.wrap .i64 (y1 + 1))))) else (some (Sum.inl ())))
def Yz (n : Nat) (x0 : zR) (x1 : Int) : Option (Int) :=
  ((Ze n n x0 x1 0).bind fun o => match o with | .inl _ => (zAi n) | .inr r => some r)
theorem zKU (n : Nat) (x0 : zR) (x1 : Int) (r : Int) (H : Yz n x0 x1 = some r) : zG Try.prog 178 [.val true (fR (zR.row x0)),.val false [.lit (.int .i64 x1)]] [.val false [.lit (.int .i64 r)]] [] := by
 refine cW Try.func178 (fun g d => sl [g 0,sl [g 1] (.block 0 (.loop (sl [sl [g 2] (cn 10 .skip (.exit 0)),.block 1 (sl [g 4] (cn 20 (sl [g 5] .ret) .skip))] (g 3)))),g 6] .ret) [.tmp 4] fun cx=>?_
 unfold Yz at H
 refine gA 2 6 4<|tS<|gA 1 38 4 ?_
 obtain ⟨o2,eo2,Ho2⟩ := bs H
 clear H
 refine Tr.mid (ι := Unit) (fun v => ⟨22,0,[],[]⟩) (fun v => zAi n = some r) ?_ ?_
 ·refine tB<|Tr.loop (ι := Nat × (Int)) (fun v => ⟨22,0,[sI 5 v.2,sA 2 2 2 0,sI 1 x1],[(2,(fR (zR.row x0)))]⟩) (fun v => Ze n v.1 x0 x1 v.2 = some o2) (fun v => v.1) (n,0) eo2 (St.sub_of [5,2,1] [2] kr) ?_
  rintro ⟨_ | mo2,y1⟩ H
  ·exact nN H
  have H : Ze n (mo2+1) x0 x1 y1 = some o2 := H
  rw [Ze] at H
  refine tS<|rA 3<|kF x0.Rows zT.row<|uA 1 1062 4 ?_
  obtain ⟨h1,H⟩ | ⟨h1,H⟩ := bC H
  ·refine nA h1<|Tr.exit<|aJ ?_
   cases H
   exact jA () Ho2 [] []
  refine tA h1<|tK<|tS<|tB<|rA 3<|bE H fun v3 ev3 H=> iA zT.row ev3<|uA 4 1048614 4 ?_
  obtain ⟨h2,H⟩ | ⟨h2,H⟩ := bC H
  ·exact nA h2<|tK<|eA 3 38 4<|jB mo2 (wI (y1 + 1)) H [5,2,1] [2]
  refine tA h2<|gA 2 16 0<|te ?_
  cases H
  exact fJ [(false,[cI y1])] Ho2
 rintro _ H
 have H : (zAi n) = some r := H
 unfold zAi at H
 exact gA 1 16 0<|te (fJ [(false,[cI (-1)])] H)
def zAH (n : Nat) : Option (Bool) :=
  (some true)
def Zs (n : Nat) : Nat → zR → Int → Option ((Unit) ⊕ (Bool))
  | 0,_,_ => none
  | mo5 + 1,x0,y4 => (bif (decide (y4 < (x0.Pv.length : Int))) then ((idx x0.Pv y4).bind fun v6 => ((Yz n x0 v6).bind fun r7 => (bif (decide (r7 < 0)) then (some (Sum.inr false)) else (Zs n mo5 x0 (IntKind.wrap .i64 (y4 + 1)))))) else (some (Sum.inl ())))
def JF (n : Nat) (x0 : zR) : Option (Bool) :=
  ((Zs n n x0 0).bind fun o => match o with | .inl _ => (zAH n) | .inr r => some r)
def ZN (n : Nat) : Nat → zR → Int → Int → Option ((Unit) ⊕ (Bool))
  | 0,_,_,_ => none
  | mo8 + 1,x0,x1,y3 => (bif (decide (y3 < (x0.Rows.length : Int))) then ((idx x0.Rows y3).bind fun v9 => ((zL n v9.Id 1 99).bind fun r10 => (bif (!r10) then (some (Sum.inr false)) else ((zL n v9.Members 0 (IntKind.wrap .i64 ((IntKind.wrap .i64 (1 * 2 ^ min (((IntKind.wrap .u64 x1) : Int)).toNat (IntKind.bits .i64))) - 1))).bind fun r11 => (bif (!r11) then (some (Sum.inr false)) else ((zL n v9.Bare 0 (IntKind.wrap .i64 ((IntKind.wrap .i64 (1 * 2 ^ min (((IntKind.wrap .u64 x1) : Int)).toNat (IntKind.bits .i64))) - 1))).bind fun r12 => (bif (!r12) then (some (Sum.inr false)) else (bif ((IntKind.wrap .i64 (BitVec.ofInt (IntKind.bits .i64) v9.Bare &&& BitVec.ofInt (IntKind.bits .i64) v9.Members).toNat) != v9.Bare) then (some (Sum.inr false)) else (bif (decide (y3 > 0)) then ((idx x0.Rows (IntKind.wrap .i64 (y3 - 1))).bind fun v13 => (bif (decide (v13.Id ≥ v9.Id)) then (some (Sum.inr false)) else (ZN n mo8 x0 x1 (IntKind.wrap .i64 (y3 + 1))))) else (ZN n mo8 x0 x1 (IntKind.wrap .i64 (y3 + 1)))))))))))) else (some (Sum.inl ())))
def qW (n : Nat) (x0 : zR) (x1 : Int) : Option (Bool) :=
  ((zL n x1 1 6).bind fun r1 => (bif (!r1) then (some false) else (bif ((x0.Pv.length : Int) != x1) then (some false) else (bif (decide ((x0.Rows.length : Int) > 6)) then (some false) else (bif (decide ((0 : Int) ≤ (IntKind.wrap .u64 x1))) then ((ZN n n x0 x1 0).bind fun o => match o with | .inl _ => (JF n x0) | .inr r => some r) else none)))))
def zMc : Tab := ⟨44,[0,1,2,4,12,16,48,16,208,272,528,1280,2048,6144,2048,26624,34816,67584,163840,262144,786432,262144,2359296,5505024,262144,17039360,42205184,67371008,134479872,268435456,805306368,1342177280,2147483648,6442450944,2147483648,19327352832,45097156608,70866960384,139586437120,2147483648,551903297536,1376537018368,2201439174656,4398314946560],[0,1,2,4,8,16,48,16,208,272,528,1024,2048,6144,2048,26624,34816,67584,131072,262144,786432,262144,2359296,5505024,262144,17039360,42205184,67371008,134217728,268435456,805306368,1342177280,2147483648,6442450944,2147483648,19327352832,45097156608,70866960384,139586437120,2147483648,551903297536,1376537018368,2201439174656,4398314946560],[0,1,3,7,15,31,63,31,255,511,1023,2047,4095,8191,4095,32767,65535,131071,262143,524287,1048575,524287,2621439,8388607,524287,17301503,67108863,134217727,268435455,536870911,1073741823,2147483647,4294967295,8589934591,4294967295,21474836479,68719476735,137438953471,274877906943,4294967295,554050781183,2199023255551,4398046511103,8796093022207]⟩
theorem zQ : zk (rg Try.f175 8) zMc = true := kr
theorem zHt (n : Nat) (y3 : Int) (v9 : zT) (x1 : Int) (x0 : zR) (h11 : (decide (y3 > 0)) = false) (cx : Cx) : AT Try.prog cx (rg Try.f175 8) [⟨[],3,65,66⟩,⟨[],3,62,63⟩,⟨[],3,60,61⟩,⟨[15],3,53,54⟩,⟨[8,15],3,46,47⟩,⟨[2,8,15],3,41,42⟩] 15 [28,27,26,25,24,23,22,21,20,19,18,17,16,15,14,13,12,11,10,9,8,7,6,5,4,3,2,1,0] ⟨100,0,[sB 69 false,sI 66 v9.Bare,sA 65 7 3 2,sI 63 v9.Members,sA 62 7 3 1,sI 61 v9.Bare,sA 60 7 3 2,sI 54 v9.Bare,sA 53 7 3 2,sI 47 v9.Members,sA 46 7 3 1,sI 42 v9.Id,sA 41 7 3 0,sA 7 7 3 0,sI 6 y3,sI 5 (wI ((wI (1 * 2 ^ min (((IntKind.wrap .u64 x1) : Int)).toNat (IntKind.bits .i64))) - 1)),sA 2 2 2 0],[(7,(zT.row v9)),(2,(fR (zR.row x0)))]⟩ (fun s => s = ⟨100,0,[sB 84 false,sI 6 y3,sI 5 (wI ((wI (1 * 2 ^ min (((IntKind.wrap .u64 x1) : Int)).toNat (IntKind.bits .i64))) - 1)),sA 2 2 2 0],[(2,(fR (zR.row x0)))]⟩) := by
 exact mA zQ (zl [29,30,31]) 12 [⟨[],3,65,66⟩,⟨[],3,62,63⟩,⟨[],3,60,61⟩,⟨[15],3,53,54⟩,⟨[8,15],3,46,47⟩,⟨[2,8,15],3,41,42⟩] fun cx=>qA 0x126f060c600000000e4 132 [72] h11<|mA zQ (zl [32,33,34,35,36,37,38,39,40,41,42,43]) 0 [⟨[],3,65,66⟩,⟨[],3,62,63⟩,⟨[],3,60,61⟩,⟨[15],3,53,54⟩,⟨[8,15],3,46,47⟩,⟨[2,8,15],3,41,42⟩] fun cx=>mE zQ [84,6,5,2] [2]
theorem zHu (n : Nat) (y3 : Int) (v9 : zT) (x1 : Int) (x0 : zR) (v13 : zT) (h11 : (decide (y3 > 0)) = true) (ev13 : (idx x0.Rows (wI (y3 - 1))) = some v13) (cx : Cx) : AT Try.prog cx (rg Try.f175 8) [⟨[],3,65,66⟩,⟨[],3,62,63⟩,⟨[],3,60,61⟩,⟨[15],3,53,54⟩,⟨[8,15],3,46,47⟩,⟨[2,8,15],3,41,42⟩] 15 [28,27,26,25,24,23,22,21,20,19,18,17,16,15,14,13,12,11,10,9,8,7,6,5,4,3,2,1,0] ⟨100,0,[sB 69 false,sI 66 v9.Bare,sA 65 7 3 2,sI 63 v9.Members,sA 62 7 3 1,sI 61 v9.Bare,sA 60 7 3 2,sI 54 v9.Bare,sA 53 7 3 2,sI 47 v9.Members,sA 46 7 3 1,sI 42 v9.Id,sA 41 7 3 0,sA 7 7 3 0,sI 6 y3,sI 5 (wI ((wI (1 * 2 ^ min (((IntKind.wrap .u64 x1) : Int)).toNat (IntKind.bits .i64))) - 1)),sA 2 2 2 0],[(7,(zT.row v9)),(2,(fR (zR.row x0)))]⟩ (fun s => s = ⟨100,0,[sB 84 (decide (v13.Id ≥ v9.Id)),sI 6 y3,sI 5 (wI ((wI (1 * 2 ^ min (((IntKind.wrap .u64 x1) : Int)).toNat (IntKind.bits .i64))) - 1)),sA 2 2 2 0],[(2,(fR (zR.row x0)))]⟩) := by
 exact mA zQ (zl [29,30,31]) 12 [⟨[],3,65,66⟩,⟨[],3,62,63⟩,⟨[],3,60,61⟩,⟨[15],3,53,54⟩,⟨[8,15],3,46,47⟩,⟨[2,8,15],3,41,42⟩] fun cx=>qA 0x126f060c600000000e4 132 [72] h11<|mA zQ (zl [32,33,34,35]) 8 [⟨[],37,73,74⟩,⟨[],3,65,66⟩,⟨[],3,62,63⟩,⟨[],3,60,61⟩,⟨[15],3,53,54⟩,⟨[8,15],3,46,47⟩,⟨[2,8,15],3,41,42⟩] fun cx=>iN zQ 36 zT.row ev13 fun cx=>mA zQ (zl [37,38,39,40,41,42,43]) 0 [⟨[],3,80,81⟩,⟨[],37,73,74⟩,⟨[],3,65,66⟩,⟨[],3,62,63⟩,⟨[],3,60,61⟩,⟨[15],3,53,54⟩,⟨[8,15],3,46,47⟩,⟨[2,8,15],3,41,42⟩] fun cx=>mE zQ [84,6,5,2] [2]
theorem zHv (n : Nat) (v9 : zT) (y3 : Int) (x1 : Int) (x0 : zR) (cx : Cx) : AT Try.prog cx (rg Try.f175 8) [⟨[],3,65,66⟩,⟨[],3,62,63⟩,⟨[],3,60,61⟩,⟨[15],3,53,54⟩,⟨[8,15],3,46,47⟩,⟨[2,8,15],3,41,42⟩] 15 [28,27,26,25,24,23,22,21,20,19,18,17,16,15,14,13,12,11,10,9,8,7,6,5,4,3,2,1,0] ⟨100,0,[sB 69 true,sI 66 v9.Bare,sA 65 7 3 2,sI 63 v9.Members,sA 62 7 3 1,sI 61 v9.Bare,sA 60 7 3 2,sI 54 v9.Bare,sA 53 7 3 2,sI 47 v9.Members,sA 46 7 3 1,sI 42 v9.Id,sA 41 7 3 0,sA 7 7 3 0,sI 6 y3,sI 5 (wI ((wI (1 * 2 ^ min (((IntKind.wrap .u64 x1) : Int)).toNat (IntKind.bits .i64))) - 1)),sA 2 2 2 0],[(7,(zT.row v9)),(2,(fR (zR.row x0)))]⟩ (fun s => s = ⟨100,0,[sB 84 true,sI 6 y3,sI 5 (wI ((wI (1 * 2 ^ min (((IntKind.wrap .u64 x1) : Int)).toNat (IntKind.bits .i64))) - 1)),sA 2 2 2 0],[(2,(fR (zR.row x0)))]⟩) := by
 exact mA zQ (zl [29,30,31,32,33,34,35,36,37,38,39,40,41,42,43]) 0 [⟨[],3,65,66⟩,⟨[],3,62,63⟩,⟨[],3,60,61⟩,⟨[15],3,53,54⟩,⟨[8,15],3,46,47⟩,⟨[2,8,15],3,41,42⟩] fun cx=>mE zQ [84,6,5,2] [2]
theorem zJi (n : Nat) (x0 : zR) (x1 : Int) (r : Bool) (H : qW n x0 x1 = some r) : zG Try.prog 175 [.val true (fR (zR.row x0)),.val false [.lit (.int .i64 x1)]] [.val false [.lit (.bool r)]] [] := by
 refine cW Try.func175 (fun g d => sl [g 0,sl [g 1] (cn 24 (sl [g 2] .ret) .skip),g 3,sl [g 4] (.block 0 (.loop (sl [sl [g 5] (cn 33 .skip (.exit 0)),.block 1 (sl [g 7,d 8] (cn 84 (sl [g 9] .ret) .skip))] (g 6)))),sl [g 10] (.block 2 (.loop (sl [sl [g 11] (cn 89 .skip (.exit 2)),.block 3 (sl [d 13] (cn 99 (sl [g 14] .ret) .skip))] (g 12)))),g 15] .ret) [.tmp 4] fun cx=>?_
 unfold qW at H
 refine gA 2 6 4<|tS<|rA 1<|bE H fun r1 er1 H=> vA [.rd,.rd,.rd] (zM n x1 1 6 r1 er1)<|lA 2 ?_
 obtain ⟨h1,H⟩ | ⟨h1,H⟩ := bC H
 ·refine qL 4102 4 [12] h1<|lA 2<|kF x0.Pv intRow<|lA 4 ?_
  obtain ⟨h2,H⟩ | ⟨h2,H⟩ := bC H
  ·refine qL 524294 4 [19] h2<|lA 2<|kF x0.Rows zT.row<|uA 2 16777222 4 ?_
   obtain ⟨h3,H⟩ | ⟨h3,H⟩ := bC H
   ·refine nA h3<|tK<|rA 2<|gE H fun hg2 H=> LAt.binC tOk (op := .shl) (t := 3) (ty := 103) (ty' := 3) (x := (.const (.int .i64 1))) (y := (.tmp 26)) (d := 27) (g := none) (.int .i64 1) (.int .u64 (IntKind.wrap .u64 x1)) (.int .i64 (wI (1 * 2 ^ min (((IntKind.wrap .u64 x1) : Int)).toNat (IntKind.bits .i64)))) _ kr kr kr kr kr (φ := (0 : Int) ≤ (IntKind.wrap .u64 x1)) kr (of_decide_eq_true hg2) rfl<|uA 2 36 4<|tS<|gA 1 100 4 ?_
    obtain ⟨o8,eo8,Ho8⟩ := bs H
    clear H
    refine Tr.mid (ι := Unit) (fun v => ⟨100,0,[sA 2 2 2 0],[(2,(fR (zR.row x0)))]⟩) (fun v => JF n x0 = some r) ?_ ?_
    ·refine tB<|Tr.loop (ι := Nat × (Int)) (fun v => ⟨100,0,[sI 6 v.2,sI 5 (wI ((wI (1 * 2 ^ min (((IntKind.wrap .u64 x1) : Int)).toNat (IntKind.bits .i64))) - 1)),sA 2 2 2 0],[(2,(fR (zR.row x0)))]⟩) (fun v => ZN n v.1 x0 x1 v.2 = some o8) (fun v => v.1) (n,0) eo8 (St.sub_of [6,5,2] [2] kr) ?_
     rintro ⟨_ | mo8,y3⟩ H
     ·exact nN H
     have H : ZN n (mo8+1) x0 x1 y3 = some o8 := H
     rw [ZN] at H
     refine tS<|rA 3<|kF x0.Rows zT.row<|uA 1 8589934692 4 ?_
     obtain ⟨h6,H⟩ | ⟨h6,H⟩ := bC H
     ·refine nA h6<|Tr.exit<|aJ ?_
      cases H
      exact jA () Ho8 [2] [2]
     refine tA h6<|tK<|tS<|tB<|rA 3<|bE H fun v9 ev9 H=> iA zT.row ev9<|uA 3 228 132<|bE H fun r10 er10 H=> sT ⟨100,0,[sA 7 7 3 0,sI 6 y3,sI 5 (wI ((wI (1 * 2 ^ min (((IntKind.wrap .u64 x1) : Int)).toNat (IntKind.bits .i64))) - 1)),sA 2 2 2 0],[(7,(zT.row v9)),(2,(fR (zR.row x0)))]⟩ ?_
     cases h7 : (!r10)
     ·have H := Z6 h7 H
      refine bE H fun r11 er11 H=> sT ⟨100,0,[sA 7 7 3 0,sI 6 y3,sI 5 (wI ((wI (1 * 2 ^ min (((IntKind.wrap .u64 x1) : Int)).toNat (IntKind.bits .i64))) - 1)),sA 2 2 2 0],[(7,(zT.row v9)),(2,(fR (zR.row x0)))]⟩ ?_
      cases h8 : (!r11)
      ·have H := Z6 h8 H
       refine bE H fun r12 er12 H=> sT ⟨100,0,[sA 7 7 3 0,sI 6 y3,sI 5 (wI ((wI (1 * 2 ^ min (((IntKind.wrap .u64 x1) : Int)).toNat (IntKind.bits .i64))) - 1)),sA 2 2 2 0],[(7,(zT.row v9)),(2,(fR (zR.row x0)))]⟩ ?_
       cases h9 : (!r12)
       ·have H := Z6 h9 H
        refine sT ⟨100,0,[sA 7 7 3 0,sI 6 y3,sI 5 (wI ((wI (1 * 2 ^ min (((IntKind.wrap .u64 x1) : Int)).toNat (IntKind.bits .i64))) - 1)),sA 2 2 2 0],[(7,(zT.row v9)),(2,(fR (zR.row x0)))]⟩ ?_
        cases h10 : ((wI (bO v9.Bare &&& bO v9.Members).toNat) != v9.Bare)
        ·have H := Z6 h10 H
         refine sT ⟨100,0,[sA 7 7 3 0,sI 6 y3,sI 5 (wI ((wI (1 * 2 ^ min (((IntKind.wrap .u64 x1) : Int)).toNat (IntKind.bits .i64))) - 1)),sA 2 2 2 0],[(7,(zT.row v9)),(2,(fR (zR.row x0)))]⟩ ?_
         cases h11 : (decide (y3 > 0))
         ·have H := Z6 h11 H
          refine Tr.draws mixed 44 kr ⟨100,0,[sB 84 false,sI 6 y3,sI 5 (wI ((wI (1 * 2 ^ min (((IntKind.wrap .u64 x1) : Int)).toNat (IntKind.bits .i64))) - 1)),sA 2 2 2 0],[(2,(fR (zR.row x0)))]⟩ (fun cx=>?_) ?_
          ·refine mA zQ [(0,[]),(1,[2,8,15])] 42 [⟨[2,8,15],3,41,42⟩] fun cx=>mC zQ 2<|vA [.rd,.rd,.rd] (zM n v9.Id 1 99 r10 er10)<|fA<|mA zQ [(3,[]),(4,[])] 39 [⟨[2,8,15],3,41,42⟩] fun cx=>qA 41781441855716 132 [45] h7<|mA zQ [(5,[]),(6,[8,15]),(7,[])] 36 [⟨[8,15],3,46,47⟩,⟨[2,8,15],3,41,42⟩] fun cx=>mC zQ 8<|vA [.rd,.rd,.rd] (zM n v9.Members 0 (wI ((wI (1 * 2 ^ min (((IntKind.wrap .u64 x1) : Int)).toNat (IntKind.bits .i64))) - 1)) r11 er11)<|fA<|mA zQ (zl [9,10,11]) 32 [⟨[8,15],3,46,47⟩,⟨[2,8,15],3,41,42⟩] fun cx=>qA 4721302929670372 132 [52] h8<|mA zQ [(12,[]),(13,[15]),(14,[])] 29 [⟨[15],3,53,54⟩,⟨[8,15],3,46,47⟩,⟨[2,8,15],3,41,42⟩] fun cx=>mC zQ 15<|vA [.rd,.rd,.rd] (zM n v9.Bare 0 (wI ((wI (1 * 2 ^ min (((IntKind.wrap .u64 x1) : Int)).toNat (IntKind.bits .i64))) - 1)) r12 er12)<|fA<|mA zQ (zl [16,17,18]) 25 [⟨[15],3,53,54⟩,⟨[8,15],3,46,47⟩,⟨[2,8,15],3,41,42⟩] fun cx=>qA 0x860c600000000e4 132 [59] h9<|mA zQ (zl [19,20,21,22,23,24,25,26,27,28]) 15 [⟨[],3,65,66⟩,⟨[],3,62,63⟩,⟨[],3,60,61⟩,⟨[15],3,53,54⟩,⟨[8,15],3,46,47⟩,⟨[2,8,15],3,41,42⟩] fun cx=>sA_ 0x26f060c600000000e4 132 ⟨100,0,[sB 69 ((wI (bO v9.Bare &&& bO v9.Members).toNat) != v9.Bare),sI 66 v9.Bare,sA 65 7 3 2,sI 63 v9.Members,sA 62 7 3 1,sI 61 v9.Bare,sA 60 7 3 2,sI 54 v9.Bare,sA 53 7 3 2,sI 47 v9.Members,sA 46 7 3 1,sI 42 v9.Id,sA 41 7 3 0,sA 7 7 3 0,sI 6 y3,sI 5 (wI ((wI (1 * 2 ^ min (((IntKind.wrap .u64 x1) : Int)).toNat (IntKind.bits .i64))) - 1)),sA 2 2 2 0],[(7,(zT.row v9)),(2,(fR (zR.row x0)))]⟩ ?_
           rw [h10]
           exact zHt n y3 v9 x1 x0 h11 cx
          exact nB_<|tK<|eA 3 100 4<|jB mo8 (wI (y3 + 1)) H [6,5,2] [2]
         have H := Z7 h11 H
         refine bE H fun v13 ev13 H=> Tr.draws mixed 44 kr ⟨100,0,[sB 84 (decide (v13.Id ≥ v9.Id)),sI 6 y3,sI 5 (wI ((wI (1 * 2 ^ min (((IntKind.wrap .u64 x1) : Int)).toNat (IntKind.bits .i64))) - 1)),sA 2 2 2 0],[(2,(fR (zR.row x0)))]⟩ (fun cx=>?_) ?_
         ·refine mA zQ [(0,[]),(1,[2,8,15])] 42 [⟨[2,8,15],3,41,42⟩] fun cx=>mC zQ 2<|vA [.rd,.rd,.rd] (zM n v9.Id 1 99 r10 er10)<|fA<|mA zQ [(3,[]),(4,[])] 39 [⟨[2,8,15],3,41,42⟩] fun cx=>qA 41781441855716 132 [45] h7<|mA zQ [(5,[]),(6,[8,15]),(7,[])] 36 [⟨[8,15],3,46,47⟩,⟨[2,8,15],3,41,42⟩] fun cx=>mC zQ 8<|vA [.rd,.rd,.rd] (zM n v9.Members 0 (wI ((wI (1 * 2 ^ min (((IntKind.wrap .u64 x1) : Int)).toNat (IntKind.bits .i64))) - 1)) r11 er11)<|fA<|mA zQ (zl [9,10,11]) 32 [⟨[8,15],3,46,47⟩,⟨[2,8,15],3,41,42⟩] fun cx=>qA 4721302929670372 132 [52] h8<|mA zQ [(12,[]),(13,[15]),(14,[])] 29 [⟨[15],3,53,54⟩,⟨[8,15],3,46,47⟩,⟨[2,8,15],3,41,42⟩] fun cx=>mC zQ 15<|vA [.rd,.rd,.rd] (zM n v9.Bare 0 (wI ((wI (1 * 2 ^ min (((IntKind.wrap .u64 x1) : Int)).toNat (IntKind.bits .i64))) - 1)) r12 er12)<|fA<|mA zQ (zl [16,17,18]) 25 [⟨[15],3,53,54⟩,⟨[8,15],3,46,47⟩,⟨[2,8,15],3,41,42⟩] fun cx=>qA 0x860c600000000e4 132 [59] h9<|mA zQ (zl [19,20,21,22,23,24,25,26,27,28]) 15 [⟨[],3,65,66⟩,⟨[],3,62,63⟩,⟨[],3,60,61⟩,⟨[15],3,53,54⟩,⟨[8,15],3,46,47⟩,⟨[2,8,15],3,41,42⟩] fun cx=>sA_ 0x26f060c600000000e4 132 ⟨100,0,[sB 69 ((wI (bO v9.Bare &&& bO v9.Members).toNat) != v9.Bare),sI 66 v9.Bare,sA 65 7 3 2,sI 63 v9.Members,sA 62 7 3 1,sI 61 v9.Bare,sA 60 7 3 2,sI 54 v9.Bare,sA 53 7 3 2,sI 47 v9.Members,sA 46 7 3 1,sI 42 v9.Id,sA 41 7 3 0,sA 7 7 3 0,sI 6 y3,sI 5 (wI ((wI (1 * 2 ^ min (((IntKind.wrap .u64 x1) : Int)).toNat (IntKind.bits .i64))) - 1)),sA 2 2 2 0],[(7,(zT.row v9)),(2,(fR (zR.row x0)))]⟩ ?_
          rw [h10]
          exact zHu n y3 v9 x1 x0 v13 h11 ev13 cx
         obtain ⟨h12,H⟩ | ⟨h12,H⟩ := bC H
         ·exact qT [84] h12<|nB_<|tK<|eA 3 100 4<|jB mo8 (wI (y3 + 1)) H [6,5,2] [2]
         refine qT [84] h12<|tB_<|gA 1 16 0<|te ?_
         cases H
         exact fF Ho8
        have H := Z7 h10 H
        refine Tr.draws mixed 44 kr ⟨100,0,[sB 84 true,sI 6 y3,sI 5 (wI ((wI (1 * 2 ^ min (((IntKind.wrap .u64 x1) : Int)).toNat (IntKind.bits .i64))) - 1)),sA 2 2 2 0],[(2,(fR (zR.row x0)))]⟩ (fun cx=>?_) ?_
        ·refine mA zQ [(0,[]),(1,[2,8,15])] 42 [⟨[2,8,15],3,41,42⟩] fun cx=>mC zQ 2<|vA [.rd,.rd,.rd] (zM n v9.Id 1 99 r10 er10)<|fA<|mA zQ [(3,[]),(4,[])] 39 [⟨[2,8,15],3,41,42⟩] fun cx=>qA 41781441855716 132 [45] h7<|mA zQ [(5,[]),(6,[8,15]),(7,[])] 36 [⟨[8,15],3,46,47⟩,⟨[2,8,15],3,41,42⟩] fun cx=>mC zQ 8<|vA [.rd,.rd,.rd] (zM n v9.Members 0 (wI ((wI (1 * 2 ^ min (((IntKind.wrap .u64 x1) : Int)).toNat (IntKind.bits .i64))) - 1)) r11 er11)<|fA<|mA zQ (zl [9,10,11]) 32 [⟨[8,15],3,46,47⟩,⟨[2,8,15],3,41,42⟩] fun cx=>qA 4721302929670372 132 [52] h8<|mA zQ [(12,[]),(13,[15]),(14,[])] 29 [⟨[15],3,53,54⟩,⟨[8,15],3,46,47⟩,⟨[2,8,15],3,41,42⟩] fun cx=>mC zQ 15<|vA [.rd,.rd,.rd] (zM n v9.Bare 0 (wI ((wI (1 * 2 ^ min (((IntKind.wrap .u64 x1) : Int)).toNat (IntKind.bits .i64))) - 1)) r12 er12)<|fA<|mA zQ (zl [16,17,18]) 25 [⟨[15],3,53,54⟩,⟨[8,15],3,46,47⟩,⟨[2,8,15],3,41,42⟩] fun cx=>qA 0x860c600000000e4 132 [59] h9<|mA zQ (zl [19,20,21,22,23,24,25,26,27,28]) 15 [⟨[],3,65,66⟩,⟨[],3,62,63⟩,⟨[],3,60,61⟩,⟨[15],3,53,54⟩,⟨[8,15],3,46,47⟩,⟨[2,8,15],3,41,42⟩] fun cx=>sA_ 0x26f060c600000000e4 132 ⟨100,0,[sB 69 ((wI (bO v9.Bare &&& bO v9.Members).toNat) != v9.Bare),sI 66 v9.Bare,sA 65 7 3 2,sI 63 v9.Members,sA 62 7 3 1,sI 61 v9.Bare,sA 60 7 3 2,sI 54 v9.Bare,sA 53 7 3 2,sI 47 v9.Members,sA 46 7 3 1,sI 42 v9.Id,sA 41 7 3 0,sA 7 7 3 0,sI 6 y3,sI 5 (wI ((wI (1 * 2 ^ min (((IntKind.wrap .u64 x1) : Int)).toNat (IntKind.bits .i64))) - 1)),sA 2 2 2 0],[(7,(zT.row v9)),(2,(fR (zR.row x0)))]⟩ ?_
         rw [h10]
         exact zHv n v9 y3 x1 x0 cx
        refine tB_<|gA 1 16 0<|te ?_
        cases H
        exact fF Ho8
       have H := Z7 h9 H
       refine Tr.draws mixed 44 kr ⟨100,0,[sB 84 true,sI 6 y3,sI 5 (wI ((wI (1 * 2 ^ min (((IntKind.wrap .u64 x1) : Int)).toNat (IntKind.bits .i64))) - 1)),sA 2 2 2 0],[(2,(fR (zR.row x0)))]⟩ (fun cx=>?_) ?_
       ·exact mA zQ [(0,[]),(1,[2,8,15])] 42 [⟨[2,8,15],3,41,42⟩] fun cx=>mC zQ 2<|vA [.rd,.rd,.rd] (zM n v9.Id 1 99 r10 er10)<|fA<|mA zQ [(3,[]),(4,[])] 39 [⟨[2,8,15],3,41,42⟩] fun cx=>qA 41781441855716 132 [45] h7<|mA zQ [(5,[]),(6,[8,15]),(7,[])] 36 [⟨[8,15],3,46,47⟩,⟨[2,8,15],3,41,42⟩] fun cx=>mC zQ 8<|vA [.rd,.rd,.rd] (zM n v9.Members 0 (wI ((wI (1 * 2 ^ min (((IntKind.wrap .u64 x1) : Int)).toNat (IntKind.bits .i64))) - 1)) r11 er11)<|fA<|mA zQ (zl [9,10,11]) 32 [⟨[8,15],3,46,47⟩,⟨[2,8,15],3,41,42⟩] fun cx=>qA 4721302929670372 132 [52] h8<|mA zQ [(12,[]),(13,[15]),(14,[])] 29 [⟨[15],3,53,54⟩,⟨[8,15],3,46,47⟩,⟨[2,8,15],3,41,42⟩] fun cx=>mC zQ 15<|vA [.rd,.rd,.rd] (zM n v9.Bare 0 (wI ((wI (1 * 2 ^ min (((IntKind.wrap .u64 x1) : Int)).toNat (IntKind.bits .i64))) - 1)) r12 er12)<|fA<|mA zQ (zl [16,17,18]) 25 [⟨[15],3,53,54⟩,⟨[8,15],3,46,47⟩,⟨[2,8,15],3,41,42⟩] fun cx=>qA 0x860c600000000e4 132 [59] h9<|mA zQ (zl [19,20,21,22,23,24,25,26,27,28,29,30,31,32,33,34,35,36,37,38,39,40,41,42,43]) 0 [⟨[15],3,53,54⟩,⟨[8,15],3,46,47⟩,⟨[2,8,15],3,41,42⟩] fun cx=>mE zQ [84,6,5,2] [2]
       refine tB_<|gA 1 16 0<|te ?_
       cases H
       exact fF Ho8
      have H := Z7 h8 H
      refine Tr.draws mixed 44 kr ⟨100,0,[sB 84 true,sI 6 y3,sI 5 (wI ((wI (1 * 2 ^ min (((IntKind.wrap .u64 x1) : Int)).toNat (IntKind.bits .i64))) - 1)),sA 2 2 2 0],[(2,(fR (zR.row x0)))]⟩ (fun cx=>?_) ?_
      ·exact mA zQ [(0,[]),(1,[2,8])] 42 [⟨[2,8],3,41,42⟩] fun cx=>mC zQ 2<|vA [.rd,.rd,.rd] (zM n v9.Id 1 99 r10 er10)<|fA<|mA zQ [(3,[]),(4,[])] 39 [⟨[2,8],3,41,42⟩] fun cx=>qA 41781441855716 132 [45] h7<|mA zQ [(5,[]),(6,[8]),(7,[])] 36 [⟨[8],3,46,47⟩,⟨[2,8],3,41,42⟩] fun cx=>mC zQ 8<|vA [.rd,.rd,.rd] (zM n v9.Members 0 (wI ((wI (1 * 2 ^ min (((IntKind.wrap .u64 x1) : Int)).toNat (IntKind.bits .i64))) - 1)) r11 er11)<|fA<|mA zQ (zl [9,10,11]) 32 [⟨[8],3,46,47⟩,⟨[2,8],3,41,42⟩] fun cx=>qA 4721302929670372 132 [52] h8<|mA zQ (zl [12,13,14,15,16,17,18,19,20,21,22,23,24,25,26,27,28,29,30,31,32,33,34,35,36,37,38,39,40,41,42,43]) 0 [⟨[8],3,46,47⟩,⟨[2,8],3,41,42⟩] fun cx=>mE zQ [84,6,5,2] [2]
      refine tB_<|gA 1 16 0<|te ?_
      cases H
      exact fF Ho8
     have H := Z7 h7 H
     refine Tr.draws mixed 44 kr ⟨100,0,[sB 84 true,sI 6 y3,sI 5 (wI ((wI (1 * 2 ^ min (((IntKind.wrap .u64 x1) : Int)).toNat (IntKind.bits .i64))) - 1)),sA 2 2 2 0],[(2,(fR (zR.row x0)))]⟩ (fun cx=>?_) ?_
     ·exact mA zQ [(0,[]),(1,[2])] 42 [⟨[2],3,41,42⟩] fun cx=>mC zQ 2<|vA [.rd,.rd,.rd] (zM n v9.Id 1 99 r10 er10)<|fA<|mA zQ [(3,[]),(4,[])] 39 [⟨[2],3,41,42⟩] fun cx=>qA 41781441855716 132 [45] h7<|mA zQ (zl [5,6,7,8,9,10,11,12,13,14,15,16,17,18,19,20,21,22,23,24,25,26,27,28,29,30,31,32,33,34,35,36,37,38,39,40,41,42,43]) 0 [⟨[2],3,41,42⟩] fun cx=>mE zQ [84,6,5,2] [2]
     refine tB_<|gA 1 16 0<|te ?_
     cases H
     exact fF Ho8
    rintro _ H
    have H : (JF n x0) = some r := H
    unfold JF at H
    refine tS<|gA 1 260 4 ?_
    obtain ⟨o5,eo5,Ho5⟩ := bs H
    clear H
    refine Tr.mid (ι := Unit) (fun v => ⟨100,0,[],[]⟩) (fun v => zAH n = some r) ?_ ?_
    ·refine tB<|Tr.loop (ι := Nat × (Int)) (fun v => ⟨100,0,[sI 8 v.2,sA 2 2 2 0],[(2,(fR (zR.row x0)))]⟩) (fun v => Zs n v.1 x0 v.2 = some o5) (fun v => v.1) (n,0) eo5 (St.sub_of [8,2] [2] kr) ?_
     rintro ⟨_ | mo5,y4⟩ H
     ·exact nN H
     have H : Zs n (mo5+1) x0 y4 = some o5 := H
     rw [Zs] at H
     refine tS<|rA 3<|kF x0.Pv intRow<|uA 1 0x20000000000000000000104 4 ?_
     obtain ⟨h4,H⟩ | ⟨h4,H⟩ := bC H
     ·refine nA h4<|Tr.exit<|aJ ?_
      cases H
      exact jA () Ho5 [] []
     refine tA h4<|tK<|tS<|tB<|bE H fun v6 ev6 H=> bE H fun r7 er7 H=> Tr.draws mixed 8 kr ⟨100,0,[sB 99 (decide (r7 < 0)),sI 8 y4,sA 2 2 2 0],[(2,(fR (zR.row x0)))]⟩ (fun cx=>?_) ?_
     ·refine aA [(0,[6]),(1,[]),(2,[6]),(3,[])] 4 [⟨[6],38,93,94⟩,⟨[6],40,2,92⟩] fun cx=>aI tOk 4 38 0 94 95 96 none ⟨(.box 2),[(0,0)],1,false,1,(CV.frzEs (x0.Pv.map intRow))⟩ y4 [cI v6] _ kr kr kr kr kr kr rfl (zHb ev6) rfl (fun cx=>?_)
      exact aA [(5,[])] 2 [⟨[6],38,93,94⟩,⟨[6],40,2,92⟩] fun cx=>bA 6<|vA [.rd,.rd] (zKU n x0 v6 r7 er7)<|fA<|aA [(7,[])] 0 [⟨[6],38,93,94⟩,⟨[6],40,2,92⟩] fun cx=>eE [99,8,2] [2]
     obtain ⟨h5,H⟩ | ⟨h5,H⟩ := bC H
     ·exact qT [99] h5<|nB_<|tK<|eA 3 260 4<|jB mo5 (wI (y4 + 1)) H [8,2] [2]
     refine qT [99] h5<|tB_<|gA 1 16 0<|te ?_
     cases H
     exact fF Ho5
    rintro _ H
    have H : (zAH n) = some r := H
    unfold zAH at H
    exact gA 1 16 0<|te (fT H)
   exact tA h3<|gA 1 16 0<|te (fF H)
  exact qL 524294 4 [19] h2<|uA 5 16777222 4<|tB_<|gA 1 16 0<|te (fF H)
 exact qL 4102 4 [12] h1<|uA 12 16777222 4<|tB_<|gA 1 16 0<|te (fF H)
def Q1 (n : Nat) (x0 : zA) : Option (Bool) :=
  ((zL n x0.Tk 0 1000000).bind fun r1 => (bif r1 then ((zL n x0.Pa 0 1000000).bind fun r2 => (bif r2 then ((zL n x0.Wo 0 1000000).bind fun r3 => (bif r3 then ((zL n x0.Dr 0 1000000).bind fun r4 => (bif r4 then ((zL n x0.Ve 0 1000000).bind fun r5 => (some r5)) else (some false))) else (some false))) else (some false))) else (some false)))
theorem zHw (n : Nat) (x0 : zA) (r : Bool) (H : Q1 n x0 = some r) : zG Try.prog 182 [.val true (fR (zA.row x0))] [.val false [.lit (.bool r)]] [] := by
 refine cW Try.func182 (fun g d => sl [g 0,g 1] .ret) [.tmp 2] fun cx=>?_
 unfold Q1 at H
 refine gA 2 2 2<|rA 2<|bE H fun r1 er1 H=> vA [.rd,.rd,.rd] (zM n x0.Tk 0 1000000 r1 er1)<|lA 1 ?_
 obtain ⟨h1,H⟩ | ⟨h1,H⟩ := bC H
 ·exact qL 66 2 [6] h1<|uA 20 4 0<|te (fF H)
 refine qL 66 2 [6] h1<|lA 2<|bE H fun r2 er2 H=> vA [.rd,.rd,.rd] (zM n x0.Pa 0 1000000 r2 er2)<|lA 2 ?_
 obtain ⟨h2,H⟩ | ⟨h2,H⟩ := bC H
 ·exact qL 2050 2 [11] h2<|uA 15 4 0<|te (fF H)
 refine qL 2050 2 [11] h2<|lA 2<|bE H fun r3 er3 H=> vA [.rd,.rd,.rd] (zM n x0.Wo 0 1000000 r3 er3)<|lA 2 ?_
 obtain ⟨h3,H⟩ | ⟨h3,H⟩ := bC H
 ·exact qL 65538 2 [16] h3<|uA 10 4 0<|te (fF H)
 refine qL 65538 2 [16] h3<|lA 2<|bE H fun r4 er4 H=> vA [.rd,.rd,.rd] (zM n x0.Dr 0 1000000 r4 er4)<|lA 2 ?_
 obtain ⟨h4,H⟩ | ⟨h4,H⟩ := bC H
 ·exact qL 2097154 2 [21] h4<|uA 5 4 0<|te (fF H)
 exact qL 2097154 2 [21] h4<|lA 2<|bE H fun r5 er5 H=> vA [.rd,.rd,.rd] (zM n x0.Ve 0 1000000 r5 er5)<|uA 2 4 0<|te (fJ [(false,[cB r5])] H)
def QI (n : Nat) (x0 : zA) : Option (Bool) :=
  ((zL n x0.Id 1 99).bind fun r2 => (bif r2 then (bif (decide ((x0.Name.size : Int) ≤ 10)) then ((zL n (x0.Ps.length : Int) 1 6).bind fun r3 => (bif r3 then ((ZK n x0.F).bind fun r4 => (bif r4 then ((qW n x0.V (x0.Ps.length : Int)).bind fun r5 => (bif r5 then ((Q1 n x0).bind fun r6 => (some r6)) else (some false))) else (some false))) else (some false))) else (some false)) else (some false)))
def zi (n : Nat) : Nat → zA → Int → Option ((Unit) ⊕ (Bool))
  | 0,_,_ => none
  | mo7 + 1,x0,y1 => (bif (decide (y1 < (x0.Ps.length : Int))) then ((idx x0.Ps y1).bind fun v8 => ((qE n v8).bind fun r9 => (bif (!r9) then (some (Sum.inr false)) else (zi n mo7 x0 (IntKind.wrap .i64 (y1 + 1)))))) else (some (Sum.inl ())))
def zN (n : Nat) (x0 : zA) : Option (Bool) :=
  ((zi n n x0 0).bind fun o => match o with | .inl _ => (QI n x0) | .inr r => some r)
theorem zCO (n : Nat) (x0 : zA) (r : Bool) (H : zN n x0 = some r) : zG Try.prog 161 [.val true (fR (zA.row x0))] [.val false [.lit (.bool r)]] [] := by
 refine cW Try.func161 (fun g d => sl [g 0,sl [g 1] (.block 0 (.loop (sl [sl [g 2] (cn 8 .skip (.exit 0)),.block 1 (sl [g 4] (cn 17 (sl [g 5] .ret) .skip))] (g 3)))),g 6] .ret) [.tmp 2] fun cx=>?_
 unfold zN at H
 refine gA 2 2 2<|tS<|gA 1 10 2 ?_
 obtain ⟨o7,eo7,Ho7⟩ := bs H
 clear H
 refine Tr.mid (ι := Unit) (fun v => ⟨50,0,[sA 1 1 11 0],[(1,(fR (zA.row x0)))]⟩) (fun v => QI n x0 = some r) ?_ ?_
 ·refine tB<|Tr.loop (ι := Nat × (Int)) (fun v => ⟨50,0,[sI 3 v.2,sA 1 1 11 0],[(1,(fR (zA.row x0)))]⟩) (fun v => zi n v.1 x0 v.2 = some o7) (fun v => v.1) (n,0) eo7 (St.sub_of [3,1] [1] kr) ?_
  rintro ⟨_ | mo7,y1⟩ H
  ·exact nN H
  have H : zi n (mo7+1) x0 y1 = some o7 := H
  rw [zi] at H
  refine tS<|rA 3<|kF x0.Ps Pt.row<|uA 1 266 2 ?_
  obtain ⟨h6,H⟩ | ⟨h6,H⟩ := bC H
  ·refine nA h6<|Tr.exit<|aJ ?_
   cases H
   exact jA () Ho7 [1] [1]
  refine tA h6<|tK<|tS<|tB<|rA 3<|bE H fun v8 ev8 H=> iA Pt.row ev8<|lA 1<|bE H fun r9 er9 H=> vA [.rd] (zK9 n v8 r9 er9)<|uA 1 131082 2 ?_
  obtain ⟨h7,H⟩ | ⟨h7,H⟩ := bC H
  ·exact nA h7<|tK<|eA 3 10 2<|jB mo7 (wI (y1 + 1)) H [3,1] [1]
  refine tA h7<|gA 1 4 0<|te ?_
  cases H
  exact fF Ho7
 rintro _ H
 have H : (QI n x0) = some r := H
 unfold QI at H
 refine rA 2<|bE H fun r2 er2 H=> vA [.rd,.rd,.rd] (zM n x0.Id 1 99 r2 er2)<|lA 1 ?_
 obtain ⟨h1,H⟩ | ⟨h1,H⟩ := bC H
 ·exact qL 2097154 2 [21] h1<|uA 29 4 0<|te (fF H)
 refine qL 2097154 2 [21] h1<|lA 6 ?_
 obtain ⟨h2,H⟩ | ⟨h2,H⟩ := bC H
 ·exact qL 134217730 2 [27] h2<|uA 23 4 0<|te (fF H)
 refine qL 134217730 2 [27] h2<|lA 2<|kF x0.Ps Pt.row<|bE H fun r3 er3 H=> vA [.rd,.rd,.rd] (zM n (x0.Ps.length : Int) 1 6 r3 er3)<|lA 2 ?_
 obtain ⟨h3,H⟩ | ⟨h3,H⟩ := bC H
 ·exact qL 8589934594 2 [33] h3<|uA 17 4 0<|te (fF H)
 refine qL 8589934594 2 [33] h3<|lA 2<|bE H fun r4 er4 H=> vA [.rd] (zKT n x0.F r4 er4)<|lA 2 ?_
 obtain ⟨h4,H⟩ | ⟨h4,H⟩ := bC H
 ·exact qL 274877906946 2 [38] h4<|uA 12 4 0<|te (fF H)
 refine qL 274877906946 2 [38] h4<|lA 4<|kF x0.Ps Pt.row<|bE H fun r5 er5 H=> vA [.rd,.rd] (zJi n x0.V (x0.Ps.length : Int) r5 er5)<|lA 2 ?_
 obtain ⟨h5,H⟩ | ⟨h5,H⟩ := bC H
 ·exact qL 70368744177666 2 [46] h5<|uA 4 4 0<|te (fF H)
 exact qL 70368744177666 2 [46] h5<|lA 1<|bE H fun r6 er6 H=> vA [.rd] (zHw n x0 r6 er6)<|uA 2 4 0<|te (fJ [(false,[cB r6])] H)
def Qs (n : Nat) (x0 : Net) : Option (Bool) :=
  ((zL n (x0.Bs.length : Int) 1 6).bind fun r2 => (some r2))
def Qu (n : Nat) (k : (Int → Option ((Unit) ⊕ (Bool)))) (y1 : Int) : Option ((Unit) ⊕ (Bool)) :=
  (k (IntKind.wrap .i64 (y1 + 1)))
def qX (n : Nat) : Nat → Net → Int → Int → Option ((Unit) ⊕ (Bool))
  | 0,_,_,_ => none
  | mo8 + 1,x0,y1,y7 => ((idx x0.Bs y1).bind fun v9 => (bif (decide (y7 < (v9.Ps.length : Int))) then ((idx x0.Bs y1).bind fun v10 => ((idx v10.Ps y7).bind fun v11 => (bif v11.Has then ((Zh n x0 y1 y7).bind fun r12 => (bif (r12 == 0) then (some (Sum.inr false)) else (qX n mo8 x0 y1 (IntKind.wrap .i64 (y7 + 1))))) else (qX n mo8 x0 y1 (IntKind.wrap .i64 (y7 + 1)))))) else (some (Sum.inl ()))))
def Qt (n : Nat) (k : (Int → Option ((Unit) ⊕ (Bool)))) (x0 : Net) (y1 : Int) : Option ((Unit) ⊕ (Bool)) :=
  ((qX n n x0 y1 0).bind fun o => match o with | .inl _ => (Qu n k y1) | .inr r => some (Sum.inr r))
def qk (n : Nat) : Nat → Net → Int → Int → Option ((Unit) ⊕ (Bool))
  | 0,_,_,_ => none
  | mo13 + 1,x0,y1,y6 => (bif (decide (y6 < y1)) then ((idx x0.Bs y6).bind fun v14 => ((idx x0.Bs y1).bind fun v15 => (bif (v14.Id == v15.Id) then (some (Sum.inr false)) else (qk n mo13 x0 y1 (IntKind.wrap .i64 (y6 + 1)))))) else (some (Sum.inl ())))
def zb (n : Nat) : Nat → Net → Int → Option ((Unit) ⊕ (Bool))
  | 0,_,_ => none
  | mo3 + 1,x0,y1 => (bif (decide (y1 < (x0.Bs.length : Int))) then ((idx x0.Bs y1).bind fun v4 => ((zN n v4).bind fun r5 => (bif (!r5) then (some (Sum.inr false)) else ((qk n n x0 y1 0).bind fun o => match o with | .inl _ => (Qt n (fun v => zb n mo3 x0 v) x0 y1) | .inr r => some (Sum.inr r))))) else (some (Sum.inl ())))
def YT (n : Nat) (x0 : Net) : Option (Bool) :=
  ((zb n n x0 0).bind fun o => match o with | .inl _ => (Qs n x0) | .inr r => some r)
def zMe : Tab := ⟨13,[0,1,0,6,8,16,0,64,0,384,512,1024,2080],[0,1,0,6,8,16,0,64,0,384,512,1024,2080],[0,1,0,7,15,31,0,64,0,448,960,1984,4095]⟩
theorem zDn : zk (rg Try.f185 9) zMe = true := kr
theorem zHJ (n : Nat) (x0 : Net) (r : Bool) (H : YT n x0 = some r) : zG Try.prog 185 [.val true (fR (Net.row x0))] [.val false [.lit (.bool r)]] [] := by
 refine cW Try.func185 (fun g d => sl [g 0,sl [g 1] (.block 0 (.loop (sl [sl [g 2] (cn 10 .skip (.exit 0)),.block 1 (sl [sl [g 4] (cn 19 (sl [g 5] .ret) .skip),sl [g 6] (.block 2 (.loop (sl [sl [g 7] (cn 22 .skip (.exit 2)),.block 3 (sl [d 9] (cn 37 (sl [g 10] .ret) .skip))] (g 8)))),g 11] (.block 4 (.loop (sl [sl [g 12] (cn 46 .skip (.exit 4)),.block 5 (sl [g 14] (cn 65 (sl [g 15] .ret) .skip))] (g 13)))))] (g 3)))),g 16] .ret) [.tmp 2] fun cx=>?_
 unfold YT at H
 refine gA 2 2 2<|tS<|gA 1 10 2 ?_
 obtain ⟨o3,eo3,Ho3⟩ := bs H
 clear H
 refine Tr.mid (ι := Unit) (fun v => ⟨70,0,[sA 1 1 3 0],[(1,(fR (Net.row x0)))]⟩) (fun v => Qs n x0 = some r) ?_ ?_
 ·refine tB<|Tr.loop (ι := Nat × (Int)) (fun v => ⟨70,0,[sI 3 v.2,sA 1 1 3 0],[(1,(fR (Net.row x0)))]⟩) (fun v => zb n v.1 x0 v.2 = some o3) (fun v => v.1) (n,0) eo3 (St.sub_of [3,1] [1] kr) ?_
  rintro ⟨_ | mo3,y1⟩ H
  ·exact nN H
  have H : zb n (mo3+1) x0 y1 = some o3 := H
  rw [zb] at H
  refine tS<|rA 3<|kF x0.Bs zA.row<|uA 1 1034 2 ?_
  obtain ⟨h1,H⟩ | ⟨h1,H⟩ := bC H
  ·refine nA h1<|Tr.exit<|aJ ?_
   cases H
   exact jA () Ho3 [1] [1]
  refine tA h1<|tK<|tS<|tB<|tS<|rA 3<|bE H fun v4 ev4 H=> iA zA.row ev4<|lA 1<|bE H fun r5 er5 H=> vA [.rd] (zCO n v4 r5 er5)<|uA 1 524298 2 ?_
  obtain ⟨h2,H⟩ | ⟨h2,H⟩ := bC H
  ·refine nA h2<|tK<|tS<|gA 1 26 2 ?_
   obtain ⟨o13,eo13,Ho13⟩ := bs H
   clear H
   refine Tr.mid (ι := Unit) (fun v => ⟨70,0,[sI 3 y1,sA 1 1 3 0],[(1,(fR (Net.row x0)))]⟩) (fun v => Qt n (fun v => zb n mo3 x0 v) x0 y1 = some o3) ?_ ?_
   ·refine tB<|Tr.loop (ι := Nat × (Int)) (fun v => ⟨70,0,[sI 4 v.2,sI 3 y1,sA 1 1 3 0],[(1,(fR (Net.row x0)))]⟩) (fun v => qk n v.1 x0 y1 v.2 = some o13) (fun v => v.1) (n,0) eo13 (St.sub_of [4,3,1] [1] kr) ?_
    rintro ⟨_ | mo13,y6⟩ H
    ·exact nN H
    have H : qk n (mo13+1) x0 y1 y6 = some o13 := H
    rw [qk] at H
    refine tS<|gA 3 4194330 2 ?_
    obtain ⟨h6,H⟩ | ⟨h6,H⟩ := bC H
    ·refine nA h6<|Tr.exit<|aJ ?_
     cases H
     exact jA () Ho13 [3,1] [1]
    refine tA h6<|tK<|tS<|tB<|bE H fun v14 ev14 H=> bE H fun v15 ev15 H=> Tr.draws mixed 13 kr ⟨70,0,[sB 37 (v14.Id == v15.Id),sI 4 y6,sI 3 y1,sA 1 1 3 0],[(1,(fR (Net.row x0)))]⟩ (fun cx=>?_) ?_
    ·exact mA zDn (zl [0,1,2]) 10 [⟨[],53,25,26⟩] fun cx=>iN zDn 3 zA.row ev14 fun cx=>mA zDn (zl [4,5,6,7,8]) 4 [⟨[],53,31,32⟩,⟨[],53,25,26⟩] fun cx=>iN zDn 9 zA.row ev15 fun cx=>mA zDn (zl [10,11,12]) 0 [⟨[],53,31,32⟩,⟨[],53,25,26⟩] fun cx=>mE zDn [37,4,3,1] [1]
    obtain ⟨h7,H⟩ | ⟨h7,H⟩ := bC H
    ·exact qT [37] h7<|nB_<|tK<|eA 3 26 2<|jB mo13 (wI (y6 + 1)) H [4,3,1] [1]
    refine qT [37] h7<|tB_<|gA 1 4 0<|te ?_
    obtain rfl := si H
    have H := Ho13
    dsimp only at H
    cases H
    exact fF Ho3
   rintro _ H
   have H : (Qt n (fun v => zb n mo3 x0 v) x0 y1) = some o3 := H
   unfold Qt at H
   refine gA 1 42 2 ?_
   obtain ⟨o8,eo8,Ho8⟩ := bs H
   clear H
   refine Tr.mid (ι := Unit) (fun v => ⟨70,0,[sI 3 y1,sA 1 1 3 0],[(1,(fR (Net.row x0)))]⟩) (fun v => Qu n (fun v => zb n mo3 x0 v) y1 = some o3) ?_ ?_
   ·refine tB<|Tr.loop (ι := Nat × (Int)) (fun v => ⟨70,0,[sI 5 v.2,sI 3 y1,sA 1 1 3 0],[(1,(fR (Net.row x0)))]⟩) (fun v => qX n v.1 x0 y1 v.2 = some o8) (fun v => v.1) (n,0) eo8 (St.sub_of [5,3,1] [1] kr) ?_
    rintro ⟨_ | mo8,y7⟩ H
    ·exact nN H
    have H : qX n (mo8+1) x0 y1 y7 = some o8 := H
    rw [qX] at H
    refine tS<|rA 4<|bE H fun v9 ev9 H=> iA zA.row ev9<|lA 2<|kF v9.Ps Pt.row<|uA 1 70368744177706 2 ?_
    obtain ⟨h3,H⟩ | ⟨h3,H⟩ := bC H
    ·refine nA h3<|Tr.exit<|aJ ?_
     cases H
     exact jA () Ho8 [3,1] [1]
    refine tA h3<|tK<|tS<|tB<|rA 3<|bE H fun v10 ev10 H=> iA zA.row ev10<|lA 3<|bE H fun v11 ev11 H=> iA Pt.row ev11<|lA 3 ?_
    obtain ⟨h4,H⟩ | ⟨h4,H⟩ := bC H
    ·exact qL 0x80000000000002a 2 [59] h4<|uA 6 0x2000000000000002a 2<|nB_<|tK<|eA 3 42 2<|jB mo8 (wI (y7 + 1)) H [5,3,1] [1]
    refine qL 0x80000000000002a 2 [59] h4<|lA 3<|bE H fun r12 er12 H=> vA [.rd,.rd,.rd] (JJ n x0 y1 y7 r12 er12)<|uA 2 0x2000000000000002a 2 ?_
    obtain ⟨h5,H⟩ | ⟨h5,H⟩ := bC H
    ·exact nA h5<|tK<|eA 3 42 2<|jB mo8 (wI (y7 + 1)) H [5,3,1] [1]
    refine tA h5<|gA 1 4 0<|te ?_
    obtain rfl := si H
    have H := Ho8
    dsimp only at H
    cases H
    exact fF Ho3
   rintro _ H
   have H : (Qu n (fun v => zb n mo3 x0 v) y1) = some o3 := H
   unfold Qu at H
   exact eA 3 10 2<|jB mo3 (wI (y1 + 1)) H [3,1] [1]
  refine tA h2<|gA 1 4 0<|te ?_
  cases H
  exact fF Ho3
 rintro _ H
 have H : (Qs n x0) = some r := H
 unfold Qs at H
 exact rA 2<|kF x0.Bs zA.row<|bE H fun r2 er2 H=> vA [.rd,.rd,.rd] (zM n (x0.Bs.length : Int) 1 6 r2 er2)<|uA 1 4 0<|te (fJ [(false,[cB r2])] H)
def JH (n : Nat) (x0 : Net) (x1 : Int) (x2 : Int) : Option (Bool) :=
  ((zL n x1 0 (IntKind.wrap .i64 ((x0.Bs.length : Int) - 1))).bind fun r1 => (bif r1 then ((idx x0.Bs x1).bind fun v2 => ((zL n x2 0 (IntKind.wrap .i64 ((v2.Ps.length : Int) - 1))).bind fun r3 => (bif r3 then ((Zh n x0 x1 x2).bind fun r4 => (some (r4 == 1))) else (some false)))) else (some false)))
theorem zAV (n : Nat) (x0 : Net) (x1 : Int) (x2 : Int) (r : Bool) (H : JH n x0 x1 x2 = some r) : zG Try.prog 186 [.val true (fR (Net.row x0)),.val false [.lit (.int .i64 x1)],.val false [.lit (.int .i64 x2)]] [.val false [.lit (.bool r)]] [] := by
 refine cW Try.func186 (fun g d => sl [g 0,g 1] .ret) [.tmp 6] fun cx=>?_
 unfold JH at H
 refine gA 2 14 8<|rA 3<|kF x0.Bs zA.row<|lA 1<|bE H fun r1 er1 H=> vA [.rd,.rd,.rd] (zM n x1 0 (wI ((x0.Bs.length : Int) - 1)) r1 er1)<|lA 1 ?_
 obtain ⟨h1,H⟩ | ⟨h1,H⟩ := bC H
 ·exact qL 8206 8 [13] h1<|uA 19 64 0<|te (fF H)
 refine qL 8206 8 [13] h1<|lA 4<|bE H fun v2 ev2 H=> iA zA.row ev2<|lA 2<|kF v2.Ps Pt.row<|lA 1<|bE H fun r3 er3 H=> vA [.rd,.rd,.rd] (zM n x2 0 (wI ((v2.Ps.length : Int) - 1)) r3 er3)<|lA 2 ?_
 obtain ⟨h2,H⟩ | ⟨h2,H⟩ := bC H
 ·exact qL 33554446 8 [25] h2<|uA 7 64 0<|te (fF H)
 exact qL 33554446 8 [25] h2<|lA 3<|bE H fun r4 er4 H=> vA [.rd,.rd,.rd] (JJ n x0 x1 x2 r4 er4)<|uA 3 64 0<|te (fJ [(false,[cB (r4 == 1)])] H)
def zAh (n : Nat) : Option (Bool) :=
  (some true)
def q4 (n : Nat) : Nat → Net → Int → Option ((Unit) ⊕ (Bool))
  | 0,_,_ => none
  | mo4 + 1,x0,y3 => (bif (decide (y3 < (x0.Said.length : Int))) then ((idx x0.Said y3).bind fun v5 => ((zL n v5.Link 0 (IntKind.wrap .i64 ((x0.Ls.length : Int) - 1))).bind fun r6 => (bif (!r6) then (some (Sum.inr false)) else ((idx x0.Said y3).bind fun v7 => ((zw n v7.V).bind fun r8 => (bif (!r8) then (some (Sum.inr false)) else (q4 n mo4 x0 (IntKind.wrap .i64 (y3 + 1))))))))) else (some (Sum.inl ())))
def Ye (n : Nat) (x0 : Net) : Option (Bool) :=
  ((q4 n n x0 0).bind fun o => match o with | .inl _ => (zAh n) | .inr r => some r)
def qv (n : Nat) : Nat → Net → Int → Option ((Unit) ⊕ (Bool))
  | 0,_,_ => none
  | mo9 + 1,x0,y2 => (bif (decide (y2 < (x0.Ls.length : Int))) then ((idx x0.Ls y2).bind fun v10 => (bif (v10.A == v10.B) then (some (Sum.inr false)) else ((JH n x0 v10.A v10.P).bind fun r11 => (bif (!r11) then (some (Sum.inr false)) else ((JH n x0 v10.B v10.Q).bind fun r12 => (bif (!r12) then (some (Sum.inr false)) else ((idx x0.Bs v10.A).bind fun v13 => ((idx v13.Ps v10.P).bind fun v14 => ((idx x0.Bs v10.B).bind fun v15 => ((idx v15.Ps v10.Q).bind fun v16 => (bif (!(v14.Up == v16.Up)) then (some (Sum.inr false)) else (qv n mo9 x0 (IntKind.wrap .i64 (y2 + 1)))))))))))))) else (some (Sum.inl ())))
def QS (n : Nat) (x0 : Net) : Option (Bool) :=
  ((YT n x0).bind fun r1 => (bif (!r1) then (some false) else (bif (decide ((x0.Ls.length : Int) > 9)) then (some false) else (bif (decide ((x0.Said.length : Int) > 40)) then (some false) else ((qv n n x0 0).bind fun o => match o with | .inl _ => (Ye n x0) | .inr r => some r)))))
def zMU : Tab := ⟨50,[0,1,0,4,10,16,32,32,160,32,544,1376,2080,4128,10240,16384,16384,81920,16384,278528,704512,1064960,2113536,5242880,8388608,25165824,8388608,75497472,176160768,276824064,545259520,8388608,2155872256,5377097728,8598323200,17188257792,8388608,68727865344,8388608,274886295552,687203155968,1099520016384,2199031644160,8388608,8796101410816,21990240944128,35184380477440,70368752566272,0x800800800000,281474985099264],[0,1,0,4,10,16,32,32,160,32,544,1376,2080,4128,8192,16384,16384,81920,16384,278528,704512,1064960,2113536,4194304,8388608,25165824,8388608,75497472,176160768,276824064,545259520,8388608,2155872256,5377097728,8598323200,17188257792,8388608,68727865344,8388608,274886295552,687203155968,1099520016384,2199031644160,8388608,8796101410816,21990240944128,35184380477440,70368752566272,0x800800800000,281474985099264],[0,1,0,4,15,31,63,63,191,63,575,2047,4095,8191,16383,32767,32767,98303,32767,294911,1048575,2097151,4194303,8388607,16777215,33554431,16777215,83886079,268435455,536870911,1073741823,16777215,2164260863,8589934591,17179869183,34359738367,16777215,68736253951,16777215,274894684159,0xf000ffffff,2130320556031,4329343811583,16777215,8796109799423,35115669389311,70300041478143,0x7ff000ffffff,0xffffffffffff,562949953421311]⟩
theorem qU : zk (rg Try.f165 7) zMU = true := kr
def zLz : Tab := ⟨22,[0,1,0,6,8,16,0,64,128,256,544,1024,3072,4096,12288,4096,53248,69632,135168,266240,528384,1052672],[0,1,0,6,8,16,0,64,128,256,544,1024,2048,4096,12288,4096,53248,69632,135168,266240,528384,1052672],[0,1,0,7,15,31,0,64,192,448,1023,2047,4095,8191,16383,8191,65535,131071,262143,524287,1048575,2097151]⟩
theorem ZF : zk (rg Try.f165 12) zLz = true := kr
theorem zHG (n : Nat) (x0 : Net) (r : Bool) (H : QS n x0 = some r) : zG Try.prog 165 [.val true (fR (Net.row x0))] [.val false [.lit (.bool r)]] [] := by
 refine cW Try.func165 (fun g d => sl [g 0,sl [g 1] (cn 20 (sl [g 2] .ret) .skip),sl [g 3] (.block 0 (.loop (sl [sl [g 4] (cn 25 .skip (.exit 0)),.block 1 (sl [g 6,d 7] (cn 82 (sl [g 8] .ret) .skip))] (g 5)))),sl [g 9] (.block 2 (.loop (sl [sl [g 10] (cn 87 .skip (.exit 2)),.block 3 (sl [d 12] (cn 111 (sl [g 13] .ret) .skip))] (g 11)))),g 14] .ret) [.tmp 2] fun cx=>?_
 unfold QS at H
 refine gA 2 2 2<|tS<|rA 1<|bE H fun r1 er1 H=> vA [.rd] (zHJ n x0 r1 er1)<|lA 2 ?_
 obtain ⟨h1,H⟩ | ⟨h1,H⟩ := bC H
 ·refine qL 514 2 [9] h1<|lA 2<|kF x0.Ls Link.row<|lA 3 ?_
  obtain ⟨h2,H⟩ | ⟨h2,H⟩ := bC H
  ·refine qL 32770 2 [15] h2<|lA 2<|kF x0.Said Say.row<|uA 2 1048578 2 ?_
   obtain ⟨h3,H⟩ | ⟨h3,H⟩ := bC H
   ·refine nA h3<|tK<|tS<|gA 1 10 2 ?_
    obtain ⟨o9,eo9,Ho9⟩ := bs H
    clear H
    refine Tr.mid (ι := Unit) (fun v => ⟨112,0,[sA 1 1 3 0],[(1,(fR (Net.row x0)))]⟩) (fun v => Ye n x0 = some r) ?_ ?_
    ·refine tB<|Tr.loop (ι := Nat × (Int)) (fun v => ⟨112,0,[sI 3 v.2,sA 1 1 3 0],[(1,(fR (Net.row x0)))]⟩) (fun v => qv n v.1 x0 v.2 = some o9) (fun v => v.1) (n,0) eo9 (St.sub_of [3,1] [1] kr) ?_
     rintro ⟨_ | mo9,y2⟩ H
     ·exact nN H
     have H : qv n (mo9+1) x0 y2 = some o9 := H
     rw [qv] at H
     refine tS<|rA 3<|kF x0.Ls Link.row<|uA 1 33554442 2 ?_
     obtain ⟨h7,H⟩ | ⟨h7,H⟩ := bC H
     ·refine nA h7<|Tr.exit<|aJ ?_
      cases H
      exact jA () Ho9 [1] [1]
     refine tA h7<|tK<|tS<|tB<|rA 3<|bE H fun v10 ev10 H=> iA Link.row ev10<|uA 3 26 18<|sT ⟨112,0,[sA 4 4 4 0,sI 3 y2,sA 1 1 3 0],[(4,(Link.row v10)),(1,(fR (Net.row x0)))]⟩ ?_
     cases h8 : (v10.A == v10.B)
     ·have H := Z6 h8 H
      refine bE H fun r11 er11 H=> sT ⟨112,0,[sA 4 4 4 0,sI 3 y2,sA 1 1 3 0],[(4,(Link.row v10)),(1,(fR (Net.row x0)))]⟩ ?_
      cases h9 : (!r11)
      ·have H := Z6 h9 H
       refine bE H fun r12 er12 H=> sT ⟨112,0,[sA 4 4 4 0,sI 3 y2,sA 1 1 3 0],[(4,(Link.row v10)),(1,(fR (Net.row x0)))]⟩ ?_
       cases h10 : (!r12)
       ·have H := Z6 h10 H
        refine bE H fun v13 ev13 H=> bE H fun v14 ev14 H=> bE H fun v15 ev15 H=> bE H fun v16 ev16 H=> Tr.draws mixed 50 kr ⟨112,0,[sB 82 (!(v14.Up == v16.Up)),sI 3 y2,sA 1 1 3 0],[(1,(fR (Net.row x0)))]⟩ (fun cx=>?_) ?_
        ·refine mA qU [(0,[]),(1,[11,20]),(2,[]),(3,[11,20]),(4,[]),(5,[])] 44 [⟨[11,20],3,35,36⟩,⟨[11,20],3,33,34⟩] fun cx=>qA 403726925850 18 [38] h8<|mA qU [(6,[11,20]),(7,[]),(8,[11,20]),(9,[]),(10,[11,20])] 39 [⟨[11,20],3,42,43⟩,⟨[11,20],3,40,41⟩,⟨[11,20],76,1,39⟩,⟨[11,20],3,35,36⟩,⟨[11,20],3,33,34⟩] fun cx=>mC qU 11<|vA [.rd,.rd,.rd] (zAV n x0 v10.A v10.P r11 er11)<|fA<|mA qU (zl [12,13,14]) 35 [⟨[11,20],3,42,43⟩,⟨[11,20],3,40,41⟩,⟨[11,20],76,1,39⟩,⟨[11,20],3,35,36⟩,⟨[11,20],3,33,34⟩] fun cx=>qA 0x8f9e0000001a 18 [47] h9<|mA qU [(15,[20]),(16,[]),(17,[20]),(18,[]),(19,[20])] 30 [⟨[20],3,51,52⟩,⟨[20],3,49,50⟩,⟨[20],76,1,48⟩,⟨[11,20],3,42,43⟩,⟨[11,20],3,40,41⟩,⟨[11,20],76,1,39⟩,⟨[11,20],3,35,36⟩,⟨[11,20],3,33,34⟩] fun cx=>mC qU 20<|vA [.rd,.rd,.rd] (zAV n x0 v10.B v10.Q r12 er12)<|fA<|mA qU (zl [21,22,23]) 26 [⟨[20],3,51,52⟩,⟨[20],3,49,50⟩,⟨[20],76,1,48⟩,⟨[11,20],3,42,43⟩,⟨[11,20],3,40,41⟩,⟨[11,20],76,1,39⟩,⟨[11,20],3,35,36⟩,⟨[11,20],3,33,34⟩] fun cx=>qA 80800489595207706 18 [56] h10<|mA qU (zl [24,25,26,27]) 22 [⟨[],3,59,60⟩,⟨[],53,57,58⟩,⟨[20],3,51,52⟩,⟨[20],3,49,50⟩,⟨[20],76,1,48⟩,⟨[11,20],3,42,43⟩,⟨[11,20],3,40,41⟩,⟨[11,20],76,1,39⟩,⟨[11,20],3,35,36⟩,⟨[11,20],3,33,34⟩] fun cx=>iN qU 28 zA.row ev13 fun cx=>mA qU (zl [29,30,31,32]) 17 [⟨[],3,64,65⟩,⟨[],3,59,60⟩,⟨[],53,57,58⟩,⟨[20],3,51,52⟩,⟨[20],3,49,50⟩,⟨[20],76,1,48⟩,⟨[11,20],3,42,43⟩,⟨[11,20],3,40,41⟩,⟨[11,20],76,1,39⟩,⟨[11,20],3,35,36⟩,⟨[11,20],3,33,34⟩] fun cx=>?_
         exact iN qU 33 Pt.row ev14 fun cx=>mA qU (zl [34,35,36,37,38,39]) 10 [⟨[],3,71,72⟩,⟨[],53,69,70⟩,⟨[],3,64,65⟩,⟨[],3,59,60⟩,⟨[],53,57,58⟩,⟨[20],3,51,52⟩,⟨[20],3,49,50⟩,⟨[20],76,1,48⟩,⟨[11,20],3,42,43⟩,⟨[11,20],3,40,41⟩,⟨[11,20],76,1,39⟩,⟨[11,20],3,35,36⟩,⟨[11,20],3,33,34⟩] fun cx=>iN qU 40 zA.row ev15 fun cx=>mA qU (zl [41,42,43,44]) 5 [⟨[],3,76,77⟩,⟨[],3,71,72⟩,⟨[],53,69,70⟩,⟨[],3,64,65⟩,⟨[],3,59,60⟩,⟨[],53,57,58⟩,⟨[20],3,51,52⟩,⟨[20],3,49,50⟩,⟨[20],76,1,48⟩,⟨[11,20],3,42,43⟩,⟨[11,20],3,40,41⟩,⟨[11,20],76,1,39⟩,⟨[11,20],3,35,36⟩,⟨[11,20],3,33,34⟩] fun cx=>iN qU 45 Pt.row ev16 fun cx=>mA qU (zl [46,47,48,49]) 0 [⟨[],3,76,77⟩,⟨[],3,71,72⟩,⟨[],53,69,70⟩,⟨[],3,64,65⟩,⟨[],3,59,60⟩,⟨[],53,57,58⟩,⟨[20],3,51,52⟩,⟨[20],3,49,50⟩,⟨[20],76,1,48⟩,⟨[11,20],3,42,43⟩,⟨[11,20],3,40,41⟩,⟨[11,20],76,1,39⟩,⟨[11,20],3,35,36⟩,⟨[11,20],3,33,34⟩] fun cx=>mE qU [82,3,1] [1]
        obtain ⟨h11,H⟩ | ⟨h11,H⟩ := bC H
        ·exact qT [82] h11<|nB_<|tK<|eA 3 10 2<|jB mo9 (wI (y2 + 1)) H [3,1] [1]
        refine qT [82] h11<|tB_<|gA 1 4 0<|te ?_
        cases H
        exact fF Ho9
       have H := Z7 h10 H
       refine Tr.draws mixed 50 kr ⟨112,0,[sB 82 true,sI 3 y2,sA 1 1 3 0],[(1,(fR (Net.row x0)))]⟩ (fun cx=>?_) ?_
       ·exact mA qU [(0,[]),(1,[11,20]),(2,[]),(3,[11,20]),(4,[]),(5,[])] 44 [⟨[11,20],3,35,36⟩,⟨[11,20],3,33,34⟩] fun cx=>qA 403726925850 18 [38] h8<|mA qU [(6,[11,20]),(7,[]),(8,[11,20]),(9,[]),(10,[11,20])] 39 [⟨[11,20],3,42,43⟩,⟨[11,20],3,40,41⟩,⟨[11,20],76,1,39⟩,⟨[11,20],3,35,36⟩,⟨[11,20],3,33,34⟩] fun cx=>mC qU 11<|vA [.rd,.rd,.rd] (zAV n x0 v10.A v10.P r11 er11)<|fA<|mA qU (zl [12,13,14]) 35 [⟨[11,20],3,42,43⟩,⟨[11,20],3,40,41⟩,⟨[11,20],76,1,39⟩,⟨[11,20],3,35,36⟩,⟨[11,20],3,33,34⟩] fun cx=>qA 0x8f9e0000001a 18 [47] h9<|mA qU [(15,[20]),(16,[]),(17,[20]),(18,[]),(19,[20])] 30 [⟨[20],3,51,52⟩,⟨[20],3,49,50⟩,⟨[20],76,1,48⟩,⟨[11,20],3,42,43⟩,⟨[11,20],3,40,41⟩,⟨[11,20],76,1,39⟩,⟨[11,20],3,35,36⟩,⟨[11,20],3,33,34⟩] fun cx=>mC qU 20<|vA [.rd,.rd,.rd] (zAV n x0 v10.B v10.Q r12 er12)<|fA<|mA qU (zl [21,22,23]) 26 [⟨[20],3,51,52⟩,⟨[20],3,49,50⟩,⟨[20],76,1,48⟩,⟨[11,20],3,42,43⟩,⟨[11,20],3,40,41⟩,⟨[11,20],76,1,39⟩,⟨[11,20],3,35,36⟩,⟨[11,20],3,33,34⟩] fun cx=>qA 80800489595207706 18 [56] h10<|mA qU (zl [24,25,26,27,28,29,30,31,32,33,34,35,36,37,38,39,40,41,42,43,44,45,46,47,48,49]) 0 [⟨[20],3,51,52⟩,⟨[20],3,49,50⟩,⟨[20],76,1,48⟩,⟨[11,20],3,42,43⟩,⟨[11,20],3,40,41⟩,⟨[11,20],76,1,39⟩,⟨[11,20],3,35,36⟩,⟨[11,20],3,33,34⟩] fun cx=>mE qU [82,3,1] [1]
       refine tB_<|gA 1 4 0<|te ?_
       cases H
       exact fF Ho9
      have H := Z7 h9 H
      refine Tr.draws mixed 50 kr ⟨112,0,[sB 82 true,sI 3 y2,sA 1 1 3 0],[(1,(fR (Net.row x0)))]⟩ (fun cx=>?_) ?_
      ·exact mA qU [(0,[]),(1,[11]),(2,[]),(3,[11]),(4,[]),(5,[])] 44 [⟨[11],3,35,36⟩,⟨[11],3,33,34⟩] fun cx=>qA 403726925850 18 [38] h8<|mA qU [(6,[11]),(7,[]),(8,[11]),(9,[]),(10,[11])] 39 [⟨[11],3,42,43⟩,⟨[11],3,40,41⟩,⟨[11],76,1,39⟩,⟨[11],3,35,36⟩,⟨[11],3,33,34⟩] fun cx=>mC qU 11<|vA [.rd,.rd,.rd] (zAV n x0 v10.A v10.P r11 er11)<|fA<|mA qU (zl [12,13,14]) 35 [⟨[11],3,42,43⟩,⟨[11],3,40,41⟩,⟨[11],76,1,39⟩,⟨[11],3,35,36⟩,⟨[11],3,33,34⟩] fun cx=>qA 0x8f9e0000001a 18 [47] h9<|mA qU (zl [15,16,17,18,19,20,21,22,23,24,25,26,27,28,29,30,31,32,33,34,35,36,37,38,39,40,41,42,43,44,45,46,47,48,49]) 0 [⟨[11],3,42,43⟩,⟨[11],3,40,41⟩,⟨[11],76,1,39⟩,⟨[11],3,35,36⟩,⟨[11],3,33,34⟩] fun cx=>mE qU [82,3,1] [1]
      refine tB_<|gA 1 4 0<|te ?_
      cases H
      exact fF Ho9
     have H := Z7 h8 H
     refine Tr.draws mixed 50 kr ⟨112,0,[sB 82 true,sI 3 y2,sA 1 1 3 0],[(1,(fR (Net.row x0)))]⟩ (fun cx=>?_) ?_
     ·exact mA qU (zl [0,1,2,3,4,5]) 44 [⟨[],3,35,36⟩,⟨[],3,33,34⟩] fun cx=>qA 403726925850 18 [38] h8<|mA qU (zl [6,7,8,9,10,11,12,13,14,15,16,17,18,19,20,21,22,23,24,25,26,27,28,29,30,31,32,33,34,35,36,37,38,39,40,41,42,43,44,45,46,47,48,49]) 0 [⟨[],3,35,36⟩,⟨[],3,33,34⟩] fun cx=>mE qU [82,3,1] [1]
     refine tB_<|gA 1 4 0<|te ?_
     cases H
     exact fF Ho9
    rintro _ H
    have H : (Ye n x0) = some r := H
    unfold Ye at H
    refine tS<|gA 1 34 2 ?_
    obtain ⟨o4,eo4,Ho4⟩ := bs H
    clear H
    refine Tr.mid (ι := Unit) (fun v => ⟨112,0,[],[]⟩) (fun v => zAh n = some r) ?_ ?_
    ·refine tB<|Tr.loop (ι := Nat × (Int)) (fun v => ⟨112,0,[sI 5 v.2,sA 1 1 3 0],[(1,(fR (Net.row x0)))]⟩) (fun v => q4 n v.1 x0 v.2 = some o4) (fun v => v.1) (n,0) eo4 (St.sub_of [5,1] [1] kr) ?_
     rintro ⟨_ | mo4,y3⟩ H
     ·exact nN H
     have H : q4 n (mo4+1) x0 y3 = some o4 := H
     rw [q4] at H
     refine tS<|rA 3<|kF x0.Said Say.row<|uA 1 0x8000000000000000000022 2 ?_
     obtain ⟨h4,H⟩ | ⟨h4,H⟩ := bC H
     ·refine nA h4<|Tr.exit<|aJ ?_
      cases H
      exact jA () Ho4 [] []
     refine tA h4<|tK<|tS<|tB<|bE H fun v5 ev5 H=> bE H fun r6 er6 H=> sT ⟨112,0,[sB 87 (decide (y3 < (x0.Said.length : Int))),sI 5 y3,sA 1 1 3 0],[(1,(fR (Net.row x0)))]⟩ ?_
     cases h5 : (!r6)
     ·have H := Z6 h5 H
      refine bE H fun v7 ev7 H=> bE H fun r8 er8 H=> Tr.draws mixed 22 kr ⟨112,0,[sB 111 (!r8),sI 5 y3,sA 1 1 3 0],[(1,(fR (Net.row x0)))]⟩ (fun cx=>?_) ?_
      ·exact mA ZF [(0,[]),(1,[10,19]),(2,[])] 19 [⟨[10,19],74,90,91⟩] fun cx=>iN ZF 3 Say.row ev5 fun cx=>mA ZF (zl [4,5,6]++[(7,[10,19])]) 14 [⟨[10,19],73,96,97⟩,⟨[10,19],74,90,91⟩] fun cx=>kFN ZF 8 x0.Ls Link.row fun cx=>mA ZF [(9,[])] 12 [⟨[10,19],73,96,97⟩,⟨[10,19],74,90,91⟩] fun cx=>mC ZF 10<|vA [.rd,.rd,.rd] (zM n v5.Link 0 (wI ((x0.Ls.length : Int) - 1)) r6 er6)<|fA<|mA ZF [(11,[]),(12,[])] 9 [⟨[10,19],73,96,97⟩,⟨[10,19],74,90,91⟩] fun cx=>qA 0x430c0000000000000000000022 2 [102] h5<|mA ZF [(13,[]),(14,[19]),(15,[])] 6 [⟨[19],74,103,104⟩,⟨[10,19],73,96,97⟩,⟨[10,19],74,90,91⟩] fun cx=>iN ZF 16 Say.row ev7 fun cx=>mA ZF [(17,[]),(18,[])] 3 [⟨[19],74,103,104⟩,⟨[10,19],73,96,97⟩,⟨[10,19],74,90,91⟩] fun cx=>mC ZF 19<|vA [.rd] (zBC n v7.V r8 er8)<|fA<|mA ZF [(20,[]),(21,[])] 0 [⟨[19],74,103,104⟩,⟨[10,19],73,96,97⟩,⟨[10,19],74,90,91⟩] fun cx=>mE ZF [111,5,1] [1]
      obtain ⟨h6,H⟩ | ⟨h6,H⟩ := bC H
      ·exact qT [111] h6<|nB_<|tK<|eA 3 34 2<|jB mo4 (wI (y3 + 1)) H [5,1] [1]
      refine qT [111] h6<|tB_<|gA 1 4 0<|te ?_
      cases H
      exact fF Ho4
     have H := Z7 h5 H
     refine Tr.draws mixed 22 kr ⟨112,0,[sB 111 true,sI 5 y3,sA 1 1 3 0],[(1,(fR (Net.row x0)))]⟩ (fun cx=>?_) ?_
     ·exact mA ZF [(0,[]),(1,[10]),(2,[])] 19 [⟨[10],74,90,91⟩] fun cx=>iN ZF 3 Say.row ev5 fun cx=>mA ZF (zl [4,5,6]++[(7,[10])]) 14 [⟨[10],73,96,97⟩,⟨[10],74,90,91⟩] fun cx=>kFN ZF 8 x0.Ls Link.row fun cx=>mA ZF [(9,[])] 12 [⟨[10],73,96,97⟩,⟨[10],74,90,91⟩] fun cx=>mC ZF 10<|vA [.rd,.rd,.rd] (zM n v5.Link 0 (wI ((x0.Ls.length : Int) - 1)) r6 er6)<|fA<|mA ZF [(11,[]),(12,[])] 9 [⟨[10],73,96,97⟩,⟨[10],74,90,91⟩] fun cx=>qA 0x430c0000000000000000000022 2 [102] h5<|mA ZF (zl [13,14,15,16,17,18,19,20,21]) 0 [⟨[10],73,96,97⟩,⟨[10],74,90,91⟩] fun cx=>mE ZF [111,5,1] [1]
     refine tB_<|gA 1 4 0<|te ?_
     cases H
     exact fF Ho4
    rintro _ H
    have H : (zAh n) = some r := H
    unfold zAh at H
    exact gA 1 4 0<|te (fT H)
   exact tA h3<|gA 1 4 0<|te (fF H)
  exact qL 32770 2 [15] h2<|uA 5 1048578 2<|tB_<|gA 1 4 0<|te (fF H)
 exact qL 514 2 [9] h1<|uA 11 1048578 2<|tB_<|gA 1 4 0<|te (fF H)
def zBF (n : Nat) (x0 : (List zC)) : Option ((List zC)) :=
  (bif (decide (([] : List zC).length + x0.length ≤ 268435456)) then (some (([] : List zC) ++ x0)) else none)
theorem zJl (n : Nat) (x0 : (List zC)) (r : (List zC)) (H : zBF n x0 = some r) : zG Try.prog 156 [.val false [.sl false 5 (CV.frzEs (x0.map zC.row))]] [.val false [.sl true 5 (r.map zC.row)]] [] := by
 refine cW Try.func156 (fun g d => sl [g 0,g 1] .ret) [.tmp 2] fun cx=>?_
 unfold zBF at H
 exact gA 1 1 0<|rA 2<|gE H fun hg1 H=> pD zC.row hg1<|LAt.moveU (T := lk tab) (ty := 36) (x := (.tmp 5)) (d := 2) (g := none) false [cL 5 (([] : List zC) ++ x0) zC.row] kr kr kr kr kr<|dA 4 0<|te (fJ [(false,[cL 5 (([] : List zC) ++ x0) zC.row])] H)
def J7 (n : Nat) (x0 : zR) : Option (zR) :=
  (bif (decide (([] : List zT).length + x0.Rows.length ≤ 268435456)) then (bif (decide (([] : List Int).length + x0.Pv.length ≤ 268435456)) then (some (⟨(([] : List zT) ++ x0.Rows),(([] : List Int) ++ x0.Pv)⟩ : zR)) else none) else none)
theorem zJm (n : Nat) (x0 : zR) (r : zR) (H : J7 n x0 = some r) : zG Try.prog 176 [.val true (fR (zR.row x0))] [.val true (zR.row r)] [] := by
 refine cW Try.func176 (fun g d => sl [g 0,d 1] .ret) [.cell 2 40] fun cx=>?_
 unfold J7 at H
 refine gA 2 6 6<|gE H fun hg1 H=> gE H fun hg2 H=> Tr.draws mixed 10 kr ⟨12,0,[sA 2 2 2 0],[(2,[cL 3 (([] : List zT) ++ x0.Rows) zT.row,cL 1 (([] : List Int) ++ x0.Pv) intRow])]⟩ (fun cx=>?_) ?_
 ·refine aA [(1,[]),(2,[3,7,8,9]),(5,[]),(6,[7,8,9])] 6 [⟨[7,8,9],38,8,9⟩,⟨[3,7,8,9],37,4,5⟩] fun cx=>AT.big2 tOk 0 4 kr (And.intro kr ?_) (And.intro kr ?_)
  ·refine lA 1<|fA<|AT.big2 tOk 3 4 kr (And.intro kr ?_) (And.intro kr ?_)
   ·exact pD zT.row hg1<|fA<|bA 4<|lA 1<|fA<|bA 7<|pD intRow hg2<|fA<|bA 8<|lA 1<|fA<|bA 9<|lA 1<|fA<|eE [2] [2]
   ·exact lA 1<|fA<|bA 3<|pD zT.row hg1<|fA<|bA 7<|pD intRow hg2<|fA<|bA 8<|lA 1<|fA<|bA 9<|lA 1<|fA<|eE [2] [2]
  ·exact lA 1<|fA<|bA 0<|lA 1<|fA<|bA 3<|pD zT.row hg1<|fA<|bA 7<|pD intRow hg2<|fA<|bA 8<|lA 1<|fA<|bA 9<|lA 1<|fA<|eE [2] [2]
 exact te (fJ [(true,[cL 3 (([] : List zT) ++ x0.Rows) zT.row,cL 1 (([] : List Int) ++ x0.Pv) intRow])] H)
def QD (n : Nat) (x0 : zA) : Option (zA) :=
  (bif (decide (([] : List Pt).length + x0.Ps.length ≤ 268435456)) then ((zBF n x0.F).bind fun r2 => ((J7 n x0.V).bind fun r3 => (some (⟨x0.Id,x0.Name,(([] : List Pt) ++ x0.Ps),r2,r3,x0.Tk,x0.Pa,x0.Wo,x0.Dr,x0.Ve⟩ : zA)))) else none)
theorem zBE (n : Nat) (x0 : zA) (r : zA) (H : QD n x0 = some r) : zG Try.prog 188 [.val true (fR (zA.row x0))] [.val true (zA.row r)] [] := by
 refine cW Try.func188 (fun g d => sl [g 0,g 1,g 2,g 3,g 4,g 5] .ret) [.cell 2 42] fun cx=>?_
 unfold QD at H
 exact gA 2 6 6<|gA 3 14 14<|rA 3<|gE H fun hg1 H=> pD Pt.row hg1<|uA 2 14 14<|rA 2<|bE H fun r2 er2 H=> vA [.rd] (zJl n x0.F r2 er2)<|uA 2 14 14<|rA 2<|bE H fun r3 er3 H=> vA [.rd] (zJm n x0.V r3 er3)<|uA 2 12 12<|gA 2 4 4<|te (fJ [(true,[cI x0.Id,cS x0.Name,cL 8 (([] : List Pt) ++ x0.Ps) Pt.row,cL 5 r2 zC.row,cL 3 r3.Rows zT.row,cL 1 r3.Pv intRow,cI x0.Tk,cI x0.Pa,cI x0.Wo,cI x0.Dr,cI x0.Ve])] H)
def YH (n : Nat) (x0 : zA) (x1 : Int) : Option (Bool) :=
  ((zN n x0).bind fun r1 => (bif r1 then ((zL n x1 0 (IntKind.wrap .i64 ((x0.Ps.length : Int) - 1))).bind fun r2 => (some r2)) else (some false)))
theorem zEq (n : Nat) (x0 : zA) (x1 : Int) (r : Bool) (H : YH n x0 x1 = some r) : zG Try.prog 189 [.val true (fR (zA.row x0)),.val false [.lit (.int .i64 x1)]] [.val false [.lit (.bool r)]] [] := by
 refine cW Try.func189 (fun g d => sl [g 0,g 1] .ret) [.tmp 4] fun cx=>?_
 unfold YH at H
 refine gA 2 6 4<|rA 1<|bE H fun r1 er1 H=> vA [.rd] (zCO n x0 r1 er1)<|lA 1 ?_
 obtain ⟨h1,H⟩ | ⟨h1,H⟩ := bC H
 ·exact qL 134 4 [7] h1<|uA 8 16 0<|te (fF H)
 exact qL 134 4 [7] h1<|lA 3<|kF x0.Ps Pt.row<|lA 1<|bE H fun r2 er2 H=> vA [.rd,.rd,.rd] (zM n x1 0 (wI ((x0.Ps.length : Int) - 1)) r2 er2)<|uA 2 16 0<|te (fJ [(false,[cB r2])] H)
def YS (n : Nat) (x0 : Int) : Option (Int) :=
  (bif (decide (x0 ≥ 1000000)) then (some x0) else (some (IntKind.wrap .i64 (x0 + 1))))
theorem zGB (n : Nat) (x0 : Int) (r : Int) (H : YS n x0 = some r) : zG Try.prog 191 [.val false [.lit (.int .i64 x0)]] [.val false [.lit (.int .i64 r)]] [] := by
 refine cW Try.func191 (fun g d => sl [g 0,sl [g 1] (cn 4 (sl [g 2] .ret) .skip),g 3] .ret) [.tmp 2] fun cx=>?_
 unfold YS at H
 refine gA 1 1 0<|tS<|gA 2 17 0 ?_
 obtain ⟨h1,H⟩ | ⟨h1,H⟩ := bC H
 ·exact nA h1<|tK<|gA 3 4 0<|te (fJ [(false,[cI (wI (x0 + 1))])] H)
 exact tA h1<|gA 2 4 0<|te (fJ [(false,[cI x0])] H)
def Qc (n : Nat) (x0 : Vec) (x1 : Int) : Option (Vec × Bool) :=
  ((zw n x0).bind fun r1 => (bif (!r1) then (some (x0,false)) else ((zL n x1 1 1000).bind fun r2 => (bif (!r2) then (some (x0,false)) else ((zw n (⟨x0.Root,(IntKind.wrap .i64 (x0.Co + x1)),(IntKind.wrap .i64 (x0.Hops + 1)),x0.Bridge,x0.Port⟩ : Vec)).bind fun r3 => (bif (!r3) then (some (x0,false)) else (some ((⟨x0.Root,(IntKind.wrap .i64 (x0.Co + x1)),(IntKind.wrap .i64 (x0.Hops + 1)),x0.Bridge,x0.Port⟩ : Vec),true))))))))
theorem zFT (n : Nat) (x0 : Vec) (x1 : Int) (r : Vec × Bool) (H : Qc n x0 x1 = some r) : zG Try.prog 204 [.val true (fR (Vec.row x0)),.val false [.lit (.int .i64 x1)]] [.val true (Vec.row r.1),.val false [.lit (.bool r.2)]] [] := by
 refine cW Try.func204 (fun g d => sl [g 0,sl [g 1] (cn 14 (sl [g 2] .ret) .skip),g 3,g 4,g 5,sl [g 6] (cn 28 (sl [g 7] .ret) .skip),g 8] .ret) [.cell 4 46,.tmp 5] fun cx=>?_
 unfold Qc at H
 refine gA 3 22 20<|tS<|rA 1<|bE H fun r1 er1 H=> vA [.rd] (zBC n x0 r1 er1)<|lA 2 ?_
 obtain ⟨h1,H⟩ | ⟨h1,H⟩ := bC H
 ·refine qL 1046 20 [10] h1<|lA 1<|bE H fun r2 er2 H=> vA [.rd,.rd,.rd] (zM n x1 1 1000 r2 er2)<|uA 2 16406 20 ?_
  obtain ⟨h2,H⟩ | ⟨h2,H⟩ := bC H
  ·refine nA h2<|tK<|gA 3 86 84<|gA 6 84 84<|gA 5 84 84<|tS<|rA 1<|bE H fun r3 er3 H=> vA [.rd] (zBC n (⟨x0.Root,(wI (x0.Co + x1)),(wI (x0.Hops + 1)),x0.Bridge,x0.Port⟩ : Vec) r3 er3)<|uA 1 268435540 84 ?_
   obtain ⟨h3,H⟩ | ⟨h3,H⟩ := bC H
   ·exact nA h3<|tK<|gA 3 48 16<|te (fJ [(true,[cI x0.Root,cI (wI (x0.Co + x1)),cI (wI (x0.Hops + 1)),cI x0.Bridge,cI x0.Port]),(false,[cB true])] H)
   exact tA h3<|gA 3 48 16<|te (fJ [(true,(Vec.row x0)),(false,[cB false])] H)
  exact tA h2<|gA 3 48 16<|te (fJ [(true,(Vec.row x0)),(false,[cB false])] H)
 exact qL 1046 20 [10] h1<|uA 4 16406 20<|tB_<|gA 3 48 16<|te (fJ [(true,(Vec.row x0)),(false,[cB false])] H)
def Q6 (n : Nat) (x0 : Vec) (x1 : Vec) : Option (Bool) :=
  (bif (x0.Root != x1.Root) then (some (decide (x0.Root < x1.Root))) else (bif (x0.Co != x1.Co) then (some (decide (x0.Co < x1.Co))) else (bif (x0.Bridge != x1.Bridge) then (some (decide (x0.Bridge < x1.Bridge))) else (some (decide (x0.Port < x1.Port))))))
theorem zFS (n : Nat) (x0 : Vec) (x1 : Vec) (r : Bool) (H : Q6 n x0 x1 = some r) : zG Try.prog 197 [.val true (fR (Vec.row x0)),.val true (fR (Vec.row x1))] [.val false [.lit (.bool r)]] [] := by
 refine cW Try.func197 (fun g d => sl [g 0,.block 0 (sl [g 1] (cn 5 (sl [g 2] .ret) (sl [g 3] (cn 16 (sl [g 4] .ret) (sl [g 5] (cn 27 (sl [g 6] .ret) .skip)))))),g 7] .ret) [.tmp 4] fun cx=>?_
 unfold Q6 at H
 refine gA 3 12 12<|tS<|tB<|gA 6 44 12 ?_
 obtain ⟨h1,H⟩ | ⟨h1,H⟩ := bC H
 ·refine nA h1<|gA 6 65548 12 ?_
  obtain ⟨h2,H⟩ | ⟨h2,H⟩ := bC H
  ·refine nA h2<|gA 6 134217740 12 ?_
   obtain ⟨h3,H⟩ | ⟨h3,H⟩ := bC H
   ·exact nA h3<|tK<|gA 6 16 0<|te (fJ [(false,[cB (decide (x0.Port < x1.Port))])] H)
   exact tA h3<|gA 6 16 0<|te (fJ [(false,[cB (decide (x0.Bridge < x1.Bridge))])] H)
  exact tA h2<|gA 6 16 0<|te (fJ [(false,[cB (decide (x0.Co < x1.Co))])] H)
 exact tA h1<|gA 6 16 0<|te (fJ [(false,[cB (decide (x0.Root < x1.Root))])] H)
def Jl (n : Nat) (x0 : Int) (y11 : Int) (y12 : Int) (y13 : Int) (y14 : Int) : Option (Vec × Int) :=
  (some ((⟨y12,y13,y14,x0,0⟩ : Vec),y11))
def ZV (n : Nat) (k : (Int × Int × Int × Int × Int × Int × Int × Int × Int × Int → Option ((Int × Int × Int × Int) ⊕ (Vec × Int)))) (r20 : Vec × Bool) (y1 : Int) (y10 : Int) (y2 : Int) (y3 : Int) (y4 : Int) (y5 : Int) (y6 : Int) (y7 : Int) (y8 : Int) (y9 : Int) (y21 : Bool) (y22 : Bool) (y23 : Bool) (y24 : Bool) (y25 : Bool) (y26 : Bool) (y27 : Bool) : Option ((Int × Int × Int × Int) ⊕ (Vec × Int)) :=
  (bif y21 then (k ((IntKind.wrap .i64 (y1 + 1)),y1,r20.1.Root,r20.1.Co,r20.1.Hops,r20.1.Bridge,r20.1.Port,r20.1.Root,r20.1.Co,r20.1.Hops)) else (k ((IntKind.wrap .i64 (y1 + 1)),y2,y3,y4,y5,y6,y7,y8,y9,y10)))
def zo (n : Nat) : Nat → Int → (List Pt) → Int → Int → Int → Int → Int → Int → Int → Int → Int → Int → Option ((Int × Int × Int × Int) ⊕ (Vec × Int))
  | 0,_,_,_,_,_,_,_,_,_,_,_,_ => none
  | mo15 + 1,x0,x1,y1,y2,y3,y4,y5,y6,y7,y8,y9,y10 => (bif (decide (y1 < (x1.length : Int))) then ((idx x1 y1).bind fun v16 => (bif (!v16.Up) then (zo n mo15 x0 x1 (IntKind.wrap .i64 (y1 + 1)) y2 y3 y4 y5 y6 y7 y8 y9 y10) else ((idx x1 y1).bind fun v17 => (bif (!v17.Has) then (zo n mo15 x0 x1 (IntKind.wrap .i64 (y1 + 1)) y2 y3 y4 y5 y6 y7 y8 y9 y10) else ((idx x1 y1).bind fun v18 => ((idx x1 y1).bind fun v19 => ((Qc n v18.Hd v19.Co).bind fun r20 => (bif r20.2 then (bif (decide (r20.1.Root < x0)) then (bif (decide (y2 < 0)) then (ZV n (fun v => zo n mo15 x0 x1 v.1 v.2.1 v.2.2.1 v.2.2.2.1 v.2.2.2.2.1 v.2.2.2.2.2.1 v.2.2.2.2.2.2.1 v.2.2.2.2.2.2.2.1 v.2.2.2.2.2.2.2.2.1 v.2.2.2.2.2.2.2.2.2) r20 y1 y10 y2 y3 y4 y5 y6 y7 y8 y9 true true true true true true true) else ((Q6 n r20.1 (⟨y3,y4,y5,y6,y7⟩ : Vec)).bind fun r28 => (ZV n (fun v => zo n mo15 x0 x1 v.1 v.2.1 v.2.2.1 v.2.2.2.1 v.2.2.2.2.1 v.2.2.2.2.2.1 v.2.2.2.2.2.2.1 v.2.2.2.2.2.2.2.1 v.2.2.2.2.2.2.2.2.1 v.2.2.2.2.2.2.2.2.2) r20 y1 y10 y2 y3 y4 y5 y6 y7 y8 y9 r28 true true true true true true))) else (ZV n (fun v => zo n mo15 x0 x1 v.1 v.2.1 v.2.2.1 v.2.2.2.1 v.2.2.2.2.1 v.2.2.2.2.2.1 v.2.2.2.2.2.2.1 v.2.2.2.2.2.2.2.1 v.2.2.2.2.2.2.2.2.1 v.2.2.2.2.2.2.2.2.2) r20 y1 y10 y2 y3 y4 y5 y6 y7 y8 y9 false false false true true true true)) else (ZV n (fun v => zo n mo15 x0 x1 v.1 v.2.1 v.2.2.1 v.2.2.2.1 v.2.2.2.2.1 v.2.2.2.2.2.1 v.2.2.2.2.2.2.1 v.2.2.2.2.2.2.2.1 v.2.2.2.2.2.2.2.2.1 v.2.2.2.2.2.2.2.2.2) r20 y1 y10 y2 y3 y4 y5 y6 y7 y8 y9 false false false false false false false))))))))) else (some (Sum.inl (y2,y8,y9,y10))))
def QA (n : Nat) (x0 : Int) (x1 : (List Pt)) : Option (Vec × Int) :=
  ((zo n n x0 x1 0 (-1) 0 0 0 0 0 x0 0 0).bind fun o => match o with | .inl (y11,y12,y13,y14) => (Jl n x0 y11 y12 y13 y14) | .inr r => some r)
def zMj : Tab := ⟨17,[0,0,3,4,8,0,0,96,128,256,528,1024,2048,2048,0,24575,65535],[0,0,3,4,8,0,0,96,128,256,528,1024,2048,2048,0,20480,8192],[0,0,3,7,15,0,0,96,224,480,1023,2047,4095,4095,0,24575,65535]⟩
theorem QN : zk (rg Try.f196 8) zMj = true := kr
theorem zFP (n : Nat) (x0 : Int) (x1 : (List Pt)) (r : Vec × Int) (H : QA n x0 x1 = some r) : zG Try.prog 196 [.val false [.lit (.int .i64 x0)],.val false [.sl false 8 (CV.frzEs (x1.map Pt.row))]] [.val true (Vec.row r.1),.val false [.lit (.int .i64 r.2)]] [] := by
 refine cW Try.func196 (fun g d => sl [g 0,g 1,g 2,g 3,sl [g 4] (.block 0 (.loop (sl [sl [g 5] (cn 19 .skip (.exit 0)),.block 1 (sl [sl [g 7] (cn 35 (.exit 1) .skip),d 8,g 9] (cn 65 (sl [g 10,g 11] (g 12)) .skip))] (g 6)))),g 13] .ret) [.cell 4 46,.tmp 5] fun cx=>?_
 unfold QA at H
 refine gA 2 51 16<|gA 5 115 80<|gA 3 243 208<|gA 1 499 208<|tS<|gA 1 1011 208 ?_
 obtain ⟨o15,eo15,Ho15⟩ := bs H
 clear H
 refine Tr.mid (ι := Int × Int × Int × Int) (fun v => ⟨78,0,[sI 8 v.1,sA 6 6 5 0,sI 5 0,sA 4 4 5 0],[(6,[cI v.2.1,cI v.2.2.1,cI v.2.2.2,cI x0,cI 0]),(4,[cI 0,cI 0,cI 0,cI 0,cI 0])]⟩) (fun v => Jl n x0 v.1 v.2.1 v.2.2.1 v.2.2.2 = some r) ?_ ?_
 ·refine tB<|Tr.loop (ι := Nat × (Int × Int × Int × Int × Int × Int × Int × Int × Int × Int)) (fun v => ⟨78,0,[sI 9 v.2.1,sI 8 v.2.2.1,sA 7 7 5 0,sA 6 6 5 0,sI 5 0,sA 4 4 5 0,sI 0 x0,sC 1 (cF 8 x1 Pt.row)],[(7,[cI v.2.2.2.1,cI v.2.2.2.2.1,cI v.2.2.2.2.2.1,cI v.2.2.2.2.2.2.1,cI v.2.2.2.2.2.2.2.1]),(6,[cI v.2.2.2.2.2.2.2.2.1,cI v.2.2.2.2.2.2.2.2.2.1,cI v.2.2.2.2.2.2.2.2.2.2,cI x0,cI 0]),(4,[cI 0,cI 0,cI 0,cI 0,cI 0])]⟩) (fun v => zo n v.1 x0 x1 v.2.1 v.2.2.1 v.2.2.2.1 v.2.2.2.2.1 v.2.2.2.2.2.1 v.2.2.2.2.2.2.1 v.2.2.2.2.2.2.2.1 v.2.2.2.2.2.2.2.2.1 v.2.2.2.2.2.2.2.2.2.1 v.2.2.2.2.2.2.2.2.2.2 = some o15) (fun v => v.1) (n,(0,(-1),0,0,0,0,0,x0,0,0)) eo15 (St.sub_of [9,8,7,6,5,4,0,1] [7,6,4] kr) ?_
  rintro ⟨_ | mo15,y1,y2,y3,y4,y5,y6,y7,y8,y9,y10⟩ H
  ·exact nN H
  have H : zo n (mo15+1) x0 x1 y1 y2 y3 y4 y5 y6 y7 y8 y9 y10 = some o15 := H
  rw [zo] at H
  refine tS<|rA 2<|kF x1 Pt.row<|uA 1 984051 208 ?_
  obtain ⟨h1,H⟩ | ⟨h1,H⟩ := bC H
  ·refine nA h1<|Tr.exit<|aJ ?_
   cases H
   exact jA (y2,y8,y9,y10) Ho15 [8,6,5,4] [6,4]
  refine tA h1<|tK<|tS<|tB<|tS<|rA 2<|bE H fun v16 ev16 H=> iA Pt.row ev16<|lA 4 ?_
  obtain ⟨h2,H⟩ | ⟨h2,H⟩ := bC H
  ·refine qL 533660659 208 [28,27] h2<|lA 2<|bE H fun v17 ev17 H=> iA Pt.row ev17<|uA 4 68716266483 208 ?_
   obtain ⟨h3,H⟩ | ⟨h3,H⟩ := bC H
   ·refine nA h3<|tK<|bE H fun v18 ev18 H=> bE H fun v19 ev19 H=> bE H fun r20 er20 H=> Tr.draws mixed 17 kr ⟨78,0,[sB 11 r20.2,sA 10 10 5 0,sB 49 r20.2,(36,.tup [(true,[.dead,.dead,.dead,.dead,.dead]),(false,[.dead])]),sV 48 (Vec.row r20.1),sI 46 v19.Co,(45,.fad (((Pt.row v19).drop 1))),(44,.fad ((Pt.row v19))),sI 43 y1,sC 42 (cF 8 x1 Pt.row),sV 41 ((Pt.row v18).drop 3),(40,.fad (((Pt.row v18).drop 3))),(39,.fad ((Pt.row v18))),sI 38 y1,sC 37 (cF 8 x1 Pt.row),sB 35 (!v17.Has),sB 34 (!v17.Has),sB 33 v17.Has,(32,.fad (((Pt.row v17).drop 2))),(31,.fad ((Pt.row v17))),sI 30 y1,sC 29 (cF 8 x1 Pt.row),sB 28 false,sB 27 false,sB 26 v16.Up,(25,.fad ((Pt.row v16))),(24,.fad ((Pt.row v16))),sI 23 y1,sC 22 (cF 8 x1 Pt.row),sB 19 (decide (y1 < (x1.length : Int))),sI 18 (x1.length : Int),sC 17 (cF 8 x1 Pt.row),sI 16 y1,sI 9 y1,sI 8 y2,sA 7 7 5 0,sA 6 6 5 0,sI 5 0,sA 4 4 5 0,sI 0 x0,sC 1 (cF 8 x1 Pt.row)],[(10,(Vec.row r20.1)),(7,[cI y3,cI y4,cI y5,cI y6,cI y7]),(6,[cI y8,cI y9,cI y10,cI x0,cI 0]),(4,[cI 0,cI 0,cI 0,cI 0,cI 0])]⟩ (fun cx=>?_) ?_
    ·refine mA QN [(0,[]),(1,[])] 15 [] fun cx=>iN QN 2 Pt.row ev18 fun cx=>mA QN (zl [3,4,5,6]) 10 [] fun cx=>iN QN 7 Pt.row ev19 fun cx=>mA QN [(8,[]),(9,[])] 7 [] fun cx=>mB2 tOk QN 10 14 kr (And.intro kr ?_) (And.intro kr ?_)
     ·refine vA [.rd,.rd] (zFT n v18.Hd v19.Co r20 er20)<|fA<|AT.movT tOk 11 (ty := 198) (t := 47) (d := 36) (g := none) [(true,(Vec.row r20.1)),(false,[cB r20.2])] _ kr (oM QN kr) (dM QN kr) (.inl rfl) kr kr kr kr rfl (fun cx=>?_)
      exact mA QN [(12,[]),(13,[])] 3 [] fun cx=>mC QN 14<|lA 1<|fA<|mC QN 15<|lA 1<|fA<|mA QN [(16,[])] 0 [] fun cx=>mE QN [11,10,49,36,48,46,45,44,43,42,41,40,39,38,37,35,34,33,32,31,30,29,28,27,26,25,24,23,22,19,18,17,16,9,8,7,6,5,4,0,1] [10,7,6,4]
     ·refine lA 1<|fA<|mC QN 10<|vA [.rd,.rd] (zFT n v18.Hd v19.Co r20 er20)<|fA<|AT.movT tOk 11 (ty := 198) (t := 47) (d := 36) (g := none) [(true,(Vec.row r20.1)),(false,[cB r20.2])] _ kr (oM QN kr) (dM QN kr) (.inl rfl) kr kr kr kr rfl (fun cx=>?_)
      exact mA QN [(12,[]),(13,[])] 2 [] fun cx=>mC QN 15<|lA 1<|fA<|mA QN [(16,[])] 0 [] fun cx=>mE QN [11,10,49,36,48,46,45,44,43,42,41,40,39,38,37,35,34,33,32,31,30,29,28,27,26,25,24,23,22,19,18,17,16,9,8,7,6,5,4,0,1] [10,7,6,4]
    refine tS<|Tr.mid (ι := Bool × Bool × Bool × Bool × Bool × Bool × Bool) (fun v => ⟨78,0,[sB 65 v.1,sB 57 v.2.1,sB 56 v.2.2.1,sB 51 v.2.2.2.1,sB 50 v.2.2.2.2.1,sB 11 v.2.2.2.2.2.1,sA 10 10 5 0,sB 49 v.2.2.2.2.2.2,(36,.tup [(true,[.dead,.dead,.dead,.dead,.dead]),(false,[.dead])]),sV 48 (Vec.row r20.1),sI 46 v19.Co,(45,.fad (((Pt.row v19).drop 1))),(44,.fad ((Pt.row v19))),sI 43 y1,sC 42 (cF 8 x1 Pt.row),sV 41 ((Pt.row v18).drop 3),(40,.fad (((Pt.row v18).drop 3))),(39,.fad ((Pt.row v18))),sI 38 y1,sC 37 (cF 8 x1 Pt.row),sB 35 false,sB 34 false,sB 33 v17.Has,(32,.fad (((Pt.row v17).drop 2))),(31,.fad ((Pt.row v17))),sI 30 y1,sC 29 (cF 8 x1 Pt.row),sB 28 false,sB 27 false,sB 26 v16.Up,(25,.fad ((Pt.row v16))),(24,.fad ((Pt.row v16))),sI 23 y1,sC 22 (cF 8 x1 Pt.row),sB 19 true,sI 18 (x1.length : Int),sC 17 (cF 8 x1 Pt.row),sI 16 y1,sI 9 y1,sI 8 y2,sA 7 7 5 0,sA 6 6 5 0,sI 5 0,sA 4 4 5 0,sI 0 x0,sC 1 (cF 8 x1 Pt.row)],[(10,(Vec.row r20.1)),(7,[cI y3,cI y4,cI y5,cI y6,cI y7]),(6,[cI y8,cI y9,cI y10,cI x0,cI 0]),(4,[cI 0,cI 0,cI 0,cI 0,cI 0])]⟩) (fun v => ZV n (fun v => zo n mo15 x0 x1 v.1 v.2.1 v.2.2.1 v.2.2.2.1 v.2.2.2.2.1 v.2.2.2.2.2.1 v.2.2.2.2.2.2.1 v.2.2.2.2.2.2.2.1 v.2.2.2.2.2.2.2.2.1 v.2.2.2.2.2.2.2.2.2) r20 y1 y10 y2 y3 y4 y5 y6 y7 y8 y9 v.1 v.2.1 v.2.2.1 v.2.2.2.1 v.2.2.2.2.1 v.2.2.2.2.2.1 v.2.2.2.2.2.2 = some o15) ?_ ?_
    ·refine Tr.at<|lA 2 ?_
     obtain ⟨h5,H⟩ | ⟨h5,H⟩ := bC H
     ·refine qL 0xf7fffffcf0ff3 1232 [51,50,11,49] h5<|uA 14 0x3ffff7fffffcf0ff3 1232<|sB' 0x3ffff7fffffcf0ff3 1232 ⟨78,0,[sB 65 false,(64,.tup []),(63,.tup []),(62,.tup []),(61,.tup []),(60,.tup []),(59,.tup []),(58,.tup []),sB 57 false,sB 56 false,(55,.tup []),(54,.tup []),(53,.tup []),(52,.tup []),sB 51 false,sB 50 false,sB 11 false,sA 10 10 5 0,sB 49 false,(36,.tup [(true,[.dead,.dead,.dead,.dead,.dead]),(false,[.dead])]),sV 48 (Vec.row r20.1),sI 46 v19.Co,(45,.fad (((Pt.row v19).drop 1))),(44,.fad ((Pt.row v19))),sI 43 y1,sC 42 (cF 8 x1 Pt.row),sV 41 ((Pt.row v18).drop 3),(40,.fad (((Pt.row v18).drop 3))),(39,.fad ((Pt.row v18))),sI 38 y1,sC 37 (cF 8 x1 Pt.row),sB 35 (!v17.Has),sB 34 (!v17.Has),sB 33 v17.Has,(32,.fad (((Pt.row v17).drop 2))),(31,.fad ((Pt.row v17))),sI 30 y1,sC 29 (cF 8 x1 Pt.row),sB 28 false,sB 27 false,sB 26 v16.Up,(25,.fad ((Pt.row v16))),(24,.fad ((Pt.row v16))),sI 23 y1,sC 22 (cF 8 x1 Pt.row),sB 19 (decide (y1 < (x1.length : Int))),sI 18 (x1.length : Int),sC 17 (cF 8 x1 Pt.row),sI 16 y1,sI 9 y1,sI 8 y2,sA 7 7 5 0,sA 6 6 5 0,sI 5 0,sA 4 4 5 0,sI 0 x0,sC 1 (cF 8 x1 Pt.row)],[(10,(Vec.row r20.1)),(7,[cI y3,cI y4,cI y5,cI y6,cI y7]),(6,[cI y8,cI y9,cI y10,cI x0,cI 0]),(4,[cI 0,cI 0,cI 0,cI 0,cI 0])]⟩ ?_
      rw [h1]
      rw [h3]
      exact jA (false,false,false,false,false,false,false) H [65,57,56,51,50,11,10,49,36,48,46,45,44,43,42,41,40,39,38,37,35,34,33,32,31,30,29,28,27,26,25,24,23,22,19,18,17,16,9,8,7,6,5,4,0,1] [10,7,6,4]
     refine qL 0xf7fffffcf0ff3 1232 [51,50,11,49] h5<|lA 6 ?_
     obtain ⟨h6,H⟩ | ⟨h6,H⟩ := bC H
     ·refine qL 0x3ff7fffffcf0ff3 1232 [57,56,55] h6<|uA 8 0x3ffff7fffffcf0ff3 1232<|sB' 0x3ffff7fffffcf0ff3 1232 ⟨78,0,[sB 65 false,(64,.tup []),(63,.tup []),(62,.tup []),(61,.tup []),(60,.tup []),(59,.tup []),(58,.tup []),sB 57 false,sB 56 false,sB 55 false,sI 54 x0,sI 53 r20.1.Root,sA 52 10 5 0,sB 51 true,sB 50 true,sB 11 true,sA 10 10 5 0,sB 49 true,(36,.tup [(true,[.dead,.dead,.dead,.dead,.dead]),(false,[.dead])]),sV 48 (Vec.row r20.1),sI 46 v19.Co,(45,.fad (((Pt.row v19).drop 1))),(44,.fad ((Pt.row v19))),sI 43 y1,sC 42 (cF 8 x1 Pt.row),sV 41 ((Pt.row v18).drop 3),(40,.fad (((Pt.row v18).drop 3))),(39,.fad ((Pt.row v18))),sI 38 y1,sC 37 (cF 8 x1 Pt.row),sB 35 (!v17.Has),sB 34 (!v17.Has),sB 33 v17.Has,(32,.fad (((Pt.row v17).drop 2))),(31,.fad ((Pt.row v17))),sI 30 y1,sC 29 (cF 8 x1 Pt.row),sB 28 false,sB 27 false,sB 26 v16.Up,(25,.fad ((Pt.row v16))),(24,.fad ((Pt.row v16))),sI 23 y1,sC 22 (cF 8 x1 Pt.row),sB 19 (decide (y1 < (x1.length : Int))),sI 18 (x1.length : Int),sC 17 (cF 8 x1 Pt.row),sI 16 y1,sI 9 y1,sI 8 y2,sA 7 7 5 0,sA 6 6 5 0,sI 5 0,sA 4 4 5 0,sI 0 x0,sC 1 (cF 8 x1 Pt.row)],[(10,(Vec.row r20.1)),(7,[cI y3,cI y4,cI y5,cI y6,cI y7]),(6,[cI y8,cI y9,cI y10,cI x0,cI 0]),(4,[cI 0,cI 0,cI 0,cI 0,cI 0])]⟩ ?_
      rw [h1]
      rw [h3]
      exact jA (false,false,false,true,true,true,true) H [65,57,56,51,50,11,10,49,36,48,46,45,44,43,42,41,40,39,38,37,35,34,33,32,31,30,29,28,27,26,25,24,23,22,19,18,17,16,9,8,7,6,5,4,0,1] [10,7,6,4]
     refine qL 0x3ff7fffffcf0ff3 1232 [57,56,55] h6<|lA 3 ?_
     obtain ⟨h7,H⟩ | ⟨h7,H⟩ := bC H
     ·refine qL 0x1fff7fffffcf0ff3 1232 [60,59] h7<|lA 2<|bE H fun r28 er28 H=> vA [.rd,.rd] (zFS n r20.1 (⟨y3,y4,y5,y6,y7⟩ : Vec) r28 er28)<|uA 2 0x3ffff7fffffcf0ff3 1232<|sB' 0x3ffff7fffffcf0ff3 1232 ⟨78,0,[sB 65 r28,sB 64 r28,sB 63 r28,sV 62 [cI y3,cI y4,cI y5,cI y6,cI y7],sV 61 (Vec.row r20.1),sB 60 false,sB 59 false,sI 58 y2,sB 57 true,sB 56 true,sB 55 true,sI 54 x0,sI 53 r20.1.Root,sA 52 10 5 0,sB 51 true,sB 50 true,sB 11 true,sA 10 10 5 0,sB 49 true,(36,.tup [(true,[.dead,.dead,.dead,.dead,.dead]),(false,[.dead])]),sV 48 (Vec.row r20.1),sI 46 v19.Co,(45,.fad (((Pt.row v19).drop 1))),(44,.fad ((Pt.row v19))),sI 43 y1,sC 42 (cF 8 x1 Pt.row),sV 41 ((Pt.row v18).drop 3),(40,.fad (((Pt.row v18).drop 3))),(39,.fad ((Pt.row v18))),sI 38 y1,sC 37 (cF 8 x1 Pt.row),sB 35 (!v17.Has),sB 34 (!v17.Has),sB 33 v17.Has,(32,.fad (((Pt.row v17).drop 2))),(31,.fad ((Pt.row v17))),sI 30 y1,sC 29 (cF 8 x1 Pt.row),sB 28 false,sB 27 false,sB 26 v16.Up,(25,.fad ((Pt.row v16))),(24,.fad ((Pt.row v16))),sI 23 y1,sC 22 (cF 8 x1 Pt.row),sB 19 (decide (y1 < (x1.length : Int))),sI 18 (x1.length : Int),sC 17 (cF 8 x1 Pt.row),sI 16 y1,sI 9 y1,sI 8 y2,sA 7 7 5 0,sA 6 6 5 0,sI 5 0,sA 4 4 5 0,sI 0 x0,sC 1 (cF 8 x1 Pt.row)],[(10,(Vec.row r20.1)),(7,[cI y3,cI y4,cI y5,cI y6,cI y7]),(6,[cI y8,cI y9,cI y10,cI x0,cI 0]),(4,[cI 0,cI 0,cI 0,cI 0,cI 0])]⟩ ?_
      rw [h1]
      rw [h3]
      exact jA (r28,true,true,true,true,true,true) H [65,57,56,51,50,11,10,49,36,48,46,45,44,43,42,41,40,39,38,37,35,34,33,32,31,30,29,28,27,26,25,24,23,22,19,18,17,16,9,8,7,6,5,4,0,1] [10,7,6,4]
     refine qL 0x1fff7fffffcf0ff3 1232 [60,59] h7<|uA 5 0x3ffff7fffffcf0ff3 1232<|sB' 0x3ffff7fffffcf0ff3 1232 ⟨78,0,[sB 65 true,sB 64 true,(63,.tup []),(62,.tup []),(61,.tup []),sB 60 true,sB 59 true,sI 58 y2,sB 57 true,sB 56 true,sB 55 true,sI 54 x0,sI 53 r20.1.Root,sA 52 10 5 0,sB 51 true,sB 50 true,sB 11 true,sA 10 10 5 0,sB 49 true,(36,.tup [(true,[.dead,.dead,.dead,.dead,.dead]),(false,[.dead])]),sV 48 (Vec.row r20.1),sI 46 v19.Co,(45,.fad (((Pt.row v19).drop 1))),(44,.fad ((Pt.row v19))),sI 43 y1,sC 42 (cF 8 x1 Pt.row),sV 41 ((Pt.row v18).drop 3),(40,.fad (((Pt.row v18).drop 3))),(39,.fad ((Pt.row v18))),sI 38 y1,sC 37 (cF 8 x1 Pt.row),sB 35 (!v17.Has),sB 34 (!v17.Has),sB 33 v17.Has,(32,.fad (((Pt.row v17).drop 2))),(31,.fad ((Pt.row v17))),sI 30 y1,sC 29 (cF 8 x1 Pt.row),sB 28 false,sB 27 false,sB 26 v16.Up,(25,.fad ((Pt.row v16))),(24,.fad ((Pt.row v16))),sI 23 y1,sC 22 (cF 8 x1 Pt.row),sB 19 (decide (y1 < (x1.length : Int))),sI 18 (x1.length : Int),sC 17 (cF 8 x1 Pt.row),sI 16 y1,sI 9 y1,sI 8 y2,sA 7 7 5 0,sA 6 6 5 0,sI 5 0,sA 4 4 5 0,sI 0 x0,sC 1 (cF 8 x1 Pt.row)],[(10,(Vec.row r20.1)),(7,[cI y3,cI y4,cI y5,cI y6,cI y7]),(6,[cI y8,cI y9,cI y10,cI x0,cI 0]),(4,[cI 0,cI 0,cI 0,cI 0,cI 0])]⟩ ?_
     rw [h1]
     rw [h3]
     exact jA (true,true,true,true,true,true,true) H [65,57,56,51,50,11,10,49,36,48,46,45,44,43,42,41,40,39,38,37,35,34,33,32,31,30,29,28,27,26,25,24,23,22,19,18,17,16,9,8,7,6,5,4,0,1] [10,7,6,4]
    rintro ⟨y21,y22,y23,y24,y25,y26,y27⟩ H
    have H : (ZV n (fun v => zo n mo15 x0 x1 v.1 v.2.1 v.2.2.1 v.2.2.2.1 v.2.2.2.2.1 v.2.2.2.2.2.1 v.2.2.2.2.2.2.1 v.2.2.2.2.2.2.2.1 v.2.2.2.2.2.2.2.2.1 v.2.2.2.2.2.2.2.2.2) r20 y1 y10 y2 y3 y4 y5 y6 y7 y8 y9 y21 y22 y23 y24 y25 y26 y27) = some o15 := H
    unfold ZV at H
    cases h4 : y21
    ·have H := Z6 h4 H
     exact nB_<|tK<|eA 3 0x2030f7fffffff0ff3 1232<|jB mo15 ((wI (y1 + 1)),y2,y3,y4,y5,y6,y7,y8,y9,y10) H [9,8,7,6,5,4,0,1] [7,6,4]
    have H := Z7 h4 H
    exact tB_<|gA 2 0x6030f7fffffcf0ff3 1232<|gA 2 0xe030f7fffffcf0ff3 1232<|eA 9 0xffe030f7fffffcf0ff3 1232<|eA 3 0xffe030f7fffffff0ff3 1232<|jB mo15 ((wI (y1 + 1)),y1,r20.1.Root,r20.1.Co,r20.1.Hops,r20.1.Bridge,r20.1.Port,r20.1.Root,r20.1.Co,r20.1.Hops) H [9,8,7,6,5,4,0,1] [7,6,4]
   exact tA h3<|Tr.exit<|aJ<|eA 3 68719412211 208<|jB mo15 ((wI (y1 + 1)),y2,y3,y4,y5,y6,y7,y8,y9,y10) H [9,8,7,6,5,4,0,1] [7,6,4]
  exact qL 533660659 208 [28,27] h2<|uA 7 68716266483 208<|tB_<|Tr.exit<|aJ<|eA 3 68719412211 208<|jB mo15 ((wI (y1 + 1)),y2,y3,y4,y5,y6,y7,y8,y9,y10) H [9,8,7,6,5,4,0,1] [7,6,4]
 rintro ⟨y11,y12,y13,y14⟩ H
 have H : (Jl n x0 y11 y12 y13 y14) = some r := H
 unfold Jl at H
 exact gA 4 48 16<|te (fJ [(true,[cI y12,cI y13,cI y14,cI x0,cI 0]),(false,[cI y11])] H)
def qV (n : Nat) (x0 : Int) (x1 : (List Pt)) (x2 : Int) : Option (Vec) :=
  ((QA n x0 x1).bind fun r1 => (some (⟨r1.1.Root,r1.1.Co,r1.1.Hops,r1.1.Bridge,x2⟩ : Vec)))
theorem zDj (n : Nat) (x0 : Int) (x1 : (List Pt)) (x2 : Int) (r : Vec) (H : qV n x0 x1 x2 = some r) : zG Try.prog 198 [.val false [.lit (.int .i64 x0)],.val false [.sl false 8 (CV.frzEs (x1.map Pt.row))],.val false [.lit (.int .i64 x2)]] [.val true (Vec.row r)] [] := by
 refine cW Try.func198 (fun g d => sl [g 0,g 1,g 2,g 3] .ret) [.cell 6 46] fun cx=>?_
 unfold qV at H
 exact gA 1 71 64<|rA 2<|bE H fun r1 er1 H=> vA [.rd,.rd] (zFP n x0 x1 r1 er1)<|LAt.movT tOk (ty := 157) (t := 12) (d := 9) (g := none) [(true,(Vec.row r1.1)),(false,[cI r1.2])] _ kr (.inl rfl) kr kr kr kr rfl<|uA 5 196 192<|gA 3 192 192<|gA 2 64 64<|te (fJ [(true,[cI r1.1.Root,cI r1.1.Co,cI r1.1.Hops,cI r1.1.Bridge,cI x2])] H)
def YQ (n : Nat) (x0 : Int) (x1 : (List Pt)) (x2 : Int) : Option (Int) :=
  ((zL n x2 0 (IntKind.wrap .i64 ((x1.length : Int) - 1))).bind fun r1 => (bif (!r1) then (some 4) else ((idx x1 x2).bind fun v2 => (bif (!v2.Up) then (some 4) else ((QA n x0 x1).bind fun r3 => (bif (r3.2 == x2) then (some 1) else ((idx x1 x2).bind fun v4 => (bif (!v4.Has) then (some 2) else ((qV n x0 x1 x2).bind fun r5 => ((idx x1 x2).bind fun v6 => ((Q6 n r5 v6.Hd).bind fun r7 => (bif r7 then (some 2) else (some 3)))))))))))))
def zMd : Tab := ⟨19,[0,0,3,4,8,16,32,64,64,64,960,64,64,6208,8256,16448,33856,65600,196608],[0,0,3,4,8,16,32,64,64,64,960,64,64,6208,8256,16448,33856,65600,131072],[0,0,3,7,15,31,63,127,127,127,1023,127,127,6271,14463,30847,65535,131071,262143]⟩
theorem YK : zk (rg Try.f184 6) zMd = true := kr
theorem zJh (n : Nat) (x0 : Int) (x1 : (List Pt)) (x2 : Int) (r : Int) (H : YQ n x0 x1 x2 = some r) : zG Try.prog 184 [.val false [.lit (.int .i64 x0)],.val false [.sl false 8 (CV.frzEs (x1.map Pt.row))],.val false [.lit (.int .i64 x2)]] [.val false [.lit (.int .i64 r)]] [] := by
 refine cW Try.func184 (fun g d => sl [g 0,sl [g 1] (cn 22 (sl [g 2] .ret) .skip),g 3,.block 0 (sl [g 4] (cn 29 (sl [g 5] .ret) (sl [d 6] (cn 33 (sl [g 7] .ret) .skip)))),g 8] .ret) [.tmp 6] fun cx=>?_
 unfold YQ at H
 refine gA 1 7 0<|tS<|rA 2<|kF x1 Pt.row<|lA 1<|bE H fun r1 er1 H=> vA [.rd,.rd,.rd] (zM n x2 0 (wI ((x1.length : Int) - 1)) r1 er1)<|lA 2 ?_
 obtain ⟨h1,H⟩ | ⟨h1,H⟩ := bC H
 ·refine qL 32775 0 [15] h1<|lA 2<|bE H fun v2 ev2 H=> iA Pt.row ev2<|uA 4 4194311 0 ?_
  obtain ⟨h2,H⟩ | ⟨h2,H⟩ := bC H
  ·refine nA h2<|tK<|rA 2<|bE H fun r3 er3 H=> vA [.rd,.rd] (zFP n x0 x1 r3 er3)<|LAt.movT tOk (ty := 157) (t := 26) (d := 23) (g := none) [(true,(Vec.row r3.1)),(false,[cI r3.2])] _ kr (.inl rfl) kr kr kr kr rfl<|uA 5 263 0<|tS<|tB<|gA 4 536870919 0 ?_
   obtain ⟨h3,H⟩ | ⟨h3,H⟩ := bC H
   ·refine nA h3<|bE H fun v4 ev4 H=> sT ⟨52,0,[sB 29 (r3.2 == x2),sI 0 x0,sC 1 (cF 8 x1 Pt.row),sI 2 x2],[]⟩ ?_
    cases h4 : (!v4.Has)
    ·have H := Z6 h4 H
     refine bE H fun r5 er5 H=> bE H fun v6 ev6 H=> bE H fun r7 er7 H=> Tr.draws mixed 19 kr ⟨52,0,[sB 33 r7],[]⟩ (fun cx=>?_) ?_
     ·exact mA YK [(0,[]),(1,[])] 17 [] fun cx=>iN YK 2 Pt.row ev4 fun cx=>mA YK (zl [3,4,5,6]) 12 [] fun cx=>qA 1099511627783 0 [40] h4<|mA YK (zl [7,8,9,11,12]) 7 [] fun cx=>iN YK 13 Pt.row ev6 fun cx=>mA YK [(14,[]),(15,[])] 4 [] fun cx=>mC YK 10<|vA [.rd,.rd,.rd] (zDj n x0 x1 x2 r5 er5)<|fA<|mC YK 16<|vA [.rd,.rd] (zFS n r5 v6.Hd r7 er7)<|fA<|mA YK [(17,[]),(18,[])] 0 [] fun cx=>mE YK [33] []
     cases h5 : r7
     ·have H := Z6 h5 H
      exact nB_<|tK<|gA 1 64 0<|te (fJ [(false,[cI 3])] H)
     have H := Z7 h5 H
     exact tB_<|gA 1 64 0<|te (fJ [(false,[cI 2])] H)
    have H := Z7 h4 H
    refine Tr.draws mixed 19 kr ⟨52,0,[sB 33 true],[]⟩ (fun cx=>?_) ?_
    ·exact mA YK [(0,[]),(1,[])] 17 [] fun cx=>iN YK 2 Pt.row ev4 fun cx=>mA YK (zl [3,4,5,6]) 12 [] fun cx=>qA 1099511627783 0 [40] h4<|mA YK (zl [7,8,9,10,11,12,13,14,15,16,17,18]) 0 [] fun cx=>mE YK [33] []
    exact tB_<|gA 1 64 0<|te (fJ [(false,[cI 2])] H)
   exact tA h3<|gA 1 64 0<|te (fJ [(false,[cI 1])] H)
  exact tA h2<|gA 1 64 0<|te (fJ [(false,[cI 4])] H)
 exact qL 32775 0 [15] h1<|uA 7 4194311 0<|tB_<|gA 1 64 0<|te (fJ [(false,[cI 4])] H)
def zAj (n : Nat) (y3 : Int) : Option (Int) :=
  (some y3)
def Zg (n : Nat) : Nat → Int → (List Pt) → Int → Int → Option ((Int) ⊕ (Int))
  | 0,_,_,_,_ => none
  | mo4 + 1,x0,x1,y1,y2 => (bif (decide (y1 < (x1.length : Int))) then (bif (decide (y1 < 6)) then ((YQ n x0 x1 y1).bind fun r5 => (bif (decide (r5 ≤ 2)) then (bif (decide ((0 : Int) ≤ (IntKind.wrap .u64 y1))) then (Zg n mo4 x0 x1 (IntKind.wrap .i64 (y1 + 1)) (IntKind.wrap .i64 (BitVec.ofInt (IntKind.bits .i64) y2 ||| BitVec.ofInt (IntKind.bits .i64) (IntKind.wrap .i64 (1 * 2 ^ min (((IntKind.wrap .u64 y1) : Int)).toNat (IntKind.bits .i64)))).toNat)) else none) else (Zg n mo4 x0 x1 (IntKind.wrap .i64 (y1 + 1)) y2))) else (some (Sum.inl y2))) else (some (Sum.inl y2)))
def Zf (n : Nat) (x0 : Int) (x1 : (List Pt)) : Option (Int) :=
  ((Zg n n x0 x1 0 0).bind fun o => match o with | .inl y3 => (zAj n y3) | .inr r => some r)
theorem zKV (n : Nat) (x0 : Int) (x1 : (List Pt)) (r : Int) (H : Zf n x0 x1 = some r) : zG Try.prog 199 [.val false [.lit (.int .i64 x0)],.val false [.sl false 8 (CV.frzEs (x1.map Pt.row))]] [.val false [.lit (.int .i64 r)]] [] := by
 refine cW Try.func199 (fun g d => sl [g 0,g 1,sl [g 2] (.block 0 (.loop (sl [sl [g 3] (cn 14 .skip (.exit 0)),.block 1 (sl [g 5] (cn 21 (g 6) .skip))] (g 4)))),g 7] .ret) [.tmp 4] fun cx=>?_
 unfold Zf at H
 refine gA 1 3 0<|gA 1 35 0<|tS<|gA 1 99 0 ?_
 obtain ⟨o4,eo4,Ho4⟩ := bs H
 clear H
 refine Tr.mid (ι := Int) (fun v => ⟨28,0,[sI 5 v],[]⟩) (fun v => zAj n v = some r) ?_ ?_
 ·refine tB<|Tr.loop (ι := Nat × (Int × Int)) (fun v => ⟨28,0,[sI 6 v.2.1,sI 5 v.2.2,sI 0 x0,sC 1 (cF 8 x1 Pt.row)],[]⟩) (fun v => Zg n v.1 x0 x1 v.2.1 v.2.2 = some o4) (fun v => v.1) (n,(0,0)) eo4 (St.sub_of [6,5,0,1] [] kr) ?_
  rintro ⟨_ | mo4,y1,y2⟩ H
  ·exact nN H
  have H : Zg n (mo4+1) x0 x1 y1 y2 = some o4 := H
  rw [Zg] at H
  refine tS<|rA 2<|kF x1 Pt.row<|lA 2 ?_
  obtain ⟨h1,H⟩ | ⟨h1,H⟩ := bC H
  ·refine qL 2147 0 [11] h1<|uA 3 16483 0<|nB_<|Tr.exit<|aJ ?_
   cases H
   exact jA y2 Ho4 [5] []
  refine qL 2147 0 [11] h1<|uA 3 16483 0 ?_
  obtain ⟨h2,H⟩ | ⟨h2,H⟩ := bC H
  ·refine nA h2<|Tr.exit<|aJ ?_
   cases H
   exact jA y2 Ho4 [5] []
  refine tA h2<|tK<|tS<|tB<|rA 3<|bE H fun r5 er5 H=> vA [.rd,.rd,.rd] (zJh n x0 x1 y1 r5 er5)<|uA 1 2097251 0 ?_
  obtain ⟨h3,H⟩ | ⟨h3,H⟩ := bC H
  ·exact nA h3<|tK<|eA 3 99 0<|jB mo4 ((wI (y1 + 1)),y2) H [6,5,0,1] []
  exact tA h3<|Tr.at<|lA 3<|gE H fun hg6 H=> LAt.binC tOk (op := .shl) (t := 3) (ty := 103) (ty' := 3) (x := (.const (.int .i64 1))) (y := (.tmp 24)) (d := 25) (g := none) (.int .i64 1) (.int .u64 (IntKind.wrap .u64 y1)) (.int .i64 (wI (1 * 2 ^ min (((IntKind.wrap .u64 y1) : Int)).toNat (IntKind.bits .i64)))) _ kr kr kr kr kr (φ := (0 : Int) ≤ (IntKind.wrap .u64 y1)) kr (of_decide_eq_true hg6) rfl<|uA 2 99 0<|eA 3 99 0<|jB mo4 ((wI (y1 + 1)),(wI (bO y2 ||| bO (wI (1 * 2 ^ min (((IntKind.wrap .u64 y1) : Int)).toNat (IntKind.bits .i64)))).toNat)) H [6,5,0,1] []
 rintro y3 H
 have H : (zAj n y3) = some r := H
 unfold zAj at H
 exact gA 2 16 0<|te (fJ [(false,[cI y3])] H)
def zAX (n : Nat) (x0 : Int) (x1 : Int) : Option (Bool) :=
  ((zL n x1 0 7).bind fun r1 => (bif r1 then (bif (decide ((0 : Int) ≤ (IntKind.wrap .u64 x1))) then (some ((IntKind.wrap .i64 (BitVec.ofInt (IntKind.bits .i64) (Int.fdiv x0 (2 ^ min (((IntKind.wrap .u64 x1) : Int)).toNat (IntKind.bits .i64))) &&& BitVec.ofInt (IntKind.bits .i64) 1).toNat) == 1)) else none) else (some false)))
theorem zKX (n : Nat) (x0 : Int) (x1 : Int) (r : Bool) (H : zAX n x0 x1 = some r) : zG Try.prog 200 [.val false [.lit (.int .i64 x0)],.val false [.lit (.int .i64 x1)]] [.val false [.lit (.bool r)]] [] := by
 refine cW Try.func200 (fun g d => sl [g 0,g 1] .ret) [.tmp 4] fun cx=>?_
 unfold zAX at H
 refine gA 1 3 0<|rA 1<|bE H fun r1 er1 H=> vA [.rd,.rd,.rd] (zM n x1 0 7 r1 er1)<|lA 1 ?_
 obtain ⟨h1,H⟩ | ⟨h1,H⟩ := bC H
 ·exact qL 131 0 [7] h1<|uA 8 16 0<|te (fF H)
 exact qL 131 0 [7] h1<|lA 3<|gE H fun hg2 H=> LAt.binC tOk (op := .shr) (t := 3) (ty := 103) (ty' := 3) (x := (.tmp 8)) (y := (.tmp 10)) (d := 11) (g := (some (2,true))) (.int .i64 x0) (.int .u64 (IntKind.wrap .u64 x1)) (.int .i64 (Int.fdiv x0 (2 ^ min (((IntKind.wrap .u64 x1) : Int)).toNat (IntKind.bits .i64)))) _ kr kr kr kr kr (φ := (0 : Int) ≤ (IntKind.wrap .u64 x1)) kr (of_decide_eq_true hg2) rfl<|uA 4 16 0<|te (fJ [(false,[cB ((wI (bO (Int.fdiv x0 (2 ^ min (((IntKind.wrap .u64 x1) : Int)).toNat (IntKind.bits .i64))) &&& bO 1).toNat) == 1)])] H)
def Q8 (n : Nat) (y3 : (List zC)) : Option ((List zC)) :=
  (some y3)
def qg (n : Nat) : Nat → (List zC) → Int → Int → (List zC) → Option (((List zC)) ⊕ ((List zC)))
  | 0,_,_,_,_ => none
  | mo4 + 1,x0,x1,y1,y2 => (bif (decide (y1 < (x0.length : Int))) then ((idx x0 y1).bind fun v5 => (bif v5.Sc then ((idx x0 y1).bind fun v9 => (bif (decide (y2.length + [v9].length ≤ 268435456)) then (qg n mo4 x0 x1 (IntKind.wrap .i64 (y1 + 1)) (y2 ++ [v9])) else none)) else ((idx x0 y1).bind fun v6 => (bif (v6.Port != x1) then ((idx x0 y1).bind fun v7 => (bif (decide (y2.length + [v7].length ≤ 268435456)) then (qg n mo4 x0 x1 (IntKind.wrap .i64 (y1 + 1)) (y2 ++ [v7])) else none)) else (qg n mo4 x0 x1 (IntKind.wrap .i64 (y1 + 1)) y2))))) else (some (Sum.inl y2)))
def Yp (n : Nat) (x0 : (List zC)) (x1 : Int) : Option ((List zC)) :=
  ((qg n n x0 x1 0 ([] : List zC)).bind fun o => match o with | .inl y3 => (Q8 n y3) | .inr r => some r)
theorem zHr (n : Nat) (x0 : (List zC)) (x1 : Int) (r : (List zC)) (H : Yp n x0 x1 = some r) : zG Try.prog 201 [.val false [.sl false 5 (CV.frzEs (x0.map zC.row))],.val false [.lit (.int .i64 x1)]] [.val false [.sl true 5 (r.map zC.row)]] [] := by
 refine cW Try.func201 (fun g d => sl [g 0,g 1,sl [g 2] (.block 0 (.loop (sl [sl [g 3] (cn 11 .skip (.exit 0)),.block 1 (sl [g 5] (cn 27 (g 6) .skip))] (g 4)))),g 7] .ret) [.tmp 4] fun cx=>?_
 unfold Yp at H
 refine gA 1 3 0<|rA 1<|LAt.moveU (T := lk tab) (ty := 36) (x := (.tmp 7)) (d := 5) (g := none) false [cL 5 ([] : List zC) zC.row] kr kr kr kr kr<|dA 35 0<|tS<|gA 1 99 0 ?_
 obtain ⟨o4,eo4,Ho4⟩ := bs H
 clear H
 refine Tr.mid (ι := (List zC)) (fun v => ⟨36,0,[sC 5 (cL 5 v zC.row)],[]⟩) (fun v => Q8 n v = some r) ?_ ?_
 ·refine tB<|Tr.loop (ι := Nat × (Int × (List zC))) (fun v => ⟨36,0,[sI 6 v.2.1,sC 5 (cL 5 v.2.2 zC.row),sC 0 (cF 5 x0 zC.row),sI 1 x1],[]⟩) (fun v => qg n v.1 x0 x1 v.2.1 v.2.2 = some o4) (fun v => v.1) (n,(0,([] : List zC))) eo4 (St.sub_of [6,5,0,1] [] kr) ?_
  rintro ⟨_ | mo4,y1,y2⟩ H
  ·exact nN H
  have H : qg n (mo4+1) x0 x1 y1 y2 = some o4 := H
  rw [qg] at H
  refine tS<|rA 2<|kF x0 zC.row<|uA 1 2147 0 ?_
  obtain ⟨h1,H⟩ | ⟨h1,H⟩ := bC H
  ·refine nA h1<|Tr.exit<|aJ ?_
   cases H
   exact jA y2 Ho4 [5] []
  refine tA h1<|tK<|tS<|tB<|tS<|Tr.at<|lA 2<|bE H fun v5 ev5 H=> iA zC.row ev5<|lA 3 ?_
  obtain ⟨h2,H⟩ | ⟨h2,H⟩ := bC H
  ·refine qL 524387 0 [19] h2<|lA 2<|bE H fun v6 ev6 H=> iA zC.row ev6<|uA 5 134217827 0 ?_
   obtain ⟨h3,H⟩ | ⟨h3,H⟩ := bC H
   ·exact nA h3<|tK<|eA 3 99 0<|jB mo4 ((wI (y1 + 1)),y2) H [6,5,0,1] []
   exact tA h3<|Tr.at<|lA 3<|bE H fun v7 ev7 H=> iA zC.row ev7<|lA 2<|gE H fun hg8 H=> LAt.appMU tOk (t := 36) (ty := 36) (e := 60) (x := (.tmp 28)) (y := (.tmp 33)) (d := 34) (g := none) (tI 60) zC.row y2 [v7] kr kr kr kr kr kr kr kr kr kr hg8<|LAt.moveU (T := lk tab) (ty := 36) (x := (.tmp 34)) (d := 5) (g := none) false [cL 5 (y2 ++ [v7]) zC.row] kr kr kr kr kr<|dA 99 0<|eA 3 99 0<|jB mo4 ((wI (y1 + 1)),(y2 ++ [v7])) H [6,5,0,1] []
  exact qL 524387 0 [19] h2<|uA 8 134217827 0<|tB_<|Tr.at<|lA 3<|bE H fun v9 ev9 H=> iA zC.row ev9<|lA 2<|gE H fun hg10 H=> LAt.appMU tOk (t := 36) (ty := 36) (e := 60) (x := (.tmp 28)) (y := (.tmp 33)) (d := 34) (g := none) (tI 60) zC.row y2 [v9] kr kr kr kr kr kr kr kr kr kr hg10<|LAt.moveU (T := lk tab) (ty := 36) (x := (.tmp 34)) (d := 5) (g := none) false [cL 5 (y2 ++ [v9]) zC.row] kr kr kr kr kr<|dA 99 0<|eA 3 99 0<|jB mo4 ((wI (y1 + 1)),(y2 ++ [v9])) H [6,5,0,1] []
 rintro y3 H
 have H : (Q8 n y3) = some r := H
 unfold Q8 at H
 exact gA 2 48 0<|te (fJ [(false,[cL 5 y3 zC.row])] H)
def Y2 (n : Nat) (r1 : Int) (x0 : zA) (y5 : (List zC)) : Option (zA) :=
  (some (⟨x0.Id,x0.Name,x0.Ps,y5,x0.V,x0.Tk,x0.Pa,x0.Wo,x0.Dr,r1⟩ : zA))
def qJ (n : Nat) : Nat → Int → zA → Int → (List zC) → Option (((List zC)) ⊕ (zA))
  | 0,_,_,_,_ => none
  | mo6 + 1,r2,x0,y3,y4 => (bif (decide (y3 < (x0.Ps.length : Int))) then ((zAX n r2 y3).bind fun r7 => (bif (!r7) then ((Yp n y4 y3).bind fun r8 => (qJ n mo6 r2 x0 (IntKind.wrap .i64 (y3 + 1)) r8)) else (qJ n mo6 r2 x0 (IntKind.wrap .i64 (y3 + 1)) y4))) else (some (Sum.inl y4)))
def qm (n : Nat) (x0 : zA) : Option (zA) :=
  ((YS n x0.Ve).bind fun r1 => ((Zf n x0.Id x0.Ps).bind fun r2 => ((qJ n n r2 x0 0 x0.F).bind fun o => match o with | .inl y5 => (Y2 n r1 x0 y5) | .inr r => some r)))
theorem zBe (n : Nat) (x0 : zA) (r : zA) (H : qm n x0 = some r) : zG Try.prog 190 [.own true (zA.row x0)] [.val true (zA.row r)] [] := by
 refine cW Try.func190 (fun g d => sl [g 0,g 1,g 2,sl [g 3] (.block 0 (.loop (sl [sl [g 4] (cn 18 .skip (.exit 0)),.block 1 (sl [g 6] (cn 24 (g 7) .skip))] (g 5)))),g 8] .ret) [.cell 2 42] fun cx=>?_
 unfold qm at H
 refine gA 2 6 6<|rA 2<|bE H fun r1 er1 H=> vA [.rd] (zGB n x0.Ve r1 er1)<|uA 2 6 6<|rA 4<|bE H fun r2 er2 H=> vB [.rd,.rd] [.box 1] (zKV n x0.Id x0.Ps r2 er2) (.inr (qF (zE zI z5) qe))<|uA 1 14 6<|tS<|gA 1 30 6 ?_
 obtain ⟨o6,eo6,Ho6⟩ := bs H
 clear H
 refine Tr.mid (ι := (List zC)) (fun v => ⟨31,0,[sA 2 2 11 0,sA 1 1 11 0],[(1,[cI x0.Id,cS x0.Name,cL 8 x0.Ps Pt.row,cL 5 v zC.row,cL 3 x0.V.Rows zT.row,cL 1 x0.V.Pv intRow,cI x0.Tk,cI x0.Pa,cI x0.Wo,cI x0.Dr,cI r1]),(2,[cI 0,cS (⟨#[]⟩ : ByteArray),cL 8 ([] : List Pt) Pt.row,cL 5 ([] : List zC) zC.row,cL 3 ([] : List zT) zT.row,cL 1 ([] : List Int) intRow,cI 0,cI 0,cI 0,cI 0,cI 0])]⟩) (fun v => Y2 n r1 x0 v = some r) ?_ ?_
 ·refine tB<|Tr.loop (ι := Nat × (Int × (List zC))) (fun v => ⟨31,0,[sI 4 v.2.1,sI 3 r2,sA 2 2 11 0,sA 1 1 11 0],[(1,[cI x0.Id,cS x0.Name,cL 8 x0.Ps Pt.row,cL 5 v.2.2 zC.row,cL 3 x0.V.Rows zT.row,cL 1 x0.V.Pv intRow,cI x0.Tk,cI x0.Pa,cI x0.Wo,cI x0.Dr,cI r1]),(2,[cI 0,cS (⟨#[]⟩ : ByteArray),cL 8 ([] : List Pt) Pt.row,cL 5 ([] : List zC) zC.row,cL 3 ([] : List zT) zT.row,cL 1 ([] : List Int) intRow,cI 0,cI 0,cI 0,cI 0,cI 0])]⟩) (fun v => qJ n v.1 r2 x0 v.2.1 v.2.2 = some o6) (fun v => v.1) (n,(0,x0.F)) eo6 (St.sub_of [4,3,2,1] [1,2] kr) ?_
  rintro ⟨_ | mo6,y3,y4⟩ H
  ·exact nN H
  have H : qJ n (mo6+1) r2 x0 y3 y4 = some o6 := H
  rw [qJ] at H
  refine tS<|rA 3<|kO x0.Ps Pt.row<|uA 1 262174 6 ?_
  obtain ⟨h1,H⟩ | ⟨h1,H⟩ := bC H
  ·refine nA h1<|Tr.exit<|aJ ?_
   cases H
   exact jA y4 Ho6 [2,1] [1,2]
  refine tA h1<|tK<|tS<|tB<|rA 2<|bE H fun r7 er7 H=> vA [.rd,.rd] (zKX n r2 y3 r7 er7)<|uA 1 16777246 6 ?_
  obtain ⟨h2,H⟩ | ⟨h2,H⟩ := bC H
  ·exact nA h2<|tK<|eA 3 30 6<|jB mo6 ((wI (y3 + 1)),y4) H [4,3,2,1] [1,2]
  exact tA h2<|Tr.at<|lA 3<|bE H fun r8 er8 H=> vB [.rd,.rd] [.box 1] (zHr n y4 y3 r8 er8) (.inr (qF (zE (JC (Q5 zC.row_mine _)) z5) qe))<|uA 2 30 6<|eA 3 30 6<|jB mo6 ((wI (y3 + 1)),r8) H [4,3,2,1] [1,2]
 rintro y5 H
 have H : (Y2 n r1 x0 y5) = some r := H
 unfold Y2 at H
 exact gA 2 4 4<|te (fJ [(true,[cI x0.Id,cS x0.Name,cL 8 x0.Ps Pt.row,cL 5 y5 zC.row,cL 3 x0.V.Rows zT.row,cL 1 x0.V.Pv intRow,cI x0.Tk,cI x0.Pa,cI x0.Wo,cI x0.Dr,cI r1])] H)
end Go.Proofs.Ytajadnlejdpceaa.Tw
